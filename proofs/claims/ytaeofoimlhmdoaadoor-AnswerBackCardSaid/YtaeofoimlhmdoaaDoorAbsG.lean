/-
  One operation over the abstract heap: slices, structs that are built, makes, assertions.
-/
import Derived.Test.YtaeofoimlhmdoaaDoorAbsF
set_option linter.unusedSimpArgs false
set_option linter.unusedVariables false
namespace Go.Abs
open Go.RowKit

section
variable {P : Program} {J : Inj} {F : Nat → Nat → Prop} {H : AH} {w : World} {A : List Value} {a : Act}

/-- A bound of a slice expression: given, or not. -/
def aBound (d : Nat) : Option Value → Option Nat
  | none => some d
  | some (.int _ n) => if 0 ≤ n then some n.toNat else none
  | _ => none

def aSlice (P : Program) (H : AH) (t : TypeId) (x : Value) (lo hi mx : Option Value) : Option AStep :=
  match x with
  | .string s => if lo.all closed && hi.all closed && mx.all closed then aPure P H (Instr.sliceAt t (.string s) lo hi mx) else none
  | .slice none 0 0 =>
    match P.underlying t, lo, hi, mx with
    | some (.slice elem), none, none, none => if (P.info? elem).isSome then some (.val (.slice none 0 0) H) else none
    | _, _, _, _ => none
  | .slice (some ⟨b, o, none⟩) len e =>
    match P.underlying t with
    | some (.slice elem) =>
      match P.info? elem, aBound 0 lo, aBound len hi, aBound len mx with
      | some inf, some l, some h, some m => if l ≤ h ∧ h ≤ m ∧ m ≤ len ∧ inf.size = e ∧ (mx.isSome = true → hi.isSome = true) then some (.val (.slice (some ⟨b, o + l * e, none⟩) (h - l) e) H) else none
      | _, _, _, _ => none
    | _ => none
  | .pointer (some ⟨b, o, none⟩) =>
    match P.underlying t, mx with
    | some (.array n elem), none =>
      match P.info? elem, aBound 0 lo, aBound n hi, H b with
      | some inf, some l, some h, some (.cells _ cs) => if l ≤ h ∧ h ≤ n ∧ o + n * inf.size ≤ cs.length then some (.val (.slice (some ⟨b, o + l * inf.size, none⟩) (h - l) inf.size) H) else none
      | _, _, _, _ => none
    | _, _ => none
  | _ => none

theorem run_sliceBound {k : IntKind} {n : Int} {y : Nat} {c : BoundsCode} (h0 : 0 ≤ n) (h : n.toNat ≤ y) (w : World) : (Instr.sliceBound (.int k n) y c).run P w = .ok n.toNat w := by
  have : 0 ≤ n ∧ n ≤ (y : Int) := ⟨h0, by omega⟩
  simp [Instr.sliceBound, asIntOf, this]

theorem aBound_cases {d m : Nat} {v : Option Value} (h : aBound d v = some m) : (v = none ∧ m = d) ∨ ∃ k n, v = some (.int k n) ∧ 0 ≤ n ∧ m = n.toNat := by
  unfold aBound at h
  split at h
  · cases h; exact .inl ⟨rfl, rfl⟩
  · split at h
    · rename_i k n hn; cases h; exact .inr ⟨k, n, rfl, hn, rfl⟩
    · cases h
  · cases h

theorem run_sliceBounds {isSlice : Bool} {len cap l h m : Nat} {lo hi mx : Option Value} (hl : aBound 0 lo = some l) (hh : aBound len hi = some h) (hm : aBound len mx = some m)
    (h1 : l ≤ h) (h2 : h ≤ m) (h3 : m ≤ len) (h4 : len ≤ cap) (h5 : mx.isSome = true → hi.isSome = true) (w : World) :
    (Instr.sliceBounds isSlice len cap lo hi mx).run P w = .ok (l, h, if mx.isSome then m else cap) w := by
  unfold Instr.sliceBounds
  rcases aBound_cases hm with ⟨rfl, rfl⟩ | ⟨km, nm, rfl, hm0, rfl⟩
  · rcases aBound_cases hh with ⟨rfl, rfl⟩ | ⟨kh, nh, rfl, hh0, rfl⟩
    · rcases aBound_cases hl with ⟨rfl, rfl⟩ | ⟨kl, nl, rfl, hl0, rfl⟩
      · simp
      · simp [run_sliceBound hl0 h1]
    · rcases aBound_cases hl with ⟨rfl, rfl⟩ | ⟨kl, nl, rfl, hl0, rfl⟩
      · simp [run_sliceBound hh0 (show nh.toNat ≤ cap by omega)]
      · simp [run_sliceBound hh0 (show nh.toNat ≤ cap by omega), run_sliceBound hl0 h1]
  · rcases aBound_cases hh with ⟨rfl, rfl⟩ | ⟨kh, nh, rfl, hh0, rfl⟩
    · simp at h5
    · rcases aBound_cases hl with ⟨rfl, rfl⟩ | ⟨kl, nl, rfl, hl0, rfl⟩
      · simp [run_sliceBound hm0 (show nm.toNat ≤ cap by omega), run_sliceBound hh0 h2]
      · simp [run_sliceBound hm0 (show nm.toNat ≤ cap by omega), run_sliceBound hh0 h2, run_sliceBound hl0 h1]

theorem bound_rel {d m : Nat} {x : Option Operand} (hA : FRel J w A a.tmps) (h : aBound d (x.map (aev A)) = some m) : x.map a.eval = x.map (aev A) := by
  cases x with
  | none => rfl
  | some x =>
    rcases aBound_cases h with ⟨e, _⟩ | ⟨k, n, e, _⟩
    · cases e
    · simp at e
      have := (hA.ev x).known (by rw [e]; simp [unk])
      rw [e] at this
      simp [e, this.int_inv]

theorem closed_rel {x : Option Operand} (hA : FRel J w A a.tmps) (h : (x.map (aev A)).all closed = true) : x.map a.eval = x.map (aev A) := by
  cases x with
  | none => rfl
  | some x => simp at h; simp [ev_closed hA h]

theorem aSlice_ok {t : TypeId} {x x' : Value} {lo hi mx : Option Operand} {st : AStep} (h : aSlice P H t x (lo.map (aev A)) (hi.map (aev A)) (mx.map (aev A)) = some st) (S : Sim J F H w)
    (hA : FRel J w A a.tmps) (hx : ORel J w x x') :
    StepOk P J F H w ((do pure (Next.value (← Instr.sliceAt t x' (lo.map a.eval) (hi.map a.eval) (mx.map a.eval))) : Sem Next).run P w) st := by
  unfold aSlice at h
  split at h
  · split at h
    · rename_i s hc
      simp only [Bool.and_eq_true] at hc
      rw [(hx.known (by simp [unk])).string_inv, closed_rel hA hc.1.1, closed_rel hA hc.1.2, closed_rel hA hc.2]
      exact aPure_ok h S
    · cases h
  · split at h
    · rename_i elem ht e1 e2 e3
      split at h
      · rename_i hsome
        cases h
        obtain ⟨inf, hinf⟩ := Option.isSome_iff_exists.1 hsome
        have n1 : lo.map a.eval = none := by cases lo <;> simp at e1 ⊢
        have n2 : hi.map a.eval = none := by cases hi <;> simp at e2 ⊢
        have n3 : mx.map a.eval = none := by cases mx <;> simp at e3 ⊢
        have hx' := hx.known (by simp [unk])
        have ex : x' = .slice none 0 0 := by cases hx'; rfl
        rw [n1, n2, n3, ex]
        refine StepOk.value S (v' := .slice none 0 0) ?_ (.inr .nilSlice)
        simp [Instr.sliceAt, Instr.slice, Instr.sliceBounds, run_underlying ht, run_sizeOf hinf]
      · cases h
    · cases h
  · rename_i b o len e
    split at h
    · rename_i elem ht
      split at h
      · rename_i inf l hh m hinf hl hhi hm
        split at h
        · rename_i hc
          obtain ⟨c1, c2, c3, rfl, c5⟩ := hc
          cases h
          have hx' := hx.known (by simp [unk])
          have b1 := bound_rel hA hl
          have b2 := bound_rel hA hhi
          have b3 := bound_rel hA hm
          rw [b1, b2, b3]
          cases hx' with
          | slice hj hn hrow =>
            rename_i r off c
            have hb := run_sliceBounds (P := P) (isSlice := true) (len := len) (cap := c) hl hhi hm c1 c2 c3 hn c5 w
            have hrun : ∀ M, M = (if (mx.map (aev A)).isSome then m else c) → (Instr.sliceAt t (.slice (some ⟨r, off + o, none⟩) len c) (lo.map (aev A)) (hi.map (aev A)) (mx.map (aev A))).run P w =
                .ok (.slice (if M = l then some ⟨r, off + o, none⟩ else some ⟨r, off + o + l * inf.size, none⟩) (hh - l) (M - l)) w := by
              intro M hM
              simp only [Instr.sliceAt, Instr.slice, Sem.run_bind, run_underlying ht, Result.andThen_ok, hb, run_sizeOf hinf, Sem.run_pure, ← hM]
              split <;> simp [Addr.add_lit]
            have hMb : m ≤ (if (mx.map (aev A)).isSome then m else c) ∧ (if (mx.map (aev A)).isSome then m else c) ≤ c := by split <;> omega
            generalize hM : (if (mx.map (aev A)).isSome then m else c) = M at hMb hrun
            have hrun := hrun M rfl
            refine StepOk.value S (v' := .slice (if M = l then some ⟨r, off + o, none⟩ else some ⟨r, off + o + l * inf.size, none⟩) (hh - l) (M - l)) (by rw [Sem.run_bind, hrun]; rfl) (.inr ?_)
            by_cases e : M = l
            · rw [if_pos e]
              have : hh - l = 0 := by omega
              rw [this, show M - l = 0 by omega]
              exact .slice0 hj
            · rw [if_neg e]
              have := VRel.slice (w := w) (i := o + l * inf.size) (n := hh - l) (e := inf.size) (c := M - l) hj (by omega) (hrow.mono (by
                have h1 : l * inf.size + (M - l) * inf.size = M * inf.size := by rw [← Nat.add_mul]; congr 1; omega
                have h2 : M * inf.size ≤ c * inf.size := Nat.mul_le_mul_right _ hMb.2
                omega))
              simpa [Nat.add_assoc] using this
          | slice0 hj =>
            rename_i r off j
            have hb := run_sliceBounds (P := P) (isSlice := true) (len := 0) (cap := 0) hl hhi hm c1 c2 c3 (Nat.le_refl 0) c5 w
            have l0 : l = 0 := by omega
            have h0 : hh = 0 := by omega
            have m0 : m = 0 := by omega
            subst l0; subst h0; subst m0
            refine StepOk.value S (v' := .slice (some ⟨r, j, none⟩) 0 0) ?_ (.inr ?_)
            · simp only [Instr.sliceAt, Instr.slice, Sem.run_bind, run_underlying ht, Result.andThen_ok, hb, run_sizeOf hinf, Sem.run_pure]
              split <;> simp
            · exact .slice0 hj
        · cases h
      · cases h
    · cases h
  · rename_i b o
    split at h
    · rename_i n elem ht emx
      split at h
      · rename_i inf l hh ro cs hinf hl hhi hH
        split at h
        · rename_i hc
          obtain ⟨c1, c2, c3⟩ := hc
          cases h
          obtain ⟨r, off, hj, rfl⟩ := (hx.known (by simp [unk])).ptr_inv
          have b1 := bound_rel hA hl
          have b2 := bound_rel hA hhi
          have b3 : mx.map a.eval = mx.map (aev A) := by cases mx <;> simp at emx ⊢
          rw [b1, b2, b3, emx]
          have hb := run_sliceBounds (P := P) (isSlice := false) (len := n) (cap := n) (mx := none) hl hhi (show aBound n none = some n from rfl) c1 (show hh ≤ n from c2) (Nat.le_refl n) (Nat.le_refl n) (by simp) w
          simp only [Option.isSome_none, Bool.false_eq_true, if_false] at hb
          obtain ⟨r', off', cc, T, fr, e1, e2, e3, e4, e5, e6⟩ := S.obj b _ hH
          rw [hj] at e1; cases e1
          refine StepOk.value S (v' := .slice (if n = l then some ⟨r, off + o, none⟩ else some ⟨r, off + o + l * inf.size, none⟩) (hh - l) (n - l)) ?_ (.inr ?_)
          · simp only [Instr.sliceAt, Instr.sureAddr, Sem.run_bind, run_underlying ht, Result.andThen_ok, hb, run_sizeOf hinf, Sem.run_pure]
            split <;> simp [Addr.add_lit]
          · by_cases e : n = l
            · rw [if_pos e, show hh - l = 0 by omega, show n - l = 0 by omega]
              exact .slice0 hj
            · rw [if_neg e]
              have := VRel.slice (w := w) (i := o + l * inf.size) (n := hh - l) (e := inf.size) (c := n - l) hj (by omega) ⟨cc, T, fr, e3, by
                have h1 : l * inf.size + (n - l) * inf.size = n * inf.size := by rw [← Nat.add_mul]; congr 1; omega
                omega⟩
              simpa [Nat.add_assoc] using this
        · cases h
      · cases h
    · cases h
  · cases h

/-- Parts fill a row. -/
theorem fill_rel {place : Nat → Option (Nat × Nat)} : ∀ (ps ps' : List (Nat × Value)) (cs cs' : Array Value) {out : Array Value}, Instr.fill place cs ps = some out →
    VRels J w cs.toList cs'.toList → ps.map (·.1) = ps'.map (·.1) → VRels J w (ps.map (·.2)) (ps'.map (·.2)) → ∃ out', Instr.fill place cs' ps' = some out' ∧ VRels J w out.toList out'.toList := by
  intro ps
  induction ps with
  | nil =>
    intro ps' cs cs' out h hc hi hv
    cases ps' with
    | nil => simp [Instr.fill] at h ⊢; subst h; exact hc
    | cons p ps' => simp at hi
  | cons p ps ih =>
    intro ps' cs cs' out h hc hi hv
    cases ps' with
    | nil => simp at hi
    | cons p' ps' =>
      obtain ⟨i, v⟩ := p
      obtain ⟨i', v'⟩ := p'
      simp at hi
      obtain ⟨rfl, hi⟩ := hi
      simp at hv
      obtain ⟨v'', t', e, hv1, hv2⟩ := hv.cons_inv
      cases e
      simp only [Instr.fill] at h ⊢
      have hsz := hc.1
      simp at hsz
      have hcell := hv1.cells
      have hcs : v.cells.size = v'.cells.size := by simpa using hcell.1
      cases hp : place i with
      | none => rw [hp] at h; cases h
      | some q =>
        obtain ⟨off, size⟩ := q
        simp only [hp] at h ⊢
        split at h
        · cases h
        · rename_i hcond
          rw [if_neg (by rw [← hcs, ← hsz]; exact hcond)]
          refine ih ps' _ _ h ?_ hi hv2
          have key : ∀ (l l' : List Value) (k : Nat) (c c' : Array Value), VRels J w l l' → VRels J w c.toList c'.toList →
              VRels J w ((l.zipIdx k).foldl (fun cs (c, j) => cs.setIfInBounds (off + j) c) c).toList ((l'.zipIdx k).foldl (fun cs (c, j) => cs.setIfInBounds (off + j) c) c').toList := by
            intro l
            induction l with
            | nil => intro l' k c c' hl hcc; rw [hl.nil_inv]; exact hcc
            | cons u l ihl =>
              intro l' k c c' hl hcc
              obtain ⟨u', t', rfl, hu, ht⟩ := hl.cons_inv
              simp only [List.zipIdx_cons, List.foldl_cons]
              refine ihl t' (k + 1) _ _ ht ?_
              simpa [Array.toList_setIfInBounds] using hcc.set (off + k) hu
          have := key v.cells.toList v'.cells.toList 0 cs cs' hcell hc
          have e : ∀ (x c : Array Value), x.zipIdx.foldl (fun cs (c, j) => cs.setIfInBounds (off + j) c) c = (x.toList.zipIdx 0).foldl (fun cs (c, j) => cs.setIfInBounds (off + j) c) c := by
            intro x c; rw [← Array.foldl_toList]; simp
          rw [e, e]
          exact this

theorem parts_rel {ps : Array (Nat × Operand)} (hA : FRel J w A a.tmps) (h : (ps.toList.map fun p => aev A p.2).all known = true) :
    (ps.toList.map fun p => (p.1, aev A p.2)).map (·.1) = (ps.map fun (i, x) => (i, a.eval x)).toList.map (·.1) ∧
    VRels J w ((ps.toList.map fun p => (p.1, aev A p.2)).map (·.2)) ((ps.map fun (i, x) => (i, a.eval x)).toList.map (·.2)) := by
  constructor
  · simp
  · have := rel_map (xs := ps.toList.map (·.2)) hA (by simpa using h)
    simpa [Function.comp_def] using this

def aBuildCells (P : Program) (t : TypeId) (ps : List (Nat × Value)) : Option (Array Value) :=
  match P.underlying t, (P.info? t).bind (·.zero) with
  | some (.struct fs), some z =>
    match prun P (fs.mapM fun f => do pure (f.offset, ← sizeOf f.type)) with
    | some places => if z.cells.toList.all closed then Instr.fill (places[·]?) z.cells ps else none
    | none => none
  | some (.array _ elem), some z =>
    match P.info? elem with
    | some inf => if z.cells.toList.all closed then Instr.fill (fun i => some (i * inf.size, inf.size)) z.cells ps else none
    | none => none
  | _, _ => none

def aBuild (P : Program) (H : AH) (t : TypeId) (ps : List (Nat × Value)) : Option AStep :=
  if ps.all fun p => known p.2 then (aBuildCells P t ps).map fun c => .val (.agg c) H else none

theorem aBuild_ok {t : TypeId} {ps : Array (Nat × Operand)} {st : AStep} (h : aBuild P H t (ps.toList.map fun p => (p.1, aev A p.2)) = some st) (S : Sim J F H w) (hA : FRel J w A a.tmps) :
    StepOk P J F H w ((do pure (Next.value (← Instr.build t (ps.map fun (i, x) => (i, a.eval x)))) : Sem Next).run P w) st := by
  unfold aBuild at h
  split at h
  · rename_i hk
    obtain ⟨hp1, hp2⟩ := parts_rel (ps := ps) hA (by simpa [List.all_map] using hk)
    simp only [Option.map_eq_some_iff] at h
    obtain ⟨c, hc, rfl⟩ := h
    unfold aBuildCells at hc
    have zself : ∀ {z : Value}, z.cells.toList.all closed = true → VRels J w z.cells.toList z.cells.toList := fun hz => VRels.self fun v hv => closed_self ((List.all_eq_true.1 hz) v hv)
    have zrun : ∀ {z : Value}, (P.info? t).bind (·.zero) = some z → (zeroValue t).run P w = .ok z w := by
      intro z hz
      cases hi : P.info? t with
      | none => simp [hi] at hz
      | some inf => exact run_zeroValue' hi (by simpa [hi] using hz) w
    split at hc
    · rename_i fs z ht hz
      split at hc
      · rename_i places hpl
        split at hc
        · rename_i hzc
          obtain ⟨out', e, hr⟩ := fill_rel _ _ _ _ hc (zself hzc) hp1 hp2
          refine StepOk.value S (v' := .agg out') ?_ (.inr (by simpa using VRel.aggs hr))
          have hrp := prun_run _ hpl w
          simp only [Instr.build, Sem.run_bind, zrun hz, Result.andThen_ok, run_underlying ht, hrp, e, Sem.run_pure]
        · cases hc
      · cases hc
    · rename_i n elem z ht hz
      split at hc
      · rename_i inf hinf
        split at hc
        · rename_i hzc
          obtain ⟨out', e, hr⟩ := fill_rel _ _ _ _ hc (zself hzc) hp1 hp2
          refine StepOk.value S (v' := .agg out') ?_ (.inr (by simpa using VRel.aggs hr))
          simp only [Instr.build, Sem.run_bind, zrun hz, Result.andThen_ok, run_underlying ht, run_sizeOf hinf, e, Sem.run_pure]
        · cases hc
      · cases hc
    · cases hc
  · cases h

def aBuildSlice (P : Program) (H : AH) (t : TypeId) (len : Nat) (ps : List (Nat × Value)) : Option AStep :=
  match P.underlying t with
  | some (.slice elem) =>
    match P.info? elem with
    | some inf =>
      match inf.zero with
      | some z =>
        if (ps.all fun p => known p.2) = true ∧ z.cells.toList.all closed = true ∧ 0 < len * inf.size ∧ len * inf.size ≤ 16777216 ∧ z.cells.size ≠ 0 then
          match Instr.fill (fun i => some (i * inf.size, inf.size)) ((Array.range (len * inf.size)).map (z.cells[· % z.cells.size]!)) ps with
          | some c => if c.size = len * inf.size then some (.new H (.cells false c.toList) fun b => .slice (some ⟨b, 0, none⟩) len inf.size) else none
          | none => none
        else if len = 0 ∧ ps = [] then some (.new H (.cells false []) fun b => .slice (some ⟨b, 0, none⟩) 0 inf.size) else none
      | none => none
    | none => none
  | _ => none

theorem aBuildSlice_ok {t : TypeId} {len : Nat} {ps : Array (Nat × Operand)} {st : AStep} (h : aBuildSlice P H t len (ps.toList.map fun p => (p.1, aev A p.2)) = some st) (S : Sim J F H w) (hA : FRel J w A a.tmps) :
    StepOk P J F H w ((do pure (Next.value (← Instr.buildSlice t len (ps.map fun (i, x) => (i, a.eval x)))) : Sem Next).run P w) st := by
  unfold aBuildSlice at h
  split at h
  · rename_i elem ht
    split at h
    · rename_i inf hinf
      split at h
      · rename_i z hz
        split at h
        · rename_i hc
          obtain ⟨hk, hzc, hpos, hmax, hzs⟩ := hc
          obtain ⟨hp1, hp2⟩ := parts_rel (ps := ps) hA (by simpa [List.all_map] using hk)
          split at h
          · rename_i c hfill
            split at h
            · rename_i hsz
              cases h
              have hz0 : VRels J w ((Array.range (len * inf.size)).map (z.cells[· % z.cells.size]!)).toList ((Array.range (len * inf.size)).map (z.cells[· % z.cells.size]!)).toList := by
                refine VRels.self fun v hv => closed_self ((List.all_eq_true.1 hzc) v ?_)
                simp at hv
                obtain ⟨k, _, rfl⟩ := hv
                have hlt : k % z.cells.size < z.cells.size := Nat.mod_lt _ (by omega)
                simp [hlt]
              obtain ⟨out', e, hr⟩ := fill_rel _ _ _ _ hfill hz0 hp1 hp2
              have hos : out'.size = len * inf.size := by rw [← hsz]; have := hr.1; simpa using this.symm
              refine newRow_ok S hr elem [] (v' := .slice (some ⟨w.heap.size, 0, none⟩) len len) ?_ fun b => ?_
              · have n0 : ¬ len * inf.size = 0 := by omega
                have n1 : ¬ len * inf.size > 2 ^ 24 := by omega
                simp only [Instr.buildSlice, Sem.run_bind, run_underlying ht, Result.andThen_ok, run_sizeOf hinf, if_neg n1, if_neg n0, Sem.run_ite, run_zeroValue' hinf hz, Sem.run_pure, e]
                simp [newRow]
              · refine VRel.slice (r := w.heap.size) (o := 0) (i := 0) (Inj.put_same J b _) (Nat.le_refl _) ⟨_, elem, (0, 0), heap_alloc_same w _, ?_⟩
                simp [hos]
            · cases h
          · cases h
        · split at h
          · rename_i hc
            obtain ⟨rfl, hps⟩ := hc
            cases h
            have hps' : ps = #[] := by
              have : ps.toList = [] := by simpa using hps
              simpa using this
            subst hps'
            refine newRow_ok S (cs := []) (cs' := []) .nil elem [] (v' := .slice (some ⟨w.heap.size, 0, none⟩) 0 0) ?_ fun b => ?_
            · simp [Instr.buildSlice, run_underlying ht, run_sizeOf hinf, Instr.fill, newRow]
              rw [show Array.range 0 = #[] from Array.eq_empty_of_size_eq_zero (by simp)]
              simp
            · exact .slice0 (r := w.heap.size) (o := 0) (Inj.put_same J b _)
          · cases h
      · cases h
    · cases h
  · cases h

end
end Go.Abs
