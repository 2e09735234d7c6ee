/-
  What a function's text comes to over the abstract heap, and calls by it.
-/
import Derived.Test.YtaeofoimlhmdoaaDoorAbsM
set_option linter.unusedSimpArgs false
set_option linter.unusedVariables false
namespace Go.Abs
open Go.RowKit

/-- Is each region that draws of one of the two kinds? T: where the tail begins. -/
def okDraw (T : Nat → Option Nat) : Code → Bool
  | .region id ops true => match T id with
    | none => Region.lexB .any ops
    | some n => Region.lexTailB .any ops n
  | .seq a b | .cond _ a b => okDraw T a && okDraw T b
  | .block _ c | .loop c | .scope c => okDraw T c
  | _ => true

/-- The first region of a text: its loops' name. -/
def firstRegion : Code → Nat
  | .region id _ _ => id
  | .seq a b => match a with
    | .label _ => firstRegion b
    | _ => firstRegion a
  | .block _ c | .loop c | .scope c => firstRegion c
  | _ => 0

/-- What code comes to. T: where the tail of a region that draws begins; S: the slots that a loop's relation speaks of; n: how many slots there are. -/
def vc (P : Program) (T : Nat → Option Nat) (S : Nat → List Nat) (n : Nat) : Code → (AExit → List Value → AH → Prop) → List Value → AH → Prop
  | .skip, Q, A, H => Q .normal A H
  | .region _ ops false, Q, A, H => vcOps P ops Q ops.toList A H
  | .region id ops true, Q, A, H => match T id with
    | none => vcQuiet P ops H (fun A' => Q .normal A' H) ops.toList A
    | some n => vcQuiet P ops H (fun A' => vcOps P ops Q (ops.toList.drop n) A' H) (ops.toList.take n) A
  | .seq x y, Q, A, H => vc P T S n x (fun e A' H' => match e with | .normal => vc P T S n y Q A' H' | e => Q e A' H') A H
  | .cond c x y, Q, A, H => selV (aev A c) (vc P T S n x Q A H) (vc P T S n y Q A H)
  | .block id c, Q, A, H => vc P T S n c (fun e A' H' => match e with | .exit i => if i = id then Q .normal A' H' else Q (.exit i) A' H' | e => Q e A' H') A H
  | .loop c, Q, A, H => longB n A (∃ I : Nat → List Value → AH → Prop, (∃ m, I m (pickS (S (firstRegion c)) A) H) ∧
      ∀ m, forallN (S (firstRegion c)).length fun xs => ∀ H, I m xs H →
        vc P T S n c (fun e A' H' => match e with | .normal => longB n A' (∃ k, k < m ∧ I k (pickS (S (firstRegion c)) A') H') | e => Q e A' H') (spreadS n (S (firstRegion c)) xs) H)
  | .exit id, Q, A, H => Q (.exit id) A H
  | .scope c, Q, A, H => vc P T S n c Q A H
  | .label _, Q, A, H => Q .normal A H
  | .ret, Q, A, H => Q .ret A H
  | _, _, _, _ => False

section
variable {P : Program}

theorem vc_sound {T : Nat → Option Nat} {S : Nat → List Nat} {n : Nat} (hm : P.follows .mixedOrders = true) : ∀ (c : Code) (Q : AExit → List Value → AH → Prop) (A : List Value) (H : AH), okDraw T c = true → vc P T S n c Q A H → SimCode P c A H Q := by
  intro c
  induction c with
  | skip => intro Q A H _ h J F w a Sm hA hd; exact wp_skip ⟨J, F, .normal, A, H, h, trivial, Sm, .refl J F H w, hA, hd⟩
  | region id ops draw =>
    intro Q A H hk h
    have hops : ops.toList.toArray = ops := by simp
    cases draw with
    | false => exact region_sound h
    | true =>
      simp only [vc] at h
      simp only [okDraw] at hk
      split at h
      · rename_i hT
        rw [hT] at hk
        have := region_quiet_sound (id := id) (l := ops.toList) (Q := Q) (A := A) (H := H) hm (by rw [hops]; exact hk) (by rw [hops]; exact h)
        rwa [hops] at this
      · rename_i n hT
        rw [hT] at hk
        have := region_tail_sound (id := id) (n := n) (l := ops.toList) (Q := Q) (A := A) (H := H) hm (by rw [hops]; exact hk) (by rw [hops]; exact h)
        rwa [hops] at this
  | seq x y ihx ihy =>
    intro Q A H hk h
    simp only [okDraw, Bool.and_eq_true] at hk
    refine seq_sound ((ihx _ A H hk.1 h).mono fun e A' H' hq => ?_)
    cases e with
    | normal => exact ihy Q A' H' hk.2 hq
    | _ => exact hq
  | cond c x y ihx ihy =>
    intro Q A H hk h
    simp only [okDraw, Bool.and_eq_true] at hk
    simp only [vc, selV] at h
    split at h
    · rename_i b hb
      exact cond_sound hb (fun e => ihx Q A H hk.1 (by subst e; exact h)) (fun e => ihy Q A H hk.2 (by subst e; exact h))
    · exact h.elim
  | block id c ih => intro Q A H hk h; exact block_sound (ih _ A H hk h)
  | loop c ih =>
    intro Q A H hk h
    simp only [vc] at h
    obtain ⟨hl, I, ⟨m, h0⟩, hr⟩ := longB_out h
    refine loop_sound (S (firstRegion c)) n I hl h0 fun m xs H hxs hI => ?_
    refine (ih _ _ H hk (forallN_spec _ _ (hr m) xs hxs H hI)).mono fun e A' H' hq => ?_
    cases e with
    | normal => exact longB_out hq
    | _ => exact hq
  | exit id => intro Q A H _ h J F w a Sm hA hd; exact wp_exit ⟨J, F, .exit id, A, H, h, rfl, Sm, .refl J F H w, hA, hd⟩
  | scope c ih => intro Q A H hk h; exact scope_sound (ih Q A H hk h)
  | label l => intro Q A H _ h J F w a Sm hA hd; exact wp_label ⟨J, F, .normal, A, H, h, trivial, Sm, .refl J F H w, hA, hd⟩
  | ret => intro Q A H _ h J F w a Sm hA hd; exact wp_ret ⟨J, F, .ret, A, H, h, trivial, Sm, .refl J F H w, hA, hd⟩
  | _ => intro Q A H hk h; exact h.elim

/-- A result. -/
def aResult (P : Program) (H : AH) (A : List Value) : ResultVar → Option Value
  | .tmp t => some (A.getD t unk)
  | .cell a t => match A.getD a unk with
    | .pointer (some ⟨b, i, none⟩) => match H b with
      | some (.cells _ cs) => aPart P t cs i
      | _ => none
    | _ => none

def aResults (P : Program) (H : AH) (A : List Value) : List ResultVar → Option Value
  | [] => some unk
  | [r] => aResult P H A r
  | rs => match rs.mapM (aResult P H A) with
    | some vs => if vs.all known then some (.tuple vs.toArray) else none
    | none => none

/-- A result, in the model. -/
def resSem (tmps : Array Value) : ResultVar → Sem Value
  | .tmp t => pure (tmps.getD t undef)
  | .cell a t => do loadVar t (← asAddr (tmps.getD a undef))

theorem results_eq (fn : Func) (tmps : Array Value) : results fn tmps = (do let vs ← fn.results.mapM (resSem tmps); pure (if h : vs.size = 1 then vs[0] else .tuple vs)) := by
  unfold results
  congr 1

theorem run_result {J : Inj} {F : Nat → Nat → Prop} {H : AH} {w : World} {A : List Value} {tmps : Array Value} (S : Sim J F H w) (hA : FRel J w A tmps) {r : ResultVar} {v : Value} (h : aResult P H A r = some v) :
    ∃ v', (resSem tmps r).run P w = .ok v' w ∧ ORel J w v v' := by
  cases r with
  | tmp t => simp only [aResult] at h; cases h; exact ⟨_, rfl, hA.2 t⟩
  | cell a t =>
    simp only [aResult] at h
    split at h
    · rename_i b i hv
      split at h
      · rename_i ro cs hb
        have ha := hA.2 a
        rw [hv] at ha
        obtain ⟨r, o, hj, e⟩ := (ha.known (by simp [unk])).ptr_inv
        obtain ⟨r', off, cc, T, fr, e1, e2, e3, e4, e5, e6⟩ := S.obj b _ hb
        rw [hj] at e1; cases e1
        obtain ⟨v', hrun, hrel⟩ := run_loadVar_rel h e3 e5 e6
        refine ⟨v', ?_, .inr hrel⟩
        simp only [resSem, Sem.run_bind, e, asAddr, Sem.run_pure, Result.andThen_ok, hrun]
      · cases h
    · cases h

theorem run_mapM_list {α : Type} (g : α → Sem Value) (w : World) : ∀ (l : List α) (vs : List Value), l.length = vs.length → (∀ (i : Nat) x v, l[i]? = some x → vs[i]? = some v → (g x).run P w = .ok v w) → (l.mapM g).run P w = .ok vs w := by
  intro l
  induction l with
  | nil => intro vs hl _; cases vs with | nil => rfl | cons _ _ => simp at hl
  | cons x l ih =>
    intro vs hl h
    cases vs with
    | nil => simp at hl
    | cons v vs =>
      have h0 := h 0 x v rfl rfl
      have ht := ih vs (by simpa using hl) fun i y u a b => h (i + 1) y u (by simpa using a) (by simpa using b)
      simp only [List.mapM_cons, Sem.run_bind, h0, Result.andThen_ok, ht, Sem.run_pure]

theorem run_mapM_rel {J : Inj} {F : Nat → Nat → Prop} {H : AH} {w : World} {A : List Value} {tmps : Array Value} (S : Sim J F H w) (hA : FRel J w A tmps) : ∀ (rs : List ResultVar) (vs : List Value), rs.mapM (aResult P H A) = some vs →
    ∃ vs' : List Value, (rs.mapM (resSem tmps)).run P w = .ok vs' w ∧ vs.length = vs'.length ∧
      ∀ (i : Nat) v v', vs[i]? = some v → vs'[i]? = some v' → ORel J w v v' := by
  intro rs
  induction rs with
  | nil => intro vs h; simp at h; subst h; exact ⟨[], rfl, rfl, by simp⟩
  | cons r rs ih =>
    intro vs h
    simp only [List.mapM_cons] at h
    cases hr : aResult P H A r with
    | none => rw [hr] at h; cases h
    | some v =>
      cases ht : rs.mapM (aResult P H A) with
      | none => rw [hr, ht] at h; cases h
      | some t =>
        rw [hr, ht] at h
        cases h
        obtain ⟨v', h1, h2⟩ := run_result S hA hr
        obtain ⟨t', h3, h4, h5⟩ := ih t ht
        refine ⟨v' :: t', ?_, by simp [h4], ?_⟩
        · rw [List.mapM_cons, Sem.run_bind, h1, Result.andThen_ok, Sem.run_bind, h3]; rfl
        · intro i x x' hx hx'
          cases i with
          | zero => simp at hx hx'; subst hx; subst hx'; exact h2
          | succ i => exact h5 i x x' (by simpa using hx) (by simpa using hx')

theorem run_results_rel {J : Inj} {F : Nat → Nat → Prop} {H : AH} {w : World} {A : List Value} {tmps : Array Value} (S : Sim J F H w) (hA : FRel J w A tmps) {fn : Func} {v : Value} (h : aResults P H A fn.results.toList = some v) :
    ∃ v', (results fn tmps).run P w = .ok v' w ∧ ORel J w v v' := by
  have hmap : ∀ (l : List ResultVar) (vs' : List Value), fn.results.toList = l → (l.mapM (resSem tmps)).run P w = .ok vs' w →
      (results fn tmps).run P w = .ok (if h : vs'.toArray.size = 1 then vs'.toArray[0] else .tuple vs'.toArray) w := by
    intro l vs' hl hr
    have e : fn.results = l.toArray := by rw [← hl]
    rw [results_eq, e, List.mapM_toArray, Sem.run_bind, Sem.run_map, hr]
    rfl
  generalize hl : fn.results.toList = l at h
  unfold aResults at h
  split at h
  · cases h
    exact ⟨.tuple #[], by rw [hmap [] [] hl rfl]; rfl, .inl rfl⟩
  · rename_i r
    obtain ⟨v', h1, h2⟩ := run_result S hA h
    refine ⟨v', ?_, h2⟩
    rw [hmap [r] [v'] hl (by rw [List.mapM_cons, Sem.run_bind, h1]; rfl)]
    rfl
  · split at h
    · rename_i hn1 hn2 _ vs hvs
      split at h
      · rename_i hk
        cases h
        obtain ⟨vs', h1, h2, h3⟩ := run_mapM_rel S hA _ _ hvs
        have hlen : vs.length = l.length := by
          have : ∀ (l : List ResultVar) (vs : List Value), l.mapM (aResult P H A) = some vs → vs.length = l.length := by
            intro l
            induction l with
            | nil => intro vs h; simp at h; subst h; rfl
            | cons r l ih =>
              intro vs h
              simp only [List.mapM_cons] at h
              cases hr : aResult P H A r with
              | none => rw [hr] at h; cases h
              | some v =>
                cases ht : l.mapM (aResult P H A) with
                | none => rw [hr, ht] at h; cases h
                | some t => rw [hr, ht] at h; cases h; simp [ih t ht]
          exact this _ _ hvs
        have hne : vs'.length ≠ 1 := by
          rw [← h2, hlen]
          intro e
          obtain ⟨r, hr⟩ := List.length_eq_one_iff.1 e
          exact hn2 r hr
        refine ⟨.tuple vs'.toArray, ?_, .inr ?_⟩
        · rw [hmap l vs' hl h1, dif_neg (by simpa using hne)]
        · refine VRel.tuples ⟨h2, fun i v v' a b => ?_⟩
          exact (h3 i v v' a b).known (known_ne ((List.all_eq_true.1 hk) v (List.mem_of_getElem? a)))
      · cases h
    · cases h

/-- What is asked at a function's end. -/
def fnPost (P : Program) (fn : Func) (R : AOut → AH → Prop) (x : AExit) (A : List Value) (H : AH) : Prop :=
  match x with
  | .normal | .ret => match aResults P H A fn.results.toList with
    | some v => R (.ret v) H
    | none => False
  | .pan v => R (.pan v) H
  | .exit _ => False

/-- A call, by its function's text. -/
theorem Does.of_code {f : FuncId} {fn : Func} {c : Code} {args : List Value} {H : AH} {R : AOut → AH → Prop} (hf : P.funcs[f]? = some fn) (hb : fn.body = some c) (hcall : Callable P f)
    (h : SimCode P c (args ++ List.replicate (fn.ntmps - args.length) unk) H (fnPost P fn R)) : Does P f args H R := by
  refine ⟨hcall, fun J F w args' S hargs => calls_of_wp hf hb ?_⟩
  have hsz : args.length = args'.size := by simpa using hargs.1
  have hA : FRel J w (args ++ List.replicate (fn.ntmps - args.length) unk) (args' ++ Array.replicate (fn.ntmps - args'.size) undef) := by
    refine ⟨Nat.le_of_eq (by simp [hsz]), fun i => ?_⟩
    rw [List.getD_eq_getElem?_getD, Array.getD_eq_getD_getElem?, List.getElem?_append, Array.getElem?_append]
    by_cases hi : i < args.length
    · rw [if_pos hi, if_pos (by omega)]
      have e := List.getElem?_eq_getElem hi
      obtain ⟨v', e', hr⟩ := hargs.get e
      rw [e]
      rw [Array.getElem?_toList] at e'
      rw [e']
      exact .inr hr
    · rw [if_neg hi]
      left
      rw [List.getElem?_replicate]
      split <;> rfl
  refine wp_mono (h J F w _ S hA rfl) fun e a w' hc => ?_
  obtain ⟨J', F', x, A, H', h1, h2, S', E', hA', hd⟩ := hc
  have fin : ∀ v, aResults P H' A fn.results.toList = some v → R (.ret v) H' → a.defers = [] ∧ ∃ v', (results fn a.tmps).run P w' = .ok v' w' ∧ ∃ J' F' x H', R x H' ∧ OutRel J' w' x (.returned v') ∧ Sim J' F' H' w' ∧ Evolves J F H w J' F' H' w' := by
    intro v hv hR
    obtain ⟨v', hrun, hrel⟩ := run_results_rel S' hA' hv
    exact ⟨hd, v', hrun, J', F', .ret v, H', hR, hrel, S', E'⟩
  cases e with
  | normal =>
    cases x <;> simp only [ExRel] at h2
    simp only [fnPost] at h1
    split at h1
    · rename_i v hv; exact fin v hv h1
    · exact h1.elim
  | ret =>
    cases x <;> simp only [ExRel] at h2
    simp only [fnPost] at h1
    split at h1
    · rename_i v hv; exact fin v hv h1
    · exact h1.elim
  | exit i => cases x <;> simp only [ExRel] at h2; exact h1.elim
  | panic ch =>
    cases x <;> simp only [ExRel] at h2
    obtain ⟨v', rfl, hv⟩ := h2
    exact ⟨hd, J', F', .pan _, H', h1, ⟨v', rfl, hv⟩, S', E'⟩
  | goto l => cases x <;> simp only [ExRel] at h2
  | outgrown => cases x <;> simp only [ExRel] at h2

theorem Does.of_vc {f : FuncId} {fn : Func} {c : Code} {args : List Value} {H : AH} {R : AOut → AH → Prop} (T : Nat → Option Nat) (S : Nat → List Nat) (hm : P.follows .mixedOrders = true) (hf : P.funcs[f]? = some fn) (hb : fn.body = some c) (hcall : Callable P f)
    (hk : okDraw T c = true) (h : vc P T S fn.ntmps c (fnPost P fn R) (args ++ List.replicate (fn.ntmps - args.length) unk) H) : Does P f args H R :=
  Does.of_code hf hb hcall (vc_sound hm c _ _ _ hk h)

/-- A function's text. -/
def bodyOf (fn : Func) : Code := fn.body.getD .skip

/-- A call, by what its function's text comes to, written out. -/
theorem Does.of_text {f : FuncId} {fn : Func} {args : List Value} {H : AH} {R : AOut → AH → Prop} (T : Nat → Option Nat) (S : Nat → List Nat) (V : Prop) (hm : P.follows .mixedOrders = true) (hf : P.funcs[f]? = some fn) (hcall : Callable P f)
    (hk : (fn.body.isSome && okDraw T (bodyOf fn)) = true) (hV : V = vc P T S fn.ntmps (bodyOf fn) (fnPost P fn R) (args ++ List.replicate (fn.ntmps - args.length) unk) H) (h : V) : Does P f args H R := by
  simp only [Bool.and_eq_true] at hk
  have hb : fn.body = some (bodyOf fn) := by
    obtain ⟨c, hc⟩ := Option.isSome_iff_exists.1 hk.1
    simp [bodyOf, hc]
  exact Does.of_vc T S hm hf hb hcall hk.2 (hV ▸ h)

/-- Several results. -/
def retN (R : AOut → AH → Prop) (H : AH) (vs : List Value) : Prop :=
  match (if vs.all known then some (Value.tuple vs.toArray) else none) with
  | some v => R (.ret v) H
  | none => False

#print axioms Does.of_text
end
end Go.Abs
