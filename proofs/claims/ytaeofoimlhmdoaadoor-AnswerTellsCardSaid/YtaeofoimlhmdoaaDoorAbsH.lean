/-
  One operation over the abstract heap: append, make, clear, len; assertions; a string gone through.
-/
import Derived.Test.YtaeofoimlhmdoaaDoorAbsG
set_option linter.unusedSimpArgs false
set_option linter.unusedVariables false
namespace Go.Abs
open Go.RowKit

/-- n elements of zero. -/
def aZeros (z : List Value) (n : Nat) : List Value :=
  match z with
  | [v] => List.replicate n v
  | z => (List.replicate n z).flatten

theorem aZeros_eq (z : List Value) (n : Nat) : aZeros z n = (List.replicate n z).flatten := by
  unfold aZeros
  split
  · rename_i v
    induction n with
    | zero => rfl
    | succ n ih => simp only [List.replicate_succ, List.flatten_cons, ih, List.singleton_append]
  · rfl

theorem zeroCells_eq (z : Array Value) (n : Nat) : (Builtin.zeroCells z n).toList = aZeros z.toList n := by
  rw [aZeros_eq]
  unfold Builtin.zeroCells
  rw [Array.toList_map, Array.toList_range]
  rcases Nat.eq_zero_or_pos z.size with h0 | hpos
  · have : z = #[] := Array.eq_empty_of_size_eq_zero h0
    subst this
    induction n with
    | zero => rfl
    | succ n ih => simp [List.replicate_succ] at ih ⊢
  · induction n with
    | zero => simp
    | succ n ih =>
      rw [List.replicate_succ', List.flatten_append, ← ih, Nat.succ_mul, List.range_add, List.map_append]
      congr 1
      simp only [List.flatten_cons, List.flatten_nil, List.append_nil, List.map_map]
      apply List.ext_getElem?
      intro i
      simp only [List.getElem?_map, Array.getElem?_toList]
      by_cases hi : i < z.size
      · rw [List.getElem?_range hi]
        simp only [Option.map_some, Function.comp]
        rw [Nat.add_comm, Nat.add_mul_mod_self_right, Nat.mod_eq_of_lt hi]
        simp [hi]
      · rw [List.getElem?_eq_none (by simpa using hi)]
        simp [hi]

theorem size_zeroCells' (z : Array Value) (n : Nat) : (Builtin.zeroCells z n).size = n * z.size := by simp [Builtin.zeroCells]

section
variable {P : Program} {J : Inj} {F : Nat → Nat → Prop} {H : AH} {w : World} {A : List Value} {a : Act}

def aMakeSlice (P : Program) (H : AH) (t : TypeId) (l c : Value) : Option AStep :=
  match P.underlying t, l, c with
  | some (.slice elem), .int .i64 n, .int .i64 m =>
    match P.info? elem with
    | some inf =>
      match inf.zero with
      | some z =>
        if 0 ≤ n ∧ n ≤ m ∧ m * inf.bytes ≤ 140737488355328 ∧ 0 < inf.bytes ∧ z.cells.size = inf.size ∧ z.cells.toList.all closed = true then
          some (.new H (.cells false (aZeros z.cells.toList n.toNat)) fun b => .slice (some ⟨b, 0, none⟩) n.toNat inf.size)
        else none
      | none => none
    | none => none
  | _, _, _ => none

theorem aZeros_closed {z : List Value} {n : Nat} (h : z.all closed = true) : VRels J w (aZeros z n) (aZeros z n) := by
  rw [aZeros_eq]
  refine VRels.self fun v hv => closed_self ?_
  simp only [List.mem_flatten, List.mem_replicate] at hv
  obtain ⟨l, ⟨_, rfl⟩, hv⟩ := hv
  exact (List.all_eq_true.1 h) v hv

theorem aZeros_length (z : List Value) (n : Nat) : (aZeros z n).length = n * z.length := by
  rw [aZeros_eq]; simp

theorem aZeros_add (z : List Value) (n m : Nat) : aZeros z (n + m) = aZeros z n ++ aZeros z m := by
  rw [aZeros_eq, aZeros_eq, aZeros_eq, ← List.replicate_append_replicate, List.flatten_append]

theorem wrap64_small {n : Int} (h0 : 0 ≤ n) (h : n ≤ 9223372036854775807) : IntKind.i64.wrap n = n := IntWalk.i64_in n ⟨by omega, by omega⟩

theorem aMakeSlice_ok {t : TypeId} {l l' c c' : Value} {st : AStep} (h : aMakeSlice P H t l c = some st) (S : Sim J F H w) (hl : ORel J w l l') (hc : ORel J w c c') :
    StepOk P J F H w ((do pure (Next.value (← Instr.makeSlice t l' c')) : Sem Next).run P w) st := by
  unfold aMakeSlice at h
  split at h
  · rename_i elem n m ht
    rw [(hl.known (by simp [unk])).int_inv, (hc.known (by simp [unk])).int_inv]
    split at h
    · rename_i inf hinf
      split at h
      · rename_i z hz
        split at h
        · rename_i hcond
          obtain ⟨h0, h1, h2, h3, h4, h5⟩ := hcond
          cases h
          have hm : m ≤ 140737488355328 := by
            have : m * 1 ≤ m * (inf.bytes : Int) := Int.mul_le_mul_of_nonneg_left (by omega) (by omega)
            omega
          have hm0 : (0 : Int) ≤ m := by omega
          have wn : IntKind.i64.wrap n = n := wrap64_small h0 (by omega)
          have wm : IntKind.i64.wrap m = m := wrap64_small hm0 (by omega)
          have e1 : (Array.range (m.toNat * inf.size)).map (fun x => z.cells[x % z.cells.size]!) = Builtin.zeroCells z.cells m.toNat := by
            unfold Builtin.zeroCells; rw [h4]
          have hsz : m.toNat = n.toNat + (m.toNat - n.toNat) := by omega
          have e2 : Builtin.zeroCells z.cells m.toNat = (aZeros z.cells.toList n.toNat ++ aZeros z.cells.toList (m.toNat - n.toNat)).toArray := by
            apply Array.ext'
            rw [zeroCells_eq, List.toList_toArray, ← aZeros_add, ← hsz]
          refine newRow_ok S (aZeros_closed h5) elem (aZeros z.cells.toList (m.toNat - n.toNat)) (v' := .slice (some ⟨w.heap.size, 0, none⟩) n.toNat m.toNat) ?_ fun b => ?_
          · have c1 : ¬ (m < 0 ∨ (281474976710656 : Int) < (inf.bytes : Int) * m) := by
              rw [Int.mul_comm]; omega
            have c2 : ¬ ((m < 0 ∨ (281474976710656 : Int) < (inf.bytes : Int) * m) ∨ n < 0 ∨ m < n) := by
              rintro (g | g | g)
              · exact c1 g
              · omega
              · omega
            by_cases hn0 : m.toNat * inf.size = 0
            · have e3 : (#[] : Array Value) = (aZeros z.cells.toList n.toNat ++ aZeros z.cells.toList (m.toNat - n.toNat)).toArray := by
                rw [← e2, ← e1, hn0]; exact (Array.eq_empty_of_size_eq_zero (by simp)).symm
              have c3 : ¬ (((m < 0 ∨ (281474976710656 : Int) < (inf.bytes : Int) * m) ∨ n < 0) ∨ m < n) := by
                rintro ((g | g) | g)
                · exact c1 g
                · omega
                · omega
              simp [Instr.makeSlice, run_underlying ht, asInt, asIntOf, typeInfo, hinf, wn, wm, c3, run_sizeOf hinf, hn0, newRow]
              rw [show Array.range 0 = #[] from Array.eq_empty_of_size_eq_zero (by simp)]
              simp only [Array.map_empty]
              rw [e3]
            · have c3 : ¬ (((m < 0 ∨ (281474976710656 : Int) < (inf.bytes : Int) * m) ∨ n < 0) ∨ m < n) := by
                rintro ((g | g) | g)
                · exact c1 g
                · omega
                · omega
              have hn1 : ¬ (m.toNat = 0 ∨ inf.size = 0) := by
                rintro (g | g) <;> simp [g] at hn0
              have := e1.trans e2
              simp [Instr.makeSlice, run_underlying ht, asInt, asIntOf, typeInfo, hinf, wn, wm, c3, run_sizeOf hinf, run_zeroValue' hinf hz, newRow, hn0]
              rw [this]
          · refine VRel.slice (r := w.heap.size) (o := 0) (i := 0) (Inj.put_same J b _) (by omega) ⟨_, elem, (0, 0), heap_alloc_same w _, ?_⟩
            simp only [List.size_toArray, List.length_append, aZeros_length, Array.length_toList, h4]
            rw [← Nat.add_mul, ← hsz]; omega
        · cases h
      · cases h
    · cases h
  · cases h

def aMakeMap (P : Program) (H : AH) (t : TypeId) (r : Option Value) : Option AStep :=
  match r with
  | none => some (.new H (.map []) fun b => .map (some b))
  | some (.int _ _) =>
    match P.underlying t with
    | some (.map _ _) => some (.new H (.map []) fun b => .map (some b))
    | _ => none
  | _ => none

theorem new_map_ok (S : Sim J F H w) {nx : Result Next} (hn : nx = .ok (.value (.map (some w.heap.size))) (w.alloc (.map #[] 0))) : StepOk P J F H w nx (.new H (.map []) fun b => .map (some b)) := by
  obtain ⟨b, hb, hH⟩ := S.fresh
  obtain ⟨F', S', E'⟩ := S.new hb hH (.map #[] 0) (.map []) ⟨w.heap.size, #[], 0, Inj.put_same J b _, fun _ => Iff.rfl, heap_alloc_same w _, ⟨.nil, .nil⟩, by simp, by simp⟩
  exact ⟨b, _, _, _, F', hH, hn, S', E', .map (Inj.put_same J b _)⟩

theorem aMakeMap_ok {t : TypeId} {r : Option Operand} {st : AStep} (h : aMakeMap P H t (r.map (aev A)) = some st) (S : Sim J F H w) (hA : FRel J w A a.tmps) :
    StepOk P J F H w ((do pure (Next.value (← Instr.makeMap t (r.map a.eval))) : Sem Next).run P w) st := by
  unfold aMakeMap at h
  split at h
  · rename_i e
    cases h
    have : r.map a.eval = none := by cases r <;> simp at e ⊢
    rw [this]
    exact new_map_ok S (by simp [Instr.makeMap])
  · rename_i k n e
    split at h
    · rename_i kt et ht
      cases h
      have : r.map a.eval = some (.int k n) := by
        cases r with
        | none => simp at e
        | some x =>
          simp at e
          have := (hA.ev x).known (by rw [e]; simp [unk])
          rw [e] at this
          simp [this.int_inv]
      rw [this]
      exact new_map_ok S (by simp [Instr.makeMap, run_underlying ht, asInt, asIntOf])
    · cases h
  · cases h

def aLen (P : Program) (H : AH) (t : TypeId) (x : Value) : Option AStep :=
  match P.underlying t, x with
  | some .string, .string s => some (.val (goInt s.size) H)
  | some (.array n _), _ => some (.val (goInt n) H)
  | some (.slice _), .slice none 0 0 => some (.val (goInt 0) H)
  | some (.slice _), .slice (some ⟨_, _, none⟩) n _ => some (.val (goInt n) H)
  | some (.map _ _), .map none => some (.val (goInt 0) H)
  | some (.map _ _), .map (some r) => match H r with
    | some (.map es) => some (.val (goInt es.length) H)
    | _ => none
  | some (.pointer arr), .pointer _ => match P.underlying arr with
    | some (.array n _) => some (.val (goInt n) H)
    | _ => none
  | _, _ => none

theorem aLen_ok {t ty : TypeId} {x x' : Value} {st : AStep} (h : aLen P H t x = some st) (S : Sim J F H w) (hx : ORel J w x x') :
    StepOk P J F H w ((do pure (Next.value (← Builtin.len_ #[t] ty #[x'])) : Sem Next).run P w) st := by
  have fin : ∀ {n : Int} {st : AStep}, some (AStep.val (goInt n) H) = some st → (Builtin.len_ #[t] ty #[x']).run P w = .ok (goInt n) w →
      StepOk P J F H w ((do pure (Next.value (← Builtin.len_ #[t] ty #[x'])) : Sem Next).run P w) st := by
    intro n st e hr
    cases e
    exact StepOk.value S (v' := goInt n) (by rw [Sem.run_bind, hr]; rfl) (.inr (.int _ _))
  unfold aLen at h
  split at h
  · rename_i s ht
    rw [(hx.known (by simp [unk])).string_inv] at fin ⊢
    exact fin h (by simp [Builtin.len_, run_underlying ht])
  · rename_i n e _ ht
    exact fin h (by simp only [Builtin.len_, List.getElem?_toArray, List.getElem?_cons_zero, Sem.run_bind, run_underlying ht, Result.andThen_ok]; rfl)
  · rename_i e ht
    have hx' := hx.known (by simp [unk])
    have ex : x' = .slice none 0 0 := by cases hx'; rfl
    subst ex
    exact fin h (by simp [Builtin.len_, run_underlying ht])
  · rename_i e b i n e2 ht
    have hx' := hx.known (by simp [unk])
    cases hx' with
    | slice hj hn hr => exact fin h (by simp [Builtin.len_, run_underlying ht])
    | slice0 hj => exact fin h (by simp [Builtin.len_, run_underlying ht])
  · rename_i e1 e2 ht
    have hx' := hx.known (by simp [unk])
    cases hx'
    exact fin h (by simp [Builtin.len_, run_underlying ht])
  · rename_i e1 e2 r ht
    split at h
    · rename_i es hr
      have hx' := hx.known (by simp [unk])
      cases hx' with
      | map hj =>
        rename_i r'
        obtain ⟨r2, cc, clk, h1, h2, h3, h4, h5, h6⟩ := S.obj r _ hr
        rw [hj] at h1; cases h1
        have hlen : es.length = cc.size := by have := h4.1.1; simpa using this
        exact fin h (by
          rw [hlen]
          simp only [Builtin.len_, List.getElem?_toArray, List.getElem?_cons_zero, Sem.run_bind, run_underlying ht, Result.andThen_ok]
          simp [getObj, Sem.run, h3])
    · cases h
  · rename_i arr p ht
    split at h
    · rename_i n e ha
      exact fin h (by simp [Builtin.len_, run_underlying ht, run_underlying ha])
    · cases h
  · cases h

def aAssert (P : Program) (H : AH) (x : Value) (t : TypeId) (ok : Bool) : Option AStep :=
  match P.underlying t with
  | some (.interface _) | none => none
  | some _ =>
    match x with
    | .iface t' v =>
      if t' = t then (if known v then some (.val (if ok then .tuple #[v, .bool true] else v) H) else none)
      else match ok, (P.info? t).bind (·.zero) with
        | true, some z => if closed z then some (.val (.tuple #[z, .bool false]) H) else none
        | _, _ => none
    | .nilIface =>
      match ok, (P.info? t).bind (·.zero) with
      | true, some z => if closed z then some (.val (.tuple #[z, .bool false]) H) else none
      | _, _ => none
    | _ => none

theorem run_zero_bind {t : TypeId} {z : Value} (hz : (P.info? t).bind (·.zero) = some z) (w : World) : (zeroValue t).run P w = .ok z w := by
  cases hi : P.info? t with
  | none => simp [hi] at hz
  | some inf => exact run_zeroValue' hi (by simpa [hi] using hz) w

theorem aAssert_ok {x x' : Value} {xt t : TypeId} {ok : Bool} {st : AStep} (h : aAssert P H x t ok = some st) (S : Sim J F H w) (hx : ORel J w x x') :
    StepOk P J F H w ((do pure (Next.value (← Instr.typeAssert x' xt t ok)) : Sem Next).run P w) st := by
  have two : ∀ {v v' : Value} (b : Bool), VRel J w v v' → VRel J w (.tuple #[v, .bool b]) (.tuple #[v', .bool b]) := fun b hv => VRel.tuples (.cons hv (.cons (.bool b) .nil))
  unfold aAssert at h
  split at h
  · cases h
  · cases h
  · rename_i d hd0 hd
    split at h
    · rename_i t' v
      have hx' := hx.known (by simp [unk])
      cases hx' with
      | iface _ hv =>
        rename_i v'
        split at h
        · rename_i e
          subst e
          split at h
          · cases h
            refine StepOk.value S (v' := if ok then .tuple #[v', .bool true] else v') ?_ (.inr ?_)
            · unfold Instr.typeAssert
              rw [Sem.run_bind, Sem.run_bind, run_underlying hd, Result.andThen_ok]
              cases d <;> first | (simp; done) | exact (hd0 _ rfl).elim
            · cases ok
              · exact hv
              · exact two true hv
          · cases h
        · rename_i hne
          split at h
          · rename_i z hz
            split at h
            · rename_i hcl
              cases h
              refine StepOk.value S (v' := .tuple #[z, .bool false]) ?_ (.inr (two false (closed_self hcl)))
              unfold Instr.typeAssert
              rw [Sem.run_bind, Sem.run_bind, run_underlying hd, Result.andThen_ok]
              cases d <;> first | (simp [hne, run_zero_bind hz]; done) | exact (hd0 _ rfl).elim
            · cases h
          · cases h
    · split at h
      · rename_i z hz
        split at h
        · rename_i hcl
          cases h
          have hx' := hx.known (by simp [unk])
          cases hx'
          refine StepOk.value S (v' := .tuple #[z, .bool false]) ?_ (.inr (two false (closed_self hcl)))
          unfold Instr.typeAssert
          rw [Sem.run_bind, Sem.run_bind, run_underlying hd, Result.andThen_ok]
          cases d <;> first | (simp [run_zero_bind hz]; done) | exact (hd0 _ rfl).elim
        · cases h
      · cases h
    · cases h

def aRange (P : Program) (H : AH) (t : TypeId) (x : Value) : Option AStep :=
  match P.underlying t, x with
  | some .string, .string s => some (.new H (.siter s 0) fun b => .pointer (some ⟨b, 0, none⟩))
  | _, _ => none

theorem aRange_ok {t : TypeId} {x x' : Value} {st : AStep} (h : aRange P H t x = some st) (S : Sim J F H w) (hx : ORel J w x x') :
    StepOk P J F H w ((do pure (Next.value (← Instr.range t x')) : Sem Next).run P w) st := by
  unfold aRange at h
  split at h
  · rename_i s ht
    cases h
    rw [(hx.known (by simp [unk])).string_inv]
    obtain ⟨b, hb, hH⟩ := S.fresh
    obtain ⟨F', S', E'⟩ := S.new hb hH (.stringIter s 0) (.siter s 0) ⟨w.heap.size, Inj.put_same J b _, fun _ => Iff.rfl, heap_alloc_same w _⟩
    exact ⟨b, .pointer (some ⟨w.heap.size, 0, none⟩), _, _, F', hH, by simp [Instr.range, run_underlying ht], S', E', .ptr (r := w.heap.size) (o := 0) (Inj.put_same J b _)⟩
  · cases h

def aNext (H : AH) (x : Value) (str : Bool) : Option AStep :=
  match x, str with
  | .pointer (some ⟨b, 0, none⟩), true =>
    match H b with
    | some (.siter s pos) =>
      if pos < s.size then some (.val (.tuple #[.bool true, goInt pos, .int .i32 (Utf8.decode s pos).1]) (H.upd b (.siter s (pos + (Utf8.decode s pos).2))))
      else some (.val (.tuple #[.bool false]) H)
    | _ => none
  | _, _ => none

theorem aNext_ok {ty : TypeId} {x x' : Value} {str : Bool} {st : AStep} (h : aNext H x str = some st) (S : Sim J F H w) (hx : ORel J w x x') :
    StepOk P J F H w ((do pure (Next.value (← Instr.next x' str ty)) : Sem Next).run P w) st := by
  unfold aNext at h
  split at h
  · rename_i b
    split at h
    · rename_i s pos hb
      obtain ⟨r, h1, h2, h3⟩ := S.obj b _ hb
      obtain ⟨r', o, hj, rfl⟩ := (hx.known (by simp [unk])).ptr_inv
      rw [h1] at hj; cases hj
      split at h
      · rename_i hpos
        cases h
        have hlt := lt_of_block h3
        have hother : ∀ k, k ≠ r → ({ w with heap := w.heap.setIfInBounds r (.stringIter s (pos + (Utf8.decode s pos).2)) } : World).heap[k]? = w.heap[k]? := fun k hk => by
          simp [Array.getElem?_setIfInBounds, Ne.symm hk]
        have hrows : RowsLe w { w with heap := w.heap.setIfInBounds r (.stringIter s (pos + (Utf8.decode s pos).2)) } := rows_setOther h3 (by simp) hother
        obtain ⟨S', E'⟩ := S.update (J' := J) (F' := F) (a := b) (o' := .siter s (pos + (Utf8.decode s pos).2)) (w' := { w with heap := w.heap.setIfInBounds r (.stringIter s (pos + (Utf8.decode s pos).2)) })
          (Inj.le_refl J) hrows (by simp) rfl rfl rfl (.inl ⟨_, hb, rfl⟩) (fun k hk hno => hother k fun e => hno ⟨⟨_, hb, rfl⟩, (h2 k).2 e⟩) (fun _ _ => rfl)
          (fun k hk => .inr ⟨⟨_, hb, rfl⟩, hk⟩) ⟨r, h1, h2, by simp [Array.getElem?_setIfInBounds, hlt]⟩ (S.named b _ hb) S.bound (fun c k o e => by simpa using S.within c k o e)
        refine ⟨.value (.tuple #[.bool true, goInt pos, .int .i32 (Utf8.decode s pos).1]), _, _, J, F, ?_, .inl rfl, S', E', .inr (VRel.tuples (.cons (.bool true) (.cons (.int _ _) (.cons (.int _ _) .nil))))⟩
        simp only [Instr.next, Nat.add_zero, Sem.run_bind]
        simp [getObj, setObj, Sem.run, h3, hpos]
      · rename_i hpos
        cases h
        refine StepOk.value S (v' := .tuple #[.bool false]) ?_ (.inr (VRel.tuples (.cons (.bool false) .nil)))
        simp only [Instr.next, Nat.add_zero, Sem.run_bind]
        simp [getObj, Sem.run, h3, hpos]
    · cases h
  · cases h

def aPanic (x : Value) : Option AStep :=
  match x with
  | .iface t v => some (.pan (.iface t v))
  | _ => none

theorem aPanic_ok {x x' : Value} {st : AStep} (h : aPanic x = some st) (hx : ORel J w x x') : StepOk P J F H w ((do pure (Next.value (← Instr.panic x')) : Sem Next).run P w) st := by
  unfold aPanic at h
  split at h
  · rename_i t v
    cases h
    have hx' := hx.known (by simp [unk])
    cases hx' with
    | iface _ hv => exact ⟨_, by simp [Instr.panic], .iface t hv⟩
  · cases h

end
end Go.Abs
