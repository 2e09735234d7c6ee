/-
  One operation over the abstract heap: the plain operations, loads, stores, new variables.
-/
import Derived.Test.YtaeofoimlhmdoaaDoorAbsD
set_option linter.unusedSimpArgs false
set_option linter.unusedVariables false
namespace Go.Abs
open Go.RowKit

theorem prun_bind {α β : Type} (P : Program) (s : Sem α) (f : α → Sem β) : prun P (s.bind f) = (prun P s).bind fun a => prun P (f a) := by
  induction s with
  | pure a => rfl
  | program k ih => simp only [Sem.bind, prun]; exact ih P
  | _ => simp [Sem.bind, prun]

theorem prun_bind' {α β : Type} (P : Program) (s : Sem α) (f : α → Sem β) : prun P (s >>= f) = (prun P s).bind fun a => prun P (f a) := prun_bind P s f

theorem prun_pure {α : Type} (P : Program) (a : α) : prun P (Pure.pure a : Sem α) = some a := rfl
theorem prun_ite {α : Type} (P : Program) (c : Prop) [Decidable c] (x y : Sem α) : prun P (if c then x else y) = if c then prun P x else prun P y := by split <;> rfl

/-- A known value: no tuple. -/
def known : Value → Bool
  | .tuple _ => false
  | _ => true

theorem known_ne {v : Value} (h : known v = true) : v ≠ unk := by
  intro e; subst e; simp [known, unk] at h

def isAggD : TypeDesc → Bool
  | .struct _ | .array _ _ => true
  | _ => false

theorem run_isAgg {P : Program} {t : TypeId} {d : TypeDesc} (h : P.underlying t = some d) (w : World) : (isAgg t).run P w = .ok (isAggD d) w := by
  unfold isAgg
  simp only [Sem.run_bind, run_underlying h, Result.andThen_ok]
  cases d <;> rfl

theorem run_sizeOf {P : Program} {t : TypeId} {i : TypeInfo} (h : P.info? t = some i) (w : World) : (sizeOf t).run P w = .ok i.size w := by
  simp [sizeOf, typeInfo, h]

theorem run_zeroValue' {P : Program} {t : TypeId} {i : TypeInfo} {z : Value} (h : P.info? t = some i) (hz : i.zero = some z) (w : World) : (zeroValue t).run P w = .ok z w := by
  simp [zeroValue, typeInfo, h, hz]

/-- A variable of type t, in a row of cells, from the i-th on. -/
def aPart (P : Program) (t : TypeId) (cs : List Value) (i : Nat) : Option Value :=
  match P.underlying t with
  | none => none
  | some d =>
    if isAggD d then
      match P.info? t with
      | none => none
      | some inf => if i + inf.size ≤ cs.length then some (.agg ((cs.drop i).take inf.size).toArray) else none
    else cs[i]?

section
variable {P : Program} {J : Inj} {F : Nat → Nat → Prop} {H : AH} {w : World} {A : List Value} {a : Act}

theorem VRels.get' {l l' : List Value} (h : VRels J w l l') {i : Nat} {v' : Value} (hi : l'[i]? = some v') : ∃ v, l[i]? = some v ∧ VRel J w v v' := by
  have hlt : i < l'.length := by
    rcases Nat.lt_or_ge i l'.length with g | g
    · exact g
    · rw [List.getElem?_eq_none g] at hi; cases hi
  have hlt' : i < l.length := by rw [h.1]; exact hlt
  exact ⟨l[i], List.getElem?_eq_getElem hlt', h.2 i _ v' (List.getElem?_eq_getElem hlt') hi⟩

theorem run_loadVar_rel {t : TypeId} {cs : List Value} {i : Nat} {v : Value} (h : aPart P t cs i = some v) {r off : Nat} {cc : Array Value} {T : TypeId} {fr : Nat × Nat}
    (hr : w.heap[r]? = some (.cells cc T fr)) (hle : off + cs.length ≤ cc.size) (hv : VRels J w cs ((cc.toList.drop off).take cs.length)) :
    ∃ v', (loadVar t ⟨r, off + i, none⟩).run P w = .ok v' w ∧ VRel J w v v' := by
  have hcell : ∀ k, w.cell? ⟨r, k, none⟩ = cc[k]? := fun k => by simp [World.cell?, hr]
  unfold aPart at h
  split at h
  · cases h
  · rename_i d hd
    unfold loadVar
    simp only [Sem.run_bind, run_isAgg hd, Result.andThen_ok]
    split at h
    · rename_i hagg
      split at h
      · cases h
      · rename_i inf hinf
        split at h
        · rename_i hfit
          cases h
          have hl : ((cc.toList.drop (off + i)).take inf.size).length = inf.size := by simp; omega
          have hload := run_loadCells_list (P := P) w ⟨r, off + i, none⟩ ((cc.toList.drop (off + i)).take inf.size) (fun j u hj => by
            have hadd : (⟨r, off + i, none⟩ : Addr).add j = ⟨r, off + i + j, none⟩ := Addr.add_lit _ _ _
            rw [hadd, hcell]
            rw [List.getElem?_take] at hj
            split at hj
            · rw [List.getElem?_drop, Array.getElem?_toList] at hj; exact hj
            · cases hj)
          rw [hl] at hload
          refine ⟨.agg ((cc.toList.drop (off + i)).take inf.size).toArray, ?_, ?_⟩
          · simp [hagg, run_sizeOf hinf, hload]
          · have := (hv.drop i).take inf.size
            have e : List.take inf.size (List.drop i (List.take cs.length (List.drop off cc.toList))) = List.take inf.size (List.drop (off + i) cc.toList) := by
              apply List.ext_getElem?
              intro j
              simp only [List.getElem?_take, List.getElem?_drop]
              by_cases hj : j < inf.size
              · rw [if_pos hj, if_pos hj, if_pos (by omega : i + j < cs.length)]; congr 1; omega
              · rw [if_neg hj, if_neg hj]
            rw [e] at this
            exact VRel.aggs this
        · cases h
    · rename_i hagg
      obtain ⟨v', e, hr'⟩ := rel_cell hv h
      refine ⟨v', ?_, hr'⟩
      simp [hagg, run_load, hcell, e]

def aLoad (P : Program) (H : AH) (t : TypeId) (x : Value) : Option AStep :=
  match x with
  | .pointer (some ⟨b, i, none⟩) =>
    match H b with
    | some (.cells _ cs) => (aPart P t cs i).map fun v => .val v H
    | _ => none
  | _ => none

theorem VRel.ptr_inv {b i : Nat} {v' : Value} (h : VRel J w (.pointer (some ⟨b, i, none⟩)) v') : ∃ r o, J b = some (r, o) ∧ v' = .pointer (some ⟨r, o + i, none⟩) := by
  cases h with
  | ptr h => exact ⟨_, _, h, rfl⟩

theorem aLoad_ok {t : TypeId} {x x' : Value} {st : AStep} (h : aLoad P H t x = some st) (S : Sim J F H w) (hx : ORel J w x x') :
    StepOk P J F H w ((do pure (Next.value (← Instr.loadAt t x')) : Sem Next).run P w) st := by
  unfold aLoad at h
  split at h
  · rename_i b i
    split at h
    · rename_i ro cs hb
      simp only [Option.map_eq_some_iff] at h
      obtain ⟨v, hv, rfl⟩ := h
      obtain ⟨r, o, hj, rfl⟩ := (hx.known (by simp [unk])).ptr_inv
      obtain ⟨r', off, cc, T, fr, e1, e2, e3, e4, e5, e6⟩ := S.obj b _ hb
      rw [hj] at e1; cases e1
      obtain ⟨v', hrun, hrel⟩ := run_loadVar_rel hv e3 e5 e6
      refine StepOk.value S (v' := v') ?_ (.inr hrel)
      simp [Instr.loadAt, Instr.sureAddr, hrun]
    · cases h
  · cases h

theorem VRel.cells {v v' : Value} (h : VRel J w v v') : VRels J w v.cells.toList v'.cells.toList := by
  have one : ∀ {v v' : Value}, VRel J w v v' → VRels J w [v] [v'] := fun h => .cons h .nil
  cases h with
  | agg hc hv => simpa [Value.cells] using (show VRels J w _ _ from ⟨hc, hv⟩)
  | bool b => exact one (.bool b)
  | int k n => exact one (.int k n)
  | float k n => exact one (.float k n)
  | complex k n m => exact one (.complex k n m)
  | string s => exact one (.string s)
  | nilPtr => exact one .nilPtr
  | ptr h => exact one (.ptr h)
  | nilSlice => exact one .nilSlice
  | slice h hn hr => exact one (.slice h hn hr)
  | slice0 h => exact one (.slice0 h)
  | nilMap => exact one .nilMap
  | map h => exact one (.map h)
  | nilFunc => exact one .nilFunc
  | func fn a b c d => exact one (.func fn a b c d)
  | nilIface => exact one .nilIface
  | iface t h => exact one (.iface t h)
  | tuple a b => exact one (.tuple a b)

def aStore (P : Program) (H : AH) (t : TypeId) (x v : Value) : Option AStep :=
  match x with
  | .pointer (some ⟨b, i, none⟩) =>
    match H b, P.info? t with
    | some (.cells false cs), some inf =>
      if known v = true ∧ v.cells.size = inf.size ∧ i + v.cells.toList.length ≤ cs.length ∧ v.cells.toList.all Value.oneCell' = true then
        some (.val unk (H.upd b (.cells false (awr cs i v.cells.toList)))) else none
    | _, _ => none
  | _ => none

theorem aStore_ok {t : TypeId} {x x' v v' : Value} {st : AStep} (h : aStore P H t x v = some st) (S : Sim J F H w) (hx : ORel J w x x') (hv : ORel J w v v') :
    StepOk P J F H w ((do Instr.storeAt t x' v'; pure Next.skip : Sem Next).run P w) st := by
  unfold aStore at h
  split at h
  · rename_i b i
    split at h
    · rename_i cs inf hb hinf
      split at h
      · rename_i hc
        obtain ⟨hk, hs, hi, h1⟩ := hc
        cases h
        obtain ⟨r, o, hj, rfl⟩ := (hx.known (by simp [unk])).ptr_inv
        have hrel := hv.known (known_ne hk)
        have hcs := hrel.cells
        obtain ⟨r', off, cc, T, e1, e2, e3, e4, e5, e6⟩ := S.write (P := P) hb hi hcs (List.all_eq_true.1 h1)
        rw [hj] at e1; cases e1
        refine ⟨.skip, undef, _, J, F, ?_, .inr ⟨rfl, rfl⟩, e5, e6, .inl rfl⟩
        have hst := e4 (o + i) rfl
        have hsz : v'.cells.size = inf.size := by rw [← hs]; have := hcs.1; simpa using this.symm
        simp only [Instr.storeAt, Instr.sureAddr, storeVar, Sem.run_bind, Sem.run_pure, Result.andThen_ok, run_sizeOf hinf, hsz]
        simp [hst]
      · cases h
    · cases h
  · cases h

/-- A new row of cells. -/
theorem new_cells (S : Sim J F H w) {b : Nat} (hb : J b = none) (hH : H b = none) {cs cs' : List Value} (hv : VRels J w cs cs') (T : TypeId) (more : List Value) :
    ∃ F', Sim (J.put b (w.heap.size, 0)) F' (H.upd b (.cells false cs)) (w.alloc (.cells (cs' ++ more).toArray T)) ∧
      Evolves J F H w (J.put b (w.heap.size, 0)) F' (H.upd b (.cells false cs)) (w.alloc (.cells (cs' ++ more).toArray T)) := by
  refine S.new hb hH _ _ ?_
  refine ⟨w.heap.size, 0, (cs' ++ more).toArray, T, (0, 0), Inj.put_same J b _, fun x => Iff.rfl, heap_alloc_same w _, fun _ => rfl, by simp [hv.1], ?_⟩
  have e : ((cs' ++ more).toArray.toList.drop 0).take cs.length = cs' := by simp [hv.1]
  rw [e]
  exact hv.mono (Inj.le_put J _ hb) (rows_alloc w _)

def aBox (H : AH) (x : Value) : Option AStep :=
  if known x then some (.new H (.cells false x.cells.toList) fun b => .pointer (some ⟨b, 0, none⟩)) else none

theorem newRow_ok (S : Sim J F H w) {cs cs' : List Value} (hv : VRels J w cs cs') (T : TypeId) (more : List Value) {mk : Nat → Value} {v' : Value} {nx : Result Next} (hn : nx = .ok (.value v') (w.alloc (.cells (cs' ++ more).toArray T)))
    (hmk : ∀ b, VRel (J.put b (w.heap.size, 0)) (w.alloc (.cells (cs' ++ more).toArray T)) (mk b) v') : StepOk P J F H w nx (.new H (.cells false cs) mk) := by
  obtain ⟨b, hb, hH⟩ := S.fresh
  obtain ⟨F', S', E'⟩ := new_cells S hb hH hv T more
  exact ⟨b, v', _, _, F', hH, hn, S', E', hmk b⟩

theorem aBox_ok {t : TypeId} {x x' : Value} {st : AStep} (h : aBox H x = some st) (S : Sim J F H w) (hx : ORel J w x x') :
    StepOk P J F H w ((do pure (Next.value (← Instr.box t x')) : Sem Next).run P w) st := by
  unfold aBox at h
  split at h
  · rename_i hk
    cases h
    have hcs := (hx.known (known_ne hk)).cells
    refine newRow_ok S hcs t [] (v' := .pointer (some ⟨w.heap.size, 0, none⟩)) ?_ fun b => .ptr (r := w.heap.size) (o := 0) (Inj.put_same J b _)
    simp [Instr.box, newVar, newRow]
  · cases h

def aAlloc (P : Program) (H : AH) (t : TypeId) : Option AStep :=
  match (P.info? t).bind (·.zero) with
  | some z => if z.cells.toList.all closed then some (.new H (.cells false z.cells.toList) fun b => .pointer (some ⟨b, 0, none⟩)) else none
  | none => none

theorem aAlloc_ok {t : TypeId} {st : AStep} (h : aAlloc P H t = some st) (S : Sim J F H w) :
    StepOk P J F H w ((do pure (Next.value (← Instr.alloc t true (.tuple #[]))) : Sem Next).run P w) st := by
  unfold aAlloc at h
  split at h
  · rename_i z hz
    split at h
    · rename_i hc
      cases h
      cases hi : P.info? t with
      | none => simp [hi] at hz
      | some inf =>
        have hz' : inf.zero = some z := by simpa [hi] using hz
        have hcs : VRels J w z.cells.toList z.cells.toList := VRels.self fun v hv => closed_self ((List.all_eq_true.1 hc) v hv)
        refine newRow_ok S hcs t [] (v' := .pointer (some ⟨w.heap.size, 0, none⟩)) ?_ fun b => .ptr (r := w.heap.size) (o := 0) (Inj.put_same J b _)
        simp [Instr.alloc, run_zeroValue' hi hz', newVar, newRow]
    · cases h
  · cases h

def aFieldAddr (P : Program) (H : AH) (s : TypeId) (f : Nat) (x : Value) : Option AStep :=
  match P.underlying s, x with
  | some (.struct fs), .pointer (some ⟨b, i, none⟩) =>
    match fs[f]? with
    | some fd =>
      match P.info? fd.type with
      | some inf => if inf.size ≠ 0 then some (.val (.pointer (some ⟨b, i + fd.offset, none⟩)) H) else none
      | none => none
    | none => none
  | _, _ => none

theorem aFieldAddr_ok {s : TypeId} {f : Nat} {x x' : Value} {st : AStep} (h : aFieldAddr P H s f x = some st) (S : Sim J F H w) (hx : ORel J w x x') :
    StepOk P J F H w ((do pure (Next.value (← Instr.fieldAt s x' f)) : Sem Next).run P w) st := by
  unfold aFieldAddr at h
  split at h
  · rename_i fs b i hs
    split at h
    · rename_i fd hfd
      split at h
      · rename_i inf hinf
        split at h
        · rename_i hz
          cases h
          obtain ⟨r, o, hj, rfl⟩ := (hx.known (by simp [unk])).ptr_inv
          refine StepOk.value S (v' := .pointer (some ⟨r, o + (i + fd.offset), none⟩)) ?_ (.inr (.ptr hj))
          simp [Instr.fieldAt, run_underlying hs, hfd, Instr.sureAddr, fieldPlace, run_sizeOf hinf, hz, Addr.add_lit, Nat.add_assoc]
        · cases h
      · cases h
    · cases h
  · cases h

def aNil (H : AH) (x : Value) : Option AStep :=
  match x with
  | .pointer (some a) => some (.val (.pointer (some a)) H)
  | .iface t v => some (.val (.iface t v) H)
  | .func (.func f) a b => some (.val (.func (.func f) a b) H)
  | .func (.methodOf t n) a b => some (.val (.func (.methodOf t n) a b) H)
  | _ => none

theorem aNil_ok {o : Oper} {x : Operand} {st : AStep} (ho : o.op = .nilCheck x) (h : aNil H (aev A x) = some st) (S : Sim J F H w) (hA : FRel J w A a.tmps) :
    StepOk P J F H w ((execOp a.eval o).run P w) st := by
  have hx := hA.ev x
  unfold aNil at h
  split at h
  · rename_i ad e
    cases h
    rw [e] at hx
    have hr := hx.known (by simp [unk])
    generalize he : a.eval x = x' at hr
    cases hr with
    | ptr hj => exact StepOk.value S (by simp only [execOp, ho]; rw [he]; rfl) (.inr (.ptr hj))
  · rename_i t v e
    cases h
    rw [e] at hx
    have hr := hx.known (by simp [unk])
    generalize he : a.eval x = x' at hr
    cases hr with
    | iface _ hv => exact StepOk.value S (by simp only [execOp, ho]; rw [he]; rfl) (.inr (.iface _ hv))
  · rename_i f x1 x2 e
    cases h
    rw [e] at hx
    have hr := hx.known (by simp [unk])
    generalize he : a.eval x = x' at hr
    cases hr with
    | func _ h1 h2 h3 h4 => exact StepOk.value S (by simp only [execOp, ho]; rw [he]; rfl) (.inr (.func _ h1 h2 h3 h4))
  · rename_i t n x1 x2 e
    cases h
    rw [e] at hx
    have hr := hx.known (by simp [unk])
    generalize he : a.eval x = x' at hr
    cases hr with
    | func _ h1 h2 h3 h4 => exact StepOk.value S (by simp only [execOp, ho]; rw [he]; rfl) (.inr (.func _ h1 h2 h3 h4))
  · cases h

end
end Go.Abs
