/-
  One operation over the abstract heap: values without addresses, operands, the steps.
-/
import Derived.Test.YtaeofoimlhmdoaaDoorAbsB
import Derived.WalkKit
import Derived.Laws.IdiomCopy
set_option linter.unusedSimpArgs false
set_option linter.unusedVariables false
namespace Go.Abs
open Go.RowKit

/-- A value that holds no address: it stands for itself. -/
def closedN : Nat → Value → Bool
  | _, .bool _ | _, .int _ _ | _, .float _ _ | _, .complex _ _ _ | _, .string _ | _, .pointer none | _, .slice none 0 0 | _, .map none | _, .nilFunc | _, .nilIface => true
  | n + 1, .iface _ v => closedN n v
  | n + 1, .agg cs => cs.toList.all (closedN n)
  | n + 1, .tuple cs => !cs.toList.isEmpty && cs.toList.all (closedN n)
  | n + 1, .func _ f c => f.toList.all (closedN n) && c.toList.all (closedN n)
  | _, _ => false

def closed (v : Value) : Bool := closedN 6 v

theorem VRels.self {J : Inj} {w : World} {l : List Value} (h : ∀ v ∈ l, VRel J w v v) : VRels J w l l :=
  ⟨rfl, fun i v v' a b => by rw [a] at b; cases b; exact h v (List.mem_of_getElem? a)⟩

theorem VRel.aggs {J : Inj} {w : World} {c c' : List Value} (h : VRels J w c c') : VRel J w (.agg c.toArray) (.agg c'.toArray) := .agg h.1 h.2
theorem VRel.tuples {J : Inj} {w : World} {c c' : List Value} (h : VRels J w c c') : VRel J w (.tuple c.toArray) (.tuple c'.toArray) := .tuple h.1 h.2

theorem closedN_self {J : Inj} {w : World} : ∀ (n : Nat) (v : Value), closedN n v = true → VRel J w v v := by
  intro n
  induction n with
  | zero =>
    intro v h
    cases v with
    | bool b => exact .bool b
    | int k n => exact .int k n
    | float k n => exact .float k n
    | complex k a b => exact .complex k a b
    | string s => exact .string s
    | pointer a => cases a <;> first | exact .nilPtr | simp [closedN] at h
    | slice a n c =>
      cases a <;> cases n <;> cases c <;> first | exact .nilSlice | simp [closedN] at h
    | map r => cases r <;> first | exact .nilMap | simp [closedN] at h
    | nilFunc => exact .nilFunc
    | nilIface => exact .nilIface
    | _ => simp [closedN] at h
  | succ n ih =>
    intro v h
    cases v with
    | bool b => exact .bool b
    | int k n => exact .int k n
    | float k n => exact .float k n
    | complex k a b => exact .complex k a b
    | string s => exact .string s
    | pointer a => cases a <;> first | exact .nilPtr | simp [closedN] at h
    | slice a n c =>
      cases a <;> cases n <;> cases c <;> first | exact .nilSlice | simp [closedN] at h
    | map r => cases r <;> first | exact .nilMap | simp [closedN] at h
    | nilFunc => exact .nilFunc
    | nilIface => exact .nilIface
    | iface t v => exact .iface t (ih v (by simpa [closedN] using h))
    | agg cs =>
      have : VRels J w cs.toList cs.toList := VRels.self fun v hv => ih v (by simp only [closedN, List.all_eq_true] at h; exact h v hv)
      simpa using VRel.aggs this
    | tuple cs =>
      have : VRels J w cs.toList cs.toList := VRels.self fun v hv => ih v (by simp only [closedN, Bool.and_eq_true, List.all_eq_true] at h; exact h.2 v hv)
      simpa using VRel.tuples this
    | func fn f c =>
      simp only [closedN, Bool.and_eq_true, List.all_eq_true] at h
      have h1 : VRels J w f.toList f.toList := VRels.self fun v hv => ih v (h.1 v hv)
      have h2 : VRels J w c.toList c.toList := VRels.self fun v hv => ih v (h.2 v hv)
      simpa using VRel.func fn h1.1 h2.1 h1.2 h2.2
    | _ => simp [closedN] at h

theorem closed_self {J : Inj} {w : World} {v : Value} (h : closed v = true) : VRel J w v v := closedN_self 6 v h

/-- What stands for a value without addresses is that value. -/
theorem closedN_eq {J : Inj} {w : World} : ∀ (n : Nat) (v v' : Value), closedN n v = true → VRel J w v v' → v' = v := by
  intro n
  induction n with
  | zero =>
    intro v v' h r
    cases r <;> first | rfl | simp [closedN] at h
  | succ n ih =>
    have lists : ∀ {l l' : List Value}, l.length = l'.length → (∀ (i : Nat) v v', l[i]? = some v → l'[i]? = some v' → VRel J w v v') → (∀ v ∈ l, closedN n v = true) → l' = l := by
      intro l l' hl hv hc
      refine List.ext_getElem? fun i => ?_
      rcases Nat.lt_or_ge i l.length with g | g
      · have g' : i < l'.length := by omega
        have e := List.getElem?_eq_getElem g
        have e' := List.getElem?_eq_getElem g'
        rw [e, e']
        congr 1
        exact ih _ _ (hc _ (List.getElem_mem g)) (hv i _ _ e e')
      · rw [List.getElem?_eq_none g, List.getElem?_eq_none (by omega)]
    intro v v' h r
    cases r with
    | iface t h' => simp [closedN] at h; rw [ih _ _ h h']
    | agg hc hv => simp [closedN] at h; rw [lists hc hv h]
    | tuple hc hv => simp [closedN] at h; rw [lists hc hv h.2]
    | func fn hf hc hvf hvc => simp [closedN] at h; rw [lists hf hvf h.1, lists hc hvc h.2]
    | _ => first | rfl | simp [closedN] at h

theorem closed_eq {J : Inj} {w : World} {v v' : Value} (h : closed v = true) (r : VRel J w v v') : v' = v := closedN_eq 6 v v' h r

/-- A run that looks at nothing but the program. -/
def prun {α : Type} (P : Program) : Sem α → Option α
  | .pure a => some a
  | .program k => prun P (k P)
  | _ => none

theorem prun_run {α : Type} {P : Program} (s : Sem α) {a : α} (h : prun P s = some a) (w : World) : s.run P w = .ok a w := by
  induction s with
  | pure x => simp [prun] at h; subst h; rfl
  | program k ih => simp only [prun] at h; exact ih P h
  | _ => simp [prun] at h

/-- Nothing is known of it. -/
def unk : Value := .tuple #[.tuple #[]]

/-- An operand in the abstract frame; 'unk': nothing is known. -/
def aev (A : List Value) : Operand → Value
  | .tmp t => A.getD t unk
  | .const v => if closed v then v else unk
  | .global _ => unk
  | .func f => .func (.func f) #[] #[]

/-- What stands in a slot: 'unk' says nothing. -/
def ORel (J : Inj) (w : World) (v v' : Value) : Prop := v = unk ∨ VRel J w v v'

theorem ORel.mono {J J' : Inj} {w w' : World} {v v' : Value} (h : ORel J w v v') (hJ : J.le J') (hw : RowsLe w w') : ORel J' w' v v' :=
  h.imp id fun g => g.mono hJ hw

/-- The abstract frame, and the frame. -/
def FRel (J : Inj) (w : World) (A : List Value) (t : Array Value) : Prop :=
  A.length ≤ t.size ∧ ∀ i, ORel J w (A.getD i unk) (t.getD i undef)

theorem FRel.mono {J J' : Inj} {w w' : World} {A : List Value} {t : Array Value} (h : FRel J w A t) (hJ : J.le J') (hw : RowsLe w w') : FRel J' w' A t :=
  ⟨h.1, fun i => (h.2 i).mono hJ hw⟩

theorem FRel.ev {J : Inj} {w : World} {A : List Value} {a : Act} (h : FRel J w A a.tmps) (x : Operand) : ORel J w (aev A x) (a.eval x) := by
  cases x with
  | tmp t => exact h.2 t
  | const v =>
    simp only [aev, Act.eval]
    split
    · rename_i hc; exact .inr (closed_self hc)
    · exact .inl rfl
  | global g => exact .inl rfl
  | func f => exact .inr (by simpa [aev, Act.eval] using VRel.func (J := J) (w := w) (.func f) (f := []) (f' := []) (c := []) (c' := []) rfl rfl (by simp) (by simp))

/-- A slot is written. -/
def aput (A : List Value) (d : Option Tmp) (v : Value) : List Value :=
  match d with
  | some t => A.set t v
  | none => A

theorem FRel.put {J : Inj} {w : World} {A : List Value} {a : Act} (h : FRel J w A a.tmps) (d : Option Tmp) {v v' : Value} (hv : ORel J w v v') :
    FRel J w (aput A d v) (a.put d v').tmps := by
  cases d with
  | none => exact h
  | some t =>
    refine ⟨by simpa [aput, Act.put] using h.1, fun i => ?_⟩
    have hi := h.2 i
    simp only [aput, Act.put, List.getD_eq_getElem?_getD, Array.getD_eq_getD_getElem?] at hi ⊢
    rw [List.getElem?_set, Array.getElem?_setIfInBounds]
    by_cases e : t = i
    · subst e
      simp only [if_true]
      by_cases hlt : t < A.length
      · rw [if_pos hlt, if_pos (Nat.lt_of_lt_of_le hlt h.1)]; exact hv
      · rw [if_neg hlt]; exact .inl rfl
    · rw [if_neg e, if_neg e]; exact hi

/-- What an operation comes to. -/
inductive AStep where
  /-- a value, and the heap behind it -/
  | val (v : Value) (H : AH)
  /-- a new object, under a new name, in this heap -/
  | new (H : AH) (o : AObj) (mk : Nat → Value)
  | call (f : FuncId) (args : List Value)
  | pan (v : Value)

/-- The operation comes to what is said. -/
def StepOk (P : Program) (J : Inj) (F : Nat → Nat → Prop) (H : AH) (w : World) (r : Result Next) : AStep → Prop
  | .val v H1 => ∃ nx v' w' J' F', r = .ok nx w' ∧ (nx = .value v' ∨ nx = .skip ∧ v' = undef) ∧ Sim J' F' H1 w' ∧ Evolves J F H w J' F' H1 w' ∧ ORel J' w' v v'
  | .new H0 o mk => ∃ b v' w' J' F', H b = none ∧ r = .ok (.value v') w' ∧ Sim J' F' (H0.upd b o) w' ∧ Evolves J F H w J' F' (H0.upd b o) w' ∧ VRel J' w' (mk b) v'
  | .call f args => ∃ args', r = (callFunc f args').run P w ∧ VRels J w args args'.toList
  | .pan v => ∃ v', r = .halt (.panic v') w ∧ VRel J w v v'

section
variable {P : Program} {J : Inj} {F : Nat → Nat → Prop} {H : AH} {w : World} {A : List Value} {a : Act}

/-- A value in the world as it is. -/
theorem StepOk.value (S : Sim J F H w) {r : Result Next} {v v' : Value} (hr : r = .ok (.value v') w) (hv : ORel J w v v') : StepOk P J F H w r (.val v H) :=
  ⟨_, v', w, J, F, hr, .inl rfl, S, .refl J F H w, hv⟩

theorem run_v (P : Program) (s : Sem Value) (w : World) : (do pure (Next.value (← s)) : Sem Next).run P w = (s.run P w).andThen fun v w' => .ok (.value v) w' := by
  simp

theorem ORel.known {v v' : Value} (h : ORel J w v v') (hv : v ≠ unk) : VRel J w v v' := h.resolve_left hv

/-- Operands without addresses: the operation is what it is. -/
def opClosed (A : List Value) (o : Oper) : Bool := o.op.operands.toList.all fun x => closed (aev A x)

theorem ev_closed (hA : FRel J w A a.tmps) {x : Operand} (h : closed (aev A x) = true) : a.eval x = aev A x := by
  rcases hA.ev x with e | e
  · rw [e] at h; simp [closed, closedN, unk] at h
  · exact closed_eq h e

theorem map_ev_closed (hA : FRel J w A a.tmps) {xs : Array Operand} (h : xs.toList.all (fun x => closed (aev A x)) = true) : xs.map a.eval = xs.map (aev A) := by
  refine Array.map_congr_left fun x hx => ev_closed hA ?_
  rw [List.all_eq_true] at h
  exact h x (by simpa using hx)

end
end Go.Abs
