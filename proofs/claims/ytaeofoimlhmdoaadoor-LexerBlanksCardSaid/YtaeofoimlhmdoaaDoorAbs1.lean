/-
  A part of the proof: an abstract heap, and what code comes to over it.
-/
import Derived.Calls
import Derived.Scope
import Derived.Below
import Derived.WalkKit
import Derived.Laws.IdiomCopy

/-
  A simulation between an abstract heap (names to objects) and the model's worlds: the words and their first laws.
-/
set_option linter.unusedSimpArgs false
set_option linter.unusedVariables false
namespace Go.Abs

/-- Names to a place in the world: a block, and where in it the named row begins. -/
abbrev Inj := Nat → Option (Nat × Nat)

def Inj.le (J J' : Inj) : Prop := ∀ a x, J a = some x → J' a = some x

theorem Inj.le_refl (J : Inj) : J.le J := fun _ _ h => h
theorem Inj.le_trans {J J' J'' : Inj} (h : J.le J') (h' : J'.le J'') : J.le J'' := fun a x e => h' a x (h a x e)

/-- The block r is a row of n cells, or more. -/
def RowGe (w : World) (r n : Nat) : Prop := ∃ cc T fr, w.heap[r]? = some (.cells cc T fr) ∧ n ≤ cc.size

theorem RowGe.mono {w : World} {r n m : Nat} (h : RowGe w r n) (hm : m ≤ n) : RowGe w r m :=
  let ⟨cc, T, fr, e, k⟩ := h; ⟨cc, T, fr, e, Nat.le_trans hm k⟩

def RowsLe (w w' : World) : Prop := ∀ r n, RowGe w r n → RowGe w' r n

/-- An abstract value, and what stands for it in the world. A slice's third part is, in the abstract value, the number of cells of an element. -/
inductive VRel (J : Inj) (w : World) : Value → Value → Prop
  | bool (b : Bool) : VRel J w (.bool b) (.bool b)
  | int (k : IntKind) (n : Int) : VRel J w (.int k n) (.int k n)
  | float (k : FloatKind) (n : Nat) : VRel J w (.float k n) (.float k n)
  | complex (k : FloatKind) (n m : Nat) : VRel J w (.complex k n m) (.complex k n m)
  | string (s : ByteArray) : VRel J w (.string s) (.string s)
  | nilPtr : VRel J w (.pointer none) (.pointer none)
  | ptr {b i r o : Nat} (h : J b = some (r, o)) : VRel J w (.pointer (some ⟨b, i, none⟩)) (.pointer (some ⟨r, o + i, none⟩))
  | nilSlice : VRel J w (.slice none 0 0) (.slice none 0 0)
  | slice {b i r o n e c : Nat} (h : J b = some (r, o)) (hn : n ≤ c) (hr : RowGe w r (o + i + c * e)) :
      VRel J w (.slice (some ⟨b, i, none⟩) n e) (.slice (some ⟨r, o + i, none⟩) n c)
  | slice0 {b i r o j e : Nat} (h : J b = some (r, o)) : VRel J w (.slice (some ⟨b, i, none⟩) 0 e) (.slice (some ⟨r, j, none⟩) 0 0)
  | nilMap : VRel J w (.map none) (.map none)
  | map {b r : Nat} (h : J b = some (r, 0)) : VRel J w (.map (some b)) (.map (some r))
  | nilFunc : VRel J w .nilFunc .nilFunc
  | func (fn : Fn) {f f' c c' : List Value} (hf : f.length = f'.length) (hc : c.length = c'.length)
      (hvf : ∀ (i : Nat) v v', f[i]? = some v → f'[i]? = some v' → VRel J w v v')
      (hvc : ∀ (i : Nat) v v', c[i]? = some v → c'[i]? = some v' → VRel J w v v') :
      VRel J w (.func fn f.toArray c.toArray) (.func fn f'.toArray c'.toArray)
  | nilIface : VRel J w .nilIface .nilIface
  | iface (t : TypeId) {v v' : Value} (h : VRel J w v v') : VRel J w (.iface t v) (.iface t v')
  | agg {c c' : List Value} (hc : c.length = c'.length)
      (hvc : ∀ (i : Nat) v v', c[i]? = some v → c'[i]? = some v' → VRel J w v v') : VRel J w (.agg c.toArray) (.agg c'.toArray)
  | tuple {c c' : List Value} (hc : c.length = c'.length)
      (hvc : ∀ (i : Nat) v v', c[i]? = some v → c'[i]? = some v' → VRel J w v v') : VRel J w (.tuple c.toArray) (.tuple c'.toArray)

theorem VRel.mono {J J' : Inj} {w w' : World} {v v' : Value} (h : VRel J w v v') (hJ : J.le J') (hw : RowsLe w w') : VRel J' w' v v' := by
  induction h with
  | bool b => exact .bool b
  | int k n => exact .int k n
  | float k n => exact .float k n
  | complex k n m => exact .complex k n m
  | string s => exact .string s
  | nilPtr => exact .nilPtr
  | ptr h => exact .ptr (hJ _ _ h)
  | nilSlice => exact .nilSlice
  | slice h hn hr => exact .slice (hJ _ _ h) hn (hw _ _ hr)
  | slice0 h => exact .slice0 (hJ _ _ h)
  | nilMap => exact .nilMap
  | map h => exact .map (hJ _ _ h)
  | nilFunc => exact .nilFunc
  | func fn hf hc _ _ ih1 ih2 => exact .func fn hf hc ih1 ih2
  | nilIface => exact .nilIface
  | iface t _ ih => exact .iface t ih
  | agg hc _ ih => exact .agg hc ih
  | tuple hc _ ih => exact .tuple hc ih

/-- Lists of values, cell by cell. -/
def VRels (J : Inj) (w : World) (l l' : List Value) : Prop :=
  l.length = l'.length ∧ ∀ (i : Nat) v v', l[i]? = some v → l'[i]? = some v' → VRel J w v v'

theorem VRels.mono {J J' : Inj} {w w' : World} {l l' : List Value} (h : VRels J w l l') (hJ : J.le J') (hw : RowsLe w w') : VRels J' w' l l' :=
  ⟨h.1, fun i v v' a b => (h.2 i v v' a b).mono hJ hw⟩

theorem VRels.nil {J : Inj} {w : World} : VRels J w [] [] := ⟨rfl, fun i v v' a _ => by simp at a⟩

theorem VRels.cons {J : Inj} {w : World} {v v' : Value} {l l' : List Value} (h : VRel J w v v') (t : VRels J w l l') : VRels J w (v :: l) (v' :: l') := by
  refine ⟨by simp [t.1], fun i a a' ha ha' => ?_⟩
  cases i with
  | zero => simp at ha ha'; subst ha; subst ha'; exact h
  | succ i => simp at ha ha'; exact t.2 i a a' ha ha'

theorem VRels.cons_inv {J : Inj} {w : World} {v : Value} {l l' : List Value} (h : VRels J w (v :: l) l') :
    ∃ v' t', l' = v' :: t' ∧ VRel J w v v' ∧ VRels J w l t' := by
  obtain ⟨hl, hv⟩ := h
  cases l' with
  | nil => simp at hl
  | cons v' t' => exact ⟨v', t', rfl, hv 0 v v' rfl rfl, by simpa using hl, fun i a b ha hb => hv (i + 1) a b (by simpa using ha) (by simpa using hb)⟩

theorem VRels.nil_inv {J : Inj} {w : World} {l' : List Value} (h : VRels J w [] l') : l' = [] := by
  have := h.1; simp at this; exact List.eq_nil_of_length_eq_zero this.symm

theorem VRels.append {J : Inj} {w : World} {l l' k k' : List Value} (h : VRels J w l l') (g : VRels J w k k') : VRels J w (l ++ k) (l' ++ k') := by
  induction l generalizing l' with
  | nil => rw [h.nil_inv]; exact g
  | cons v l ih => obtain ⟨v', t', rfl, hv, ht⟩ := h.cons_inv; exact .cons hv (ih ht)

theorem VRels.get {J : Inj} {w : World} {l l' : List Value} (h : VRels J w l l') {i : Nat} {v : Value} (hi : l[i]? = some v) : ∃ v', l'[i]? = some v' ∧ VRel J w v v' := by
  have hlt : i < l.length := by
    rcases Nat.lt_or_ge i l.length with g | g
    · exact g
    · rw [List.getElem?_eq_none g] at hi; cases hi
  have hlt' : i < l'.length := by rw [← h.1]; exact hlt
  exact ⟨l'[i], List.getElem?_eq_getElem hlt', h.2 i v _ hi (List.getElem?_eq_getElem hlt')⟩

theorem VRels.take {J : Inj} {w : World} {l l' : List Value} (h : VRels J w l l') (n : Nat) : VRels J w (l.take n) (l'.take n) := by
  refine ⟨by simp [h.1], fun i v v' a b => ?_⟩
  rw [List.getElem?_take] at a b
  split at a
  · exact h.2 i v v' a (by simpa [*] using b)
  · cases a

theorem VRels.drop {J : Inj} {w : World} {l l' : List Value} (h : VRels J w l l') (n : Nat) : VRels J w (l.drop n) (l'.drop n) := by
  refine ⟨by simp [h.1], fun i v v' a b => ?_⟩
  rw [List.getElem?_drop] at a b
  exact h.2 _ v v' a b

theorem VRels.set {J : Inj} {w : World} {l l' : List Value} (h : VRels J w l l') (n : Nat) {x x' : Value} (hx : VRel J w x x') : VRels J w (l.set n x) (l'.set n x') := by
  refine ⟨by simp [h.1], fun i v v' a b => ?_⟩
  rw [List.getElem?_set] at a b
  by_cases hn : n = i
  · subst hn
    simp only [if_true] at a b
    split at a
    · split at b
      · cases a; cases b; exact hx
      · cases b
    · cases a
  · rw [if_neg hn] at a b; exact h.2 i v v' a b

/-- What a name may stand for besides a row or a map: a predicate over a footprint, that stays while the footprint does. -/
structure ARep where
  holds : Inj → World → Nat → (Nat → Prop) → Prop
  stable : ∀ J J' w w' a F, holds J w a F → J.le J' → RowsLe w w' → (∀ r, F r → w'.heap[r]? = w.heap[r]?) → holds J' w' a F
  within : ∀ J w a F, holds J w a F → ∀ r, F r → r < w.heap.size

/-- An object of the abstract heap. -/
inductive AObj where
  /-- a row of cells; ro: it is only read -/
  | cells (ro : Bool) (cs : List Value)
  | map (es : List (Value × Value))
  | siter (s : ByteArray) (pos : Nat)
  | ext (ro : Bool) (R : ARep)

def AObj.ro : AObj → Bool
  | .cells ro _ => ro
  | .ext ro _ => ro
  | _ => false

/-- The abstract heap. -/
abbrev AH := Nat → Option AObj

def AH.upd (H : AH) (a : Nat) (o : AObj) : AH := fun b => if b = a then some o else H b
def AH.del (H : AH) (a : Nat) : AH := fun b => if b = a then none else H b

theorem AH.upd_same (H : AH) (a : Nat) (o : AObj) : H.upd a o a = some o := by simp [AH.upd]
theorem AH.upd_ne (H : AH) {a b : Nat} (o : AObj) (h : b ≠ a) : H.upd a o b = H b := by simp [AH.upd, h]
theorem AH.del_same (H : AH) (a : Nat) : H.del a a = none := by simp [AH.del]
theorem AH.del_ne (H : AH) {a b : Nat} (h : b ≠ a) : H.del a b = H b := by simp [AH.del, h]

/-- The entries of a map, in the model. -/
def EntriesRel (J : Inj) (w : World) (es : List (Value × Value)) (cc : List MapEntry) : Prop :=
  VRels J w (es.map (·.1)) (cc.map (·.key)) ∧ VRels J w (es.map (·.2)) (cc.map (·.val))

/-- An object of the abstract heap, and what stands for it. F: the blocks that belong to it. -/
def ObjRel (J : Inj) (w : World) (a : Nat) (F : Nat → Prop) : AObj → Prop
  | .cells ro cs => ∃ r off cc T fr, J a = some (r, off) ∧ (∀ x, F x ↔ x = r) ∧ w.heap[r]? = some (.cells cc T fr) ∧ (ro = false → fr = (0, 0)) ∧
      off + cs.length ≤ cc.size ∧ VRels J w cs ((cc.toList.drop off).take cs.length)
  | .map es => ∃ r cc clk, J a = some (r, 0) ∧ (∀ x, F x ↔ x = r) ∧ w.heap[r]? = some (.map cc clk) ∧ EntriesRel J w es cc.toList ∧
      (cc.toList.map (·.born)).Nodup ∧ ∀ e ∈ cc.toList, e.born < clk
  | .siter s pos => ∃ r, J a = some (r, 0) ∧ (∀ x, F x ↔ x = r) ∧ w.heap[r]? = some (.stringIter s pos)
  | .ext _ R => R.holds J w a F

theorem EntriesRel.mono {J J' : Inj} {w w' : World} {es : List (Value × Value)} {cc : List MapEntry} (h : EntriesRel J w es cc) (hJ : J.le J') (hw : RowsLe w w') : EntriesRel J' w' es cc :=
  ⟨h.1.mono hJ hw, h.2.mono hJ hw⟩

theorem ObjRel.mono {J J' : Inj} {w w' : World} {a : Nat} {F : Nat → Prop} {o : AObj} (h : ObjRel J w a F o) (hJ : J.le J') (hw : RowsLe w w')
    (hk : ∀ r, F r → w'.heap[r]? = w.heap[r]?) : ObjRel J' w' a F o := by
  cases o with
  | cells ro cs =>
    obtain ⟨r, off, cc, T, fr, h1, h2, h3, h4, h5, h6⟩ := h
    exact ⟨r, off, cc, T, fr, hJ _ _ h1, h2, by rw [hk r ((h2 r).2 rfl)]; exact h3, h4, h5, h6.mono hJ hw⟩
  | map es =>
    obtain ⟨r, cc, clk, h1, h2, h3, h4, h5, h6⟩ := h
    exact ⟨r, cc, clk, hJ _ _ h1, h2, by rw [hk r ((h2 r).2 rfl)]; exact h3, h4.mono hJ hw, h5, h6⟩
  | siter s pos =>
    obtain ⟨r, h1, h2, h3⟩ := h
    exact ⟨r, hJ _ _ h1, h2, by rw [hk r ((h2 r).2 rfl)]; exact h3⟩
  | ext ro R => exact R.stable J J' w w' a F h hJ hw hk

theorem lt_of_block {w : World} {r : Nat} {o : Obj} (h : w.heap[r]? = some o) : r < w.heap.size := by
  rcases Nat.lt_or_ge r w.heap.size with g | g
  · exact g
  · rw [Array.getElem?_eq_none g] at h; cases h

theorem ObjRel.within {J : Inj} {w : World} {a : Nat} {F : Nat → Prop} {o : AObj} (h : ObjRel J w a F o) : ∀ r, F r → r < w.heap.size := by
  intro r hr
  cases o with
  | cells ro cs => obtain ⟨r', off, cc, T, fr, h1, h2, h3, _⟩ := h; rw [(h2 r).1 hr]; exact lt_of_block h3
  | map es => obtain ⟨r', cc, clk, h1, h2, h3, _⟩ := h; rw [(h2 r).1 hr]; exact lt_of_block h3
  | siter s pos => obtain ⟨r', h1, h2, h3⟩ := h; rw [(h2 r).1 hr]; exact lt_of_block h3
  | ext ro R => exact R.within J w a F h r hr

/-- The abstract heap H stands for what the world w holds. F: each name's blocks. -/
structure Sim (J : Inj) (F : Nat → Nat → Prop) (H : AH) (w : World) : Prop where
  obj : ∀ a o, H a = some o → ObjRel J w a (F a) o
  apart : ∀ a b oa ob, H a = some oa → H b = some ob → a ≠ b → (oa.ro = false ∨ ob.ro = false) → ∀ r, F a r → ¬ F b r
  named : ∀ a o, H a = some o → J a ≠ none
  bound : ∃ N, ∀ a, N ≤ a → J a = none
  within : ∀ a r o, J a = some (r, o) → r < w.heap.size

/-- How a state may become another one. -/
structure Evolves (J : Inj) (F : Nat → Nat → Prop) (H : AH) (w : World) (J' : Inj) (F' : Nat → Nat → Prop) (H' : AH) (w' : World) : Prop where
  le : J.le J'
  rows : RowsLe w w'
  size : w.heap.size ≤ w'.heap.size
  os : w'.os = w.os
  tape : w'.tape = w.tape
  output : w'.output = w.output
  keep : ∀ r, r < w.heap.size → (∀ a o, H a = some o → o.ro = false → ¬ F a r) → w'.heap[r]? = w.heap[r]?
  new : ∀ a o, H' a = some o → o.ro = false → ∀ r, F' a r → w.heap.size ≤ r ∨ ∃ b ob, H b = some ob ∧ ob.ro = false ∧ F b r
  names : ∀ a, H' a ≠ none → H a ≠ none ∨ J a = none

theorem RowsLe.refl (w : World) : RowsLe w w := fun _ _ h => h
theorem RowsLe.trans {a b c : World} (h : RowsLe a b) (k : RowsLe b c) : RowsLe a c := fun r n x => k r n (h r n x)

theorem Evolves.refl (J : Inj) (F : Nat → Nat → Prop) (H : AH) (w : World) : Evolves J F H w J F H w :=
  ⟨Inj.le_refl J, .refl w, Nat.le_refl _, rfl, rfl, rfl, fun _ _ _ => rfl, fun a o h hr r hF => .inr ⟨a, o, h, hr, hF⟩, fun _ h => .inl h⟩

theorem Evolves.trans {J J1 J2 : Inj} {F F1 F2 : Nat → Nat → Prop} {H H1 H2 : AH} {w w1 w2 : World}
    (h : Evolves J F H w J1 F1 H1 w1) (k : Evolves J1 F1 H1 w1 J2 F2 H2 w2) : Evolves J F H w J2 F2 H2 w2 := by
  refine ⟨Inj.le_trans h.le k.le, h.rows.trans k.rows, Nat.le_trans h.size k.size, k.os.trans h.os, k.tape.trans h.tape, k.output.trans h.output, ?_, ?_, ?_⟩
  · intro r hr hF
    rw [k.keep r (Nat.lt_of_lt_of_le hr h.size) fun a o ho hro hFr => ?_, h.keep r hr hF]
    rcases h.new a o ho hro r hFr with g | ⟨b, ob, e1, e2, e3⟩
    · omega
    · exact hF b ob e1 e2 e3
  · intro a o ho hro r hr
    rcases k.new a o ho hro r hr with g | ⟨b, ob, e1, e2, e3⟩
    · exact .inl (Nat.le_trans h.size g)
    · exact h.new b ob e1 e2 r e3
  · intro a ha
    rcases k.names a ha with g | g
    · exact h.names a g
    · right
      cases hj : J a with
      | none => rfl
      | some x => rw [h.le a x hj] at g; cases g

#print axioms Evolves.trans
end Go.Abs

/-
  The states of the simulation: how one object changes, a new one comes, one is forgotten.
-/
set_option linter.unusedSimpArgs false
set_option linter.unusedVariables false
namespace Go.Abs

def Inj.put (J : Inj) (a : Nat) (x : Nat × Nat) : Inj := fun b => if b = a then some x else J b

theorem Inj.put_same (J : Inj) (a : Nat) (x : Nat × Nat) : J.put a x a = some x := by simp [Inj.put]
theorem Inj.put_ne (J : Inj) {a b : Nat} (x : Nat × Nat) (h : b ≠ a) : J.put a x b = J b := by simp [Inj.put, h]
theorem Inj.le_put (J : Inj) {a : Nat} (x : Nat × Nat) (h : J a = none) : J.le (J.put a x) := by
  intro b y hb
  by_cases e : b = a
  · subst e; rw [h] at hb; cases hb
  · rw [Inj.put_ne J x e]; exact hb

/-- The blocks of a name that there is. -/
def Own (F : Nat → Nat → Prop) (H : AH) (a r : Nat) : Prop := (∃ o, H a = some o ∧ o.ro = false) ∧ F a r

section
variable {J J' : Inj} {F F' : Nat → Nat → Prop} {H : AH} {w w' : World}

/-- One object changes, or is new: all others stay. -/
theorem Sim.update (S : Sim J F H w) {a : Nat} {o' : AObj} (hle : J.le J') (hrows : RowsLe w w') (hsize : w.heap.size ≤ w'.heap.size)
    (hos : w'.os = w.os) (htape : w'.tape = w.tape) (hout : w'.output = w.output)
    (ha : (∃ o, H a = some o ∧ o.ro = false) ∨ (H a = none ∧ J a = none))
    (hkeep : ∀ r, r < w.heap.size → ¬ Own F H a r → w'.heap[r]? = w.heap[r]?)
    (hF' : ∀ b, b ≠ a → F' b = F b) (hFa : ∀ r, F' a r → w.heap.size ≤ r ∨ Own F H a r)
    (hobj : ObjRel J' w' a (F' a) o') (hnamed : J' a ≠ none)
    (hbound : ∃ N, ∀ a, N ≤ a → J' a = none) (hwithin : ∀ a r o, J' a = some (r, o) → r < w'.heap.size) :
    Sim J' F' (H.upd a o') w' ∧ Evolves J F H w J' F' (H.upd a o') w' := by
  have hown : ∀ b ob, H b = some ob → b ≠ a → ∀ r, F b r → ¬ Own F H a r := by
    intro b ob hb hne r hr ⟨⟨o, ho, hro⟩, hFr⟩
    exact S.apart b a ob o hb ho hne (.inr hro) r hr hFr
  refine ⟨⟨?_, ?_, ?_, hbound, hwithin⟩, ⟨hle, hrows, hsize, hos, htape, hout, ?_, ?_, ?_⟩⟩
  · intro b ob hb
    by_cases e : b = a
    · subst e; rw [AH.upd_same] at hb; cases hb; exact hobj
    · rw [AH.upd_ne H o' e] at hb
      rw [hF' b e]
      exact (S.obj b ob hb).mono hle hrows fun r hr => hkeep r ((S.obj b ob hb).within r hr) (hown b ob hb e r hr)
  · intro b c ob oc hb hc hne hro r hr hr'
    by_cases eb : b = a
    · subst eb
      have hcne : c ≠ b := fun e => hne e.symm
      rw [AH.upd_ne H o' hcne] at hc
      rw [hF' c hcne] at hr'
      rcases hFa r hr with g | g
      · have := (S.obj c oc hc).within r hr'; omega
      · exact hown c oc hc hcne r hr' g
    · rw [AH.upd_ne H o' eb] at hb
      rw [hF' b eb] at hr
      by_cases ec : c = a
      · subst ec
        rcases hFa r hr' with g | g
        · have := (S.obj b ob hb).within r hr; omega
        · exact hown b ob hb eb r hr g
      · rw [AH.upd_ne H o' ec] at hc
        rw [hF' c ec] at hr'
        exact S.apart b c ob oc hb hc hne hro r hr hr'
  · intro b ob hb
    by_cases e : b = a
    · subst e; exact hnamed
    · rw [AH.upd_ne H o' e] at hb
      intro hn
      have := S.named b ob hb
      cases hj : J b with
      | none => exact this hj
      | some x => rw [hle b x hj] at hn; cases hn
  · intro r hr hall
    refine hkeep r hr ?_
    rintro ⟨⟨o, ho, hro⟩, hFr⟩
    exact hall a o ho hro hFr
  · intro b ob hb hro r hr
    by_cases e : b = a
    · subst e
      rcases hFa r hr with g | ⟨⟨o, ho, hro'⟩, g⟩
      · exact .inl g
      · exact .inr ⟨b, o, ho, hro', g⟩
    · rw [AH.upd_ne H o' e] at hb
      rw [hF' b e] at hr
      exact .inr ⟨b, ob, hb, hro, hr⟩
  · intro b hb
    by_cases e : b = a
    · subst e
      rcases ha with ⟨o, ho, _⟩ | ⟨_, h2⟩
      · left; rw [ho]; simp
      · exact .inr h2
    · rw [AH.upd_ne H o' e] at hb; exact .inl hb

/-- A name is forgotten. -/
theorem Sim.forget (S : Sim J F H w) (a : Nat) : Sim J F (H.del a) w ∧ Evolves J F H w J F (H.del a) w := by
  have hd : ∀ b o, H.del a b = some o → H b = some o := by
    intro b o h; simp only [AH.del] at h; split at h
    · cases h
    · exact h
  refine ⟨⟨fun b o h => S.obj b o (hd b o h), fun b c ob oc hb hc => S.apart b c ob oc (hd b ob hb) (hd c oc hc), fun b o h => S.named b o (hd b o h), S.bound, S.within⟩, ?_⟩
  refine ⟨Inj.le_refl J, .refl w, Nat.le_refl _, rfl, rfl, rfl, fun _ _ _ => rfl, fun b o h hr r hF => .inr ⟨b, o, hd b o h, hr, hF⟩, fun b h => .inl ?_⟩
  intro h'
  exact h (by simp only [AH.del]; split <;> first | rfl | exact h')

/-- Any heap that has no more than this one. -/
theorem Sim.less {K : AH} (S : Sim J F H w) (hd : ∀ b o, K b = some o → H b = some o) : Sim J F K w ∧ Evolves J F H w J F K w := by
  refine ⟨⟨fun b o h => S.obj b o (hd b o h), fun b c ob oc hb hc => S.apart b c ob oc (hd b ob hb) (hd c oc hc), fun b o h => S.named b o (hd b o h), S.bound, S.within⟩, ?_⟩
  refine ⟨Inj.le_refl J, .refl w, Nat.le_refl _, rfl, rfl, rfl, fun _ _ _ => rfl, fun b o h hr r hF => .inr ⟨b, o, hd b o h, hr, hF⟩, fun b h => .inl ?_⟩
  cases hk : K b with
  | none => exact absurd hk h
  | some o => rw [hd b o hk]; simp

theorem Sim.fresh (S : Sim J F H w) : ∃ b, J b = none ∧ H b = none := by
  obtain ⟨N, hN⟩ := S.bound
  refine ⟨N, hN N (Nat.le_refl N), ?_⟩
  cases h : H N with
  | none => rfl
  | some o => exact absurd (hN N (Nat.le_refl N)) (S.named N o h)

/-- The world has drawn. -/
theorem Sim.still (S : Sim J F H w) (hheap : w'.heap = w.heap) (hos : w'.os = w.os) (htape : w'.tape = w.tape) (hout : w'.output = w.output) :
    Sim J F H w' ∧ Evolves J F H w J F H w' := by
  have hr : RowsLe w w' := fun r n ⟨cc, T, fr, h, k⟩ => ⟨cc, T, fr, by rw [hheap]; exact h, k⟩
  refine ⟨⟨fun a o h => (S.obj a o h).mono (Inj.le_refl J) hr (fun r _ => by rw [hheap]), S.apart, S.named, S.bound, fun a r o h => by rw [hheap]; exact S.within a r o h⟩, ?_⟩
  exact ⟨Inj.le_refl J, hr, by rw [hheap]; exact Nat.le_refl _, hos, htape, hout, fun r _ _ => by rw [hheap], fun a o h hro r hF => .inr ⟨a, o, h, hro, hF⟩, fun _ h => .inl h⟩

theorem rows_alloc (w : World) (o : Obj) : RowsLe w (w.alloc o) := by
  rintro r n ⟨cc, T, fr, h, k⟩
  refine ⟨cc, T, fr, ?_, k⟩
  have := lt_of_block h
  show (w.heap.push o)[r]? = _
  rw [Array.getElem?_push, if_neg (by omega)]; exact h

theorem heap_alloc_lt (w : World) (o : Obj) {r : Nat} (h : r < w.heap.size) : (w.alloc o).heap[r]? = w.heap[r]? := by
  show (w.heap.push o)[r]? = _
  rw [Array.getElem?_push, if_neg (by omega)]

theorem heap_alloc_same (w : World) (o : Obj) : (w.alloc o).heap[w.heap.size]? = some o := by
  show (w.heap.push o)[w.heap.size]? = _
  simp

/-- A new object, in a new block. -/
theorem Sim.new (S : Sim J F H w) {b : Nat} (hb : J b = none) (hH : H b = none) (ob : Obj) (o : AObj)
    (hobj : ObjRel (J.put b (w.heap.size, 0)) (w.alloc ob) b (fun r => r = w.heap.size) o) :
    ∃ F', Sim (J.put b (w.heap.size, 0)) F' (H.upd b o) (w.alloc ob) ∧ Evolves J F H w (J.put b (w.heap.size, 0)) F' (H.upd b o) (w.alloc ob) := by
  refine ⟨fun a => if a = b then (fun r => r = w.heap.size) else F a, ?_⟩
  refine S.update (Inj.le_put J _ hb) (rows_alloc w ob) (by simp) rfl rfl rfl (.inr ⟨hH, hb⟩) (fun r hr _ => heap_alloc_lt w ob hr) (fun c hc => by simp [hc]) ?_ (by simpa using hobj) ?_ ?_ ?_
  · intro r hr; simp at hr; left; omega
  · rw [Inj.put_same]; simp
  · obtain ⟨N, hN⟩ := S.bound
    refine ⟨max N (b + 1), fun a ha => ?_⟩
    rw [Inj.put_ne J _ (by omega)]
    exact hN a (by omega)
  · intro a r o h
    by_cases e : a = b
    · subst e; rw [Inj.put_same] at h; cases h; simp
    · rw [Inj.put_ne J _ e] at h
      have := S.within a r o h
      simp; omega

theorem rows_setBlock {w w' : World} {r : Nat} {cc cc' : Array Value} {T T' : TypeId} {fr fr' : Nat × Nat} (h : w.heap[r]? = some (.cells cc T fr)) (h' : w'.heap[r]? = some (.cells cc' T' fr'))
    (hs : cc.size ≤ cc'.size) (ho : ∀ k, k ≠ r → w'.heap[k]? = w.heap[k]?) : RowsLe w w' := by
  rintro k n ⟨c, t, f, e, g⟩
  by_cases hk : k = r
  · subst hk; rw [h] at e; cases e; exact ⟨cc', T', fr', h', by omega⟩
  · exact ⟨c, t, f, by rw [ho k hk]; exact e, g⟩

theorem rows_setOther {w w' : World} {r : Nat} {o : Obj} (h : w.heap[r]? = some o) (hno : ∀ cc T fr, o ≠ .cells cc T fr) (ho : ∀ k, k ≠ r → w'.heap[k]? = w.heap[k]?) : RowsLe w w' := by
  rintro k n ⟨c, t, f, e, g⟩
  by_cases hk : k = r
  · subst hk; rw [h] at e; cases e; exact absurd rfl (hno _ _ _)
  · exact ⟨c, t, f, by rw [ho k hk]; exact e, g⟩

end
#print axioms Sim.new
end Go.Abs

/-
  One operation over the abstract heap: values without addresses, operands, the steps.
-/
set_option linter.unusedSimpArgs false
set_option linter.unusedVariables false
namespace Go.Abs
open Go.RowKit

/-- A value that holds no address: it stands for itself. -/
def closedN : Nat → Value → Bool
  | _, .bool _ | _, .int _ _ | _, .float _ _ | _, .complex _ _ _ | _, .string _ | _, .pointer none | _, .slice none 0 0 | _, .map none | _, .nilFunc | _, .nilIface => true
  | n + 1, .iface _ v => closedN n v
  | n + 1, .agg cs => cs.toList.all (closedN n)
  | n + 1, .tuple cs => !cs.toList.isEmpty && cs.toList.all (closedN n)
  | n + 1, .func _ f c => f.toList.all (closedN n) && c.toList.all (closedN n)
  | _, _ => false

def closed (v : Value) : Bool := closedN 6 v

theorem VRels.self {J : Inj} {w : World} {l : List Value} (h : ∀ v ∈ l, VRel J w v v) : VRels J w l l :=
  ⟨rfl, fun i v v' a b => by rw [a] at b; cases b; exact h v (List.mem_of_getElem? a)⟩

theorem VRel.aggs {J : Inj} {w : World} {c c' : List Value} (h : VRels J w c c') : VRel J w (.agg c.toArray) (.agg c'.toArray) := .agg h.1 h.2
theorem VRel.tuples {J : Inj} {w : World} {c c' : List Value} (h : VRels J w c c') : VRel J w (.tuple c.toArray) (.tuple c'.toArray) := .tuple h.1 h.2

theorem closedN_self {J : Inj} {w : World} : ∀ (n : Nat) (v : Value), closedN n v = true → VRel J w v v := by
  intro n
  induction n with
  | zero =>
    intro v h
    cases v with
    | bool b => exact .bool b
    | int k n => exact .int k n
    | float k n => exact .float k n
    | complex k a b => exact .complex k a b
    | string s => exact .string s
    | pointer a => cases a <;> first | exact .nilPtr | simp [closedN] at h
    | slice a n c =>
      cases a <;> cases n <;> cases c <;> first | exact .nilSlice | simp [closedN] at h
    | map r => cases r <;> first | exact .nilMap | simp [closedN] at h
    | nilFunc => exact .nilFunc
    | nilIface => exact .nilIface
    | _ => simp [closedN] at h
  | succ n ih =>
    intro v h
    cases v with
    | bool b => exact .bool b
    | int k n => exact .int k n
    | float k n => exact .float k n
    | complex k a b => exact .complex k a b
    | string s => exact .string s
    | pointer a => cases a <;> first | exact .nilPtr | simp [closedN] at h
    | slice a n c =>
      cases a <;> cases n <;> cases c <;> first | exact .nilSlice | simp [closedN] at h
    | map r => cases r <;> first | exact .nilMap | simp [closedN] at h
    | nilFunc => exact .nilFunc
    | nilIface => exact .nilIface
    | iface t v => exact .iface t (ih v (by simpa [closedN] using h))
    | agg cs =>
      have : VRels J w cs.toList cs.toList := VRels.self fun v hv => ih v (by simp only [closedN, List.all_eq_true] at h; exact h v hv)
      simpa using VRel.aggs this
    | tuple cs =>
      have : VRels J w cs.toList cs.toList := VRels.self fun v hv => ih v (by simp only [closedN, Bool.and_eq_true, List.all_eq_true] at h; exact h.2 v hv)
      simpa using VRel.tuples this
    | func fn f c =>
      simp only [closedN, Bool.and_eq_true, List.all_eq_true] at h
      have h1 : VRels J w f.toList f.toList := VRels.self fun v hv => ih v (h.1 v hv)
      have h2 : VRels J w c.toList c.toList := VRels.self fun v hv => ih v (h.2 v hv)
      simpa using VRel.func fn h1.1 h2.1 h1.2 h2.2
    | _ => simp [closedN] at h

theorem closed_self {J : Inj} {w : World} {v : Value} (h : closed v = true) : VRel J w v v := closedN_self 6 v h

/-- What stands for a value without addresses is that value. -/
theorem closedN_eq {J : Inj} {w : World} : ∀ (n : Nat) (v v' : Value), closedN n v = true → VRel J w v v' → v' = v := by
  intro n
  induction n with
  | zero =>
    intro v v' h r
    cases r <;> first | rfl | simp [closedN] at h
  | succ n ih =>
    have lists : ∀ {l l' : List Value}, l.length = l'.length → (∀ (i : Nat) v v', l[i]? = some v → l'[i]? = some v' → VRel J w v v') → (∀ v ∈ l, closedN n v = true) → l' = l := by
      intro l l' hl hv hc
      refine List.ext_getElem? fun i => ?_
      rcases Nat.lt_or_ge i l.length with g | g
      · have g' : i < l'.length := by omega
        have e := List.getElem?_eq_getElem g
        have e' := List.getElem?_eq_getElem g'
        rw [e, e']
        congr 1
        exact ih _ _ (hc _ (List.getElem_mem g)) (hv i _ _ e e')
      · rw [List.getElem?_eq_none g, List.getElem?_eq_none (by omega)]
    intro v v' h r
    cases r with
    | iface t h' => simp [closedN] at h; rw [ih _ _ h h']
    | agg hc hv => simp [closedN] at h; rw [lists hc hv h]
    | tuple hc hv => simp [closedN] at h; rw [lists hc hv h.2]
    | func fn hf hc hvf hvc => simp [closedN] at h; rw [lists hf hvf h.1, lists hc hvc h.2]
    | _ => first | rfl | simp [closedN] at h

theorem closed_eq {J : Inj} {w : World} {v v' : Value} (h : closed v = true) (r : VRel J w v v') : v' = v := closedN_eq 6 v v' h r

/-- A run that looks at nothing but the program. -/
def prun {α : Type} (P : Program) : Sem α → Option α
  | .pure a => some a
  | .program k => prun P (k P)
  | _ => none

theorem prun_run {α : Type} {P : Program} (s : Sem α) {a : α} (h : prun P s = some a) (w : World) : s.run P w = .ok a w := by
  induction s with
  | pure x => simp [prun] at h; subst h; rfl
  | program k ih => simp only [prun] at h; exact ih P h
  | _ => simp [prun] at h

/-- Nothing is known of it. -/
def unk : Value := .tuple #[.tuple #[]]

/-- An operand in the abstract frame; 'unk': nothing is known. -/
def aev (A : List Value) : Operand → Value
  | .tmp t => A.getD t unk
  | .const v => if closed v then v else unk
  | .global _ => unk
  | .func f => .func (.func f) #[] #[]

/-- What stands in a slot: 'unk' says nothing. -/
def ORel (J : Inj) (w : World) (v v' : Value) : Prop := v = unk ∨ VRel J w v v'

theorem ORel.mono {J J' : Inj} {w w' : World} {v v' : Value} (h : ORel J w v v') (hJ : J.le J') (hw : RowsLe w w') : ORel J' w' v v' :=
  h.imp id fun g => g.mono hJ hw

/-- The abstract frame, and the frame. -/
def FRel (J : Inj) (w : World) (A : List Value) (t : Array Value) : Prop :=
  A.length ≤ t.size ∧ ∀ i, ORel J w (A.getD i unk) (t.getD i undef)

theorem FRel.mono {J J' : Inj} {w w' : World} {A : List Value} {t : Array Value} (h : FRel J w A t) (hJ : J.le J') (hw : RowsLe w w') : FRel J' w' A t :=
  ⟨h.1, fun i => (h.2 i).mono hJ hw⟩

theorem FRel.ev {J : Inj} {w : World} {A : List Value} {a : Act} (h : FRel J w A a.tmps) (x : Operand) : ORel J w (aev A x) (a.eval x) := by
  cases x with
  | tmp t => exact h.2 t
  | const v =>
    simp only [aev, Act.eval]
    split
    · rename_i hc; exact .inr (closed_self hc)
    · exact .inl rfl
  | global g => exact .inl rfl
  | func f => exact .inr (by simpa [aev, Act.eval] using VRel.func (J := J) (w := w) (.func f) (f := []) (f' := []) (c := []) (c' := []) rfl rfl (by simp) (by simp))

/-- A slot is written. -/
def aput (A : List Value) (d : Option Tmp) (v : Value) : List Value :=
  match d with
  | some t => A.set t v
  | none => A

theorem FRel.put {J : Inj} {w : World} {A : List Value} {a : Act} (h : FRel J w A a.tmps) (d : Option Tmp) {v v' : Value} (hv : ORel J w v v') :
    FRel J w (aput A d v) (a.put d v').tmps := by
  cases d with
  | none => exact h
  | some t =>
    refine ⟨by simpa [aput, Act.put] using h.1, fun i => ?_⟩
    have hi := h.2 i
    simp only [aput, Act.put, List.getD_eq_getElem?_getD, Array.getD_eq_getD_getElem?] at hi ⊢
    rw [List.getElem?_set, Array.getElem?_setIfInBounds]
    by_cases e : t = i
    · subst e
      simp only [if_true]
      by_cases hlt : t < A.length
      · rw [if_pos hlt, if_pos (Nat.lt_of_lt_of_le hlt h.1)]; exact hv
      · rw [if_neg hlt]; exact .inl rfl
    · rw [if_neg e, if_neg e]; exact hi

/-- What an operation comes to. -/
inductive AStep where
  /-- a value, and the heap behind it -/
  | val (v : Value) (H : AH)
  /-- a new object, under a new name, in this heap -/
  | new (H : AH) (o : AObj) (mk : Nat → Value)
  | call (f : FuncId) (args : List Value)
  | pan (v : Value)

/-- The operation comes to what is said. -/
def StepOk (P : Program) (J : Inj) (F : Nat → Nat → Prop) (H : AH) (w : World) (r : Result Next) : AStep → Prop
  | .val v H1 => ∃ nx v' w' J' F', r = .ok nx w' ∧ (nx = .value v' ∨ nx = .skip ∧ v' = undef) ∧ Sim J' F' H1 w' ∧ Evolves J F H w J' F' H1 w' ∧ ORel J' w' v v'
  | .new H0 o mk => ∃ b v' w' J' F', H b = none ∧ r = .ok (.value v') w' ∧ Sim J' F' (H0.upd b o) w' ∧ Evolves J F H w J' F' (H0.upd b o) w' ∧ VRel J' w' (mk b) v'
  | .call f args => ∃ args', r = (callFunc f args').run P w ∧ VRels J w args args'.toList
  | .pan v => ∃ v', r = .halt (.panic v') w ∧ VRel J w v v'

section
variable {P : Program} {J : Inj} {F : Nat → Nat → Prop} {H : AH} {w : World} {A : List Value} {a : Act}

/-- A value in the world as it is. -/
theorem StepOk.value (S : Sim J F H w) {r : Result Next} {v v' : Value} (hr : r = .ok (.value v') w) (hv : ORel J w v v') : StepOk P J F H w r (.val v H) :=
  ⟨_, v', w, J, F, hr, .inl rfl, S, .refl J F H w, hv⟩

theorem run_v (P : Program) (s : Sem Value) (w : World) : (do pure (Next.value (← s)) : Sem Next).run P w = (s.run P w).andThen fun v w' => .ok (.value v) w' := by
  simp

theorem ORel.known {v v' : Value} (h : ORel J w v v') (hv : v ≠ unk) : VRel J w v v' := h.resolve_left hv

/-- Operands without addresses: the operation is what it is. -/
def opClosed (A : List Value) (o : Oper) : Bool := o.op.operands.toList.all fun x => closed (aev A x)

theorem ev_closed (hA : FRel J w A a.tmps) {x : Operand} (h : closed (aev A x) = true) : a.eval x = aev A x := by
  rcases hA.ev x with e | e
  · rw [e] at h; simp [closed, closedN, unk] at h
  · exact closed_eq h e

theorem map_ev_closed (hA : FRel J w A a.tmps) {xs : Array Operand} (h : xs.toList.all (fun x => closed (aev A x)) = true) : xs.map a.eval = xs.map (aev A) := by
  refine Array.map_congr_left fun x hx => ev_closed hA ?_
  rw [List.all_eq_true] at h
  exact h x (by simpa using hx)

end
end Go.Abs

/-
  One operation over the abstract heap: rows of cells are read and written.
-/
set_option linter.unusedSimpArgs false
set_option linter.unusedVariables false
namespace Go.Abs
open Go.RowKit

/-- Some cells of a row are written. -/
def awr (cs : List Value) (i : Nat) (vs : List Value) : List Value :=
  match vs with
  | [v] => cs.set i v
  | vs => cs.take i ++ vs ++ cs.drop (i + vs.length)

theorem awr_eq {cs vs : List Value} {i : Nat} (h : i + vs.length ≤ cs.length) : awr cs i vs = cs.take i ++ vs ++ cs.drop (i + vs.length) := by
  unfold awr
  split
  · rename_i v
    simp at h ⊢
    rw [List.set_eq_take_append_cons_drop, if_pos (by omega)]
  · rfl

theorem awr_length {cs vs : List Value} {i : Nat} (h : i + vs.length ≤ cs.length) : (awr cs i vs).length = cs.length := by
  rw [awr_eq h]; simp; omega

section
variable {P : Program} {J : Inj} {F : Nat → Nat → Prop} {H : AH} {w : World}

theorem setRow_block (w : World) (g : Nat) (cur c : Array Value) (t : TypeId) (fr : Nat × Nat) (h : w.heap[g]? = some (.cells cur t fr)) : (w.setRow g c).heap[g]? = some (.cells c t fr) := setRow_heap w g cur c t fr h

theorem rel_cell {cs : List Value} {cc : Array Value} {off i : Nat} {v : Value} (h : VRels J w cs ((cc.toList.drop off).take cs.length)) (hv : cs[i]? = some v) :
    ∃ v', cc[off + i]? = some v' ∧ VRel J w v v' := by
  obtain ⟨v', e, hr⟩ := h.get hv
  have hi : i < cs.length := by
    rcases Nat.lt_or_ge i cs.length with g | g
    · exact g
    · rw [List.getElem?_eq_none g] at hv; cases hv
  rw [List.getElem?_take_of_lt hi, List.getElem?_drop, Array.getElem?_toList] at e
  exact ⟨v', e, hr⟩

theorem VRel.oneCell {v v' : Value} (h : VRel J w v v') (h1 : v.oneCell' = true) : v'.oneCell' = true := by
  cases h <;> first | rfl | simp [Value.oneCell'] at h1

/-- Some cells of a row are written. -/
theorem Sim.write (S : Sim J F H w) {b i : Nat} {cs vs vs' : List Value} (hb : H b = some (.cells false cs)) (hi : i + vs.length ≤ cs.length) (hv : VRels J w vs vs') (h1 : ∀ v ∈ vs, v.oneCell' = true) :
    ∃ r off cc T, J b = some (r, off) ∧ w.heap[r]? = some (.cells cc T (0, 0)) ∧ off + cs.length ≤ cc.size ∧
      (∀ k : Nat, k = off + i → (storeCells ⟨r, k, none⟩ vs' 0).run P w = .ok () (w.setRow r (cc.toList.take (off + i) ++ vs' ++ cc.toList.drop (off + i + vs'.length)).toArray)) ∧
      Sim J F (H.upd b (.cells false (awr cs i vs))) (w.setRow r (cc.toList.take (off + i) ++ vs' ++ cc.toList.drop (off + i + vs'.length)).toArray) ∧
      Evolves J F H w J F (H.upd b (.cells false (awr cs i vs))) (w.setRow r (cc.toList.take (off + i) ++ vs' ++ cc.toList.drop (off + i + vs'.length)).toArray) := by
  obtain ⟨r, off, cc, T, fr, e1, e2, e3, e4, e5, e6⟩ := S.obj b _ hb
  have e4 := e4 rfl
  subst e4
  have hl := hv.1
  have h1' : ∀ v ∈ vs', v.oneCell' = true := by
    intro v hm
    obtain ⟨k, hk⟩ := List.getElem?_of_mem hm
    have hlt : k < vs.length := by
      rcases Nat.lt_or_ge k vs'.length with g | g
      · omega
      · rw [List.getElem?_eq_none g] at hk; cases hk
    exact (hv.2 k _ v (List.getElem?_eq_getElem hlt) hk).oneCell (h1 _ (List.getElem_mem hlt))
  have hsz : (cc.toList.take (off + i) ++ vs' ++ cc.toList.drop (off + i + vs'.length)).length = cc.size := by simp only [List.length_append, List.length_take, List.length_drop, Array.length_toList]; omega
  have hother : ∀ k, k ≠ r → (w.setRow r (cc.toList.take (off + i) ++ vs' ++ cc.toList.drop (off + i + vs'.length)).toArray).heap[k]? = w.heap[k]? := fun k hk => setRow_other w r k _ hk
  have hblock := setRow_block w r cc (cc.toList.take (off + i) ++ vs' ++ cc.toList.drop (off + i + vs'.length)).toArray T (0, 0) e3
  have hrows : RowsLe w (w.setRow r (cc.toList.take (off + i) ++ vs' ++ cc.toList.drop (off + i + vs'.length)).toArray) :=
    rows_setBlock e3 hblock (Nat.le_of_eq (by rw [List.size_toArray (as := List.take (off + i) cc.toList ++ vs' ++ List.drop (off + i + vs'.length) cc.toList), hsz])) hother
  refine ⟨r, off, cc, T, e1, e3, e5, ?_, ?_⟩
  · rintro k rfl
    have := run_storeCells_at P r (off + i) T vs' 0 cc w e3 (by simpa using by omega) h1'
    simpa using this
  · refine S.update (Inj.le_refl J) hrows (by simp [World.setRow]) rfl rfl rfl (.inl ⟨_, hb, rfl⟩) ?_ (fun _ _ => rfl) ?_ ?_ (S.named b _ hb) S.bound ?_
    · intro k hk hno
      refine hother k fun e => hno ⟨⟨_, hb, rfl⟩, (e2 k).2 e⟩
    · intro k hk; exact .inr ⟨⟨_, hb, rfl⟩, hk⟩
    · refine ⟨r, off, _, T, (0, 0), e1, e2, hblock, fun _ => rfl, by simp [awr_length hi]; omega, ?_⟩
      have hm := (e6.mono (Inj.le_refl J) hrows)
      have hvm := hv.mono (Inj.le_refl J) hrows
      rw [awr_eq hi]
      have hlen : (cs.take i ++ vs ++ cs.drop (i + vs.length)).length = cs.length := by simp; omega
      rw [hlen]
      have ee : ((cc.toList.take (off + i) ++ vs' ++ cc.toList.drop (off + i + vs'.length)).toArray.toList.drop off).take cs.length
          = ((cc.toList.drop off).take cs.length).take i ++ vs' ++ ((cc.toList.drop off).take cs.length).drop (i + vs.length) := by
        apply List.ext_getElem?
        intro j
        simp only [List.getElem?_take, List.getElem?_drop, List.getElem?_append, List.length_append, List.length_take, List.length_drop, Array.length_toList]
        have m1 : min (off + i) cc.size = off + i := by omega
        have m2 : min i (min cs.length (cc.size - off)) = i := by omega
        rw [m1, m2]
        by_cases c1 : j < i
        · rw [if_pos (by omega : j < cs.length), if_pos (by omega : off + j < off + i + vs'.length), if_pos (by omega : off + j < off + i), if_pos (by omega : off + j < off + i), if_pos (by omega : j < i + vs'.length), if_pos c1, if_pos c1, if_pos (by omega : j < cs.length)]
        · by_cases c2 : j < i + vs'.length
          · rw [if_pos (by omega : j < cs.length), if_pos (by omega : off + j < off + i + vs'.length), if_neg (by omega : ¬ off + j < off + i), if_pos c2, if_neg c1]
            congr 1; omega
          · rw [if_neg (by omega : ¬ off + j < off + i + vs'.length), if_neg c2]
            by_cases c3 : j < cs.length
            · rw [if_pos c3, if_pos (by omega : i + vs.length + (j - (i + vs'.length)) < cs.length)]
              congr 1; omega
            · rw [if_neg c3, if_neg (by omega : ¬ i + vs.length + (j - (i + vs'.length)) < cs.length)]
      rw [ee]
      exact ((hm.take i).append hvm).append (hm.drop _)
    · intro c k o h
      have := S.within c k o h
      simpa [World.setRow] using this

end
#print axioms Sim.write
end Go.Abs

/-
  One operation over the abstract heap: the plain operations, loads, stores, new variables.
-/
set_option linter.unusedSimpArgs false
set_option linter.unusedVariables false
namespace Go.Abs
open Go.RowKit

theorem prun_bind {α β : Type} (P : Program) (s : Sem α) (f : α → Sem β) : prun P (s.bind f) = (prun P s).bind fun a => prun P (f a) := by
  induction s with
  | pure a => rfl
  | program k ih => simp only [Sem.bind, prun]; exact ih P
  | _ => simp [Sem.bind, prun]

theorem prun_bind' {α β : Type} (P : Program) (s : Sem α) (f : α → Sem β) : prun P (s >>= f) = (prun P s).bind fun a => prun P (f a) := prun_bind P s f

theorem prun_pure {α : Type} (P : Program) (a : α) : prun P (Pure.pure a : Sem α) = some a := rfl
theorem prun_ite {α : Type} (P : Program) (c : Prop) [Decidable c] (x y : Sem α) : prun P (if c then x else y) = if c then prun P x else prun P y := by split <;> rfl

/-- A known value: no tuple. -/
def known : Value → Bool
  | .tuple _ => false
  | _ => true

theorem known_ne {v : Value} (h : known v = true) : v ≠ unk := by
  intro e; subst e; simp [known, unk] at h

def isAggD : TypeDesc → Bool
  | .struct _ | .array _ _ => true
  | _ => false

theorem run_isAgg {P : Program} {t : TypeId} {d : TypeDesc} (h : P.underlying t = some d) (w : World) : (isAgg t).run P w = .ok (isAggD d) w := by
  unfold isAgg
  simp only [Sem.run_bind, run_underlying h, Result.andThen_ok]
  cases d <;> rfl

theorem run_sizeOf {P : Program} {t : TypeId} {i : TypeInfo} (h : P.info? t = some i) (w : World) : (sizeOf t).run P w = .ok i.size w := by
  simp [sizeOf, typeInfo, h]

theorem run_zeroValue' {P : Program} {t : TypeId} {i : TypeInfo} {z : Value} (h : P.info? t = some i) (hz : i.zero = some z) (w : World) : (zeroValue t).run P w = .ok z w := by
  simp [zeroValue, typeInfo, h, hz]

/-- A variable of type t, in a row of cells, from the i-th on. -/
def aPart (P : Program) (t : TypeId) (cs : List Value) (i : Nat) : Option Value :=
  match P.underlying t with
  | none => none
  | some d =>
    if isAggD d then
      match P.info? t with
      | none => none
      | some inf => if i + inf.size ≤ cs.length then some (.agg ((cs.drop i).take inf.size).toArray) else none
    else cs[i]?

section
variable {P : Program} {J : Inj} {F : Nat → Nat → Prop} {H : AH} {w : World} {A : List Value} {a : Act}

theorem VRels.get' {l l' : List Value} (h : VRels J w l l') {i : Nat} {v' : Value} (hi : l'[i]? = some v') : ∃ v, l[i]? = some v ∧ VRel J w v v' := by
  have hlt : i < l'.length := by
    rcases Nat.lt_or_ge i l'.length with g | g
    · exact g
    · rw [List.getElem?_eq_none g] at hi; cases hi
  have hlt' : i < l.length := by rw [h.1]; exact hlt
  exact ⟨l[i], List.getElem?_eq_getElem hlt', h.2 i _ v' (List.getElem?_eq_getElem hlt') hi⟩

theorem run_loadVar_rel {t : TypeId} {cs : List Value} {i : Nat} {v : Value} (h : aPart P t cs i = some v) {r off : Nat} {cc : Array Value} {T : TypeId} {fr : Nat × Nat}
    (hr : w.heap[r]? = some (.cells cc T fr)) (hle : off + cs.length ≤ cc.size) (hv : VRels J w cs ((cc.toList.drop off).take cs.length)) :
    ∃ v', (loadVar t ⟨r, off + i, none⟩).run P w = .ok v' w ∧ VRel J w v v' := by
  have hcell : ∀ k, w.cell? ⟨r, k, none⟩ = cc[k]? := fun k => by simp [World.cell?, hr]
  unfold aPart at h
  split at h
  · cases h
  · rename_i d hd
    unfold loadVar
    simp only [Sem.run_bind, run_isAgg hd, Result.andThen_ok]
    split at h
    · rename_i hagg
      split at h
      · cases h
      · rename_i inf hinf
        split at h
        · rename_i hfit
          cases h
          have hl : ((cc.toList.drop (off + i)).take inf.size).length = inf.size := by simp; omega
          have hload := run_loadCells_list (P := P) w ⟨r, off + i, none⟩ ((cc.toList.drop (off + i)).take inf.size) (fun j u hj => by
            have hadd : (⟨r, off + i, none⟩ : Addr).add j = ⟨r, off + i + j, none⟩ := Addr.add_lit _ _ _
            rw [hadd, hcell]
            rw [List.getElem?_take] at hj
            split at hj
            · rw [List.getElem?_drop, Array.getElem?_toList] at hj; exact hj
            · cases hj)
          rw [hl] at hload
          refine ⟨.agg ((cc.toList.drop (off + i)).take inf.size).toArray, ?_, ?_⟩
          · simp [hagg, run_sizeOf hinf, hload]
          · have := (hv.drop i).take inf.size
            have e : List.take inf.size (List.drop i (List.take cs.length (List.drop off cc.toList))) = List.take inf.size (List.drop (off + i) cc.toList) := by
              apply List.ext_getElem?
              intro j
              simp only [List.getElem?_take, List.getElem?_drop]
              by_cases hj : j < inf.size
              · rw [if_pos hj, if_pos hj, if_pos (by omega : i + j < cs.length)]; congr 1; omega
              · rw [if_neg hj, if_neg hj]
            rw [e] at this
            exact VRel.aggs this
        · cases h
    · rename_i hagg
      obtain ⟨v', e, hr'⟩ := rel_cell hv h
      refine ⟨v', ?_, hr'⟩
      simp [hagg, run_load, hcell, e]

def aLoad (P : Program) (H : AH) (t : TypeId) (x : Value) : Option AStep :=
  match x with
  | .pointer (some ⟨b, i, none⟩) =>
    match H b with
    | some (.cells _ cs) => (aPart P t cs i).map fun v => .val v H
    | _ => none
  | _ => none

theorem VRel.ptr_inv {b i : Nat} {v' : Value} (h : VRel J w (.pointer (some ⟨b, i, none⟩)) v') : ∃ r o, J b = some (r, o) ∧ v' = .pointer (some ⟨r, o + i, none⟩) := by
  cases h with
  | ptr h => exact ⟨_, _, h, rfl⟩

theorem aLoad_ok {t : TypeId} {x x' : Value} {st : AStep} (h : aLoad P H t x = some st) (S : Sim J F H w) (hx : ORel J w x x') :
    StepOk P J F H w ((do pure (Next.value (← Instr.loadAt t x')) : Sem Next).run P w) st := by
  unfold aLoad at h
  split at h
  · rename_i b i
    split at h
    · rename_i ro cs hb
      simp only [Option.map_eq_some_iff] at h
      obtain ⟨v, hv, rfl⟩ := h
      obtain ⟨r, o, hj, rfl⟩ := (hx.known (by simp [unk])).ptr_inv
      obtain ⟨r', off, cc, T, fr, e1, e2, e3, e4, e5, e6⟩ := S.obj b _ hb
      rw [hj] at e1; cases e1
      obtain ⟨v', hrun, hrel⟩ := run_loadVar_rel hv e3 e5 e6
      refine StepOk.value S (v' := v') ?_ (.inr hrel)
      simp [Instr.loadAt, Instr.sureAddr, hrun]
    · cases h
  · cases h

theorem VRel.cells {v v' : Value} (h : VRel J w v v') : VRels J w v.cells.toList v'.cells.toList := by
  have one : ∀ {v v' : Value}, VRel J w v v' → VRels J w [v] [v'] := fun h => .cons h .nil
  cases h with
  | agg hc hv => simpa [Value.cells] using (show VRels J w _ _ from ⟨hc, hv⟩)
  | bool b => exact one (.bool b)
  | int k n => exact one (.int k n)
  | float k n => exact one (.float k n)
  | complex k n m => exact one (.complex k n m)
  | string s => exact one (.string s)
  | nilPtr => exact one .nilPtr
  | ptr h => exact one (.ptr h)
  | nilSlice => exact one .nilSlice
  | slice h hn hr => exact one (.slice h hn hr)
  | slice0 h => exact one (.slice0 h)
  | nilMap => exact one .nilMap
  | map h => exact one (.map h)
  | nilFunc => exact one .nilFunc
  | func fn a b c d => exact one (.func fn a b c d)
  | nilIface => exact one .nilIface
  | iface t h => exact one (.iface t h)
  | tuple a b => exact one (.tuple a b)

def aStore (P : Program) (H : AH) (t : TypeId) (x v : Value) : Option AStep :=
  match x with
  | .pointer (some ⟨b, i, none⟩) =>
    match H b, P.info? t with
    | some (.cells false cs), some inf =>
      if known v = true ∧ v.cells.size = inf.size ∧ i + v.cells.toList.length ≤ cs.length ∧ v.cells.toList.all Value.oneCell' = true then
        some (.val unk (H.upd b (.cells false (awr cs i v.cells.toList)))) else none
    | _, _ => none
  | _ => none

theorem aStore_ok {t : TypeId} {x x' v v' : Value} {st : AStep} (h : aStore P H t x v = some st) (S : Sim J F H w) (hx : ORel J w x x') (hv : ORel J w v v') :
    StepOk P J F H w ((do Instr.storeAt t x' v'; pure Next.skip : Sem Next).run P w) st := by
  unfold aStore at h
  split at h
  · rename_i b i
    split at h
    · rename_i cs inf hb hinf
      split at h
      · rename_i hc
        obtain ⟨hk, hs, hi, h1⟩ := hc
        cases h
        obtain ⟨r, o, hj, rfl⟩ := (hx.known (by simp [unk])).ptr_inv
        have hrel := hv.known (known_ne hk)
        have hcs := hrel.cells
        obtain ⟨r', off, cc, T, e1, e2, e3, e4, e5, e6⟩ := S.write (P := P) hb hi hcs (List.all_eq_true.1 h1)
        rw [hj] at e1; cases e1
        refine ⟨.skip, undef, _, J, F, ?_, .inr ⟨rfl, rfl⟩, e5, e6, .inl rfl⟩
        have hst := e4 (o + i) rfl
        have hsz : v'.cells.size = inf.size := by rw [← hs]; have := hcs.1; simpa using this.symm
        simp only [Instr.storeAt, Instr.sureAddr, storeVar, Sem.run_bind, Sem.run_pure, Result.andThen_ok, run_sizeOf hinf, hsz]
        simp [hst]
      · cases h
    · cases h
  · cases h

/-- A new row of cells. -/
theorem new_cells (S : Sim J F H w) {b : Nat} (hb : J b = none) (hH : H b = none) {cs cs' : List Value} (hv : VRels J w cs cs') (T : TypeId) (more : List Value) :
    ∃ F', Sim (J.put b (w.heap.size, 0)) F' (H.upd b (.cells false cs)) (w.alloc (.cells (cs' ++ more).toArray T)) ∧
      Evolves J F H w (J.put b (w.heap.size, 0)) F' (H.upd b (.cells false cs)) (w.alloc (.cells (cs' ++ more).toArray T)) := by
  refine S.new hb hH _ _ ?_
  refine ⟨w.heap.size, 0, (cs' ++ more).toArray, T, (0, 0), Inj.put_same J b _, fun x => Iff.rfl, heap_alloc_same w _, fun _ => rfl, by simp [hv.1], ?_⟩
  have e : ((cs' ++ more).toArray.toList.drop 0).take cs.length = cs' := by simp [hv.1]
  rw [e]
  exact hv.mono (Inj.le_put J _ hb) (rows_alloc w _)

def aBox (H : AH) (x : Value) : Option AStep :=
  if known x then some (.new H (.cells false x.cells.toList) fun b => .pointer (some ⟨b, 0, none⟩)) else none

theorem newRow_ok (S : Sim J F H w) {cs cs' : List Value} (hv : VRels J w cs cs') (T : TypeId) (more : List Value) {mk : Nat → Value} {v' : Value} {nx : Result Next} (hn : nx = .ok (.value v') (w.alloc (.cells (cs' ++ more).toArray T)))
    (hmk : ∀ b, VRel (J.put b (w.heap.size, 0)) (w.alloc (.cells (cs' ++ more).toArray T)) (mk b) v') : StepOk P J F H w nx (.new H (.cells false cs) mk) := by
  obtain ⟨b, hb, hH⟩ := S.fresh
  obtain ⟨F', S', E'⟩ := new_cells S hb hH hv T more
  exact ⟨b, v', _, _, F', hH, hn, S', E', hmk b⟩

theorem aBox_ok {t : TypeId} {x x' : Value} {st : AStep} (h : aBox H x = some st) (S : Sim J F H w) (hx : ORel J w x x') :
    StepOk P J F H w ((do pure (Next.value (← Instr.box t x')) : Sem Next).run P w) st := by
  unfold aBox at h
  split at h
  · rename_i hk
    cases h
    have hcs := (hx.known (known_ne hk)).cells
    refine newRow_ok S hcs t [] (v' := .pointer (some ⟨w.heap.size, 0, none⟩)) ?_ fun b => .ptr (r := w.heap.size) (o := 0) (Inj.put_same J b _)
    simp [Instr.box, newVar, newRow]
  · cases h

def aAlloc (P : Program) (H : AH) (t : TypeId) : Option AStep :=
  match (P.info? t).bind (·.zero) with
  | some z => if z.cells.toList.all closed then some (.new H (.cells false z.cells.toList) fun b => .pointer (some ⟨b, 0, none⟩)) else none
  | none => none

theorem aAlloc_ok {t : TypeId} {st : AStep} (h : aAlloc P H t = some st) (S : Sim J F H w) :
    StepOk P J F H w ((do pure (Next.value (← Instr.alloc t true (.tuple #[]))) : Sem Next).run P w) st := by
  unfold aAlloc at h
  split at h
  · rename_i z hz
    split at h
    · rename_i hc
      cases h
      cases hi : P.info? t with
      | none => simp [hi] at hz
      | some inf =>
        have hz' : inf.zero = some z := by simpa [hi] using hz
        have hcs : VRels J w z.cells.toList z.cells.toList := VRels.self fun v hv => closed_self ((List.all_eq_true.1 hc) v hv)
        refine newRow_ok S hcs t [] (v' := .pointer (some ⟨w.heap.size, 0, none⟩)) ?_ fun b => .ptr (r := w.heap.size) (o := 0) (Inj.put_same J b _)
        simp [Instr.alloc, run_zeroValue' hi hz', newVar, newRow]
    · cases h
  · cases h

def aFieldAddr (P : Program) (H : AH) (s : TypeId) (f : Nat) (x : Value) : Option AStep :=
  match P.underlying s, x with
  | some (.struct fs), .pointer (some ⟨b, i, none⟩) =>
    match fs[f]? with
    | some fd =>
      match P.info? fd.type with
      | some inf => if inf.size ≠ 0 then some (.val (.pointer (some ⟨b, i + fd.offset, none⟩)) H) else none
      | none => none
    | none => none
  | _, _ => none

theorem aFieldAddr_ok {s : TypeId} {f : Nat} {x x' : Value} {st : AStep} (h : aFieldAddr P H s f x = some st) (S : Sim J F H w) (hx : ORel J w x x') :
    StepOk P J F H w ((do pure (Next.value (← Instr.fieldAt s x' f)) : Sem Next).run P w) st := by
  unfold aFieldAddr at h
  split at h
  · rename_i fs b i hs
    split at h
    · rename_i fd hfd
      split at h
      · rename_i inf hinf
        split at h
        · rename_i hz
          cases h
          obtain ⟨r, o, hj, rfl⟩ := (hx.known (by simp [unk])).ptr_inv
          refine StepOk.value S (v' := .pointer (some ⟨r, o + (i + fd.offset), none⟩)) ?_ (.inr (.ptr hj))
          simp [Instr.fieldAt, run_underlying hs, hfd, Instr.sureAddr, fieldPlace, run_sizeOf hinf, hz, Addr.add_lit, Nat.add_assoc]
        · cases h
      · cases h
    · cases h
  · cases h

def aNil (H : AH) (x : Value) : Option AStep :=
  match x with
  | .pointer (some a) => some (.val (.pointer (some a)) H)
  | .iface t v => some (.val (.iface t v) H)
  | .func (.func f) a b => some (.val (.func (.func f) a b) H)
  | .func (.methodOf t n) a b => some (.val (.func (.methodOf t n) a b) H)
  | _ => none

theorem aNil_ok {o : Oper} {x : Operand} {st : AStep} (ho : o.op = .nilCheck x) (h : aNil H (aev A x) = some st) (S : Sim J F H w) (hA : FRel J w A a.tmps) :
    StepOk P J F H w ((execOp a.eval o).run P w) st := by
  have hx := hA.ev x
  unfold aNil at h
  split at h
  · rename_i ad e
    cases h
    rw [e] at hx
    have hr := hx.known (by simp [unk])
    generalize he : a.eval x = x' at hr
    cases hr with
    | ptr hj => exact StepOk.value S (by simp only [execOp, ho]; rw [he]; rfl) (.inr (.ptr hj))
  · rename_i t v e
    cases h
    rw [e] at hx
    have hr := hx.known (by simp [unk])
    generalize he : a.eval x = x' at hr
    cases hr with
    | iface _ hv => exact StepOk.value S (by simp only [execOp, ho]; rw [he]; rfl) (.inr (.iface _ hv))
  · rename_i f x1 x2 e
    cases h
    rw [e] at hx
    have hr := hx.known (by simp [unk])
    generalize he : a.eval x = x' at hr
    cases hr with
    | func _ h1 h2 h3 h4 => exact StepOk.value S (by simp only [execOp, ho]; rw [he]; rfl) (.inr (.func _ h1 h2 h3 h4))
  · rename_i t n x1 x2 e
    cases h
    rw [e] at hx
    have hr := hx.known (by simp [unk])
    generalize he : a.eval x = x' at hr
    cases hr with
    | func _ h1 h2 h3 h4 => exact StepOk.value S (by simp only [execOp, ho]; rw [he]; rfl) (.inr (.func _ h1 h2 h3 h4))
  · cases h

end
end Go.Abs

/-
  One operation over the abstract heap: values out of values.
-/
set_option linter.unusedSimpArgs false
set_option linter.unusedVariables false
namespace Go.Abs
open Go.RowKit

section
variable {P : Program} {J : Inj} {F : Nat → Nat → Prop} {H : AH} {w : World} {A : List Value} {a : Act}

/-- A run that looks at nothing but the program, whose value holds no address. -/
def aPure (P : Program) (H : AH) (s : Sem Value) : Option AStep :=
  match prun P s with
  | some v => if closed v then some (.val v H) else none
  | none => none

theorem aPure_ok {s : Sem Value} {st : AStep} (h : aPure P H s = some st) (S : Sim J F H w) :
    StepOk P J F H w ((do pure (Next.value (← s)) : Sem Next).run P w) st := by
  unfold aPure at h
  split at h
  · rename_i v hv
    split at h
    · rename_i hc
      cases h
      exact StepOk.value S (v' := v) (by simp [prun_run s hv]) (.inr (closed_self hc))
    · cases h
  · cases h

/-- One of the two is nil, the other one isn't. -/
def nilApart : Value → Value → Bool
  | .pointer (some ⟨_, _, none⟩), .pointer none | .pointer none, .pointer (some ⟨_, _, none⟩) => true
  | .map (some _), .map none | .map none, .map (some _) => true
  | .slice (some ⟨_, _, none⟩) _ _, .slice none 0 0 | .slice none 0 0, .slice (some ⟨_, _, none⟩) _ _ => true
  | .func _ _ _, .nilFunc | .nilFunc, .func _ _ _ => true
  | .iface _ _, .nilIface | .nilIface, .iface _ _ => true
  | _, _ => false

def nilDesc : TypeDesc → Value → Bool
  | .pointer _, .pointer _ | .map _ _, .map _ | .slice _, .slice _ _ _ | .func _ _ _, .func _ _ _ | .func _ _ _, .nilFunc | .interface _, .iface _ _ | .interface _, .nilIface => true
  | _, _ => false

/-- Is an operand a constant? -/
def isC : Operand → Bool
  | .const _ => true
  | _ => false

/-- An operand that is a constant, or none. -/
def encC (c : Bool) : Operand := if c then .const (.bool false) else .tmp 0

theorem eqGuard_enc (op : BinOp) (t : TypeId) (x y : Operand) (a b : Value) : eqGuard op t x y a b = eqGuard op t (encC (isC x || isC y)) (.tmp 0) a b := by
  unfold eqGuard
  cases x <;> cases y <;> rfl

/-- c: one of the operands is a constant. -/
def aBin (P : Program) (H : AH) (op : BinOp) (t : TypeId) (c : Bool) (x y : Value) : Option AStep :=
  if closed x && closed y then aPure P H (do eqGuard op t (encC c) (.tmp 0) x y; binOp op t x y)
  else if nilApart x y then
    match P.underlying t, op with
    | some d, .eql => if nilDesc d x && nilDesc d y then some (.val (.bool false) H) else none
    | some d, .neq => if nilDesc d x && nilDesc d y then some (.val (.bool true) H) else none
    | _, _ => none
  else none

theorem nilApart_rel {x y x' y' : Value} (h : nilApart x y = true) (hx : VRel J w x x') (hy : VRel J w y y') : nilApart x' y' = true := by
  unfold nilApart at h
  split at h <;> first | (cases hx <;> cases hy <;> rfl) | cases h

theorem nilDesc_rel {d : TypeDesc} {x x' : Value} (hx : VRel J w x x') : nilDesc d x' = nilDesc d x := by
  cases hx <;> cases d <;> rfl

theorem run_nilApart {t : TypeId} {d : TypeDesc} (hd : P.underlying t = some d) {x y : Value} (h : nilApart x y = true) (hx : nilDesc d x = true) (hy : nilDesc d y = true) (op : BinOp) (ox oy : Operand) (w : World) :
    (op = .eql → (do eqGuard op t ox oy x y; binOp op t x y).run P w = .ok (.bool false) w) ∧ (op = .neq → (do eqGuard op t ox oy x y; binOp op t x y).run P w = .ok (.bool true) w) := by
  have heq : (Op.equal t x y).run P w = .ok false w := by
    unfold Op.equal Op.maxDepth
    unfold nilApart at h
    rw [show (10000 : Nat) = 9999 + 1 from rfl]
    unfold Op.equalIn
    rw [Sem.run_bind, run_underlying hd, Result.andThen_ok]
    split at h <;> cases d <;> first | rfl | (simp [nilDesc] at hx; done) | (simp [nilDesc] at hy; done) | cases h
  have hg : (eqGuard op t ox oy x y).run P w = .ok () w := by
    unfold eqGuard
    unfold nilApart at h
    cases op <;> split at h <;> first | rfl | cases h
  have hb : ∀ (b : Bool), (op = .eql ∧ b = false ∨ op = .neq ∧ b = true) → (binOp op t x y).run P w = .ok (.bool b) w := by
    intro b hb
    unfold nilApart at h
    rcases hb with ⟨rfl, rfl⟩ | ⟨rfl, rfl⟩ <;> split at h <;> first | (simp only [binOp, Sem.run_bind, heq, Result.andThen_ok, Sem.run_pure]; done) | (simp only [binOp, Sem.run_bind, heq, Result.andThen_ok, Sem.run_pure]; rfl) | cases h
  exact ⟨fun e => by simp only [Sem.run_bind, hg, Result.andThen_ok]; exact hb false (.inl ⟨e, rfl⟩), fun e => by simp only [Sem.run_bind, hg, Result.andThen_ok]; exact hb true (.inr ⟨e, rfl⟩)⟩

theorem aBin_ok {op : BinOp} {t : TypeId} {ox oy : Operand} {x y x' y' : Value} {st : AStep} (h : aBin P H op t (isC ox || isC oy) x y = some st) (S : Sim J F H w) (hx : ORel J w x x') (hy : ORel J w y y') :
    StepOk P J F H w ((do pure (Next.value (← (do eqGuard op t ox oy x' y'; binOp op t x' y'))) : Sem Next).run P w) st := by
  unfold aBin at h
  have hcl : ∀ {v v' : Value}, closed v = true → ORel J w v v' → v' = v := by
    intro v v' hc hr
    exact closed_eq hc (hr.known (by intro e; subst e; simp [closed, closedN, unk] at hc))
  have hne : ∀ {u : Value}, nilApart x y = true → x ≠ unk ∧ y ≠ unk := by
    intro _ hn
    constructor <;> (intro e; subst e; simp [nilApart, unk] at hn)
  split at h
  · rename_i hc
    simp only [Bool.and_eq_true] at hc
    rw [hcl hc.1 hx, hcl hc.2 hy, eqGuard_enc]
    exact aPure_ok h S
  · split at h
    · rename_i hn
      have hx' := hx.known (hne (u := x) hn).1
      have hy' := hy.known (hne (u := x) hn).2
      have hn' := nilApart_rel hn hx' hy'
      split at h
      · rename_i d hd
        split at h
        · rename_i hdd
          simp only [Bool.and_eq_true] at hdd
          cases h
          have := (run_nilApart (ox := ox) (oy := oy) hd hn' ((nilDesc_rel hx').trans hdd.1) ((nilDesc_rel hy').trans hdd.2) .eql w).1 rfl
          exact StepOk.value S (v' := .bool false) (by rw [Sem.run_bind, this]; rfl) (.inr (.bool false))
        · cases h
      · rename_i d hd
        split at h
        · rename_i hdd
          simp only [Bool.and_eq_true] at hdd
          cases h
          have := (run_nilApart (ox := ox) (oy := oy) hd hn' ((nilDesc_rel hx').trans hdd.1) ((nilDesc_rel hy').trans hdd.2) .neq w).2 rfl
          exact StepOk.value S (v' := .bool true) (by rw [Sem.run_bind, this]; rfl) (.inr (.bool true))
        · cases h
      · cases h
    · cases h

def aMkIface (P : Program) (H : AH) (t : TypeId) (x : Value) : Option AStep :=
  match P.underlying t with
  | some (.interface _) | none => none
  | some _ => if known x then some (.val (.iface t x) H) else none

theorem aMkIface_ok {t : TypeId} {x x' : Value} {st : AStep} (h : aMkIface P H t x = some st) (S : Sim J F H w) (hx : ORel J w x x') :
    StepOk P J F H w ((do pure (Next.value (← Instr.makeInterface t x')) : Sem Next).run P w) st := by
  unfold aMkIface at h
  split at h
  · cases h
  · cases h
  · rename_i d hd0 hd
    split at h
    · rename_i hk
      cases h
      refine StepOk.value S (v' := .iface t x') ?_ (.inr (.iface t (hx.known (known_ne hk))))
      simp only [Instr.makeInterface, Sem.run_bind, run_underlying hd, Result.andThen_ok]
      cases d <;> first | rfl | exact (hd0 _ rfl).elim
    · cases h

theorem rel_map {xs : List Operand} (hA : FRel J w A a.tmps) (h : (xs.map (aev A)).all known = true) : VRels J w (xs.map (aev A)) (xs.map a.eval) := by
  induction xs with
  | nil => exact .nil
  | cons x xs ih =>
    simp only [List.map_cons, List.all_cons, Bool.and_eq_true] at h ⊢
    exact .cons ((hA.ev x).known (known_ne h.1)) (ih h.2)

def aMkFunc (H : AH) (fn : Fn) (f c : List Value) : Option AStep :=
  if f.all known && c.all known then some (.val (.func fn f.toArray c.toArray) H) else none

theorem aMkFunc_ok {fn : Fn} {f c : Array Operand} {st : AStep} (h : aMkFunc H fn (f.toList.map (aev A)) (c.toList.map (aev A)) = some st) (S : Sim J F H w) (hA : FRel J w A a.tmps) :
    StepOk P J F H w ((do pure (Next.value (← Instr.makeFunc fn (f.map a.eval) (c.map a.eval))) : Sem Next).run P w) st := by
  unfold aMkFunc at h
  split at h
  · rename_i hk
    simp only [Bool.and_eq_true] at hk
    cases h
    have h1 := rel_map hA hk.1
    have h2 := rel_map hA hk.2
    refine StepOk.value S (v' := .func fn (f.toList.map a.eval).toArray (c.toList.map a.eval).toArray) ?_ (.inr (.func fn h1.1 h2.1 h1.2 h2.2))
    have e : ∀ x : Array Operand, (x.toList.map a.eval).toArray = x.map a.eval := fun x => by apply Array.ext'; simp
    rw [e, e]; rfl
  · cases h

theorem VRel.agg_inv {c : List Value} {v' : Value} (h : VRel J w (.agg c.toArray) v') : ∃ c', v' = .agg c' ∧ VRels J w c c'.toList := by
  generalize hv : Value.agg c.toArray = v at h
  cases h with
  | agg hc hvc => cases hv; exact ⟨_, rfl, by simpa using ⟨hc, hvc⟩⟩
  | _ => cases hv

theorem VRel.agg_inv' {c : Array Value} {v' : Value} (h : VRel J w (.agg c) v') : ∃ c', v' = .agg c' ∧ VRels J w c.toList c'.toList := by
  have : VRel J w (.agg c.toList.toArray) v' := by simpa using h
  exact this.agg_inv

theorem VRel.tuple_inv' {c : Array Value} {v' : Value} (h : VRel J w (.tuple c) v') : ∃ c', v' = .tuple c' ∧ VRels J w c.toList c'.toList := by
  generalize hv : Value.tuple c = v at h
  cases h with
  | tuple hc hvc => cases hv; exact ⟨_, rfl, by simpa using ⟨hc, hvc⟩⟩
  | _ => cases hv

theorem run_part_rel {t : TypeId} {cs : List Value} {i : Nat} {v : Value} (h : aPart P t cs i = some v) {cc : Array Value} (hv : VRels J w cs cc.toList) :
    ∃ v', (part t cc i).run P w = .ok v' w ∧ VRel J w v v' := by
  unfold aPart at h
  split at h
  · cases h
  · rename_i d hd
    unfold part
    simp only [Sem.run_bind, run_isAgg hd, Result.andThen_ok]
    split at h
    · rename_i hagg
      split at h
      · cases h
      · rename_i inf hinf
        split at h
        · cases h
          refine ⟨.agg (cc.extract i (i + inf.size)), by simp [hagg, run_sizeOf hinf], ?_⟩
          have := (hv.drop i).take inf.size
          have e : (cc.extract i (i + inf.size)) = (List.take inf.size (List.drop i cc.toList)).toArray := by
            apply Array.ext'
            simp [Array.toList_extract, List.extract]
          rw [e]
          exact VRel.aggs this
        · cases h
    · rename_i hagg
      obtain ⟨v', e, hr⟩ := hv.get h
      rw [Array.getElem?_toList] at e
      exact ⟨v', by simp [hagg, e], hr⟩

def aField (P : Program) (H : AH) (t : TypeId) (k : Nat) (x : Value) : Option AStep :=
  match P.underlying t, x with
  | some (.struct fs), .agg cs =>
    match fs[k]? with
    | some f => (aPart P f.type cs.toList f.offset).map fun v => .val v H
    | none => none
  | _, _ => none

theorem aField_ok {t : TypeId} {k : Nat} {x x' : Value} {st : AStep} (h : aField P H t k x = some st) (S : Sim J F H w) (hx : ORel J w x x') :
    StepOk P J F H w ((do pure (Next.value (← Instr.field t x' k)) : Sem Next).run P w) st := by
  unfold aField at h
  split at h
  · rename_i fs cs hs
    split at h
    · rename_i f hf
      simp only [Option.map_eq_some_iff] at h
      obtain ⟨v, hv, rfl⟩ := h
      obtain ⟨cc, rfl, hr⟩ := (hx.known (by simp [unk])).agg_inv'
      obtain ⟨v', hrun, hrel⟩ := run_part_rel hv hr
      refine StepOk.value S (v' := v') ?_ (.inr hrel)
      simp [Instr.field, run_underlying hs, hf, asAgg, hrun]
    · cases h
  · cases h

/-- It is a row of results, not what says nothing. -/
def notUnk (vs : Array Value) : Bool :=
  match vs.toList with
  | [.tuple _] => false
  | _ => true

def aExtract (H : AH) (x : Value) (i : Nat) : Option AStep :=
  match x with
  | .tuple vs => if notUnk vs = true then match vs[i]? with
    | some v => some (.val v H)
    | none => none
    else none
  | _ => none

theorem aExtract_ok {i : Nat} {x x' : Value} {st : AStep} (h : aExtract H x i = some st) (S : Sim J F H w) (hx : ORel J w x x') :
    StepOk P J F H w ((do pure (Next.value (← Instr.extract x' i)) : Sem Next).run P w) st := by
  unfold aExtract at h
  split at h
  · rename_i vs
    split at h
    rotate_left
    · cases h
    rename_i hsz
    split at h
    · rename_i v hv
      cases h
      have hne : Value.tuple vs ≠ unk := by
        intro e; simp [unk] at e; subst e; simp [notUnk] at hsz
      obtain ⟨cc, rfl, hr⟩ := (hx.known hne).tuple_inv'
      obtain ⟨v', e, hrel⟩ := hr.get (i := i) (v := v) (by simpa using hv)
      rw [Array.getElem?_toList] at e
      refine StepOk.value S (v' := v') ?_ (.inr hrel)
      simp [Instr.extract, e]
    · cases h
  · cases h

def aIndex (P : Program) (H : AH) (t : TypeId) (x i : Value) : Option AStep :=
  match x, i with
  | .string s, .int k n => aPure P H (Instr.index t (.string s) (.int k n))
  | .agg cs, .int _ n =>
    match P.underlying t with
    | some (.array len elem) =>
      match P.info? elem with
      | some inf => if 0 ≤ n ∧ n < len then (aPart P elem cs.toList (n.toNat * inf.size)).map fun v => .val v H else none
      | none => none
    | _ => none
  | _, _ => none

theorem VRel.int_inv {k : IntKind} {n : Int} {v' : Value} (h : VRel J w (.int k n) v') : v' = .int k n := by cases h; rfl
theorem VRel.string_inv {s : ByteArray} {v' : Value} (h : VRel J w (.string s) v') : v' = .string s := by cases h; rfl
theorem VRel.bool_inv {s : Bool} {v' : Value} (h : VRel J w (.bool s) v') : v' = .bool s := by cases h; rfl

theorem aIndex_ok {t : TypeId} {x x' i i' : Value} {st : AStep} (h : aIndex P H t x i = some st) (S : Sim J F H w) (hx : ORel J w x x') (hi : ORel J w i i') :
    StepOk P J F H w ((do pure (Next.value (← Instr.index t x' i')) : Sem Next).run P w) st := by
  unfold aIndex at h
  split at h
  · rw [(hx.known (by simp [unk])).string_inv, (hi.known (by simp [unk])).int_inv]
    exact aPure_ok h S
  · rename_i cs k n
    rw [(hi.known (by simp [unk])).int_inv]
    split at h
    · rename_i len elem ht
      split at h
      · rename_i inf hinf
        split at h
        · rename_i hn
          simp only [Option.map_eq_some_iff] at h
          obtain ⟨v, hv, rfl⟩ := h
          obtain ⟨cc, rfl, hr⟩ := (hx.known (by simp [unk])).agg_inv'
          obtain ⟨v', hrun, hrel⟩ := run_part_rel hv hr
          refine StepOk.value S (v' := v') ?_ (.inr hrel)
          simp [Instr.index, asIntOf, run_underlying ht, hn, run_sizeOf hinf, hrun]
        · cases h
      · cases h
    · cases h
  · cases h

def aIndexAddr (P : Program) (H : AH) (t : TypeId) (x i : Value) : Option AStep :=
  match x, i with
  | .slice (some ⟨b, o, none⟩) len e, .int _ n =>
    match P.underlying t with
    | some (.slice elem) =>
      match P.info? elem with
      | some inf => if 0 ≤ n ∧ n < len ∧ inf.size = e then some (.val (.pointer (some ⟨b, o + n.toNat * e, none⟩)) H) else none
      | none => none
    | _ => none
  | .pointer (some ⟨b, o, none⟩), .int _ n =>
    match P.underlying t with
    | some (.array len elem) =>
      match P.info? elem with
      | some inf => if 0 ≤ n ∧ n < len then some (.val (.pointer (some ⟨b, o + n.toNat * inf.size, none⟩)) H) else none
      | none => none
    | _ => none
  | _, _ => none

theorem aIndexAddr_ok {t : TypeId} {x x' i i' : Value} {st : AStep} (h : aIndexAddr P H t x i = some st) (S : Sim J F H w) (hx : ORel J w x x') (hi : ORel J w i i') :
    StepOk P J F H w ((do pure (Next.value (← Instr.indexAt t x' i')) : Sem Next).run P w) st := by
  unfold aIndexAddr at h
  split at h
  · rename_i b o len e k n
    rw [(hi.known (by simp [unk])).int_inv]
    split at h
    · rename_i elem ht
      split at h
      · rename_i inf hinf
        split at h
        · rename_i hn
          obtain ⟨hn0, hn1, rfl⟩ := hn
          cases h
          have hx' := hx.known (by simp [unk])
          cases hx' with
          | slice hj hc hrow =>
            rename_i r off c
            refine StepOk.value S (v' := .pointer (some ⟨r, off + (o + n.toNat * inf.size), none⟩)) ?_ (.inr (.ptr hj))
            simp [Instr.indexAt, asIntOf, run_underlying ht, run_sizeOf hinf, hn0, hn1, Addr.add_lit, Nat.add_assoc]
          | slice0 hj => simp at hn1; omega
        · cases h
      · cases h
    · cases h
  · rename_i b o k n
    rw [(hi.known (by simp [unk])).int_inv]
    split at h
    · rename_i len elem ht
      split at h
      · rename_i inf hinf
        split at h
        · rename_i hn
          cases h
          obtain ⟨r, off, hj, rfl⟩ := (hx.known (by simp [unk])).ptr_inv
          refine StepOk.value S (v' := .pointer (some ⟨r, off + (o + n.toNat * inf.size), none⟩)) ?_ (.inr (.ptr hj))
          simp [Instr.indexAt, asIntOf, run_underlying ht, run_sizeOf hinf, hn, Addr.add_lit, Nat.add_assoc, Instr.sureAddr]
        · cases h
      · cases h
    · cases h
  · cases h

end
end Go.Abs

/-
  One operation over the abstract heap: slices, structs that are built, makes, assertions.
-/
set_option linter.unusedSimpArgs false
set_option linter.unusedVariables false
namespace Go.Abs
open Go.RowKit

section
variable {P : Program} {J : Inj} {F : Nat → Nat → Prop} {H : AH} {w : World} {A : List Value} {a : Act}

/-- A bound of a slice expression: given, or not. -/
def aBound (d : Nat) : Option Value → Option Nat
  | none => some d
  | some (.int _ n) => if 0 ≤ n then some n.toNat else none
  | _ => none

def aSlice (P : Program) (H : AH) (t : TypeId) (x : Value) (lo hi mx : Option Value) : Option AStep :=
  match x with
  | .string s => if lo.all closed && hi.all closed && mx.all closed then aPure P H (Instr.sliceAt t (.string s) lo hi mx) else none
  | .slice none 0 0 =>
    match P.underlying t, lo, hi, mx with
    | some (.slice elem), none, none, none => if (P.info? elem).isSome then some (.val (.slice none 0 0) H) else none
    | _, _, _, _ => none
  | .slice (some ⟨b, o, none⟩) len e =>
    match P.underlying t with
    | some (.slice elem) =>
      match P.info? elem, aBound 0 lo, aBound len hi, aBound len mx with
      | some inf, some l, some h, some m => if l ≤ h ∧ h ≤ m ∧ m ≤ len ∧ inf.size = e ∧ (mx.isSome = true → hi.isSome = true) then some (.val (.slice (some ⟨b, o + l * e, none⟩) (h - l) e) H) else none
      | _, _, _, _ => none
    | _ => none
  | .pointer (some ⟨b, o, none⟩) =>
    match P.underlying t, mx with
    | some (.array n elem), none =>
      match P.info? elem, aBound 0 lo, aBound n hi, H b with
      | some inf, some l, some h, some (.cells _ cs) => if l ≤ h ∧ h ≤ n ∧ o + n * inf.size ≤ cs.length then some (.val (.slice (some ⟨b, o + l * inf.size, none⟩) (h - l) inf.size) H) else none
      | _, _, _, _ => none
    | _, _ => none
  | _ => none

theorem run_sliceBound {k : IntKind} {n : Int} {y : Nat} {c : BoundsCode} (h0 : 0 ≤ n) (h : n.toNat ≤ y) (w : World) : (Instr.sliceBound (.int k n) y c).run P w = .ok n.toNat w := by
  have : 0 ≤ n ∧ n ≤ (y : Int) := ⟨h0, by omega⟩
  simp [Instr.sliceBound, asIntOf, this]

theorem aBound_cases {d m : Nat} {v : Option Value} (h : aBound d v = some m) : (v = none ∧ m = d) ∨ ∃ k n, v = some (.int k n) ∧ 0 ≤ n ∧ m = n.toNat := by
  unfold aBound at h
  split at h
  · cases h; exact .inl ⟨rfl, rfl⟩
  · split at h
    · rename_i k n hn; cases h; exact .inr ⟨k, n, rfl, hn, rfl⟩
    · cases h
  · cases h

theorem run_sliceBounds {isSlice : Bool} {len cap l h m : Nat} {lo hi mx : Option Value} (hl : aBound 0 lo = some l) (hh : aBound len hi = some h) (hm : aBound len mx = some m)
    (h1 : l ≤ h) (h2 : h ≤ m) (h3 : m ≤ len) (h4 : len ≤ cap) (h5 : mx.isSome = true → hi.isSome = true) (w : World) :
    (Instr.sliceBounds isSlice len cap lo hi mx).run P w = .ok (l, h, if mx.isSome then m else cap) w := by
  unfold Instr.sliceBounds
  rcases aBound_cases hm with ⟨rfl, rfl⟩ | ⟨km, nm, rfl, hm0, rfl⟩
  · rcases aBound_cases hh with ⟨rfl, rfl⟩ | ⟨kh, nh, rfl, hh0, rfl⟩
    · rcases aBound_cases hl with ⟨rfl, rfl⟩ | ⟨kl, nl, rfl, hl0, rfl⟩
      · simp
      · simp [run_sliceBound hl0 h1]
    · rcases aBound_cases hl with ⟨rfl, rfl⟩ | ⟨kl, nl, rfl, hl0, rfl⟩
      · simp [run_sliceBound hh0 (show nh.toNat ≤ cap by omega)]
      · simp [run_sliceBound hh0 (show nh.toNat ≤ cap by omega), run_sliceBound hl0 h1]
  · rcases aBound_cases hh with ⟨rfl, rfl⟩ | ⟨kh, nh, rfl, hh0, rfl⟩
    · simp at h5
    · rcases aBound_cases hl with ⟨rfl, rfl⟩ | ⟨kl, nl, rfl, hl0, rfl⟩
      · simp [run_sliceBound hm0 (show nm.toNat ≤ cap by omega), run_sliceBound hh0 h2]
      · simp [run_sliceBound hm0 (show nm.toNat ≤ cap by omega), run_sliceBound hh0 h2, run_sliceBound hl0 h1]

theorem bound_rel {d m : Nat} {x : Option Operand} (hA : FRel J w A a.tmps) (h : aBound d (x.map (aev A)) = some m) : x.map a.eval = x.map (aev A) := by
  cases x with
  | none => rfl
  | some x =>
    rcases aBound_cases h with ⟨e, _⟩ | ⟨k, n, e, _⟩
    · cases e
    · simp at e
      have := (hA.ev x).known (by rw [e]; simp [unk])
      rw [e] at this
      simp [e, this.int_inv]

theorem closed_rel {x : Option Operand} (hA : FRel J w A a.tmps) (h : (x.map (aev A)).all closed = true) : x.map a.eval = x.map (aev A) := by
  cases x with
  | none => rfl
  | some x => simp at h; simp [ev_closed hA h]

theorem aSlice_ok {t : TypeId} {x x' : Value} {lo hi mx : Option Operand} {st : AStep} (h : aSlice P H t x (lo.map (aev A)) (hi.map (aev A)) (mx.map (aev A)) = some st) (S : Sim J F H w)
    (hA : FRel J w A a.tmps) (hx : ORel J w x x') :
    StepOk P J F H w ((do pure (Next.value (← Instr.sliceAt t x' (lo.map a.eval) (hi.map a.eval) (mx.map a.eval))) : Sem Next).run P w) st := by
  unfold aSlice at h
  split at h
  · split at h
    · rename_i s hc
      simp only [Bool.and_eq_true] at hc
      rw [(hx.known (by simp [unk])).string_inv, closed_rel hA hc.1.1, closed_rel hA hc.1.2, closed_rel hA hc.2]
      exact aPure_ok h S
    · cases h
  · split at h
    · rename_i elem ht e1 e2 e3
      split at h
      · rename_i hsome
        cases h
        obtain ⟨inf, hinf⟩ := Option.isSome_iff_exists.1 hsome
        have n1 : lo.map a.eval = none := by cases lo <;> simp at e1 ⊢
        have n2 : hi.map a.eval = none := by cases hi <;> simp at e2 ⊢
        have n3 : mx.map a.eval = none := by cases mx <;> simp at e3 ⊢
        have hx' := hx.known (by simp [unk])
        have ex : x' = .slice none 0 0 := by cases hx'; rfl
        rw [n1, n2, n3, ex]
        refine StepOk.value S (v' := .slice none 0 0) ?_ (.inr .nilSlice)
        simp [Instr.sliceAt, Instr.slice, Instr.sliceBounds, run_underlying ht, run_sizeOf hinf]
      · cases h
    · cases h
  · rename_i b o len e
    split at h
    · rename_i elem ht
      split at h
      · rename_i inf l hh m hinf hl hhi hm
        split at h
        · rename_i hc
          obtain ⟨c1, c2, c3, rfl, c5⟩ := hc
          cases h
          have hx' := hx.known (by simp [unk])
          have b1 := bound_rel hA hl
          have b2 := bound_rel hA hhi
          have b3 := bound_rel hA hm
          rw [b1, b2, b3]
          cases hx' with
          | slice hj hn hrow =>
            rename_i r off c
            have hb := run_sliceBounds (P := P) (isSlice := true) (len := len) (cap := c) hl hhi hm c1 c2 c3 hn c5 w
            have hrun : ∀ M, M = (if (mx.map (aev A)).isSome then m else c) → (Instr.sliceAt t (.slice (some ⟨r, off + o, none⟩) len c) (lo.map (aev A)) (hi.map (aev A)) (mx.map (aev A))).run P w =
                .ok (.slice (if M = l then some ⟨r, off + o, none⟩ else some ⟨r, off + o + l * inf.size, none⟩) (hh - l) (M - l)) w := by
              intro M hM
              simp only [Instr.sliceAt, Instr.slice, Sem.run_bind, run_underlying ht, Result.andThen_ok, hb, run_sizeOf hinf, Sem.run_pure, ← hM]
              split <;> simp [Addr.add_lit]
            have hMb : m ≤ (if (mx.map (aev A)).isSome then m else c) ∧ (if (mx.map (aev A)).isSome then m else c) ≤ c := by split <;> omega
            generalize hM : (if (mx.map (aev A)).isSome then m else c) = M at hMb hrun
            have hrun := hrun M rfl
            refine StepOk.value S (v' := .slice (if M = l then some ⟨r, off + o, none⟩ else some ⟨r, off + o + l * inf.size, none⟩) (hh - l) (M - l)) (by rw [Sem.run_bind, hrun]; rfl) (.inr ?_)
            by_cases e : M = l
            · rw [if_pos e]
              have : hh - l = 0 := by omega
              rw [this, show M - l = 0 by omega]
              exact .slice0 hj
            · rw [if_neg e]
              have := VRel.slice (w := w) (i := o + l * inf.size) (n := hh - l) (e := inf.size) (c := M - l) hj (by omega) (hrow.mono (by
                have h1 : l * inf.size + (M - l) * inf.size = M * inf.size := by rw [← Nat.add_mul]; congr 1; omega
                have h2 : M * inf.size ≤ c * inf.size := Nat.mul_le_mul_right _ hMb.2
                omega))
              simpa [Nat.add_assoc] using this
          | slice0 hj =>
            rename_i r off j
            have hb := run_sliceBounds (P := P) (isSlice := true) (len := 0) (cap := 0) hl hhi hm c1 c2 c3 (Nat.le_refl 0) c5 w
            have l0 : l = 0 := by omega
            have h0 : hh = 0 := by omega
            have m0 : m = 0 := by omega
            subst l0; subst h0; subst m0
            refine StepOk.value S (v' := .slice (some ⟨r, j, none⟩) 0 0) ?_ (.inr ?_)
            · simp only [Instr.sliceAt, Instr.slice, Sem.run_bind, run_underlying ht, Result.andThen_ok, hb, run_sizeOf hinf, Sem.run_pure]
              split <;> simp
            · exact .slice0 hj
        · cases h
      · cases h
    · cases h
  · rename_i b o
    split at h
    · rename_i n elem ht emx
      split at h
      · rename_i inf l hh ro cs hinf hl hhi hH
        split at h
        · rename_i hc
          obtain ⟨c1, c2, c3⟩ := hc
          cases h
          obtain ⟨r, off, hj, rfl⟩ := (hx.known (by simp [unk])).ptr_inv
          have b1 := bound_rel hA hl
          have b2 := bound_rel hA hhi
          have b3 : mx.map a.eval = mx.map (aev A) := by cases mx <;> simp at emx ⊢
          rw [b1, b2, b3, emx]
          have hb := run_sliceBounds (P := P) (isSlice := false) (len := n) (cap := n) (mx := none) hl hhi (show aBound n none = some n from rfl) c1 (show hh ≤ n from c2) (Nat.le_refl n) (Nat.le_refl n) (by simp) w
          simp only [Option.isSome_none, Bool.false_eq_true, if_false] at hb
          obtain ⟨r', off', cc, T, fr, e1, e2, e3, e4, e5, e6⟩ := S.obj b _ hH
          rw [hj] at e1; cases e1
          refine StepOk.value S (v' := .slice (if n = l then some ⟨r, off + o, none⟩ else some ⟨r, off + o + l * inf.size, none⟩) (hh - l) (n - l)) ?_ (.inr ?_)
          · simp only [Instr.sliceAt, Instr.sureAddr, Sem.run_bind, run_underlying ht, Result.andThen_ok, hb, run_sizeOf hinf, Sem.run_pure]
            split <;> simp [Addr.add_lit]
          · by_cases e : n = l
            · rw [if_pos e, show hh - l = 0 by omega, show n - l = 0 by omega]
              exact .slice0 hj
            · rw [if_neg e]
              have := VRel.slice (w := w) (i := o + l * inf.size) (n := hh - l) (e := inf.size) (c := n - l) hj (by omega) ⟨cc, T, fr, e3, by
                have h1 : l * inf.size + (n - l) * inf.size = n * inf.size := by rw [← Nat.add_mul]; congr 1; omega
                omega⟩
              simpa [Nat.add_assoc] using this
        · cases h
      · cases h
    · cases h
  · cases h

/-- Parts fill a row. -/
theorem fill_rel {place : Nat → Option (Nat × Nat)} : ∀ (ps ps' : List (Nat × Value)) (cs cs' : Array Value) {out : Array Value}, Instr.fill place cs ps = some out →
    VRels J w cs.toList cs'.toList → ps.map (·.1) = ps'.map (·.1) → VRels J w (ps.map (·.2)) (ps'.map (·.2)) → ∃ out', Instr.fill place cs' ps' = some out' ∧ VRels J w out.toList out'.toList := by
  intro ps
  induction ps with
  | nil =>
    intro ps' cs cs' out h hc hi hv
    cases ps' with
    | nil => simp [Instr.fill] at h ⊢; subst h; exact hc
    | cons p ps' => simp at hi
  | cons p ps ih =>
    intro ps' cs cs' out h hc hi hv
    cases ps' with
    | nil => simp at hi
    | cons p' ps' =>
      obtain ⟨i, v⟩ := p
      obtain ⟨i', v'⟩ := p'
      simp at hi
      obtain ⟨rfl, hi⟩ := hi
      simp at hv
      obtain ⟨v'', t', e, hv1, hv2⟩ := hv.cons_inv
      cases e
      simp only [Instr.fill] at h ⊢
      have hsz := hc.1
      simp at hsz
      have hcell := hv1.cells
      have hcs : v.cells.size = v'.cells.size := by simpa using hcell.1
      cases hp : place i with
      | none => rw [hp] at h; cases h
      | some q =>
        obtain ⟨off, size⟩ := q
        simp only [hp] at h ⊢
        split at h
        · cases h
        · rename_i hcond
          rw [if_neg (by rw [← hcs, ← hsz]; exact hcond)]
          refine ih ps' _ _ h ?_ hi hv2
          have key : ∀ (l l' : List Value) (k : Nat) (c c' : Array Value), VRels J w l l' → VRels J w c.toList c'.toList →
              VRels J w ((l.zipIdx k).foldl (fun cs (c, j) => cs.setIfInBounds (off + j) c) c).toList ((l'.zipIdx k).foldl (fun cs (c, j) => cs.setIfInBounds (off + j) c) c').toList := by
            intro l
            induction l with
            | nil => intro l' k c c' hl hcc; rw [hl.nil_inv]; exact hcc
            | cons u l ihl =>
              intro l' k c c' hl hcc
              obtain ⟨u', t', rfl, hu, ht⟩ := hl.cons_inv
              simp only [List.zipIdx_cons, List.foldl_cons]
              refine ihl t' (k + 1) _ _ ht ?_
              simpa [Array.toList_setIfInBounds] using hcc.set (off + k) hu
          have := key v.cells.toList v'.cells.toList 0 cs cs' hcell hc
          have e : ∀ (x c : Array Value), x.zipIdx.foldl (fun cs (c, j) => cs.setIfInBounds (off + j) c) c = (x.toList.zipIdx 0).foldl (fun cs (c, j) => cs.setIfInBounds (off + j) c) c := by
            intro x c; rw [← Array.foldl_toList]; simp
          rw [e, e]
          exact this

theorem parts_rel {ps : Array (Nat × Operand)} (hA : FRel J w A a.tmps) (h : (ps.toList.map fun p => aev A p.2).all known = true) :
    (ps.toList.map fun p => (p.1, aev A p.2)).map (·.1) = (ps.map fun (i, x) => (i, a.eval x)).toList.map (·.1) ∧
    VRels J w ((ps.toList.map fun p => (p.1, aev A p.2)).map (·.2)) ((ps.map fun (i, x) => (i, a.eval x)).toList.map (·.2)) := by
  constructor
  · simp
  · have := rel_map (xs := ps.toList.map (·.2)) hA (by simpa using h)
    simpa [Function.comp_def] using this

def aBuildCells (P : Program) (t : TypeId) (ps : List (Nat × Value)) : Option (Array Value) :=
  match P.underlying t, (P.info? t).bind (·.zero) with
  | some (.struct fs), some z =>
    match prun P (fs.mapM fun f => do pure (f.offset, ← sizeOf f.type)) with
    | some places => if z.cells.toList.all closed then Instr.fill (places[·]?) z.cells ps else none
    | none => none
  | some (.array _ elem), some z =>
    match P.info? elem with
    | some inf => if z.cells.toList.all closed then Instr.fill (fun i => some (i * inf.size, inf.size)) z.cells ps else none
    | none => none
  | _, _ => none

def aBuild (P : Program) (H : AH) (t : TypeId) (ps : List (Nat × Value)) : Option AStep :=
  if ps.all fun p => known p.2 then (aBuildCells P t ps).map fun c => .val (.agg c) H else none

theorem aBuild_ok {t : TypeId} {ps : Array (Nat × Operand)} {st : AStep} (h : aBuild P H t (ps.toList.map fun p => (p.1, aev A p.2)) = some st) (S : Sim J F H w) (hA : FRel J w A a.tmps) :
    StepOk P J F H w ((do pure (Next.value (← Instr.build t (ps.map fun (i, x) => (i, a.eval x)))) : Sem Next).run P w) st := by
  unfold aBuild at h
  split at h
  · rename_i hk
    obtain ⟨hp1, hp2⟩ := parts_rel (ps := ps) hA (by simpa [List.all_map] using hk)
    simp only [Option.map_eq_some_iff] at h
    obtain ⟨c, hc, rfl⟩ := h
    unfold aBuildCells at hc
    have zself : ∀ {z : Value}, z.cells.toList.all closed = true → VRels J w z.cells.toList z.cells.toList := fun hz => VRels.self fun v hv => closed_self ((List.all_eq_true.1 hz) v hv)
    have zrun : ∀ {z : Value}, (P.info? t).bind (·.zero) = some z → (zeroValue t).run P w = .ok z w := by
      intro z hz
      cases hi : P.info? t with
      | none => simp [hi] at hz
      | some inf => exact run_zeroValue' hi (by simpa [hi] using hz) w
    split at hc
    · rename_i fs z ht hz
      split at hc
      · rename_i places hpl
        split at hc
        · rename_i hzc
          obtain ⟨out', e, hr⟩ := fill_rel _ _ _ _ hc (zself hzc) hp1 hp2
          refine StepOk.value S (v' := .agg out') ?_ (.inr (by simpa using VRel.aggs hr))
          have hrp := prun_run _ hpl w
          simp only [Instr.build, Sem.run_bind, zrun hz, Result.andThen_ok, run_underlying ht, hrp, e, Sem.run_pure]
        · cases hc
      · cases hc
    · rename_i n elem z ht hz
      split at hc
      · rename_i inf hinf
        split at hc
        · rename_i hzc
          obtain ⟨out', e, hr⟩ := fill_rel _ _ _ _ hc (zself hzc) hp1 hp2
          refine StepOk.value S (v' := .agg out') ?_ (.inr (by simpa using VRel.aggs hr))
          simp only [Instr.build, Sem.run_bind, zrun hz, Result.andThen_ok, run_underlying ht, run_sizeOf hinf, e, Sem.run_pure]
        · cases hc
      · cases hc
    · cases hc
  · cases h

def aBuildSlice (P : Program) (H : AH) (t : TypeId) (len : Nat) (ps : List (Nat × Value)) : Option AStep :=
  match P.underlying t with
  | some (.slice elem) =>
    match P.info? elem with
    | some inf =>
      match inf.zero with
      | some z =>
        if (ps.all fun p => known p.2) = true ∧ z.cells.toList.all closed = true ∧ 0 < len * inf.size ∧ len * inf.size ≤ 16777216 ∧ z.cells.size ≠ 0 then
          match Instr.fill (fun i => some (i * inf.size, inf.size)) ((Array.range (len * inf.size)).map (z.cells[· % z.cells.size]!)) ps with
          | some c => if c.size = len * inf.size then some (.new H (.cells false c.toList) fun b => .slice (some ⟨b, 0, none⟩) len inf.size) else none
          | none => none
        else if len = 0 ∧ ps = [] then some (.new H (.cells false []) fun b => .slice (some ⟨b, 0, none⟩) 0 inf.size) else none
      | none => none
    | none => none
  | _ => none

theorem aBuildSlice_ok {t : TypeId} {len : Nat} {ps : Array (Nat × Operand)} {st : AStep} (h : aBuildSlice P H t len (ps.toList.map fun p => (p.1, aev A p.2)) = some st) (S : Sim J F H w) (hA : FRel J w A a.tmps) :
    StepOk P J F H w ((do pure (Next.value (← Instr.buildSlice t len (ps.map fun (i, x) => (i, a.eval x)))) : Sem Next).run P w) st := by
  unfold aBuildSlice at h
  split at h
  · rename_i elem ht
    split at h
    · rename_i inf hinf
      split at h
      · rename_i z hz
        split at h
        · rename_i hc
          obtain ⟨hk, hzc, hpos, hmax, hzs⟩ := hc
          obtain ⟨hp1, hp2⟩ := parts_rel (ps := ps) hA (by simpa [List.all_map] using hk)
          split at h
          · rename_i c hfill
            split at h
            · rename_i hsz
              cases h
              have hz0 : VRels J w ((Array.range (len * inf.size)).map (z.cells[· % z.cells.size]!)).toList ((Array.range (len * inf.size)).map (z.cells[· % z.cells.size]!)).toList := by
                refine VRels.self fun v hv => closed_self ((List.all_eq_true.1 hzc) v ?_)
                simp at hv
                obtain ⟨k, _, rfl⟩ := hv
                have hlt : k % z.cells.size < z.cells.size := Nat.mod_lt _ (by omega)
                simp [hlt]
              obtain ⟨out', e, hr⟩ := fill_rel _ _ _ _ hfill hz0 hp1 hp2
              have hos : out'.size = len * inf.size := by rw [← hsz]; have := hr.1; simpa using this.symm
              refine newRow_ok S hr elem [] (v' := .slice (some ⟨w.heap.size, 0, none⟩) len len) ?_ fun b => ?_
              · have n0 : ¬ len * inf.size = 0 := by omega
                have n1 : ¬ len * inf.size > 2 ^ 24 := by omega
                simp only [Instr.buildSlice, Sem.run_bind, run_underlying ht, Result.andThen_ok, run_sizeOf hinf, if_neg n1, if_neg n0, Sem.run_ite, run_zeroValue' hinf hz, Sem.run_pure, e]
                simp [newRow]
              · refine VRel.slice (r := w.heap.size) (o := 0) (i := 0) (Inj.put_same J b _) (Nat.le_refl _) ⟨_, elem, (0, 0), heap_alloc_same w _, ?_⟩
                simp [hos]
            · cases h
          · cases h
        · split at h
          · rename_i hc
            obtain ⟨rfl, hps⟩ := hc
            cases h
            have hps' : ps = #[] := by
              have : ps.toList = [] := by simpa using hps
              simpa using this
            subst hps'
            refine newRow_ok S (cs := []) (cs' := []) .nil elem [] (v' := .slice (some ⟨w.heap.size, 0, none⟩) 0 0) ?_ fun b => ?_
            · simp [Instr.buildSlice, run_underlying ht, run_sizeOf hinf, Instr.fill, newRow]
              rw [show Array.range 0 = #[] from Array.eq_empty_of_size_eq_zero (by simp)]
              simp
            · exact .slice0 (r := w.heap.size) (o := 0) (Inj.put_same J b _)
          · cases h
      · cases h
    · cases h
  · cases h

end
end Go.Abs

/-
  One operation over the abstract heap: append, make, clear, len; assertions; a string gone through.
-/
set_option linter.unusedSimpArgs false
set_option linter.unusedVariables false
namespace Go.Abs
open Go.RowKit

/-- n elements of zero. -/
def aZeros (z : List Value) (n : Nat) : List Value :=
  match z with
  | [v] => List.replicate n v
  | z => (List.replicate n z).flatten

theorem aZeros_eq (z : List Value) (n : Nat) : aZeros z n = (List.replicate n z).flatten := by
  unfold aZeros
  split
  · rename_i v
    induction n with
    | zero => rfl
    | succ n ih => simp only [List.replicate_succ, List.flatten_cons, ih, List.singleton_append]
  · rfl

theorem zeroCells_eq (z : Array Value) (n : Nat) : (Builtin.zeroCells z n).toList = aZeros z.toList n := by
  rw [aZeros_eq]
  unfold Builtin.zeroCells
  rw [Array.toList_map, Array.toList_range]
  rcases Nat.eq_zero_or_pos z.size with h0 | hpos
  · have : z = #[] := Array.eq_empty_of_size_eq_zero h0
    subst this
    induction n with
    | zero => rfl
    | succ n ih => simp [List.replicate_succ] at ih ⊢
  · induction n with
    | zero => simp
    | succ n ih =>
      rw [List.replicate_succ', List.flatten_append, ← ih, Nat.succ_mul, List.range_add, List.map_append]
      congr 1
      simp only [List.flatten_cons, List.flatten_nil, List.append_nil, List.map_map]
      apply List.ext_getElem?
      intro i
      simp only [List.getElem?_map, Array.getElem?_toList]
      by_cases hi : i < z.size
      · rw [List.getElem?_range hi]
        simp only [Option.map_some, Function.comp]
        rw [Nat.add_comm, Nat.add_mul_mod_self_right, Nat.mod_eq_of_lt hi]
        simp [hi]
      · rw [List.getElem?_eq_none (by simpa using hi)]
        simp [hi]

theorem size_zeroCells' (z : Array Value) (n : Nat) : (Builtin.zeroCells z n).size = n * z.size := by simp [Builtin.zeroCells]

section
variable {P : Program} {J : Inj} {F : Nat → Nat → Prop} {H : AH} {w : World} {A : List Value} {a : Act}

def aMakeSlice (P : Program) (H : AH) (t : TypeId) (l c : Value) : Option AStep :=
  match P.underlying t, l, c with
  | some (.slice elem), .int .i64 n, .int .i64 m =>
    match P.info? elem with
    | some inf =>
      match inf.zero with
      | some z =>
        if 0 ≤ n ∧ n ≤ m ∧ m * inf.bytes ≤ 140737488355328 ∧ 0 < inf.bytes ∧ z.cells.size = inf.size ∧ z.cells.toList.all closed = true then
          some (.new H (.cells false (aZeros z.cells.toList n.toNat)) fun b => .slice (some ⟨b, 0, none⟩) n.toNat inf.size)
        else none
      | none => none
    | none => none
  | _, _, _ => none

theorem aZeros_closed {z : List Value} {n : Nat} (h : z.all closed = true) : VRels J w (aZeros z n) (aZeros z n) := by
  rw [aZeros_eq]
  refine VRels.self fun v hv => closed_self ?_
  simp only [List.mem_flatten, List.mem_replicate] at hv
  obtain ⟨l, ⟨_, rfl⟩, hv⟩ := hv
  exact (List.all_eq_true.1 h) v hv

theorem aZeros_length (z : List Value) (n : Nat) : (aZeros z n).length = n * z.length := by
  rw [aZeros_eq]; simp

theorem aZeros_add (z : List Value) (n m : Nat) : aZeros z (n + m) = aZeros z n ++ aZeros z m := by
  rw [aZeros_eq, aZeros_eq, aZeros_eq, ← List.replicate_append_replicate, List.flatten_append]

theorem wrap64_small {n : Int} (h0 : 0 ≤ n) (h : n ≤ 9223372036854775807) : IntKind.i64.wrap n = n := IntWalk.i64_in n ⟨by omega, by omega⟩

theorem aMakeSlice_ok {t : TypeId} {l l' c c' : Value} {st : AStep} (h : aMakeSlice P H t l c = some st) (S : Sim J F H w) (hl : ORel J w l l') (hc : ORel J w c c') :
    StepOk P J F H w ((do pure (Next.value (← Instr.makeSlice t l' c')) : Sem Next).run P w) st := by
  unfold aMakeSlice at h
  split at h
  · rename_i elem n m ht
    rw [(hl.known (by simp [unk])).int_inv, (hc.known (by simp [unk])).int_inv]
    split at h
    · rename_i inf hinf
      split at h
      · rename_i z hz
        split at h
        · rename_i hcond
          obtain ⟨h0, h1, h2, h3, h4, h5⟩ := hcond
          cases h
          have hm : m ≤ 140737488355328 := by
            have : m * 1 ≤ m * (inf.bytes : Int) := Int.mul_le_mul_of_nonneg_left (by omega) (by omega)
            omega
          have hm0 : (0 : Int) ≤ m := by omega
          have wn : IntKind.i64.wrap n = n := wrap64_small h0 (by omega)
          have wm : IntKind.i64.wrap m = m := wrap64_small hm0 (by omega)
          have e1 : (Array.range (m.toNat * inf.size)).map (fun x => z.cells[x % z.cells.size]!) = Builtin.zeroCells z.cells m.toNat := by
            unfold Builtin.zeroCells; rw [h4]
          have hsz : m.toNat = n.toNat + (m.toNat - n.toNat) := by omega
          have e2 : Builtin.zeroCells z.cells m.toNat = (aZeros z.cells.toList n.toNat ++ aZeros z.cells.toList (m.toNat - n.toNat)).toArray := by
            apply Array.ext'
            rw [zeroCells_eq, List.toList_toArray, ← aZeros_add, ← hsz]
          refine newRow_ok S (aZeros_closed h5) elem (aZeros z.cells.toList (m.toNat - n.toNat)) (v' := .slice (some ⟨w.heap.size, 0, none⟩) n.toNat m.toNat) ?_ fun b => ?_
          · have c1 : ¬ (m < 0 ∨ (281474976710656 : Int) < (inf.bytes : Int) * m) := by
              rw [Int.mul_comm]; omega
            have c2 : ¬ ((m < 0 ∨ (281474976710656 : Int) < (inf.bytes : Int) * m) ∨ n < 0 ∨ m < n) := by
              rintro (g | g | g)
              · exact c1 g
              · omega
              · omega
            by_cases hn0 : m.toNat * inf.size = 0
            · have e3 : (#[] : Array Value) = (aZeros z.cells.toList n.toNat ++ aZeros z.cells.toList (m.toNat - n.toNat)).toArray := by
                rw [← e2, ← e1, hn0]; exact (Array.eq_empty_of_size_eq_zero (by simp)).symm
              have c3 : ¬ (((m < 0 ∨ (281474976710656 : Int) < (inf.bytes : Int) * m) ∨ n < 0) ∨ m < n) := by
                rintro ((g | g) | g)
                · exact c1 g
                · omega
                · omega
              simp [Instr.makeSlice, run_underlying ht, asInt, asIntOf, typeInfo, hinf, wn, wm, c3, run_sizeOf hinf, hn0, newRow]
              rw [show Array.range 0 = #[] from Array.eq_empty_of_size_eq_zero (by simp)]
              simp only [Array.map_empty]
              rw [e3]
            · have c3 : ¬ (((m < 0 ∨ (281474976710656 : Int) < (inf.bytes : Int) * m) ∨ n < 0) ∨ m < n) := by
                rintro ((g | g) | g)
                · exact c1 g
                · omega
                · omega
              have hn1 : ¬ (m.toNat = 0 ∨ inf.size = 0) := by
                rintro (g | g) <;> simp [g] at hn0
              have := e1.trans e2
              simp [Instr.makeSlice, run_underlying ht, asInt, asIntOf, typeInfo, hinf, wn, wm, c3, run_sizeOf hinf, run_zeroValue' hinf hz, newRow, hn0]
              rw [this]
          · refine VRel.slice (r := w.heap.size) (o := 0) (i := 0) (Inj.put_same J b _) (by omega) ⟨_, elem, (0, 0), heap_alloc_same w _, ?_⟩
            simp only [List.size_toArray, List.length_append, aZeros_length, Array.length_toList, h4]
            rw [← Nat.add_mul, ← hsz]; omega
        · cases h
      · cases h
    · cases h
  · cases h

def aMakeMap (P : Program) (H : AH) (t : TypeId) (r : Option Value) : Option AStep :=
  match r with
  | none => some (.new H (.map []) fun b => .map (some b))
  | some (.int _ _) =>
    match P.underlying t with
    | some (.map _ _) => some (.new H (.map []) fun b => .map (some b))
    | _ => none
  | _ => none

theorem new_map_ok (S : Sim J F H w) {nx : Result Next} (hn : nx = .ok (.value (.map (some w.heap.size))) (w.alloc (.map #[] 0))) : StepOk P J F H w nx (.new H (.map []) fun b => .map (some b)) := by
  obtain ⟨b, hb, hH⟩ := S.fresh
  obtain ⟨F', S', E'⟩ := S.new hb hH (.map #[] 0) (.map []) ⟨w.heap.size, #[], 0, Inj.put_same J b _, fun _ => Iff.rfl, heap_alloc_same w _, ⟨.nil, .nil⟩, by simp, by simp⟩
  exact ⟨b, _, _, _, F', hH, hn, S', E', .map (Inj.put_same J b _)⟩

theorem aMakeMap_ok {t : TypeId} {r : Option Operand} {st : AStep} (h : aMakeMap P H t (r.map (aev A)) = some st) (S : Sim J F H w) (hA : FRel J w A a.tmps) :
    StepOk P J F H w ((do pure (Next.value (← Instr.makeMap t (r.map a.eval))) : Sem Next).run P w) st := by
  unfold aMakeMap at h
  split at h
  · rename_i e
    cases h
    have : r.map a.eval = none := by cases r <;> simp at e ⊢
    rw [this]
    exact new_map_ok S (by simp [Instr.makeMap])
  · rename_i k n e
    split at h
    · rename_i kt et ht
      cases h
      have : r.map a.eval = some (.int k n) := by
        cases r with
        | none => simp at e
        | some x =>
          simp at e
          have := (hA.ev x).known (by rw [e]; simp [unk])
          rw [e] at this
          simp [this.int_inv]
      rw [this]
      exact new_map_ok S (by simp [Instr.makeMap, run_underlying ht, asInt, asIntOf])
    · cases h
  · cases h

def aLen (P : Program) (H : AH) (t : TypeId) (x : Value) : Option AStep :=
  match P.underlying t, x with
  | some .string, .string s => some (.val (goInt s.size) H)
  | some (.array n _), _ => some (.val (goInt n) H)
  | some (.slice _), .slice none 0 0 => some (.val (goInt 0) H)
  | some (.slice _), .slice (some ⟨_, _, none⟩) n _ => some (.val (goInt n) H)
  | some (.map _ _), .map none => some (.val (goInt 0) H)
  | some (.map _ _), .map (some r) => match H r with
    | some (.map es) => some (.val (goInt es.length) H)
    | _ => none
  | some (.pointer arr), .pointer _ => match P.underlying arr with
    | some (.array n _) => some (.val (goInt n) H)
    | _ => none
  | _, _ => none

theorem aLen_ok {t ty : TypeId} {x x' : Value} {st : AStep} (h : aLen P H t x = some st) (S : Sim J F H w) (hx : ORel J w x x') :
    StepOk P J F H w ((do pure (Next.value (← Builtin.len_ #[t] ty #[x'])) : Sem Next).run P w) st := by
  have fin : ∀ {n : Int} {st : AStep}, some (AStep.val (goInt n) H) = some st → (Builtin.len_ #[t] ty #[x']).run P w = .ok (goInt n) w →
      StepOk P J F H w ((do pure (Next.value (← Builtin.len_ #[t] ty #[x'])) : Sem Next).run P w) st := by
    intro n st e hr
    cases e
    exact StepOk.value S (v' := goInt n) (by rw [Sem.run_bind, hr]; rfl) (.inr (.int _ _))
  unfold aLen at h
  split at h
  · rename_i s ht
    rw [(hx.known (by simp [unk])).string_inv] at fin ⊢
    exact fin h (by simp [Builtin.len_, run_underlying ht])
  · rename_i n e _ ht
    exact fin h (by simp only [Builtin.len_, List.getElem?_toArray, List.getElem?_cons_zero, Sem.run_bind, run_underlying ht, Result.andThen_ok]; rfl)
  · rename_i e ht
    have hx' := hx.known (by simp [unk])
    have ex : x' = .slice none 0 0 := by cases hx'; rfl
    subst ex
    exact fin h (by simp [Builtin.len_, run_underlying ht])
  · rename_i e b i n e2 ht
    have hx' := hx.known (by simp [unk])
    cases hx' with
    | slice hj hn hr => exact fin h (by simp [Builtin.len_, run_underlying ht])
    | slice0 hj => exact fin h (by simp [Builtin.len_, run_underlying ht])
  · rename_i e1 e2 ht
    have hx' := hx.known (by simp [unk])
    cases hx'
    exact fin h (by simp [Builtin.len_, run_underlying ht])
  · rename_i e1 e2 r ht
    split at h
    · rename_i es hr
      have hx' := hx.known (by simp [unk])
      cases hx' with
      | map hj =>
        rename_i r'
        obtain ⟨r2, cc, clk, h1, h2, h3, h4, h5, h6⟩ := S.obj r _ hr
        rw [hj] at h1; cases h1
        have hlen : es.length = cc.size := by have := h4.1.1; simpa using this
        exact fin h (by
          rw [hlen]
          simp only [Builtin.len_, List.getElem?_toArray, List.getElem?_cons_zero, Sem.run_bind, run_underlying ht, Result.andThen_ok]
          simp [getObj, Sem.run, h3])
    · cases h
  · rename_i arr p ht
    split at h
    · rename_i n e ha
      exact fin h (by simp [Builtin.len_, run_underlying ht, run_underlying ha])
    · cases h
  · cases h

def aAssert (P : Program) (H : AH) (x : Value) (t : TypeId) (ok : Bool) : Option AStep :=
  match P.underlying t with
  | some (.interface _) | none => none
  | some _ =>
    match x with
    | .iface t' v =>
      if t' = t then (if known v then some (.val (if ok then .tuple #[v, .bool true] else v) H) else none)
      else match ok, (P.info? t).bind (·.zero) with
        | true, some z => if closed z then some (.val (.tuple #[z, .bool false]) H) else none
        | _, _ => none
    | .nilIface =>
      match ok, (P.info? t).bind (·.zero) with
      | true, some z => if closed z then some (.val (.tuple #[z, .bool false]) H) else none
      | _, _ => none
    | _ => none

theorem run_zero_bind {t : TypeId} {z : Value} (hz : (P.info? t).bind (·.zero) = some z) (w : World) : (zeroValue t).run P w = .ok z w := by
  cases hi : P.info? t with
  | none => simp [hi] at hz
  | some inf => exact run_zeroValue' hi (by simpa [hi] using hz) w

theorem aAssert_ok {x x' : Value} {xt t : TypeId} {ok : Bool} {st : AStep} (h : aAssert P H x t ok = some st) (S : Sim J F H w) (hx : ORel J w x x') :
    StepOk P J F H w ((do pure (Next.value (← Instr.typeAssert x' xt t ok)) : Sem Next).run P w) st := by
  have two : ∀ {v v' : Value} (b : Bool), VRel J w v v' → VRel J w (.tuple #[v, .bool b]) (.tuple #[v', .bool b]) := fun b hv => VRel.tuples (.cons hv (.cons (.bool b) .nil))
  unfold aAssert at h
  split at h
  · cases h
  · cases h
  · rename_i d hd0 hd
    split at h
    · rename_i t' v
      have hx' := hx.known (by simp [unk])
      cases hx' with
      | iface _ hv =>
        rename_i v'
        split at h
        · rename_i e
          subst e
          split at h
          · cases h
            refine StepOk.value S (v' := if ok then .tuple #[v', .bool true] else v') ?_ (.inr ?_)
            · unfold Instr.typeAssert
              rw [Sem.run_bind, Sem.run_bind, run_underlying hd, Result.andThen_ok]
              cases d <;> first | (simp; done) | exact (hd0 _ rfl).elim
            · cases ok
              · exact hv
              · exact two true hv
          · cases h
        · rename_i hne
          split at h
          · rename_i z hz
            split at h
            · rename_i hcl
              cases h
              refine StepOk.value S (v' := .tuple #[z, .bool false]) ?_ (.inr (two false (closed_self hcl)))
              unfold Instr.typeAssert
              rw [Sem.run_bind, Sem.run_bind, run_underlying hd, Result.andThen_ok]
              cases d <;> first | (simp [hne, run_zero_bind hz]; done) | exact (hd0 _ rfl).elim
            · cases h
          · cases h
    · split at h
      · rename_i z hz
        split at h
        · rename_i hcl
          cases h
          have hx' := hx.known (by simp [unk])
          cases hx'
          refine StepOk.value S (v' := .tuple #[z, .bool false]) ?_ (.inr (two false (closed_self hcl)))
          unfold Instr.typeAssert
          rw [Sem.run_bind, Sem.run_bind, run_underlying hd, Result.andThen_ok]
          cases d <;> first | (simp [run_zero_bind hz]; done) | exact (hd0 _ rfl).elim
        · cases h
      · cases h
    · cases h

def aRange (P : Program) (H : AH) (t : TypeId) (x : Value) : Option AStep :=
  match P.underlying t, x with
  | some .string, .string s => some (.new H (.siter s 0) fun b => .pointer (some ⟨b, 0, none⟩))
  | _, _ => none

theorem aRange_ok {t : TypeId} {x x' : Value} {st : AStep} (h : aRange P H t x = some st) (S : Sim J F H w) (hx : ORel J w x x') :
    StepOk P J F H w ((do pure (Next.value (← Instr.range t x')) : Sem Next).run P w) st := by
  unfold aRange at h
  split at h
  · rename_i s ht
    cases h
    rw [(hx.known (by simp [unk])).string_inv]
    obtain ⟨b, hb, hH⟩ := S.fresh
    obtain ⟨F', S', E'⟩ := S.new hb hH (.stringIter s 0) (.siter s 0) ⟨w.heap.size, Inj.put_same J b _, fun _ => Iff.rfl, heap_alloc_same w _⟩
    exact ⟨b, .pointer (some ⟨w.heap.size, 0, none⟩), _, _, F', hH, by simp [Instr.range, run_underlying ht], S', E', .ptr (r := w.heap.size) (o := 0) (Inj.put_same J b _)⟩
  · cases h

def aNext (H : AH) (x : Value) (str : Bool) : Option AStep :=
  match x, str with
  | .pointer (some ⟨b, 0, none⟩), true =>
    match H b with
    | some (.siter s pos) =>
      if pos < s.size then some (.val (.tuple #[.bool true, goInt pos, .int .i32 (Utf8.decode s pos).1]) (H.upd b (.siter s (pos + (Utf8.decode s pos).2))))
      else some (.val (.tuple #[.bool false]) H)
    | _ => none
  | _, _ => none

theorem aNext_ok {ty : TypeId} {x x' : Value} {str : Bool} {st : AStep} (h : aNext H x str = some st) (S : Sim J F H w) (hx : ORel J w x x') :
    StepOk P J F H w ((do pure (Next.value (← Instr.next x' str ty)) : Sem Next).run P w) st := by
  unfold aNext at h
  split at h
  · rename_i b
    split at h
    · rename_i s pos hb
      obtain ⟨r, h1, h2, h3⟩ := S.obj b _ hb
      obtain ⟨r', o, hj, rfl⟩ := (hx.known (by simp [unk])).ptr_inv
      rw [h1] at hj; cases hj
      split at h
      · rename_i hpos
        cases h
        have hlt := lt_of_block h3
        have hother : ∀ k, k ≠ r → ({ w with heap := w.heap.setIfInBounds r (.stringIter s (pos + (Utf8.decode s pos).2)) } : World).heap[k]? = w.heap[k]? := fun k hk => by
          simp [Array.getElem?_setIfInBounds, Ne.symm hk]
        have hrows : RowsLe w { w with heap := w.heap.setIfInBounds r (.stringIter s (pos + (Utf8.decode s pos).2)) } := rows_setOther h3 (by simp) hother
        obtain ⟨S', E'⟩ := S.update (J' := J) (F' := F) (a := b) (o' := .siter s (pos + (Utf8.decode s pos).2)) (w' := { w with heap := w.heap.setIfInBounds r (.stringIter s (pos + (Utf8.decode s pos).2)) })
          (Inj.le_refl J) hrows (by simp) rfl rfl rfl (.inl ⟨_, hb, rfl⟩) (fun k hk hno => hother k fun e => hno ⟨⟨_, hb, rfl⟩, (h2 k).2 e⟩) (fun _ _ => rfl)
          (fun k hk => .inr ⟨⟨_, hb, rfl⟩, hk⟩) ⟨r, h1, h2, by simp [Array.getElem?_setIfInBounds, hlt]⟩ (S.named b _ hb) S.bound (fun c k o e => by simpa using S.within c k o e)
        refine ⟨.value (.tuple #[.bool true, goInt pos, .int .i32 (Utf8.decode s pos).1]), _, _, J, F, ?_, .inl rfl, S', E', .inr (VRel.tuples (.cons (.bool true) (.cons (.int _ _) (.cons (.int _ _) .nil))))⟩
        simp only [Instr.next, Nat.add_zero, Sem.run_bind]
        simp [getObj, setObj, Sem.run, h3, hpos]
      · rename_i hpos
        cases h
        refine StepOk.value S (v' := .tuple #[.bool false]) ?_ (.inr (VRel.tuples (.cons (.bool false) .nil)))
        simp only [Instr.next, Nat.add_zero, Sem.run_bind]
        simp [getObj, Sem.run, h3, hpos]
    · cases h
  · cases h

def aPanic (x : Value) : Option AStep :=
  match x with
  | .iface t v => some (.pan (.iface t v))
  | _ => none

theorem aPanic_ok {x x' : Value} {st : AStep} (h : aPanic x = some st) (hx : ORel J w x x') : StepOk P J F H w ((do pure (Next.value (← Instr.panic x')) : Sem Next).run P w) st := by
  unfold aPanic at h
  split at h
  · rename_i t v
    cases h
    have hx' := hx.known (by simp [unk])
    cases hx' with
    | iface _ hv => exact ⟨_, by simp [Instr.panic], .iface t hv⟩
  · cases h

end
end Go.Abs

/-
  One operation over the abstract heap: append, clear, bytes as a string.
-/
set_option linter.unusedSimpArgs false
set_option linter.unusedVariables false
namespace Go.Abs
open Go.RowKit

section
variable {P : Program} {J : Inj} {F : Nat → Nat → Prop} {H : AH} {w : World} {A : List Value} {a : Act}

/-- Cells of a row, as loadCells reads them. -/
theorem run_loadCells_rel {r off i n : Nat} {cs : List Value} {cc : Array Value} {T : TypeId} {fr : Nat × Nat} (hr : w.heap[r]? = some (.cells cc T fr)) (hle : off + cs.length ≤ cc.size)
    (hv : VRels J w cs ((cc.toList.drop off).take cs.length)) (hi : i + n ≤ cs.length) :
    ∃ l : List Value, (loadCells ⟨r, off + i, none⟩ n).run P w = .ok l.toArray w ∧ VRels J w ((cs.drop i).take n) l ∧ l.length = n ∧ l = (cc.toList.drop (off + i)).take n := by
  have hcell : ∀ k, w.cell? ⟨r, k, none⟩ = cc[k]? := fun k => by simp [World.cell?, hr]
  have hl : ((cc.toList.drop (off + i)).take n).length = n := by simp; omega
  have hload := run_loadCells_list (P := P) w ⟨r, off + i, none⟩ ((cc.toList.drop (off + i)).take n) (fun j u hj => by
    have hadd : (⟨r, off + i, none⟩ : Addr).add j = ⟨r, off + i + j, none⟩ := Addr.add_lit _ _ _
    rw [hadd, hcell]
    rw [List.getElem?_take] at hj
    split at hj
    · rw [List.getElem?_drop, Array.getElem?_toList] at hj; exact hj
    · cases hj)
  rw [hl] at hload
  refine ⟨_, hload, ?_, hl, rfl⟩
  have := (hv.drop i).take n
  have e : List.take n (List.drop i (List.take cs.length (List.drop off cc.toList))) = List.take n (List.drop (off + i) cc.toList) := by
    apply List.ext_getElem?
    intro j
    simp only [List.getElem?_take, List.getElem?_drop]
    by_cases hj : j < n
    · rw [if_pos hj, if_pos hj, if_pos (by omega : i + j < cs.length)]; congr 1; omega
    · rw [if_neg hj, if_neg hj]
  rw [e] at this
  exact this

/-- A row is written from some place on, behind its end too; it goes on under a new name, from another place on. -/
theorem Sim.regrow (S : Sim J F H w) {b i k nb : Nat} {cs vs vs' : List Value} (hb : H b = some (.cells false cs)) (hik : i ≤ k) (hk : k ≤ cs.length) (hv : VRels J w vs vs') (hnb : J nb = none) (hHnb : H nb = none)
    {r off : Nat} {cc : Array Value} {T : TypeId} (e1 : J b = some (r, off)) (e2 : ∀ x, F b x ↔ x = r) (e3 : w.heap[r]? = some (.cells cc T (0, 0))) (e5 : off + cs.length ≤ cc.size)
    (e6 : VRels J w cs ((cc.toList.drop off).take cs.length)) (hfit : off + k + vs.length ≤ cc.size) {w' : World}
    (hw' : w' = w.setRow r (cc.toList.take (off + k) ++ vs' ++ cc.toList.drop (off + k + vs'.length)).toArray) :
    ∃ F', Sim (J.put nb (r, off + i)) F' ((H.del b).upd nb (.cells false ((cs.take k).drop i ++ vs))) w' ∧
      Evolves J F H w (J.put nb (r, off + i)) F' ((H.del b).upd nb (.cells false ((cs.take k).drop i ++ vs))) w' := by
  have hl := hv.1
  have hne : nb ≠ b := by intro e; subst e; rw [hHnb] at hb; cases hb
  have hsz : (cc.toList.take (off + k) ++ vs' ++ cc.toList.drop (off + k + vs'.length)).length = cc.size := by simp only [List.length_append, List.length_take, List.length_drop, Array.length_toList]; omega
  have hother : ∀ x, x ≠ r → w'.heap[x]? = w.heap[x]? := fun x hx => by rw [hw']; exact setRow_other w r x _ hx
  have hblock : w'.heap[r]? = some (.cells (cc.toList.take (off + k) ++ vs' ++ cc.toList.drop (off + k + vs'.length)).toArray T (0, 0)) := by rw [hw']; exact setRow_block w r cc _ T (0, 0) e3
  have hrows : RowsLe w w' := rows_setBlock e3 hblock (Nat.le_of_eq (by rw [List.size_toArray (as := List.take (off + k) cc.toList ++ vs' ++ List.drop (off + k + vs'.length) cc.toList), hsz])) hother
  have hsize : w'.heap.size = w.heap.size := by rw [hw']; simp [World.setRow]
  obtain ⟨S1, E1⟩ := S.forget b
  have hlt := lt_of_block e3
  have hdel : ∀ c o, H.del b c = some o → c ≠ b ∧ H c = some o := by
    intro c o h; simp only [AH.del] at h; split at h
    · cases h
    · exact ⟨‹_›, h⟩
  have hnotF : ∀ c o, H c = some o → c ≠ b → ¬ F c r := fun c o hc hcb => S.apart b c _ o hb hc (Ne.symm hcb) (.inl rfl) r ((e2 r).2 rfl)
  have hle : J.le (J.put nb (r, off + i)) := Inj.le_put J _ hnb
  have hother' : ∀ c o, H c = some o → c ≠ b → ∀ x, F c x → w'.heap[x]? = w.heap[x]? := by
    intro c o hc hcb x hx
    exact hother x fun e => hnotF c o hc hcb (e ▸ hx)
  refine ⟨fun c => if c = nb then (fun x => x = r) else F c, ⟨?_, ?_, ?_, ?_, ?_⟩, ⟨hle, hrows, by omega, by rw [hw']; rfl, by rw [hw']; rfl, by rw [hw']; rfl, ?_, ?_, ?_⟩⟩
  · intro c o hc
    by_cases ec : c = nb
    · subst ec
      rw [AH.upd_same] at hc; cases hc
      simp only [if_true]
      refine ⟨r, off + i, _, T, (0, 0), Inj.put_same J c _, fun _ => Iff.rfl, hblock, fun _ => rfl, ?_, ?_⟩
      · rw [List.size_toArray, hsz]; simp; omega
      · have hm := (e6.mono hle hrows)
        have hvm := hv.mono hle hrows
        have hlen : ((cs.take k).drop i ++ vs).length = k - i + vs.length := by simp; omega
        rw [hlen]
        have ee : ((cc.toList.take (off + k) ++ vs' ++ cc.toList.drop (off + k + vs'.length)).toArray.toList.drop (off + i)).take (k - i + vs.length)
            = (((cc.toList.drop off).take cs.length).take k).drop i ++ vs' := by
          apply List.ext_getElem?
          intro j
          simp only [List.getElem?_take, List.getElem?_drop, List.getElem?_append, List.length_append, List.length_take, List.length_drop, Array.length_toList]
          have m1 : min (off + k) cc.size = off + k := by omega
          have m2 : min k (min cs.length (cc.size - off)) = k := by omega
          rw [m1, m2]
          by_cases c1 : j < k - i
          · rw [if_pos (by omega : j < k - i + vs.length), if_pos (by omega : off + i + j < off + k + vs'.length), if_pos (by omega : off + i + j < off + k), if_pos (by omega : off + i + j < off + k), if_pos c1, if_pos (by omega : i + j < k), if_pos (by omega : i + j < cs.length)]
            congr 1; omega
          · rw [if_neg c1]
            by_cases c2 : j < k - i + vs.length
            · rw [if_pos c2, if_pos (by omega : off + i + j < off + k + vs'.length), if_neg (by omega : ¬ off + i + j < off + k)]
              congr 1; omega
            · rw [if_neg c2, List.getElem?_eq_none (by omega)]
        rw [ee]
        exact ((hm.take k).drop i).append hvm
    · rw [AH.upd_ne _ _ ec] at hc
      obtain ⟨hcb, hc'⟩ := hdel c o hc
      simp only [if_neg ec]
      exact (S.obj c o hc').mono hle hrows (hother' c o hc' hcb)
  · intro c d oc od hc hd hcd hro x hx hx'
    by_cases ec : c = nb
    · subst ec
      have ed : d ≠ c := Ne.symm hcd
      rw [AH.upd_ne _ _ ed] at hd
      obtain ⟨hdb, hd'⟩ := hdel d od hd
      simp only [if_true] at hx
      simp only [if_neg ed] at hx'
      subst hx
      exact hnotF d od hd' hdb hx'
    · rw [AH.upd_ne _ _ ec] at hc
      obtain ⟨hcb, hc'⟩ := hdel c oc hc
      simp only [if_neg ec] at hx
      by_cases ed : d = nb
      · subst ed
        simp only [if_true] at hx'
        subst hx'
        exact hnotF c oc hc' hcb hx
      · rw [AH.upd_ne _ _ ed] at hd
        obtain ⟨hdb, hd'⟩ := hdel d od hd
        simp only [if_neg ed] at hx'
        exact S.apart c d oc od hc' hd' hcd hro x hx hx'
  · intro c o hc
    by_cases ec : c = nb
    · subst ec; rw [Inj.put_same]; simp
    · rw [AH.upd_ne _ _ ec] at hc
      obtain ⟨hcb, hc'⟩ := hdel c o hc
      rw [Inj.put_ne J _ ec]
      exact S.named c o hc'
  · obtain ⟨N, hN⟩ := S.bound
    refine ⟨max N (nb + 1), fun c hc => ?_⟩
    rw [Inj.put_ne J _ (by omega)]
    exact hN c (by omega)
  · intro c x o h
    by_cases e : c = nb
    · subst e; rw [Inj.put_same] at h; cases h; omega
    · rw [Inj.put_ne J _ e] at h
      have := S.within c x o h
      omega
  · intro x hx hall
    refine hother x fun e => ?_
    subst e
    exact hall b _ hb rfl ((e2 x).2 rfl)
  · intro c o hc hro x hx
    by_cases ec : c = nb
    · subst ec
      simp only [if_true] at hx
      subst hx
      exact .inr ⟨b, _, hb, rfl, (e2 x).2 rfl⟩
    · rw [AH.upd_ne _ _ ec] at hc
      obtain ⟨hcb, hc'⟩ := hdel c o hc
      simp only [if_neg ec] at hx
      exact .inr ⟨c, o, hc', hro, hx⟩
  · intro c hc
    by_cases ec : c = nb
    · subst ec; exact .inr hnb
    · rw [AH.upd_ne _ _ ec] at hc
      left
      intro e
      apply hc
      simp only [AH.del]
      split <;> first | rfl | exact e

/-- The cells of a slice: nil has none. -/
def aCellsOf (H : AH) (e : Nat) : Value → Option (List Value)
  | .slice none 0 0 => some []
  | .slice (some ⟨b, i, none⟩) n e' =>
    if n = 0 then some [] else
    match H b with
    | some (.cells _ cs) => if e' = e ∧ i + n * e ≤ cs.length then some ((cs.drop i).take (n * e)) else none
    | _ => none
  | _ => none

def aSliceLen : Value → Nat
  | .slice _ n _ => n
  | _ => 0

theorem run_cellsOf {e : Nat} {x x' : Value} {l : List Value} (h : aCellsOf H e x = some l) (S : Sim J F H w) (hx : VRel J w x x') :
    ∃ l', (Builtin.firstCells e (aSliceLen x) x').run P w = .ok l'.toArray w ∧ VRels J w l l' ∧ (Builtin.lenOf x').run P w = .ok (aSliceLen x) w ∧ l.length = aSliceLen x * e := by
  unfold aCellsOf at h
  split at h
  · cases h
    have ex : x' = .slice none 0 0 := by cases hx; rfl
    subst ex
    exact ⟨[], rfl, .nil, rfl, by simp [aSliceLen]⟩
  · rename_i b i n e'
    split at h
    · rename_i hn
      subst hn
      cases h
      refine ⟨[], ?_, .nil, ?_, by simp [aSliceLen]⟩
      · cases hx <;> simp [Builtin.firstCells, aSliceLen, loadCells, loadCellsFrom]
      · cases hx <;> simp [Builtin.lenOf, aSliceLen]
    · rename_i hn
      split at h
      · rename_i ro cs hb
        split at h
        · rename_i hc
          obtain ⟨rfl, hfit⟩ := hc
          cases h
          obtain ⟨r, off, cc, T, fr, e1, e2, e3, e4, e5, e6⟩ := S.obj b _ hb
          cases hx with
          | slice hj hnc hrow =>
            rw [hj] at e1; cases e1
            obtain ⟨l, hl1, hl2, hl3, hl4⟩ := run_loadCells_rel (P := P) (n := n * e') e3 e5 e6 hfit
            exact ⟨l, hl1, hl2, rfl, by rw [hl2.1, hl3]; rfl⟩
          | slice0 hj => exact absurd rfl hn
        · cases h
      · cases h
  · cases h

def aAppend (P : Program) (H : AH) (t : TypeId) (s x : Value) : Option AStep :=
  match P.underlying t with
  | some (.slice elem) =>
    match P.info? elem with
    | some inf =>
      match inf.zero with
      | some z =>
        if 0 < inf.size ∧ z.cells.size = inf.size ∧ (aSliceLen s + aSliceLen x) * inf.bytes ≤ 140737488355328 ∧ aSliceLen s + aSliceLen x ≤ 140737488355328 then
          match aCellsOf H inf.size x with
          | some news =>
            if news.all Value.oneCell' then
              match s with
              | .slice none 0 0 =>
                if aSliceLen x = 0 then some (.val (.slice none 0 0) H) else some (.new H (.cells false news) fun b => .slice (some ⟨b, 0, none⟩) (aSliceLen x) inf.size)
              | .slice (some ⟨b, i, none⟩) n e =>
                match H b with
                | some (.cells false cs) =>
                  if e = inf.size ∧ i + n * e ≤ cs.length then
                    if aSliceLen x = 0 then some (.val (.slice (some ⟨b, i, none⟩) n e) H)
                    else some (.new (H.del b) (.cells false ((cs.take (i + n * e)).drop i ++ news)) fun nb => .slice (some ⟨nb, 0, none⟩) (n + aSliceLen x) e)
                  else none
                | _ => none
              | _ => none
            else none
          | none => none
        else none
      | none => none
    | none => none
  | _ => none

theorem growBy_le (newLen : Nat) : ∀ (k c : Nat), c < newLen → Builtin.growBy newLen k c ≤ newLen + newLen / 4 + 192 := by
  intro k
  induction k with
  | zero => intro c h; simp only [Builtin.growBy]; omega
  | succ k ih =>
    intro c h
    simp only [Builtin.growBy]
    rw [if_neg (by omega)]
    by_cases hlt : c + (c + 768) / 4 < newLen
    · exact ih _ hlt
    · cases k with
      | zero => simp only [Builtin.growBy]; omega
      | succ k => simp only [Builtin.growBy]; rw [if_pos (by omega)]; omega

theorem nextslicecap_le {newLen oldCap : Nat} (h : oldCap < newLen) : Builtin.nextslicecap newLen oldCap ≤ 2 * newLen := by
  unfold Builtin.nextslicecap
  split
  · omega
  · split
    · omega
    · have := growBy_le newLen 4 oldCap h
      omega

theorem run_append_grows {t elem : TypeId} {ty : TypeId} {inf : TypeInfo} {z : Value} (ht : P.underlying t = some (.slice elem)) (hinf : P.info? elem = some inf) (hz : inf.zero = some z)
    {s' x' : Value} {base : Option Addr} {n c m : Nat} {olds news : List Value} (hs : s' = .slice base n c) (hold : (Builtin.firstCells inf.size n s').run P w = .ok olds.toArray w)
    (hlen : (Builtin.lenOf x').run P w = .ok m w) (hnew : (Builtin.firstCells inf.size m x').run P w.drew = .ok news.toArray w.drew) (hold' : (Builtin.firstCells inf.size n s').run P w.drew = .ok olds.toArray w.drew)
    (hc : c < n + m) (hb : (n + m) * inf.bytes ≤ 140737488355328) (h63 : n + m ≤ 140737488355328) (hzc : z.cells.size = inf.size) (hxs : ∀ k v, x' ≠ .int k v) (htt : ∀ k, P.underlying t ≠ some (.int k)) :
    ∃ cap, n + m ≤ cap ∧ (Builtin.append_ #[t, t] ty #[s', x']).run P w =
      .ok (.slice (some ⟨w.heap.size, 0, none⟩) (n + m) cap) (w.drew.alloc (.cells ((olds ++ news) ++ aZeros z.cells.toList (cap - (n + m))).toArray elem)) := by
  subst hs
  refine ⟨grownCap w (n + m) c elem, grownCap_ge w (n + m) c elem, ?_⟩
  have hroom : ¬ n + m ≤ c := by omega
  have hcap := nextslicecap_le (newLen := n + m) (oldCap := c) hc
  have h48 : ¬ Builtin.nextslicecap (n + m) c * inf.bytes > 2 ^ 48 := by
    have : Builtin.nextslicecap (n + m) c * inf.bytes ≤ 2 * (n + m) * inf.bytes := Nat.mul_le_mul_right _ hcap
    have e : 2 * (n + m) * inf.bytes = 2 * ((n + m) * inf.bytes) := Nat.mul_assoc _ _ _
    omega
  have h63' : ¬ ((9223372036854775807 : Int) < (n : Int) + (m : Int)) := by omega
  have hzl : (Builtin.zeroCells z.cells (grownCap w (n + m) c elem - (n + m))) = (aZeros z.cells.toList (grownCap w (n + m) c elem - (n + m))).toArray := by
    apply Array.ext'; rw [zeroCells_eq]
  simp only [grownCap] at hzl
  simp [Builtin.append_, run_underlying ht, run_sizeOf hinf, sizeOf, typeInfo, zeroValue, hinf, hz, hlen, hroom, h63', h48, Question.forced, hold', hnew, newRow, hzl, grownCap]

theorem aAppend_ok {t ty : TypeId} {s s' x x' : Value} {st : AStep} (h : aAppend P H t s x = some st) (S : Sim J F H w) (hs : ORel J w s s') (hx : ORel J w x x') :
    StepOk P J F H w ((do pure (Next.value (← Builtin.append_ #[t, t] ty #[s', x'])) : Sem Next).run P w) st := by
  unfold aAppend at h
  split at h
  · rename_i elem ht
    split at h
    · rename_i inf hinf
      split at h
      · rename_i z hz
        split at h
        · rename_i hcond
          obtain ⟨hpos, hzc, hbytes, h63⟩ := hcond
          split at h
          · rename_i news hnews
            split at h
            · rename_i h1
              have hkx : x ≠ unk := by intro e; subst e; simp [aCellsOf, unk] at hnews
              have hx' := hx.known hkx
              obtain ⟨news', hn1, hn2, hn3, hn4⟩ := run_cellsOf (P := P) hnews S hx'
              obtain ⟨Sd, Ed⟩ := S.still (w' := w.drew) rfl rfl rfl rfl
              have hxd := hx'.mono (Inj.le_refl J) Ed.rows
              obtain ⟨newsd, hd1, hd2, hd3, hd4⟩ := run_cellsOf (P := P) hnews Sd hxd
              have hxs : ∀ k v, x' ≠ .int k v := by
                intro k v e; subst e; cases hx'; simp [aCellsOf] at hnews
              have htt : ∀ k, P.underlying t ≠ some (.int k) := by intro k e; rw [ht] at e; cases e
              split at h
              · have es : s' = .slice none 0 0 := by have := hs.known (by simp [unk]); cases this; rfl
                subst es
                split at h
                · rename_i hm
                  cases h
                  refine StepOk.value S (v' := .slice none 0 0) ?_ (.inr .nilSlice)
                  rw [hm] at hn1 hn3
                  simp [Builtin.append_, run_underlying ht, run_sizeOf hinf, hn3, hn1]
                · rename_i hm
                  cases h
                  rw [show aSliceLen (.slice none 0 0) = 0 from rfl, Nat.zero_add] at hbytes h63
                  obtain ⟨cap, hcap, hrun⟩ := run_append_grows (P := P) (ty := ty) ht hinf hz (s' := .slice none 0 0) (base := none) (n := 0) (c := 0) (olds := []) rfl (by rfl) hn3 hd1 (by rfl) (by omega) (by simpa using hbytes) (by simpa using h63) hzc hxs htt
                  simp only [Nat.zero_add, List.nil_append] at hrun hcap
                  obtain ⟨b, v', w', J', F', g1, g2, g3, g4, g5⟩ := newRow_ok (P := P) Sd (cs := news) (cs' := newsd) hd2 elem (aZeros z.cells.toList (cap - aSliceLen x)) (mk := fun b => .slice (some ⟨b, 0, none⟩) (aSliceLen x) inf.size)
                    (v' := .slice (some ⟨w.heap.size, 0, none⟩) (aSliceLen x) cap) (nx := .ok (.value (.slice (some ⟨w.heap.size, 0, none⟩) (aSliceLen x) cap)) (w.drew.alloc (.cells (newsd ++ aZeros z.cells.toList (cap - aSliceLen x)).toArray elem))) rfl fun b => by
                      refine VRel.slice (r := w.heap.size) (o := 0) (i := 0) (Inj.put_same J b _) hcap ⟨_, elem, (0, 0), heap_alloc_same w.drew _, ?_⟩
                      have e1 : newsd.length = aSliceLen x * inf.size := by rw [← hd2.1, hd4]
                      simp only [List.size_toArray, List.length_append, e1, aZeros_length, Array.length_toList, hzc, ← Nat.add_mul]
                      rw [show aSliceLen x + (cap - aSliceLen x) = cap by omega]; omega
                  exact ⟨b, v', w', J', F', g1, by rw [Sem.run_bind, hrun]; exact g2, g3, Ed.trans g4, g5⟩
              · rename_i b i n e
                have hs' := hs.known (by simp [unk])
                split at h
                · rename_i cs hb
                  split at h
                  · rename_i hc
                    obtain ⟨rfl, hfit⟩ := hc
                    rw [show aSliceLen (.slice (some ⟨b, i, none⟩) n inf.size) = n from rfl] at hbytes h63
                    split at h
                    · rename_i hm
                      cases h
                      refine StepOk.value S (v' := s') ?_ (.inr hs')
                      rw [hm] at hn1 hn3
                      have hl0 : news'.length = 0 := by rw [← hn2.1, hn4, hm]; simp
                      have hnil : news' = [] := List.eq_nil_of_length_eq_zero hl0
                      subst hnil
                      cases hs' with
                      | slice hj hnc hrow => simp [Builtin.append_, run_underlying ht, run_sizeOf hinf, hn3, hn1, hnc, storeCells]
                      | slice0 hj => simp [Builtin.append_, run_underlying ht, run_sizeOf hinf, hn3, hn1, storeCells]
                    · rename_i hm
                      cases h
                      obtain ⟨r, off, cc, T, fr, e1, e2, e3, e4, e5, e6⟩ := S.obj b _ hb
                      have e4 := e4 rfl
                      subst e4
                      obtain ⟨nb, hnb, hHnb⟩ := S.fresh
                      have hnews1 : ∀ v ∈ news', v.oneCell' = true := by
                        intro v hmv
                        obtain ⟨k, hk⟩ := List.getElem?_of_mem hmv
                        obtain ⟨u, hu, hr⟩ := hn2.get' hk
                        exact hr.oneCell ((List.all_eq_true.1 h1) u (List.mem_of_getElem? hu))
                      have hlen' : news'.length = aSliceLen x * inf.size := by rw [← hn2.1, hn4]
                      -- the row that grows in a new place
                      have grow : ∀ (base : Option Addr) (c : Nat) (olds olds' : List Value), s' = .slice base n c → c < n + aSliceLen x → olds = (cs.take (i + n * inf.size)).drop i →
                          (Builtin.firstCells inf.size n s').run P w = .ok olds'.toArray w → (Builtin.firstCells inf.size n s').run P w.drew = .ok olds'.toArray w.drew → VRels J w.drew olds olds' →
                          StepOk P J F H w ((do pure (Next.value (← Builtin.append_ #[t, t] ty #[s', x'])) : Sem Next).run P w)
                            (.new (H.del b) (.cells false ((cs.take (i + n * inf.size)).drop i ++ news)) fun nb => .slice (some ⟨nb, 0, none⟩) (n + aSliceLen x) inf.size) := by
                        intro base c olds olds' hs1 hcap0 holds hf1 hf2 hrel
                        obtain ⟨cap, hcap, hrun⟩ := run_append_grows (P := P) (ty := ty) ht hinf hz hs1 hf1 hn3 hd1 hf2 hcap0 hbytes h63 hzc hxs htt
                        obtain ⟨Sf, Ef⟩ := Sd.forget b
                        have hHb : (H.del b) nb = none := by simp only [AH.del]; split <;> first | rfl | exact hHnb
                        have hall : VRels J w.drew ((cs.take (i + n * inf.size)).drop i ++ news) (olds' ++ newsd) := by rw [← holds]; exact hrel.append hd2
                        obtain ⟨F', S', E'⟩ := new_cells Sf hnb hHb hall elem (aZeros z.cells.toList (cap - (n + aSliceLen x)))
                        refine ⟨nb, .slice (some ⟨w.heap.size, 0, none⟩) (n + aSliceLen x) cap, _, _, F', hHnb, by rw [Sem.run_bind, hrun]; rfl, S', (Ed.trans Ef).trans E', ?_⟩
                        refine VRel.slice (r := w.heap.size) (o := 0) (i := 0) (Inj.put_same J nb _) hcap ⟨_, elem, (0, 0), heap_alloc_same w.drew _, ?_⟩
                        have l1 : olds'.length = n * inf.size := by rw [← hrel.1, holds]; simp; omega
                        have l2 : newsd.length = aSliceLen x * inf.size := by rw [← hd2.1, hd4]
                        simp only [List.size_toArray, List.length_append, l1, l2, aZeros_length, Array.length_toList, hzc, ← Nat.add_mul]
                        rw [show n + aSliceLen x + (cap - (n + aSliceLen x)) = cap by omega]; omega
                      cases hs' with
                      | slice hj hnc hrow =>
                        rename_i r' o' c
                        rw [e1] at hj; cases hj
                        by_cases hroom : n + aSliceLen x ≤ c
                        · obtain ⟨cc2, T2, fr2, q1, q2⟩ := hrow
                          rw [e3] at q1; cases q1
                          have hmul : (n + aSliceLen x) * inf.size ≤ c * inf.size := Nat.mul_le_mul_right _ hroom
                          have hadd := Nat.add_mul n (aSliceLen x) inf.size
                          obtain ⟨F', S', E'⟩ := S.regrow (k := i + n * inf.size) hb (Nat.le_add_right _ _) hfit hn2 hnb hHnb e1 e2 e3 e5 e6 (by rw [hn4]; omega) rfl
                          refine ⟨nb, .slice (some ⟨r, off + i, none⟩) (n + aSliceLen x) c, _, _, F', hHnb, ?_, S', E', ?_⟩
                          · have hst := run_storeCells_at P r (off + i + n * inf.size) T news' 0 cc w e3 (by rw [hlen']; omega) hnews1
                            simp only [Nat.add_zero, Nat.add_assoc] at hst
                            simp [Builtin.append_, run_underlying ht, run_sizeOf hinf, hn3, hn1, hroom, Addr.add_lit, hst, Nat.add_assoc]
                          · refine VRel.slice (r := r) (o := off + i) (i := 0) (Inj.put_same J nb _) hroom ?_
                            exact E'.rows _ _ ⟨cc, T, (0, 0), e3, by omega⟩
                        · obtain ⟨l, hl1, hl2, hl3, hl4⟩ := run_loadCells_rel (P := P) (n := n * inf.size) e3 e5 e6 hfit
                          obtain ⟨l', hl1', hl2', hl3', hl4'⟩ := run_loadCells_rel (P := P) (w := w.drew) (n := n * inf.size) (J := J) (cs := cs) (cc := cc) (T := T) (fr := (0, 0)) (off := off) (i := i) e3 e5 (e6.mono (Inj.le_refl J) Ed.rows) hfit
                          have hll : l' = l := by rw [hl4, hl4']
                          subst hll
                          refine grow _ c ((cs.drop i).take (n * inf.size)) l' rfl (by omega) ?_ hl1 hl1' hl2'
                          rw [List.drop_take]; congr 1; omega
                      | slice0 hj =>
                        refine grow _ 0 [] [] rfl (by omega) ?_ ?_ ?_ .nil
                        · simp
                        · simp [Builtin.firstCells, loadCells, loadCellsFrom]
                        · simp [Builtin.firstCells, loadCells, loadCellsFrom]
                  · cases h
                · cases h
              · cases h
            · cases h
          · cases h
        · cases h
      · cases h
    · cases h
  · cases h

end
end Go.Abs

/-
  One operation over the abstract heap: maps; clear; bytes as a string.
-/
set_option linter.unusedSimpArgs false
set_option linter.unusedVariables false
namespace Go.Abs
open Go.RowKit

/-- The entries of a map as the model's, their stamps left out. -/
def aEntries (es : List (Value × Value)) : List MapEntry := es.map fun e => { key := e.1, val := .bool false, born := 0 }

/-- Where a key stands among some: none: it isn't there. -/
def aFind (P : Program) (kt : TypeId) (k : Value) (es : List (Value × Value)) : Option (Option Nat) :=
  (prun P (Instr.findKey kt k (aEntries es))).map fun r => r.map (·.1)

section
variable {P : Program} {J : Inj} {F : Nat → Nat → Prop} {H : AH} {w : World} {A : List Value} {a : Act}

/-- The key's place hangs on the keys alone. -/
theorem findNow_keys (kind : TypeDesc) (k : Value) : ∀ (l l' : List MapEntry) (i : Nat), l.map (·.key) = l'.map (·.key) →
    ∀ r, Instr.findNow kind k l i = some r → ∃ r', Instr.findNow kind k l' i = some r' ∧ r'.map (·.1) = r.map (·.1) ∧ ∀ j v, r' = some (j, v) → i ≤ j ∧ (l'[j - i]?).map (·.val) = some v := by
  intro l
  induction l with
  | nil =>
    intro l' i h r hr
    cases l' with
    | nil => simp [Instr.findNow] at hr ⊢; subst hr; simp
    | cons e l' => simp at h
  | cons e l ih =>
    intro l' i h r hr
    cases l' with
    | nil => simp at h
    | cons e' l' =>
      simp at h
      obtain ⟨hk, h⟩ := h
      simp only [Instr.findNow] at hr ⊢
      rw [← hk]
      cases hs : Instr.sameNow kind k e.key with
      | none => rw [hs] at hr; cases hr
      | some b =>
        rw [hs] at hr
        cases b with
        | true =>
          simp at hr ⊢
          subst hr
          simp
        | false =>
          simp only at hr ⊢
          obtain ⟨r', e1, e2, e3⟩ := ih l' (i + 1) h r hr
          refine ⟨r', e1, e2, fun j v hj => ?_⟩
          obtain ⟨g1, g2⟩ := e3 j v hj
          refine ⟨by omega, ?_⟩
          rw [show j - i = (j - (i + 1)) + 1 by omega, List.getElem?_cons_succ]
          exact g2

theorem findAsking_keys (kt : TypeId) (k : Value) : ∀ (l l' : List MapEntry) (i : Nat), l.map (·.key) = l'.map (·.key) →
    ∀ r, prun P (Instr.findAsking kt k l i) = some r → ∃ r', prun P (Instr.findAsking kt k l' i) = some r' ∧ r'.map (·.1) = r.map (·.1) ∧ ∀ j v, r' = some (j, v) → i ≤ j ∧ (l'[j - i]?).map (·.val) = some v := by
  intro l
  induction l with
  | nil =>
    intro l' i h r hr
    cases l' with
    | nil => simp [Instr.findAsking, prun_pure] at hr ⊢; subst hr; simp
    | cons e l' => simp at h
  | cons e l ih =>
    intro l' i h r hr
    cases l' with
    | nil => simp at h
    | cons e' l' =>
      simp at h
      obtain ⟨hk, h⟩ := h
      simp only [Instr.findAsking, prun_bind'] at hr ⊢
      rw [← hk]
      cases hs : prun P (Op.equal kt k e.key) with
      | none => rw [hs] at hr; cases hr
      | some b =>
        rw [hs] at hr
        cases b with
        | true =>
          simp [prun_pure] at hr ⊢
          subst hr
          simp
        | false =>
          simp only [Option.bind_some, Bool.false_eq_true, if_false] at hr ⊢
          obtain ⟨r', e1, e2, e3⟩ := ih l' (i + 1) h r hr
          refine ⟨r', e1, e2, fun j v hj => ?_⟩
          obtain ⟨g1, g2⟩ := e3 j v hj
          refine ⟨by omega, ?_⟩
          rw [show j - i = (j - (i + 1)) + 1 by omega, List.getElem?_cons_succ]
          exact g2

theorem findKey_keys {kt : TypeId} {k : Value} {l l' : List MapEntry} (h : l.map (·.key) = l'.map (·.key)) {r : Option (Nat × Value)} (hr : prun P (Instr.findKey kt k l) = some r) (w : World) :
    ∃ r', (Instr.findKey kt k l').run P w = .ok r' w ∧ r'.map (·.1) = r.map (·.1) ∧ ∀ j v, r' = some (j, v) → (l'[j]?).map (·.val) = some v := by
  unfold Instr.findKey at hr ⊢
  rw [prun_bind'] at hr
  cases hu : prun P (underlying kt) with
  | none => rw [hu] at hr; cases hr
  | some d =>
    rw [hu, Option.bind_some] at hr
    rw [Sem.run_bind, prun_run _ hu w, Result.andThen_ok]
    cases hn : Instr.findNow d k l 0 with
    | some r0 =>
      simp only [hn, prun_pure] at hr
      cases hr
      obtain ⟨r', e1, e2, e3⟩ := findNow_keys d k l l' 0 h _ hn
      refine ⟨r', by simp [e1], e2, fun j v hj => by simpa using (e3 j v hj).2⟩
    | none =>
      simp only [hn] at hr
      have hn' : Instr.findNow d k l' 0 = none := by
        cases hc : Instr.findNow d k l' 0 with
        | none => rfl
        | some x =>
          obtain ⟨r', e1, _⟩ := findNow_keys d k l' l 0 h.symm _ hc
          rw [hn] at e1; cases e1
      obtain ⟨r', e1, e2, e3⟩ := findAsking_keys (P := P) kt k l l' 0 h _ hr
      refine ⟨r', by simp only [hn']; exact prun_run _ e1 w, e2, fun j v hj => by simpa using (e3 j v hj).2⟩

theorem keys_closed {es : List (Value × Value)} {cc : List MapEntry} (h : EntriesRel J w es cc) (hc : (es.map (·.1)).all closed = true) : (aEntries es).map (·.key) = cc.map (·.key) := by
  have e1 : (aEntries es).map (·.key) = es.map (·.1) := by simp [aEntries]
  rw [e1]
  refine List.ext_getElem? fun i => ?_
  have hl := h.1.1
  rcases Nat.lt_or_ge i (es.map (·.1)).length with g | g
  · have e2 := List.getElem?_eq_getElem g
    obtain ⟨v', e3, hr⟩ := h.1.get e2
    rw [e2, e3]
    rw [closed_eq ((List.all_eq_true.1 hc) _ (List.getElem_mem g)) hr]
  · rw [List.getElem?_eq_none g, List.getElem?_eq_none (by omega)]

def aLookup (P : Program) (H : AH) (t : TypeId) (m k : Value) (ok : Bool) : Option AStep :=
  match P.underlying t with
  | some (.map kt et) =>
    if closed k then
      match m with
      | .map none =>
        match prun P (Instr.checkKey true 10000 kt k), (P.info? et).bind (·.zero) with
        | some _, some z => if closed z then some (.val (if ok then .tuple #[z, .bool false] else z) H) else none
        | _, _ => none
      | .map (some r) =>
        match H r with
        | some (.map es) =>
          match prun P (Instr.checkKey es.isEmpty 10000 kt k) with
          | some _ =>
            if (es.map (·.1)).all closed then
              match aFind P kt k es with
              | some (some i) => match es[i]? with
                | some e => if known e.2 then some (.val (if ok then .tuple #[e.2, .bool true] else e.2) H) else none
                | none => none
              | some none => match (P.info? et).bind (·.zero) with
                | some z => if closed z then some (.val (if ok then .tuple #[z, .bool false] else z) H) else none
                | none => none
              | none => none
            else none
          | none => none
        | _ => none
      | _ => none
    else none
  | _ => none

theorem run_getMap {r : Nat} {cc : Array MapEntry} {clk : Nat} (h : w.heap[r]? = some (.map cc clk)) : (getObj r).run P w = .ok (.map cc clk) w := by
  simp [getObj, Sem.run, h]

theorem two_rel {v v' : Value} (b : Bool) (hv : VRel J w v v') : VRel J w (.tuple #[v, .bool b]) (.tuple #[v', .bool b]) := VRel.tuples (.cons hv (.cons (.bool b) .nil))

theorem aLookup_ok {t : TypeId} {m m' k k' : Value} {ok : Bool} {st : AStep} (h : aLookup P H t m k ok = some st) (S : Sim J F H w) (hm : ORel J w m m') (hk : ORel J w k k') :
    StepOk P J F H w ((do pure (Next.value (← Instr.lookup t m' k' ok)) : Sem Next).run P w) st := by
  have fin : ∀ {v v' : Value} {b : Bool}, VRel J w v v' → (Instr.lookup t m' k' ok).run P w = .ok (if ok then .tuple #[v', .bool b] else v') w →
      StepOk P J F H w ((do pure (Next.value (← Instr.lookup t m' k' ok)) : Sem Next).run P w) (.val (if ok then .tuple #[v, .bool b] else v) H) := by
    intro v v' b hv hr
    refine StepOk.value S (v' := if ok then .tuple #[v', .bool b] else v') (by rw [Sem.run_bind, hr]; rfl) (.inr ?_)
    cases ok
    · exact hv
    · exact two_rel b hv
  unfold aLookup at h
  split at h
  · rename_i kt et ht
    split at h
    · rename_i hck
      have hkk : k' = k := closed_eq hck (hk.known (by intro e; subst e; simp [closed, closedN, unk] at hck))
      subst hkk
      split at h
      · have hm' := hm.known (by simp [unk])
        have em : m' = .map none := by cases hm'; rfl
        subst em
        split at h
        · rename_i u z hchk hz
          split at h
          · rename_i hcl
            cases h
            refine fin (v' := z) (closed_self hcl) ?_
            have hfk : (Instr.findKey kt k' []).run P w = .ok none w := by
              unfold Instr.findKey
              have hu : ∃ d, prun P (underlying kt) = some d := by
                cases hu : prun P (underlying kt) with
                | some d => exact ⟨d, rfl⟩
                | none =>
                  unfold Instr.checkKey at hchk
                  rw [prun_bind', hu] at hchk; cases hchk
              obtain ⟨d, hu⟩ := hu
              rw [Sem.run_bind, prun_run _ hu w, Result.andThen_ok]
              rfl
            simp only [Instr.lookup, Sem.run_bind, run_underlying ht, Result.andThen_ok, Sem.run_pure]
            have e1 : (#[] : Array MapEntry).isEmpty = true := rfl
            rw [e1, prun_run _ hchk w]
            simp only [Result.andThen_ok]
            rw [hfk]
            simp [run_zero_bind hz]
          · cases h
        · cases h
      · rename_i r
        split at h
        · rename_i es hr
          have hm' := hm.known (by simp [unk])
          cases hm' with
          | map hj =>
            rename_i r'
            obtain ⟨r2, cc, clk, h1, h2, h3, h4, h5, h6⟩ := S.obj r _ hr
            rw [hj] at h1; cases h1
            split at h
            · rename_i u hchk
              split at h
              · rename_i hcl
                have hkeys := keys_closed h4 hcl
                have hemp : cc.isEmpty = es.isEmpty := by
                  have := h4.1.1
                  simp at this
                  rw [Array.isEmpty, ← this]
                  cases es <;> simp
                have hrun1 : ∀ i v, (Instr.findKey kt k' cc.toList).run P w = .ok (some (i, v)) w → (Instr.lookup t (.map (some r')) k' ok).run P w = .ok (if ok then .tuple #[v, .bool true] else v) w := by
                  intro i v hf
                  simp only [Instr.lookup, Sem.run_bind, run_underlying ht, Result.andThen_ok, run_getMap h3, Sem.run_pure, hemp, prun_run _ hchk w, hf]
                have hrun2 : ∀ z, (Instr.findKey kt k' cc.toList).run P w = .ok none w → (zeroValue et).run P w = .ok z w → (Instr.lookup t (.map (some r')) k' ok).run P w = .ok (if ok then .tuple #[z, .bool false] else z) w := by
                  intro z hf hz
                  simp only [Instr.lookup, Sem.run_bind, run_underlying ht, Result.andThen_ok, run_getMap h3, Sem.run_pure, hemp, prun_run _ hchk w, hf, hz]
                split at h
                · rename_i i hfind
                  split at h
                  · rename_i e he
                    split at h
                    · rename_i hkn
                      cases h
                      unfold aFind at hfind
                      obtain ⟨r0, hr0, hr1⟩ := Option.map_eq_some_iff.1 hfind
                      obtain ⟨r', g1, g2, g3⟩ := findKey_keys (P := P) hkeys hr0 w
                      rw [hr1] at g2
                      cases r' with
                      | none => cases g2
                      | some p =>
                        obtain ⟨j, v⟩ := p
                        simp at g2
                        subst g2
                        have g4 := g3 j v rfl
                        obtain ⟨v', q1, q2⟩ := h4.2.get (i := j) (v := e.2) (by simp [he])
                        have : v' = v := by
                          rw [List.getElem?_map] at q1
                          rw [q1] at g4; exact Option.some.inj g4
                        subst this
                        exact fin q2 (hrun1 _ _ g1)
                    · cases h
                  · cases h
                · rename_i hfind
                  split at h
                  · rename_i z hz
                    split at h
                    · rename_i hzc
                      cases h
                      unfold aFind at hfind
                      obtain ⟨r0, hr0, hr1⟩ := Option.map_eq_some_iff.1 hfind
                      obtain ⟨r', g1, g2, g3⟩ := findKey_keys (P := P) hkeys hr0 w
                      rw [hr1] at g2
                      cases r' with
                      | some p => cases g2
                      | none => exact fin (v' := z) (closed_self hzc) (hrun2 z g1 (run_zero_bind hz w))
                    · cases h
                  · cases h
                · cases h
              · cases h
            · cases h
        · cases h
      · cases h
    · cases h
  · cases h

/-- A map changes: its entries, and the count of stamps. -/
theorem Sim.setMap (S : Sim J F H w) {b r : Nat} {es es' : List (Value × Value)} {cc cc' : Array MapEntry} {clk clk' : Nat} (hb : H b = some (.map es)) (h1 : J b = some (r, 0)) (h2 : ∀ x, F b x ↔ x = r)
    (h3 : w.heap[r]? = some (.map cc clk)) (hrel : EntriesRel J w es' cc'.toList) (hnd : (cc'.toList.map (·.born)).Nodup) (hlt : ∀ e ∈ cc'.toList, e.born < clk') :
    (setObj r (.map cc' clk')).run P w = .ok () { w with heap := w.heap.setIfInBounds r (.map cc' clk') } ∧
    Sim J F (H.upd b (.map es')) { w with heap := w.heap.setIfInBounds r (.map cc' clk') } ∧ Evolves J F H w J F (H.upd b (.map es')) { w with heap := w.heap.setIfInBounds r (.map cc' clk') } := by
  have hl := lt_of_block h3
  have hother : ∀ k, k ≠ r → ({ w with heap := w.heap.setIfInBounds r (.map cc' clk') } : World).heap[k]? = w.heap[k]? := fun k hk => by
    simp [Array.getElem?_setIfInBounds, Ne.symm hk]
  have hrows : RowsLe w { w with heap := w.heap.setIfInBounds r (.map cc' clk') } := rows_setOther h3 (by simp) hother
  refine ⟨by simp [setObj, Sem.run, h3], ?_⟩
  exact S.update (J' := J) (F' := F) (a := b) (o' := .map es') (w' := { w with heap := w.heap.setIfInBounds r (.map cc' clk') })
    (Inj.le_refl J) hrows (by simp) rfl rfl rfl (.inl ⟨_, hb, rfl⟩) (fun k hk hno => hother k fun e => hno ⟨⟨_, hb, rfl⟩, (h2 k).2 e⟩) (fun _ _ => rfl)
    (fun k hk => .inr ⟨⟨_, hb, rfl⟩, hk⟩) ⟨r, cc', clk', h1, h2, by simp [Array.getElem?_setIfInBounds, hl], hrel.mono (Inj.le_refl J) hrows, hnd, hlt⟩ (S.named b _ hb) S.bound (fun c k o e => by simpa using S.within c k o e)

def aUpdate (P : Program) (H : AH) (t : TypeId) (m k v : Value) : Option AStep :=
  match P.underlying t with
  | some (.map kt _) =>
    match m with
    | .map (some r) =>
      match H r with
      | some (.map es) =>
        if closed k = true ∧ known v = true ∧ (es.map (·.1)).all closed = true then
          match prun P (Instr.checkKey false 10000 kt k) with
          | some _ =>
            match aFind P kt k es with
            | some (some i) => match es[i]? with
              | some e => match prun P (Instr.keyThatStays e.1 k) with
                | some k1 => if closed k1 then some (.val unk (H.upd r (.map (es.set i (k1, v))))) else none
                | none => none
              | none => none
            | some none => some (.val unk (H.upd r (.map (es ++ [(k, v)]))))
            | none => none
          | none => none
        else none
      | _ => none
    | _ => none
  | _ => none

theorem EntriesRel.set {es : List (Value × Value)} {cc : List MapEntry} (h : EntriesRel J w es cc) (i : Nat) {k k' v v' : Value} (hk : VRel J w k k') (hv : VRel J w v v') (b : Nat) :
    EntriesRel J w (es.set i (k, v)) (cc.set i { key := k', val := v', born := b }) := by
  constructor
  · have := h.1.set i hk
    simpa [List.map_set] using this
  · have := h.2.set i hv
    simpa [List.map_set] using this

theorem modify_toList (cc : Array MapEntry) (i : Nat) (f : MapEntry → MapEntry) (e : MapEntry) (he : cc[i]? = some e) : (cc.modify i f).toList = cc.toList.set i (f e) := by
  apply List.ext_getElem?
  intro j
  simp only [Array.getElem?_toList, Array.getElem?_modify, List.getElem?_set, Array.length_toList]
  by_cases hj : i = j
  · subst hj
    obtain ⟨hlt, hev⟩ := Array.getElem?_eq_some_iff.1 he
    simp [hlt, hev]
  · simp [hj]

theorem aUpdate_ok {t : TypeId} {m m' k k' v v' : Value} {st : AStep} (h : aUpdate P H t m k v = some st) (S : Sim J F H w) (hm : ORel J w m m') (hk : ORel J w k k') (hv : ORel J w v v') :
    StepOk P J F H w ((do Instr.mapUpdate t m' k' v'; pure Next.skip : Sem Next).run P w) st := by
  unfold aUpdate at h
  split at h
  · rename_i kt et ht
    split at h
    · rename_i r
      split at h
      · rename_i es hr
        split at h
        · rename_i hc
          obtain ⟨hck, hkv, hcl⟩ := hc
          have hkk : k' = k := closed_eq hck (hk.known (by intro e; subst e; simp [closed, closedN, unk] at hck))
          subst hkk
          have hvv := hv.known (known_ne hkv)
          have hm' := hm.known (by simp [unk])
          cases hm' with
          | map hj =>
            rename_i r'
            obtain ⟨r2, cc, clk, h1, h2, h3, h4, h5, h6⟩ := S.obj r _ hr
            rw [hj] at h1; cases h1
            have hkeys := keys_closed h4 hcl
            split at h
            · rename_i u hchk
              split at h
              · rename_i i hfind
                split at h
                · rename_i e he
                  split at h
                  · rename_i k1 hk1
                    split at h
                    · rename_i hk1c
                      cases h
                      unfold aFind at hfind
                      obtain ⟨r0, hr0, hr1⟩ := Option.map_eq_some_iff.1 hfind
                      obtain ⟨rr, g1, g2, g3⟩ := findKey_keys (P := P) hkeys hr0 w
                      rw [hr1] at g2
                      cases rr with
                      | none => cases g2
                      | some p =>
                        obtain ⟨j, vv⟩ := p
                        simp at g2
                        subst g2
                        have hj : j < cc.size := by
                          have := g3 j vv rfl
                          rcases Nat.lt_or_ge j cc.size with g | g
                          · exact g
                          · rw [List.getElem?_eq_none (by simpa using g)] at this; cases this
                        have hkeyj : cc[j].key = e.1 := by
                          have := congrArg (fun l => l[j]?) hkeys
                          simp [aEntries, he, hj] at this
                          exact this.symm
                        have hmod := modify_toList cc j (fun x => { x with key := k1, val := v' }) cc[j] (Array.getElem?_eq_getElem hj)
                        obtain ⟨s1, s2, s3⟩ := S.setMap (P := P) (es' := es.set j (k1, v)) (cc' := cc.modify j fun x => { x with key := k1, val := v' }) (clk' := clk) hr ‹_› h2 h3
                          (by rw [hmod]; exact h4.set j (closed_self hk1c) hvv _)
                          (by
                            rw [hmod, List.map_set]
                            have : (List.map (·.born) cc.toList).set j cc[j].born = List.map (·.born) cc.toList := by
                              apply List.ext_getElem?
                              intro q
                              rw [List.getElem?_set]
                              split
                              · rename_i e; subst e; simp [hj]
                              · rfl
                            rw [this]; exact h5)
                          (by
                            rw [hmod]
                            intro x hx
                            rcases List.mem_or_eq_of_mem_set hx with g | g
                            · exact h6 x g
                            · subst g; exact h6 cc[j] (by simp))
                        refine ⟨.skip, undef, _, J, F, ?_, .inr ⟨rfl, rfl⟩, s2, s3, .inl rfl⟩
                        have e3 : (cc[j]?).map (·.key) = some e.1 := by simp [hj, hkeyj]
                        simp only [Instr.mapUpdate, Sem.run_bind, run_underlying ht, Result.andThen_ok, run_getMap h3, prun_run _ hchk w, g1, e3, Option.getD_some, prun_run _ hk1 w, s1, Sem.run_pure]
                    · cases h
                  · cases h
                · cases h
              · rename_i hfind
                cases h
                unfold aFind at hfind
                obtain ⟨r0, hr0, hr1⟩ := Option.map_eq_some_iff.1 hfind
                obtain ⟨rr, g1, g2, g3⟩ := findKey_keys (P := P) hkeys hr0 w
                rw [hr1] at g2
                cases rr with
                | some p => cases g2
                | none =>
                  obtain ⟨s1, s2, s3⟩ := S.setMap (P := P) (es' := es ++ [(k', v)]) (cc' := cc.push { key := k', val := v', born := clk }) (clk' := clk + 1) hr ‹_› h2 h3
                    (by
                      constructor
                      · simpa using h4.1.append (VRels.cons (closed_self hck) VRels.nil)
                      · simpa using h4.2.append (VRels.cons hvv VRels.nil))
                    (by
                      rw [Array.toList_push, List.map_append, List.nodup_append]
                      refine ⟨h5, by simp, ?_⟩
                      intro x hx y hy
                      simp at hy
                      subst hy
                      simp only [List.mem_map] at hx
                      obtain ⟨q, hq, rfl⟩ := hx
                      have := h6 q hq
                      omega)
                    (by
                      intro x hx
                      rw [Array.toList_push, List.mem_append] at hx
                      rcases hx with g | g
                      · have := h6 x g; omega
                      · simp at g; subst g; simp)
                  refine ⟨.skip, undef, _, J, F, ?_, .inr ⟨rfl, rfl⟩, s2, s3, .inl rfl⟩
                  simp only [Instr.mapUpdate, Sem.run_bind, run_underlying ht, Result.andThen_ok, run_getMap h3, prun_run _ hchk w, g1, s1, Sem.run_pure]
              · cases h
            · cases h
        · cases h
      · cases h
    · cases h
  · cases h

def aDelete (P : Program) (H : AH) (t : TypeId) (m k : Value) : Option AStep :=
  match P.underlying t with
  | some (.map kt _) =>
    match m with
    | .map (some r) =>
      match H r with
      | some (.map es) =>
        if closed k = true ∧ (es.map (·.1)).all closed = true then
          match prun P (Instr.checkKey es.isEmpty 10000 kt k) with
          | some _ =>
            match aFind P kt k es with
            | some (some i) => some (.val unk (H.upd r (.map (es.eraseIdx i))))
            | some none => some (.val unk (H.upd r (.map es)))
            | none => none
          | none => none
        else none
      | _ => none
    | _ => none
  | _ => none

theorem VRels.eraseIdx {l l' : List Value} (h : VRels J w l l') (n : Nat) : VRels J w (l.eraseIdx n) (l'.eraseIdx n) := by
  rw [List.eraseIdx_eq_take_drop_succ, List.eraseIdx_eq_take_drop_succ]
  exact (h.take n).append (h.drop _)

theorem aDelete_ok {t ty : TypeId} {m m' k k' : Value} {ts : Array TypeId} {st : AStep} (hts : ts[0]? = some t) (h : aDelete P H t m k = some st) (S : Sim J F H w) (hm : ORel J w m m') (hk : ORel J w k k') :
    StepOk P J F H w ((do pure (Next.value (← Builtin.delete_ ts ty #[m', k'])) : Sem Next).run P w) st := by
  unfold aDelete at h
  split at h
  · rename_i kt et ht
    split at h
    · rename_i r
      split at h
      · rename_i es hr
        split at h
        · rename_i hc
          obtain ⟨hck, hcl⟩ := hc
          have hkk : k' = k := closed_eq hck (hk.known (by intro e; subst e; simp [closed, closedN, unk] at hck))
          subst hkk
          have hm' := hm.known (by simp [unk])
          cases hm' with
          | map hj =>
            rename_i r'
            obtain ⟨r2, cc, clk, h1, h2, h3, h4, h5, h6⟩ := S.obj r _ hr
            rw [hj] at h1; cases h1
            have hkeys := keys_closed h4 hcl
            have hemp : cc.isEmpty = es.isEmpty := by
              have := h4.1.1
              simp at this
              rw [Array.isEmpty, ← this]
              cases es <;> simp
            split at h
            · rename_i u hchk
              split at h
              · rename_i i hfind
                cases h
                unfold aFind at hfind
                obtain ⟨r0, hr0, hr1⟩ := Option.map_eq_some_iff.1 hfind
                obtain ⟨rr, g1, g2, g3⟩ := findKey_keys (P := P) hkeys hr0 w
                rw [hr1] at g2
                cases rr with
                | none => cases g2
                | some p =>
                  obtain ⟨j, vv⟩ := p
                  simp at g2
                  subst g2
                  have hl : (cc.eraseIdxIfInBounds j).toList = cc.toList.eraseIdx j := by simp
                  obtain ⟨s1, s2, s3⟩ := S.setMap (P := P) (es' := es.eraseIdx j) (cc' := cc.eraseIdxIfInBounds j) (clk' := clk) hr ‹_› h2 h3
                    (by
                      rw [hl]
                      have em : ∀ {α β : Type} (f : α → β) (l : List α), (l.eraseIdx j).map f = (l.map f).eraseIdx j := fun f l => by
                        rw [List.eraseIdx_eq_take_drop_succ, List.eraseIdx_eq_take_drop_succ, List.map_append, List.map_take, List.map_drop]
                      exact ⟨by rw [em, em]; exact h4.1.eraseIdx j, by rw [em, em]; exact h4.2.eraseIdx j⟩)
                    (by
                      rw [hl]
                      exact List.Nodup.sublist ((List.eraseIdx_sublist (l := cc.toList) (k := j)).map _) h5)
                    (by
                      rw [hl]
                      intro x hx
                      exact h6 x (List.mem_of_mem_eraseIdx hx))
                  refine ⟨.value (.tuple #[]), undef, _, J, F, ?_, .inl rfl, s2, s3, .inl rfl⟩
                  simp only [Builtin.delete_, hts, List.getElem?_toArray, List.getElem?_cons_zero, List.getElem?_cons_succ, Sem.run_bind, run_underlying ht, Result.andThen_ok, run_getMap h3, hemp, prun_run _ hchk w, g1, s1, Sem.run_pure]
              · rename_i hfind
                cases h
                unfold aFind at hfind
                obtain ⟨r0, hr0, hr1⟩ := Option.map_eq_some_iff.1 hfind
                obtain ⟨rr, g1, g2, g3⟩ := findKey_keys (P := P) hkeys hr0 w
                rw [hr1] at g2
                cases rr with
                | some p => cases g2
                | none =>
                  obtain ⟨s1, s2, s3⟩ := S.setMap (P := P) (es' := es) (cc' := cc) (clk' := clk) hr ‹_› h2 h3 h4 h5 h6
                  refine ⟨.value (.tuple #[]), undef, _, J, F, ?_, .inl rfl, s2, s3, .inl rfl⟩
                  simp only [Builtin.delete_, hts, List.getElem?_toArray, List.getElem?_cons_zero, List.getElem?_cons_succ, Sem.run_bind, run_underlying ht, Result.andThen_ok, run_getMap h3, hemp, prun_run _ hchk w, g1, s1, Sem.run_pure]
              · cases h
            · cases h
        · cases h
      · cases h
    · cases h
  · cases h

end
end Go.Abs
