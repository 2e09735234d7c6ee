/-
  A simulation between an abstract heap (names to objects) and the model's worlds: the words and their first laws.
-/
import Derived.Calls
import Derived.Scope
import Derived.Below
set_option linter.unusedSimpArgs false
set_option linter.unusedVariables false
namespace Go.Abs

/-- Names to a place in the world: a block, and where in it the named row begins. -/
abbrev Inj := Nat → Option (Nat × Nat)

def Inj.le (J J' : Inj) : Prop := ∀ a x, J a = some x → J' a = some x

theorem Inj.le_refl (J : Inj) : J.le J := fun _ _ h => h
theorem Inj.le_trans {J J' J'' : Inj} (h : J.le J') (h' : J'.le J'') : J.le J'' := fun a x e => h' a x (h a x e)

/-- The block r is a row of n cells, or more. -/
def RowGe (w : World) (r n : Nat) : Prop := ∃ cc T fr, w.heap[r]? = some (.cells cc T fr) ∧ n ≤ cc.size

theorem RowGe.mono {w : World} {r n m : Nat} (h : RowGe w r n) (hm : m ≤ n) : RowGe w r m :=
  let ⟨cc, T, fr, e, k⟩ := h; ⟨cc, T, fr, e, Nat.le_trans hm k⟩

def RowsLe (w w' : World) : Prop := ∀ r n, RowGe w r n → RowGe w' r n

/-- An abstract value, and what stands for it in the world. A slice's third part is, in the abstract value, the number of cells of an element. -/
inductive VRel (J : Inj) (w : World) : Value → Value → Prop
  | bool (b : Bool) : VRel J w (.bool b) (.bool b)
  | int (k : IntKind) (n : Int) : VRel J w (.int k n) (.int k n)
  | float (k : FloatKind) (n : Nat) : VRel J w (.float k n) (.float k n)
  | complex (k : FloatKind) (n m : Nat) : VRel J w (.complex k n m) (.complex k n m)
  | string (s : ByteArray) : VRel J w (.string s) (.string s)
  | nilPtr : VRel J w (.pointer none) (.pointer none)
  | ptr {b i r o : Nat} (h : J b = some (r, o)) : VRel J w (.pointer (some ⟨b, i, none⟩)) (.pointer (some ⟨r, o + i, none⟩))
  | nilSlice : VRel J w (.slice none 0 0) (.slice none 0 0)
  | slice {b i r o n e c : Nat} (h : J b = some (r, o)) (hn : n ≤ c) (hr : RowGe w r (o + i + c * e)) :
      VRel J w (.slice (some ⟨b, i, none⟩) n e) (.slice (some ⟨r, o + i, none⟩) n c)
  | slice0 {b i r o j e : Nat} (h : J b = some (r, o)) : VRel J w (.slice (some ⟨b, i, none⟩) 0 e) (.slice (some ⟨r, j, none⟩) 0 0)
  | nilMap : VRel J w (.map none) (.map none)
  | map {b r : Nat} (h : J b = some (r, 0)) : VRel J w (.map (some b)) (.map (some r))
  | nilFunc : VRel J w .nilFunc .nilFunc
  | func (fn : Fn) {f f' c c' : List Value} (hf : f.length = f'.length) (hc : c.length = c'.length)
      (hvf : ∀ (i : Nat) v v', f[i]? = some v → f'[i]? = some v' → VRel J w v v')
      (hvc : ∀ (i : Nat) v v', c[i]? = some v → c'[i]? = some v' → VRel J w v v') :
      VRel J w (.func fn f.toArray c.toArray) (.func fn f'.toArray c'.toArray)
  | nilIface : VRel J w .nilIface .nilIface
  | iface (t : TypeId) {v v' : Value} (h : VRel J w v v') : VRel J w (.iface t v) (.iface t v')
  | agg {c c' : List Value} (hc : c.length = c'.length)
      (hvc : ∀ (i : Nat) v v', c[i]? = some v → c'[i]? = some v' → VRel J w v v') : VRel J w (.agg c.toArray) (.agg c'.toArray)
  | tuple {c c' : List Value} (hc : c.length = c'.length)
      (hvc : ∀ (i : Nat) v v', c[i]? = some v → c'[i]? = some v' → VRel J w v v') : VRel J w (.tuple c.toArray) (.tuple c'.toArray)

theorem VRel.mono {J J' : Inj} {w w' : World} {v v' : Value} (h : VRel J w v v') (hJ : J.le J') (hw : RowsLe w w') : VRel J' w' v v' := by
  induction h with
  | bool b => exact .bool b
  | int k n => exact .int k n
  | float k n => exact .float k n
  | complex k n m => exact .complex k n m
  | string s => exact .string s
  | nilPtr => exact .nilPtr
  | ptr h => exact .ptr (hJ _ _ h)
  | nilSlice => exact .nilSlice
  | slice h hn hr => exact .slice (hJ _ _ h) hn (hw _ _ hr)
  | slice0 h => exact .slice0 (hJ _ _ h)
  | nilMap => exact .nilMap
  | map h => exact .map (hJ _ _ h)
  | nilFunc => exact .nilFunc
  | func fn hf hc _ _ ih1 ih2 => exact .func fn hf hc ih1 ih2
  | nilIface => exact .nilIface
  | iface t _ ih => exact .iface t ih
  | agg hc _ ih => exact .agg hc ih
  | tuple hc _ ih => exact .tuple hc ih

/-- Lists of values, cell by cell. -/
def VRels (J : Inj) (w : World) (l l' : List Value) : Prop :=
  l.length = l'.length ∧ ∀ (i : Nat) v v', l[i]? = some v → l'[i]? = some v' → VRel J w v v'

theorem VRels.mono {J J' : Inj} {w w' : World} {l l' : List Value} (h : VRels J w l l') (hJ : J.le J') (hw : RowsLe w w') : VRels J' w' l l' :=
  ⟨h.1, fun i v v' a b => (h.2 i v v' a b).mono hJ hw⟩

theorem VRels.nil {J : Inj} {w : World} : VRels J w [] [] := ⟨rfl, fun i v v' a _ => by simp at a⟩

theorem VRels.cons {J : Inj} {w : World} {v v' : Value} {l l' : List Value} (h : VRel J w v v') (t : VRels J w l l') : VRels J w (v :: l) (v' :: l') := by
  refine ⟨by simp [t.1], fun i a a' ha ha' => ?_⟩
  cases i with
  | zero => simp at ha ha'; subst ha; subst ha'; exact h
  | succ i => simp at ha ha'; exact t.2 i a a' ha ha'

theorem VRels.cons_inv {J : Inj} {w : World} {v : Value} {l l' : List Value} (h : VRels J w (v :: l) l') :
    ∃ v' t', l' = v' :: t' ∧ VRel J w v v' ∧ VRels J w l t' := by
  obtain ⟨hl, hv⟩ := h
  cases l' with
  | nil => simp at hl
  | cons v' t' => exact ⟨v', t', rfl, hv 0 v v' rfl rfl, by simpa using hl, fun i a b ha hb => hv (i + 1) a b (by simpa using ha) (by simpa using hb)⟩

theorem VRels.nil_inv {J : Inj} {w : World} {l' : List Value} (h : VRels J w [] l') : l' = [] := by
  have := h.1; simp at this; exact List.eq_nil_of_length_eq_zero this.symm

theorem VRels.append {J : Inj} {w : World} {l l' k k' : List Value} (h : VRels J w l l') (g : VRels J w k k') : VRels J w (l ++ k) (l' ++ k') := by
  induction l generalizing l' with
  | nil => rw [h.nil_inv]; exact g
  | cons v l ih => obtain ⟨v', t', rfl, hv, ht⟩ := h.cons_inv; exact .cons hv (ih ht)

theorem VRels.get {J : Inj} {w : World} {l l' : List Value} (h : VRels J w l l') {i : Nat} {v : Value} (hi : l[i]? = some v) : ∃ v', l'[i]? = some v' ∧ VRel J w v v' := by
  have hlt : i < l.length := by
    rcases Nat.lt_or_ge i l.length with g | g
    · exact g
    · rw [List.getElem?_eq_none g] at hi; cases hi
  have hlt' : i < l'.length := by rw [← h.1]; exact hlt
  exact ⟨l'[i], List.getElem?_eq_getElem hlt', h.2 i v _ hi (List.getElem?_eq_getElem hlt')⟩

theorem VRels.take {J : Inj} {w : World} {l l' : List Value} (h : VRels J w l l') (n : Nat) : VRels J w (l.take n) (l'.take n) := by
  refine ⟨by simp [h.1], fun i v v' a b => ?_⟩
  rw [List.getElem?_take] at a b
  split at a
  · exact h.2 i v v' a (by simpa [*] using b)
  · cases a

theorem VRels.drop {J : Inj} {w : World} {l l' : List Value} (h : VRels J w l l') (n : Nat) : VRels J w (l.drop n) (l'.drop n) := by
  refine ⟨by simp [h.1], fun i v v' a b => ?_⟩
  rw [List.getElem?_drop] at a b
  exact h.2 _ v v' a b

theorem VRels.set {J : Inj} {w : World} {l l' : List Value} (h : VRels J w l l') (n : Nat) {x x' : Value} (hx : VRel J w x x') : VRels J w (l.set n x) (l'.set n x') := by
  refine ⟨by simp [h.1], fun i v v' a b => ?_⟩
  rw [List.getElem?_set] at a b
  by_cases hn : n = i
  · subst hn
    simp only [if_true] at a b
    split at a
    · split at b
      · cases a; cases b; exact hx
      · cases b
    · cases a
  · rw [if_neg hn] at a b; exact h.2 i v v' a b

/-- What a name may stand for besides a row or a map: a predicate over a footprint, that stays while the footprint does. -/
structure ARep where
  holds : Inj → World → Nat → (Nat → Prop) → Prop
  stable : ∀ J J' w w' a F, holds J w a F → J.le J' → RowsLe w w' → (∀ r, F r → w'.heap[r]? = w.heap[r]?) → holds J' w' a F
  within : ∀ J w a F, holds J w a F → ∀ r, F r → r < w.heap.size

/-- An object of the abstract heap. -/
inductive AObj where
  /-- a row of cells; ro: it is only read -/
  | cells (ro : Bool) (cs : List Value)
  | map (es : List (Value × Value))
  | siter (s : ByteArray) (pos : Nat)
  | ext (ro : Bool) (R : ARep)

def AObj.ro : AObj → Bool
  | .cells ro _ => ro
  | .ext ro _ => ro
  | _ => false

/-- The abstract heap. -/
abbrev AH := Nat → Option AObj

def AH.upd (H : AH) (a : Nat) (o : AObj) : AH := fun b => if b = a then some o else H b
def AH.del (H : AH) (a : Nat) : AH := fun b => if b = a then none else H b

theorem AH.upd_same (H : AH) (a : Nat) (o : AObj) : H.upd a o a = some o := by simp [AH.upd]
theorem AH.upd_ne (H : AH) {a b : Nat} (o : AObj) (h : b ≠ a) : H.upd a o b = H b := by simp [AH.upd, h]
theorem AH.del_same (H : AH) (a : Nat) : H.del a a = none := by simp [AH.del]
theorem AH.del_ne (H : AH) {a b : Nat} (h : b ≠ a) : H.del a b = H b := by simp [AH.del, h]

/-- The entries of a map, in the model. -/
def EntriesRel (J : Inj) (w : World) (es : List (Value × Value)) (cc : List MapEntry) : Prop :=
  VRels J w (es.map (·.1)) (cc.map (·.key)) ∧ VRels J w (es.map (·.2)) (cc.map (·.val))

/-- An object of the abstract heap, and what stands for it. F: the blocks that belong to it. -/
def ObjRel (J : Inj) (w : World) (a : Nat) (F : Nat → Prop) : AObj → Prop
  | .cells ro cs => ∃ r off cc T fr, J a = some (r, off) ∧ (∀ x, F x ↔ x = r) ∧ w.heap[r]? = some (.cells cc T fr) ∧ (ro = false → fr = (0, 0)) ∧
      off + cs.length ≤ cc.size ∧ VRels J w cs ((cc.toList.drop off).take cs.length)
  | .map es => ∃ r cc clk, J a = some (r, 0) ∧ (∀ x, F x ↔ x = r) ∧ w.heap[r]? = some (.map cc clk) ∧ EntriesRel J w es cc.toList ∧
      (cc.toList.map (·.born)).Nodup ∧ ∀ e ∈ cc.toList, e.born < clk
  | .siter s pos => ∃ r, J a = some (r, 0) ∧ (∀ x, F x ↔ x = r) ∧ w.heap[r]? = some (.stringIter s pos)
  | .ext _ R => R.holds J w a F

theorem EntriesRel.mono {J J' : Inj} {w w' : World} {es : List (Value × Value)} {cc : List MapEntry} (h : EntriesRel J w es cc) (hJ : J.le J') (hw : RowsLe w w') : EntriesRel J' w' es cc :=
  ⟨h.1.mono hJ hw, h.2.mono hJ hw⟩

theorem ObjRel.mono {J J' : Inj} {w w' : World} {a : Nat} {F : Nat → Prop} {o : AObj} (h : ObjRel J w a F o) (hJ : J.le J') (hw : RowsLe w w')
    (hk : ∀ r, F r → w'.heap[r]? = w.heap[r]?) : ObjRel J' w' a F o := by
  cases o with
  | cells ro cs =>
    obtain ⟨r, off, cc, T, fr, h1, h2, h3, h4, h5, h6⟩ := h
    exact ⟨r, off, cc, T, fr, hJ _ _ h1, h2, by rw [hk r ((h2 r).2 rfl)]; exact h3, h4, h5, h6.mono hJ hw⟩
  | map es =>
    obtain ⟨r, cc, clk, h1, h2, h3, h4, h5, h6⟩ := h
    exact ⟨r, cc, clk, hJ _ _ h1, h2, by rw [hk r ((h2 r).2 rfl)]; exact h3, h4.mono hJ hw, h5, h6⟩
  | siter s pos =>
    obtain ⟨r, h1, h2, h3⟩ := h
    exact ⟨r, hJ _ _ h1, h2, by rw [hk r ((h2 r).2 rfl)]; exact h3⟩
  | ext ro R => exact R.stable J J' w w' a F h hJ hw hk

theorem lt_of_block {w : World} {r : Nat} {o : Obj} (h : w.heap[r]? = some o) : r < w.heap.size := by
  rcases Nat.lt_or_ge r w.heap.size with g | g
  · exact g
  · rw [Array.getElem?_eq_none g] at h; cases h

theorem ObjRel.within {J : Inj} {w : World} {a : Nat} {F : Nat → Prop} {o : AObj} (h : ObjRel J w a F o) : ∀ r, F r → r < w.heap.size := by
  intro r hr
  cases o with
  | cells ro cs => obtain ⟨r', off, cc, T, fr, h1, h2, h3, _⟩ := h; rw [(h2 r).1 hr]; exact lt_of_block h3
  | map es => obtain ⟨r', cc, clk, h1, h2, h3, _⟩ := h; rw [(h2 r).1 hr]; exact lt_of_block h3
  | siter s pos => obtain ⟨r', h1, h2, h3⟩ := h; rw [(h2 r).1 hr]; exact lt_of_block h3
  | ext ro R => exact R.within J w a F h r hr

/-- The abstract heap H stands for what the world w holds. F: each name's blocks. -/
structure Sim (J : Inj) (F : Nat → Nat → Prop) (H : AH) (w : World) : Prop where
  obj : ∀ a o, H a = some o → ObjRel J w a (F a) o
  apart : ∀ a b oa ob, H a = some oa → H b = some ob → a ≠ b → (oa.ro = false ∨ ob.ro = false) → ∀ r, F a r → ¬ F b r
  named : ∀ a o, H a = some o → J a ≠ none
  bound : ∃ N, ∀ a, N ≤ a → J a = none
  within : ∀ a r o, J a = some (r, o) → r < w.heap.size

/-- How a state may become another one. -/
structure Evolves (J : Inj) (F : Nat → Nat → Prop) (H : AH) (w : World) (J' : Inj) (F' : Nat → Nat → Prop) (H' : AH) (w' : World) : Prop where
  le : J.le J'
  rows : RowsLe w w'
  size : w.heap.size ≤ w'.heap.size
  os : w'.os = w.os
  tape : w'.tape = w.tape
  output : w'.output = w.output
  keep : ∀ r, r < w.heap.size → (∀ a o, H a = some o → o.ro = false → ¬ F a r) → w'.heap[r]? = w.heap[r]?
  new : ∀ a o, H' a = some o → o.ro = false → ∀ r, F' a r → w.heap.size ≤ r ∨ ∃ b ob, H b = some ob ∧ ob.ro = false ∧ F b r
  names : ∀ a, H' a ≠ none → H a ≠ none ∨ J a = none

theorem RowsLe.refl (w : World) : RowsLe w w := fun _ _ h => h
theorem RowsLe.trans {a b c : World} (h : RowsLe a b) (k : RowsLe b c) : RowsLe a c := fun r n x => k r n (h r n x)

theorem Evolves.refl (J : Inj) (F : Nat → Nat → Prop) (H : AH) (w : World) : Evolves J F H w J F H w :=
  ⟨Inj.le_refl J, .refl w, Nat.le_refl _, rfl, rfl, rfl, fun _ _ _ => rfl, fun a o h hr r hF => .inr ⟨a, o, h, hr, hF⟩, fun _ h => .inl h⟩

theorem Evolves.trans {J J1 J2 : Inj} {F F1 F2 : Nat → Nat → Prop} {H H1 H2 : AH} {w w1 w2 : World}
    (h : Evolves J F H w J1 F1 H1 w1) (k : Evolves J1 F1 H1 w1 J2 F2 H2 w2) : Evolves J F H w J2 F2 H2 w2 := by
  refine ⟨Inj.le_trans h.le k.le, h.rows.trans k.rows, Nat.le_trans h.size k.size, k.os.trans h.os, k.tape.trans h.tape, k.output.trans h.output, ?_, ?_, ?_⟩
  · intro r hr hF
    rw [k.keep r (Nat.lt_of_lt_of_le hr h.size) fun a o ho hro hFr => ?_, h.keep r hr hF]
    rcases h.new a o ho hro r hFr with g | ⟨b, ob, e1, e2, e3⟩
    · omega
    · exact hF b ob e1 e2 e3
  · intro a o ho hro r hr
    rcases k.new a o ho hro r hr with g | ⟨b, ob, e1, e2, e3⟩
    · exact .inl (Nat.le_trans h.size g)
    · exact h.new b ob e1 e2 r e3
  · intro a ha
    rcases k.names a ha with g | g
    · exact h.names a g
    · right
      cases hj : J a with
      | none => rfl
      | some x => rw [h.le a x hj] at g; cases g

#print axioms Evolves.trans
end Go.Abs
