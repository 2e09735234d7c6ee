/-
  The states of the simulation: how one object changes, a new one comes, one is forgotten.
-/
import Derived.Test.YtaeofoimlhmdoaaDoorAbsA
set_option linter.unusedSimpArgs false
set_option linter.unusedVariables false
namespace Go.Abs

def Inj.put (J : Inj) (a : Nat) (x : Nat × Nat) : Inj := fun b => if b = a then some x else J b

theorem Inj.put_same (J : Inj) (a : Nat) (x : Nat × Nat) : J.put a x a = some x := by simp [Inj.put]
theorem Inj.put_ne (J : Inj) {a b : Nat} (x : Nat × Nat) (h : b ≠ a) : J.put a x b = J b := by simp [Inj.put, h]
theorem Inj.le_put (J : Inj) {a : Nat} (x : Nat × Nat) (h : J a = none) : J.le (J.put a x) := by
  intro b y hb
  by_cases e : b = a
  · subst e; rw [h] at hb; cases hb
  · rw [Inj.put_ne J x e]; exact hb

/-- The blocks of a name that there is. -/
def Own (F : Nat → Nat → Prop) (H : AH) (a r : Nat) : Prop := (∃ o, H a = some o ∧ o.ro = false) ∧ F a r

section
variable {J J' : Inj} {F F' : Nat → Nat → Prop} {H : AH} {w w' : World}

/-- One object changes, or is new: all others stay. -/
theorem Sim.update (S : Sim J F H w) {a : Nat} {o' : AObj} (hle : J.le J') (hrows : RowsLe w w') (hsize : w.heap.size ≤ w'.heap.size)
    (hos : w'.os = w.os) (htape : w'.tape = w.tape) (hout : w'.output = w.output)
    (ha : (∃ o, H a = some o ∧ o.ro = false) ∨ (H a = none ∧ J a = none))
    (hkeep : ∀ r, r < w.heap.size → ¬ Own F H a r → w'.heap[r]? = w.heap[r]?)
    (hF' : ∀ b, b ≠ a → F' b = F b) (hFa : ∀ r, F' a r → w.heap.size ≤ r ∨ Own F H a r)
    (hobj : ObjRel J' w' a (F' a) o') (hnamed : J' a ≠ none)
    (hbound : ∃ N, ∀ a, N ≤ a → J' a = none) (hwithin : ∀ a r o, J' a = some (r, o) → r < w'.heap.size) :
    Sim J' F' (H.upd a o') w' ∧ Evolves J F H w J' F' (H.upd a o') w' := by
  have hown : ∀ b ob, H b = some ob → b ≠ a → ∀ r, F b r → ¬ Own F H a r := by
    intro b ob hb hne r hr ⟨⟨o, ho, hro⟩, hFr⟩
    exact S.apart b a ob o hb ho hne (.inr hro) r hr hFr
  refine ⟨⟨?_, ?_, ?_, hbound, hwithin⟩, ⟨hle, hrows, hsize, hos, htape, hout, ?_, ?_, ?_⟩⟩
  · intro b ob hb
    by_cases e : b = a
    · subst e; rw [AH.upd_same] at hb; cases hb; exact hobj
    · rw [AH.upd_ne H o' e] at hb
      rw [hF' b e]
      exact (S.obj b ob hb).mono hle hrows fun r hr => hkeep r ((S.obj b ob hb).within r hr) (hown b ob hb e r hr)
  · intro b c ob oc hb hc hne hro r hr hr'
    by_cases eb : b = a
    · subst eb
      have hcne : c ≠ b := fun e => hne e.symm
      rw [AH.upd_ne H o' hcne] at hc
      rw [hF' c hcne] at hr'
      rcases hFa r hr with g | g
      · have := (S.obj c oc hc).within r hr'; omega
      · exact hown c oc hc hcne r hr' g
    · rw [AH.upd_ne H o' eb] at hb
      rw [hF' b eb] at hr
      by_cases ec : c = a
      · subst ec
        rcases hFa r hr' with g | g
        · have := (S.obj b ob hb).within r hr; omega
        · exact hown b ob hb eb r hr g
      · rw [AH.upd_ne H o' ec] at hc
        rw [hF' c ec] at hr'
        exact S.apart b c ob oc hb hc hne hro r hr hr'
  · intro b ob hb
    by_cases e : b = a
    · subst e; exact hnamed
    · rw [AH.upd_ne H o' e] at hb
      intro hn
      have := S.named b ob hb
      cases hj : J b with
      | none => exact this hj
      | some x => rw [hle b x hj] at hn; cases hn
  · intro r hr hall
    refine hkeep r hr ?_
    rintro ⟨⟨o, ho, hro⟩, hFr⟩
    exact hall a o ho hro hFr
  · intro b ob hb hro r hr
    by_cases e : b = a
    · subst e
      rcases hFa r hr with g | ⟨⟨o, ho, hro'⟩, g⟩
      · exact .inl g
      · exact .inr ⟨b, o, ho, hro', g⟩
    · rw [AH.upd_ne H o' e] at hb
      rw [hF' b e] at hr
      exact .inr ⟨b, ob, hb, hro, hr⟩
  · intro b hb
    by_cases e : b = a
    · subst e
      rcases ha with ⟨o, ho, _⟩ | ⟨_, h2⟩
      · left; rw [ho]; simp
      · exact .inr h2
    · rw [AH.upd_ne H o' e] at hb; exact .inl hb

/-- A name is forgotten. -/
theorem Sim.forget (S : Sim J F H w) (a : Nat) : Sim J F (H.del a) w ∧ Evolves J F H w J F (H.del a) w := by
  have hd : ∀ b o, H.del a b = some o → H b = some o := by
    intro b o h; simp only [AH.del] at h; split at h
    · cases h
    · exact h
  refine ⟨⟨fun b o h => S.obj b o (hd b o h), fun b c ob oc hb hc => S.apart b c ob oc (hd b ob hb) (hd c oc hc), fun b o h => S.named b o (hd b o h), S.bound, S.within⟩, ?_⟩
  refine ⟨Inj.le_refl J, .refl w, Nat.le_refl _, rfl, rfl, rfl, fun _ _ _ => rfl, fun b o h hr r hF => .inr ⟨b, o, hd b o h, hr, hF⟩, fun b h => .inl ?_⟩
  intro h'
  exact h (by simp only [AH.del]; split <;> first | rfl | exact h')

/-- Any heap that has no more than this one. -/
theorem Sim.less {K : AH} (S : Sim J F H w) (hd : ∀ b o, K b = some o → H b = some o) : Sim J F K w ∧ Evolves J F H w J F K w := by
  refine ⟨⟨fun b o h => S.obj b o (hd b o h), fun b c ob oc hb hc => S.apart b c ob oc (hd b ob hb) (hd c oc hc), fun b o h => S.named b o (hd b o h), S.bound, S.within⟩, ?_⟩
  refine ⟨Inj.le_refl J, .refl w, Nat.le_refl _, rfl, rfl, rfl, fun _ _ _ => rfl, fun b o h hr r hF => .inr ⟨b, o, hd b o h, hr, hF⟩, fun b h => .inl ?_⟩
  cases hk : K b with
  | none => exact absurd hk h
  | some o => rw [hd b o hk]; simp

theorem Sim.fresh (S : Sim J F H w) : ∃ b, J b = none ∧ H b = none := by
  obtain ⟨N, hN⟩ := S.bound
  refine ⟨N, hN N (Nat.le_refl N), ?_⟩
  cases h : H N with
  | none => rfl
  | some o => exact absurd (hN N (Nat.le_refl N)) (S.named N o h)

/-- The world has drawn. -/
theorem Sim.still (S : Sim J F H w) (hheap : w'.heap = w.heap) (hos : w'.os = w.os) (htape : w'.tape = w.tape) (hout : w'.output = w.output) :
    Sim J F H w' ∧ Evolves J F H w J F H w' := by
  have hr : RowsLe w w' := fun r n ⟨cc, T, fr, h, k⟩ => ⟨cc, T, fr, by rw [hheap]; exact h, k⟩
  refine ⟨⟨fun a o h => (S.obj a o h).mono (Inj.le_refl J) hr (fun r _ => by rw [hheap]), S.apart, S.named, S.bound, fun a r o h => by rw [hheap]; exact S.within a r o h⟩, ?_⟩
  exact ⟨Inj.le_refl J, hr, by rw [hheap]; exact Nat.le_refl _, hos, htape, hout, fun r _ _ => by rw [hheap], fun a o h hro r hF => .inr ⟨a, o, h, hro, hF⟩, fun _ h => .inl h⟩

theorem rows_alloc (w : World) (o : Obj) : RowsLe w (w.alloc o) := by
  rintro r n ⟨cc, T, fr, h, k⟩
  refine ⟨cc, T, fr, ?_, k⟩
  have := lt_of_block h
  show (w.heap.push o)[r]? = _
  rw [Array.getElem?_push, if_neg (by omega)]; exact h

theorem heap_alloc_lt (w : World) (o : Obj) {r : Nat} (h : r < w.heap.size) : (w.alloc o).heap[r]? = w.heap[r]? := by
  show (w.heap.push o)[r]? = _
  rw [Array.getElem?_push, if_neg (by omega)]

theorem heap_alloc_same (w : World) (o : Obj) : (w.alloc o).heap[w.heap.size]? = some o := by
  show (w.heap.push o)[w.heap.size]? = _
  simp

/-- A new object, in a new block. -/
theorem Sim.new (S : Sim J F H w) {b : Nat} (hb : J b = none) (hH : H b = none) (ob : Obj) (o : AObj)
    (hobj : ObjRel (J.put b (w.heap.size, 0)) (w.alloc ob) b (fun r => r = w.heap.size) o) :
    ∃ F', Sim (J.put b (w.heap.size, 0)) F' (H.upd b o) (w.alloc ob) ∧ Evolves J F H w (J.put b (w.heap.size, 0)) F' (H.upd b o) (w.alloc ob) := by
  refine ⟨fun a => if a = b then (fun r => r = w.heap.size) else F a, ?_⟩
  refine S.update (Inj.le_put J _ hb) (rows_alloc w ob) (by simp) rfl rfl rfl (.inr ⟨hH, hb⟩) (fun r hr _ => heap_alloc_lt w ob hr) (fun c hc => by simp [hc]) ?_ (by simpa using hobj) ?_ ?_ ?_
  · intro r hr; simp at hr; left; omega
  · rw [Inj.put_same]; simp
  · obtain ⟨N, hN⟩ := S.bound
    refine ⟨max N (b + 1), fun a ha => ?_⟩
    rw [Inj.put_ne J _ (by omega)]
    exact hN a (by omega)
  · intro a r o h
    by_cases e : a = b
    · subst e; rw [Inj.put_same] at h; cases h; simp
    · rw [Inj.put_ne J _ e] at h
      have := S.within a r o h
      simp; omega

theorem rows_setBlock {w w' : World} {r : Nat} {cc cc' : Array Value} {T T' : TypeId} {fr fr' : Nat × Nat} (h : w.heap[r]? = some (.cells cc T fr)) (h' : w'.heap[r]? = some (.cells cc' T' fr'))
    (hs : cc.size ≤ cc'.size) (ho : ∀ k, k ≠ r → w'.heap[k]? = w.heap[k]?) : RowsLe w w' := by
  rintro k n ⟨c, t, f, e, g⟩
  by_cases hk : k = r
  · subst hk; rw [h] at e; cases e; exact ⟨cc', T', fr', h', by omega⟩
  · exact ⟨c, t, f, by rw [ho k hk]; exact e, g⟩

theorem rows_setOther {w w' : World} {r : Nat} {o : Obj} (h : w.heap[r]? = some o) (hno : ∀ cc T fr, o ≠ .cells cc T fr) (ho : ∀ k, k ≠ r → w'.heap[k]? = w.heap[k]?) : RowsLe w w' := by
  rintro k n ⟨c, t, f, e, g⟩
  by_cases hk : k = r
  · subst hk; rw [h] at e; cases e; exact absurd rfl (hno _ _ _)
  · exact ⟨c, t, f, by rw [ho k hk]; exact e, g⟩

end
#print axioms Sim.new
end Go.Abs
