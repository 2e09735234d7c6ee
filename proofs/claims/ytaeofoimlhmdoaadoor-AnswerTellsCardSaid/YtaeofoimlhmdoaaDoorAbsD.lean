/-
  One operation over the abstract heap: rows of cells are read and written.
-/
import Derived.Test.YtaeofoimlhmdoaaDoorAbsC
set_option linter.unusedSimpArgs false
set_option linter.unusedVariables false
namespace Go.Abs
open Go.RowKit

/-- Some cells of a row are written. -/
def awr (cs : List Value) (i : Nat) (vs : List Value) : List Value :=
  match vs with
  | [v] => cs.set i v
  | vs => cs.take i ++ vs ++ cs.drop (i + vs.length)

theorem awr_eq {cs vs : List Value} {i : Nat} (h : i + vs.length ≤ cs.length) : awr cs i vs = cs.take i ++ vs ++ cs.drop (i + vs.length) := by
  unfold awr
  split
  · rename_i v
    simp at h ⊢
    rw [List.set_eq_take_append_cons_drop, if_pos (by omega)]
  · rfl

theorem awr_length {cs vs : List Value} {i : Nat} (h : i + vs.length ≤ cs.length) : (awr cs i vs).length = cs.length := by
  rw [awr_eq h]; simp; omega

section
variable {P : Program} {J : Inj} {F : Nat → Nat → Prop} {H : AH} {w : World}

theorem setRow_block (w : World) (g : Nat) (cur c : Array Value) (t : TypeId) (fr : Nat × Nat) (h : w.heap[g]? = some (.cells cur t fr)) : (w.setRow g c).heap[g]? = some (.cells c t fr) := setRow_heap w g cur c t fr h

theorem rel_cell {cs : List Value} {cc : Array Value} {off i : Nat} {v : Value} (h : VRels J w cs ((cc.toList.drop off).take cs.length)) (hv : cs[i]? = some v) :
    ∃ v', cc[off + i]? = some v' ∧ VRel J w v v' := by
  obtain ⟨v', e, hr⟩ := h.get hv
  have hi : i < cs.length := by
    rcases Nat.lt_or_ge i cs.length with g | g
    · exact g
    · rw [List.getElem?_eq_none g] at hv; cases hv
  rw [List.getElem?_take_of_lt hi, List.getElem?_drop, Array.getElem?_toList] at e
  exact ⟨v', e, hr⟩

theorem VRel.oneCell {v v' : Value} (h : VRel J w v v') (h1 : v.oneCell' = true) : v'.oneCell' = true := by
  cases h <;> first | rfl | simp [Value.oneCell'] at h1

/-- Some cells of a row are written. -/
theorem Sim.write (S : Sim J F H w) {b i : Nat} {cs vs vs' : List Value} (hb : H b = some (.cells false cs)) (hi : i + vs.length ≤ cs.length) (hv : VRels J w vs vs') (h1 : ∀ v ∈ vs, v.oneCell' = true) :
    ∃ r off cc T, J b = some (r, off) ∧ w.heap[r]? = some (.cells cc T (0, 0)) ∧ off + cs.length ≤ cc.size ∧
      (∀ k : Nat, k = off + i → (storeCells ⟨r, k, none⟩ vs' 0).run P w = .ok () (w.setRow r (cc.toList.take (off + i) ++ vs' ++ cc.toList.drop (off + i + vs'.length)).toArray)) ∧
      Sim J F (H.upd b (.cells false (awr cs i vs))) (w.setRow r (cc.toList.take (off + i) ++ vs' ++ cc.toList.drop (off + i + vs'.length)).toArray) ∧
      Evolves J F H w J F (H.upd b (.cells false (awr cs i vs))) (w.setRow r (cc.toList.take (off + i) ++ vs' ++ cc.toList.drop (off + i + vs'.length)).toArray) := by
  obtain ⟨r, off, cc, T, fr, e1, e2, e3, e4, e5, e6⟩ := S.obj b _ hb
  have e4 := e4 rfl
  subst e4
  have hl := hv.1
  have h1' : ∀ v ∈ vs', v.oneCell' = true := by
    intro v hm
    obtain ⟨k, hk⟩ := List.getElem?_of_mem hm
    have hlt : k < vs.length := by
      rcases Nat.lt_or_ge k vs'.length with g | g
      · omega
      · rw [List.getElem?_eq_none g] at hk; cases hk
    exact (hv.2 k _ v (List.getElem?_eq_getElem hlt) hk).oneCell (h1 _ (List.getElem_mem hlt))
  have hsz : (cc.toList.take (off + i) ++ vs' ++ cc.toList.drop (off + i + vs'.length)).length = cc.size := by simp only [List.length_append, List.length_take, List.length_drop, Array.length_toList]; omega
  have hother : ∀ k, k ≠ r → (w.setRow r (cc.toList.take (off + i) ++ vs' ++ cc.toList.drop (off + i + vs'.length)).toArray).heap[k]? = w.heap[k]? := fun k hk => setRow_other w r k _ hk
  have hblock := setRow_block w r cc (cc.toList.take (off + i) ++ vs' ++ cc.toList.drop (off + i + vs'.length)).toArray T (0, 0) e3
  have hrows : RowsLe w (w.setRow r (cc.toList.take (off + i) ++ vs' ++ cc.toList.drop (off + i + vs'.length)).toArray) :=
    rows_setBlock e3 hblock (Nat.le_of_eq (by rw [List.size_toArray (as := List.take (off + i) cc.toList ++ vs' ++ List.drop (off + i + vs'.length) cc.toList), hsz])) hother
  refine ⟨r, off, cc, T, e1, e3, e5, ?_, ?_⟩
  · rintro k rfl
    have := run_storeCells_at P r (off + i) T vs' 0 cc w e3 (by simpa using by omega) h1'
    simpa using this
  · refine S.update (Inj.le_refl J) hrows (by simp [World.setRow]) rfl rfl rfl (.inl ⟨_, hb, rfl⟩) ?_ (fun _ _ => rfl) ?_ ?_ (S.named b _ hb) S.bound ?_
    · intro k hk hno
      refine hother k fun e => hno ⟨⟨_, hb, rfl⟩, (e2 k).2 e⟩
    · intro k hk; exact .inr ⟨⟨_, hb, rfl⟩, hk⟩
    · refine ⟨r, off, _, T, (0, 0), e1, e2, hblock, fun _ => rfl, by simp [awr_length hi]; omega, ?_⟩
      have hm := (e6.mono (Inj.le_refl J) hrows)
      have hvm := hv.mono (Inj.le_refl J) hrows
      rw [awr_eq hi]
      have hlen : (cs.take i ++ vs ++ cs.drop (i + vs.length)).length = cs.length := by simp; omega
      rw [hlen]
      have ee : ((cc.toList.take (off + i) ++ vs' ++ cc.toList.drop (off + i + vs'.length)).toArray.toList.drop off).take cs.length
          = ((cc.toList.drop off).take cs.length).take i ++ vs' ++ ((cc.toList.drop off).take cs.length).drop (i + vs.length) := by
        apply List.ext_getElem?
        intro j
        simp only [List.getElem?_take, List.getElem?_drop, List.getElem?_append, List.length_append, List.length_take, List.length_drop, Array.length_toList]
        have m1 : min (off + i) cc.size = off + i := by omega
        have m2 : min i (min cs.length (cc.size - off)) = i := by omega
        rw [m1, m2]
        by_cases c1 : j < i
        · rw [if_pos (by omega : j < cs.length), if_pos (by omega : off + j < off + i + vs'.length), if_pos (by omega : off + j < off + i), if_pos (by omega : off + j < off + i), if_pos (by omega : j < i + vs'.length), if_pos c1, if_pos c1, if_pos (by omega : j < cs.length)]
        · by_cases c2 : j < i + vs'.length
          · rw [if_pos (by omega : j < cs.length), if_pos (by omega : off + j < off + i + vs'.length), if_neg (by omega : ¬ off + j < off + i), if_pos c2, if_neg c1]
            congr 1; omega
          · rw [if_neg (by omega : ¬ off + j < off + i + vs'.length), if_neg c2]
            by_cases c3 : j < cs.length
            · rw [if_pos c3, if_pos (by omega : i + vs.length + (j - (i + vs'.length)) < cs.length)]
              congr 1; omega
            · rw [if_neg c3, if_neg (by omega : ¬ i + vs.length + (j - (i + vs'.length)) < cs.length)]
      rw [ee]
      exact ((hm.take i).append hvm).append (hm.drop _)
    · intro c k o h
      have := S.within c k o h
      simpa [World.setRow] using this

end
#print axioms Sim.write
end Go.Abs
