/-
  Slices that come in, as rows that are only read.
-/
import Derived.Test.YtaeofoimlhmdoaaDoorAbsW
import Derived.Deep.Slices
set_option linter.unusedSimpArgs false
set_option linter.unusedVariables false
namespace Go.Abs
open Go.RowKit Go.ChangeShapes Go.WideShapes

section
variable {P : Program}

theorem read_slice {H : Type} {enc : TypeId × Value → H} {W : World} {base : Nat} {t e : TypeId} {sz : Nat} {v : Value} {d : DataW H} {ps : List MemPlace} (ht : P.underlying t = some (.slice e)) (hc : P.cellsOf e = sz) (hs : 0 < sz)
    (hval : Value.okWide P W .any base t v) (h : DataW.Trod enc P W 0 (fun _ => true) true t v d ps) :
    v = .slice none 0 0 ∨ ∃ r off n c cc T fr, v = .slice (some ⟨r, off, none⟩) n c ∧ n ≤ c ∧ c ≤ maxLen ∧ W.heap[r]? = some (.cells cc T fr) ∧ (0 < c → off + c * sz ≤ cc.size) ∧
      ∀ i, i < n → ∃ fuel D Pl, DataW.trod enc P W 0 (fun _ => true) true fuel e ((((cc.toList).drop off).drop (i * sz)).take sz) = some (D, Pl) := by
  obtain ⟨fuel, hf⟩ := h
  rcases Deep.open_slice ht hf with ⟨h0, _⟩ | ⟨a, len, cap, m, n, D, Pl, hcs, hb, hl, hm, hmm, hx, hel⟩
  · left
    cases v <;> simp [Value.cells] at h0
    · obtain ⟨rfl, rfl, rfl⟩ := h0; rfl
    · simp [Value.okWide, ht, Cell.okWide, Cell.ok] at hval
  · right
    have hv : v = .slice (some a) len cap := by
      cases v <;> simp [Value.cells] at hcs
      · obtain ⟨rfl, rfl, rfl⟩ := hcs; rfl
      · simp [Value.okWide, ht, Cell.okWide, Cell.ok] at hval
    subst hv
    simp only [Value.okWide, ht, Cell.okWide, Cell.ok] at hval
    obtain ⟨_, _, _, hspot, row, cells, hshape, _⟩ := hval
    obtain ⟨r, off, spot⟩ := a
    simp only at hspot
    subst hspot
    unfold World.shape? at hshape
    split at hshape
    · rename_i cc T fr hheap
      simp only [if_true] at hmm
      rw [hmm] at hel
      have cellAt : ∀ i, i < cap → ∃ cs', cs'.length = sz ∧ (∀ k, k < sz → cc[off + i * sz + k]? = cs'[k]?) ∧ DataW.trod enc P W 0 (fun _ => true) true n e cs' = some (D i, Pl i) := by
        intro i hi
        obtain ⟨cs', h1, h2⟩ := hel i hi
        rw [hc] at h1
        obtain ⟨_, h3, h4⟩ := World.cells?_some h1
        refine ⟨cs', h3, fun k hk => ?_, h2⟩
        have := h4 k hk
        rw [← this]
        have e1 : ((⟨r, off, none⟩ : Addr).add (i * sz)).add k = ⟨r, off + i * sz + k, none⟩ := by
          unfold Addr.add
          by_cases h1 : i * sz = 0 <;> by_cases h2 : k = 0 <;> simp [h1, h2]
        rw [e1]
        simp only [World.cell?]
        simp only at hheap
        rw [hheap]
        simp
      refine ⟨r, off, len, cap, cc, T, fr, rfl, hl, hm, hheap, fun hpos => ?_, fun i hi => ?_⟩
      · obtain ⟨cs', h3, h4, _⟩ := cellAt (cap - 1) (by omega)
        have := h4 (sz - 1) (by omega)
        rcases Nat.lt_or_ge (off + (cap - 1) * sz + (sz - 1)) cc.size with g | g
        · have : (cap - 1) * sz + sz = cap * sz := by rw [← Nat.succ_mul]; congr 1; omega
          omega
        · rw [Array.getElem?_eq_none g, List.getElem?_eq_getElem (by omega)] at this; cases this
      · obtain ⟨cs', h3, h4, h5⟩ := cellAt i (by omega)
        refine ⟨n, D i, Pl i, ?_⟩
        have : ((cc.toList.drop off).drop (i * sz)).take sz = cs' := by
          apply List.ext_getElem?
          intro k
          rw [List.getElem?_take]
          split
          · rename_i hk
            rw [List.getElem?_drop, List.getElem?_drop, ← h4 k hk, Array.getElem?_toList, Nat.add_assoc]
          · rename_i hk
            rw [List.getElem?_eq_none (by omega)]
        rw [this]; exact h5
    · cases hshape

/-- Records, one behind the other. -/
theorem gather {α : Type} {g : α → List Value} {Q : α → Prop} {sz : Nat} (hg : ∀ x, (g x).length = sz) : ∀ (n : Nat) (l : List Value), n * sz ≤ l.length → (∀ i, i < n → ∃ x, (l.drop (i * sz)).take sz = g x ∧ Q x) →
    ∃ L : List α, L.length = n ∧ l.take (n * sz) = L.flatMap g ∧ ∀ x ∈ L, Q x := by
  intro n
  induction n with
  | zero => intro l _ _; exact ⟨[], rfl, by simp, by simp⟩
  | succ n ih =>
    intro l hl h
    obtain ⟨x, h1, h2⟩ := h 0 (by omega)
    simp only [Nat.zero_mul, List.drop_zero] at h1
    obtain ⟨L, h3, h4, h5⟩ := ih (l.drop sz) (by rw [List.length_drop]; rw [Nat.succ_mul] at hl; omega) (fun i hi => by
      obtain ⟨y, hy1, hy2⟩ := h (i + 1) (by omega)
      refine ⟨y, ?_, hy2⟩
      rw [List.drop_drop, ← hy1]
      congr 2
      rw [Nat.succ_mul]; omega)
    refine ⟨x :: L, by simp [h3], ?_, ?_⟩
    · rw [List.flatMap_cons, ← h1, ← h4, Nat.succ_mul, Nat.add_comm (n * sz) sz, List.take_add]
    · intro y hy
      rcases List.mem_cons.1 hy with rfl | hy
      · exact h2
      · exact h5 y hy

/-- A place gets a name. -/
theorem Sim.nameAt {J : Inj} {F : Nat → Nat → Prop} {H : AH} {w : World} (S : Sim J F H w) {b r o : Nat} (hb : J b = none) (hr : r < w.heap.size) : Sim (J.put b (r, o)) F H w := by
  have hle := Inj.le_put J (r, o) hb
  refine ⟨fun a o' h => (S.obj a o' h).mono hle (.refl w) (fun _ _ => rfl), S.apart, fun a o' h => ?_, ?_, ?_⟩
  · have := S.named a o' h
    unfold Inj.put
    split
    · simp
    · exact this
  · obtain ⟨M, hM⟩ := S.bound
    refine ⟨max M (b + 1), fun a ha => ?_⟩
    unfold Inj.put
    rw [if_neg (by omega)]
    exact hM a (by omega)
  · intro a r' o' h
    unfold Inj.put at h
    split at h
    · cases h; exact hr
    · exact S.within a r' o' h

/-- A row that is only read gets a name. -/
theorem Sim.addRo {J : Inj} {F : Nat → Nat → Prop} {H : AH} {w : World} (S : Sim J F H w) (hro : ∀ a o, H a = some o → o.ro = true) {b r off : Nat} {cs : List Value} {cc : Array Value} {T : TypeId} {fr : Nat × Nat} (hb : J b = none) (hH : H b = none)
    (hh : w.heap[r]? = some (.cells cc T fr)) (hfit : off + cs.length ≤ cc.size) (hcs : (cc.toList.drop off).take cs.length = cs) (hcl : cs.all closed = true) :
    Sim (J.put b (r, off)) (fun a x => if a = b then x = r else F a x) (H.upd b (.cells true cs)) w ∧ ∀ a o, (H.upd b (.cells true cs)) a = some o → o.ro = true := by
  have hro' : ∀ a o, (H.upd b (.cells true cs)) a = some o → o.ro = true := by
    intro a o h
    unfold AH.upd at h
    split at h
    · cases h; rfl
    · exact hro a o h
  have S1 := S.nameAt (o := off) hb (lt_of_block hh)
  refine ⟨⟨fun a o h => ?_, fun a b' oa ob ha hb' hne hor => ?_, fun a o h => ?_, S1.bound, S1.within⟩, hro'⟩
  · unfold AH.upd at h
    by_cases e : a = b
    · subst e
      rw [if_pos rfl] at h; cases h
      refine ⟨r, off, cc, T, fr, by simp [Inj.put], fun x => by simp, hh, (fun h => by cases h), hfit, ?_⟩
      rw [hcs]
      exact VRels.self fun v hv => closed_self (List.all_eq_true.1 hcl v hv)
    · rw [if_neg e] at h
      have := S1.obj a o h
      simp only [if_neg e]
      exact this
  · rcases hor with h | h
    · rw [hro' a oa ha] at h; cases h
    · rw [hro' b' ob hb'] at h; cases h
  · unfold AH.upd at h
    by_cases e : a = b
    · subst e; simp [Inj.put]
    · rw [if_neg e] at h; exact S1.named a o h
end
end Go.Abs
