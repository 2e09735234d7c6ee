/-
  One operation over the abstract heap: append, clear, bytes as a string.
-/
import Derived.Test.YtaeofoimlhmdoaaDoorAbsH
set_option linter.unusedSimpArgs false
set_option linter.unusedVariables false
namespace Go.Abs
open Go.RowKit

section
variable {P : Program} {J : Inj} {F : Nat → Nat → Prop} {H : AH} {w : World} {A : List Value} {a : Act}

/-- Cells of a row, as loadCells reads them. -/
theorem run_loadCells_rel {r off i n : Nat} {cs : List Value} {cc : Array Value} {T : TypeId} {fr : Nat × Nat} (hr : w.heap[r]? = some (.cells cc T fr)) (hle : off + cs.length ≤ cc.size)
    (hv : VRels J w cs ((cc.toList.drop off).take cs.length)) (hi : i + n ≤ cs.length) :
    ∃ l : List Value, (loadCells ⟨r, off + i, none⟩ n).run P w = .ok l.toArray w ∧ VRels J w ((cs.drop i).take n) l ∧ l.length = n ∧ l = (cc.toList.drop (off + i)).take n := by
  have hcell : ∀ k, w.cell? ⟨r, k, none⟩ = cc[k]? := fun k => by simp [World.cell?, hr]
  have hl : ((cc.toList.drop (off + i)).take n).length = n := by simp; omega
  have hload := run_loadCells_list (P := P) w ⟨r, off + i, none⟩ ((cc.toList.drop (off + i)).take n) (fun j u hj => by
    have hadd : (⟨r, off + i, none⟩ : Addr).add j = ⟨r, off + i + j, none⟩ := Addr.add_lit _ _ _
    rw [hadd, hcell]
    rw [List.getElem?_take] at hj
    split at hj
    · rw [List.getElem?_drop, Array.getElem?_toList] at hj; exact hj
    · cases hj)
  rw [hl] at hload
  refine ⟨_, hload, ?_, hl, rfl⟩
  have := (hv.drop i).take n
  have e : List.take n (List.drop i (List.take cs.length (List.drop off cc.toList))) = List.take n (List.drop (off + i) cc.toList) := by
    apply List.ext_getElem?
    intro j
    simp only [List.getElem?_take, List.getElem?_drop]
    by_cases hj : j < n
    · rw [if_pos hj, if_pos hj, if_pos (by omega : i + j < cs.length)]; congr 1; omega
    · rw [if_neg hj, if_neg hj]
  rw [e] at this
  exact this

/-- A row is written from some place on, behind its end too; it goes on under a new name, from another place on. -/
theorem Sim.regrow (S : Sim J F H w) {b i k nb : Nat} {cs vs vs' : List Value} (hb : H b = some (.cells false cs)) (hik : i ≤ k) (hk : k ≤ cs.length) (hv : VRels J w vs vs') (hnb : J nb = none) (hHnb : H nb = none)
    {r off : Nat} {cc : Array Value} {T : TypeId} (e1 : J b = some (r, off)) (e2 : ∀ x, F b x ↔ x = r) (e3 : w.heap[r]? = some (.cells cc T (0, 0))) (e5 : off + cs.length ≤ cc.size)
    (e6 : VRels J w cs ((cc.toList.drop off).take cs.length)) (hfit : off + k + vs.length ≤ cc.size) {w' : World}
    (hw' : w' = w.setRow r (cc.toList.take (off + k) ++ vs' ++ cc.toList.drop (off + k + vs'.length)).toArray) :
    ∃ F', Sim (J.put nb (r, off + i)) F' ((H.del b).upd nb (.cells false ((cs.take k).drop i ++ vs))) w' ∧
      Evolves J F H w (J.put nb (r, off + i)) F' ((H.del b).upd nb (.cells false ((cs.take k).drop i ++ vs))) w' := by
  have hl := hv.1
  have hne : nb ≠ b := by intro e; subst e; rw [hHnb] at hb; cases hb
  have hsz : (cc.toList.take (off + k) ++ vs' ++ cc.toList.drop (off + k + vs'.length)).length = cc.size := by simp only [List.length_append, List.length_take, List.length_drop, Array.length_toList]; omega
  have hother : ∀ x, x ≠ r → w'.heap[x]? = w.heap[x]? := fun x hx => by rw [hw']; exact setRow_other w r x _ hx
  have hblock : w'.heap[r]? = some (.cells (cc.toList.take (off + k) ++ vs' ++ cc.toList.drop (off + k + vs'.length)).toArray T (0, 0)) := by rw [hw']; exact setRow_block w r cc _ T (0, 0) e3
  have hrows : RowsLe w w' := rows_setBlock e3 hblock (Nat.le_of_eq (by rw [List.size_toArray (as := List.take (off + k) cc.toList ++ vs' ++ List.drop (off + k + vs'.length) cc.toList), hsz])) hother
  have hsize : w'.heap.size = w.heap.size := by rw [hw']; simp [World.setRow]
  obtain ⟨S1, E1⟩ := S.forget b
  have hlt := lt_of_block e3
  have hdel : ∀ c o, H.del b c = some o → c ≠ b ∧ H c = some o := by
    intro c o h; simp only [AH.del] at h; split at h
    · cases h
    · exact ⟨‹_›, h⟩
  have hnotF : ∀ c o, H c = some o → c ≠ b → ¬ F c r := fun c o hc hcb => S.apart b c _ o hb hc (Ne.symm hcb) (.inl rfl) r ((e2 r).2 rfl)
  have hle : J.le (J.put nb (r, off + i)) := Inj.le_put J _ hnb
  have hother' : ∀ c o, H c = some o → c ≠ b → ∀ x, F c x → w'.heap[x]? = w.heap[x]? := by
    intro c o hc hcb x hx
    exact hother x fun e => hnotF c o hc hcb (e ▸ hx)
  refine ⟨fun c => if c = nb then (fun x => x = r) else F c, ⟨?_, ?_, ?_, ?_, ?_⟩, ⟨hle, hrows, by omega, by rw [hw']; rfl, by rw [hw']; rfl, by rw [hw']; rfl, ?_, ?_, ?_⟩⟩
  · intro c o hc
    by_cases ec : c = nb
    · subst ec
      rw [AH.upd_same] at hc; cases hc
      simp only [if_true]
      refine ⟨r, off + i, _, T, (0, 0), Inj.put_same J c _, fun _ => Iff.rfl, hblock, fun _ => rfl, ?_, ?_⟩
      · rw [List.size_toArray, hsz]; simp; omega
      · have hm := (e6.mono hle hrows)
        have hvm := hv.mono hle hrows
        have hlen : ((cs.take k).drop i ++ vs).length = k - i + vs.length := by simp; omega
        rw [hlen]
        have ee : ((cc.toList.take (off + k) ++ vs' ++ cc.toList.drop (off + k + vs'.length)).toArray.toList.drop (off + i)).take (k - i + vs.length)
            = (((cc.toList.drop off).take cs.length).take k).drop i ++ vs' := by
          apply List.ext_getElem?
          intro j
          simp only [List.getElem?_take, List.getElem?_drop, List.getElem?_append, List.length_append, List.length_take, List.length_drop, Array.length_toList]
          have m1 : min (off + k) cc.size = off + k := by omega
          have m2 : min k (min cs.length (cc.size - off)) = k := by omega
          rw [m1, m2]
          by_cases c1 : j < k - i
          · rw [if_pos (by omega : j < k - i + vs.length), if_pos (by omega : off + i + j < off + k + vs'.length), if_pos (by omega : off + i + j < off + k), if_pos (by omega : off + i + j < off + k), if_pos c1, if_pos (by omega : i + j < k), if_pos (by omega : i + j < cs.length)]
            congr 1; omega
          · rw [if_neg c1]
            by_cases c2 : j < k - i + vs.length
            · rw [if_pos c2, if_pos (by omega : off + i + j < off + k + vs'.length), if_neg (by omega : ¬ off + i + j < off + k)]
              congr 1; omega
            · rw [if_neg c2, List.getElem?_eq_none (by omega)]
        rw [ee]
        exact ((hm.take k).drop i).append hvm
    · rw [AH.upd_ne _ _ ec] at hc
      obtain ⟨hcb, hc'⟩ := hdel c o hc
      simp only [if_neg ec]
      exact (S.obj c o hc').mono hle hrows (hother' c o hc' hcb)
  · intro c d oc od hc hd hcd hro x hx hx'
    by_cases ec : c = nb
    · subst ec
      have ed : d ≠ c := Ne.symm hcd
      rw [AH.upd_ne _ _ ed] at hd
      obtain ⟨hdb, hd'⟩ := hdel d od hd
      simp only [if_true] at hx
      simp only [if_neg ed] at hx'
      subst hx
      exact hnotF d od hd' hdb hx'
    · rw [AH.upd_ne _ _ ec] at hc
      obtain ⟨hcb, hc'⟩ := hdel c oc hc
      simp only [if_neg ec] at hx
      by_cases ed : d = nb
      · subst ed
        simp only [if_true] at hx'
        subst hx'
        exact hnotF c oc hc' hcb hx
      · rw [AH.upd_ne _ _ ed] at hd
        obtain ⟨hdb, hd'⟩ := hdel d od hd
        simp only [if_neg ed] at hx'
        exact S.apart c d oc od hc' hd' hcd hro x hx hx'
  · intro c o hc
    by_cases ec : c = nb
    · subst ec; rw [Inj.put_same]; simp
    · rw [AH.upd_ne _ _ ec] at hc
      obtain ⟨hcb, hc'⟩ := hdel c o hc
      rw [Inj.put_ne J _ ec]
      exact S.named c o hc'
  · obtain ⟨N, hN⟩ := S.bound
    refine ⟨max N (nb + 1), fun c hc => ?_⟩
    rw [Inj.put_ne J _ (by omega)]
    exact hN c (by omega)
  · intro c x o h
    by_cases e : c = nb
    · subst e; rw [Inj.put_same] at h; cases h; omega
    · rw [Inj.put_ne J _ e] at h
      have := S.within c x o h
      omega
  · intro x hx hall
    refine hother x fun e => ?_
    subst e
    exact hall b _ hb rfl ((e2 x).2 rfl)
  · intro c o hc hro x hx
    by_cases ec : c = nb
    · subst ec
      simp only [if_true] at hx
      subst hx
      exact .inr ⟨b, _, hb, rfl, (e2 x).2 rfl⟩
    · rw [AH.upd_ne _ _ ec] at hc
      obtain ⟨hcb, hc'⟩ := hdel c o hc
      simp only [if_neg ec] at hx
      exact .inr ⟨c, o, hc', hro, hx⟩
  · intro c hc
    by_cases ec : c = nb
    · subst ec; exact .inr hnb
    · rw [AH.upd_ne _ _ ec] at hc
      left
      intro e
      apply hc
      simp only [AH.del]
      split <;> first | rfl | exact e

/-- The cells of a slice: nil has none. -/
def aCellsOf (H : AH) (e : Nat) : Value → Option (List Value)
  | .slice none 0 0 => some []
  | .slice (some ⟨b, i, none⟩) n e' =>
    if n = 0 then some [] else
    match H b with
    | some (.cells _ cs) => if e' = e ∧ i + n * e ≤ cs.length then some ((cs.drop i).take (n * e)) else none
    | _ => none
  | _ => none

def aSliceLen : Value → Nat
  | .slice _ n _ => n
  | _ => 0

theorem run_cellsOf {e : Nat} {x x' : Value} {l : List Value} (h : aCellsOf H e x = some l) (S : Sim J F H w) (hx : VRel J w x x') :
    ∃ l', (Builtin.firstCells e (aSliceLen x) x').run P w = .ok l'.toArray w ∧ VRels J w l l' ∧ (Builtin.lenOf x').run P w = .ok (aSliceLen x) w ∧ l.length = aSliceLen x * e := by
  unfold aCellsOf at h
  split at h
  · cases h
    have ex : x' = .slice none 0 0 := by cases hx; rfl
    subst ex
    exact ⟨[], rfl, .nil, rfl, by simp [aSliceLen]⟩
  · rename_i b i n e'
    split at h
    · rename_i hn
      subst hn
      cases h
      refine ⟨[], ?_, .nil, ?_, by simp [aSliceLen]⟩
      · cases hx <;> simp [Builtin.firstCells, aSliceLen, loadCells, loadCellsFrom]
      · cases hx <;> simp [Builtin.lenOf, aSliceLen]
    · rename_i hn
      split at h
      · rename_i ro cs hb
        split at h
        · rename_i hc
          obtain ⟨rfl, hfit⟩ := hc
          cases h
          obtain ⟨r, off, cc, T, fr, e1, e2, e3, e4, e5, e6⟩ := S.obj b _ hb
          cases hx with
          | slice hj hnc hrow =>
            rw [hj] at e1; cases e1
            obtain ⟨l, hl1, hl2, hl3, hl4⟩ := run_loadCells_rel (P := P) (n := n * e') e3 e5 e6 hfit
            exact ⟨l, hl1, hl2, rfl, by rw [hl2.1, hl3]; rfl⟩
          | slice0 hj => exact absurd rfl hn
        · cases h
      · cases h
  · cases h

def aAppend (P : Program) (H : AH) (t : TypeId) (s x : Value) : Option AStep :=
  match P.underlying t with
  | some (.slice elem) =>
    match P.info? elem with
    | some inf =>
      match inf.zero with
      | some z =>
        if 0 < inf.size ∧ z.cells.size = inf.size ∧ (aSliceLen s + aSliceLen x) * inf.bytes ≤ 140737488355328 ∧ aSliceLen s + aSliceLen x ≤ 140737488355328 then
          match aCellsOf H inf.size x with
          | some news =>
            if news.all Value.oneCell' then
              match s with
              | .slice none 0 0 =>
                if aSliceLen x = 0 then some (.val (.slice none 0 0) H) else some (.new H (.cells false news) fun b => .slice (some ⟨b, 0, none⟩) (aSliceLen x) inf.size)
              | .slice (some ⟨b, i, none⟩) n e =>
                match H b with
                | some (.cells false cs) =>
                  if e = inf.size ∧ i + n * e ≤ cs.length then
                    if aSliceLen x = 0 then some (.val (.slice (some ⟨b, i, none⟩) n e) H)
                    else some (.new (H.del b) (.cells false ((cs.take (i + n * e)).drop i ++ news)) fun nb => .slice (some ⟨nb, 0, none⟩) (n + aSliceLen x) e)
                  else none
                | _ => none
              | _ => none
            else none
          | none => none
        else none
      | none => none
    | none => none
  | _ => none

theorem growBy_le (newLen : Nat) : ∀ (k c : Nat), c < newLen → Builtin.growBy newLen k c ≤ newLen + newLen / 4 + 192 := by
  intro k
  induction k with
  | zero => intro c h; simp only [Builtin.growBy]; omega
  | succ k ih =>
    intro c h
    simp only [Builtin.growBy]
    rw [if_neg (by omega)]
    by_cases hlt : c + (c + 768) / 4 < newLen
    · exact ih _ hlt
    · cases k with
      | zero => simp only [Builtin.growBy]; omega
      | succ k => simp only [Builtin.growBy]; rw [if_pos (by omega)]; omega

theorem nextslicecap_le {newLen oldCap : Nat} (h : oldCap < newLen) : Builtin.nextslicecap newLen oldCap ≤ 2 * newLen := by
  unfold Builtin.nextslicecap
  split
  · omega
  · split
    · omega
    · have := growBy_le newLen 4 oldCap h
      omega

theorem run_append_grows {t elem : TypeId} {ty : TypeId} {inf : TypeInfo} {z : Value} (ht : P.underlying t = some (.slice elem)) (hinf : P.info? elem = some inf) (hz : inf.zero = some z)
    {s' x' : Value} {base : Option Addr} {n c m : Nat} {olds news : List Value} (hs : s' = .slice base n c) (hold : (Builtin.firstCells inf.size n s').run P w = .ok olds.toArray w)
    (hlen : (Builtin.lenOf x').run P w = .ok m w) (hnew : (Builtin.firstCells inf.size m x').run P w.drew = .ok news.toArray w.drew) (hold' : (Builtin.firstCells inf.size n s').run P w.drew = .ok olds.toArray w.drew)
    (hc : c < n + m) (hb : (n + m) * inf.bytes ≤ 140737488355328) (h63 : n + m ≤ 140737488355328) (hzc : z.cells.size = inf.size) (hxs : ∀ k v, x' ≠ .int k v) (htt : ∀ k, P.underlying t ≠ some (.int k)) :
    ∃ cap, n + m ≤ cap ∧ (Builtin.append_ #[t, t] ty #[s', x']).run P w =
      .ok (.slice (some ⟨w.heap.size, 0, none⟩) (n + m) cap) (w.drew.alloc (.cells ((olds ++ news) ++ aZeros z.cells.toList (cap - (n + m))).toArray elem)) := by
  subst hs
  refine ⟨grownCap w (n + m) c elem, grownCap_ge w (n + m) c elem, ?_⟩
  have hroom : ¬ n + m ≤ c := by omega
  have hcap := nextslicecap_le (newLen := n + m) (oldCap := c) hc
  have h48 : ¬ Builtin.nextslicecap (n + m) c * inf.bytes > 2 ^ 48 := by
    have : Builtin.nextslicecap (n + m) c * inf.bytes ≤ 2 * (n + m) * inf.bytes := Nat.mul_le_mul_right _ hcap
    have e : 2 * (n + m) * inf.bytes = 2 * ((n + m) * inf.bytes) := Nat.mul_assoc _ _ _
    omega
  have h63' : ¬ ((9223372036854775807 : Int) < (n : Int) + (m : Int)) := by omega
  have hzl : (Builtin.zeroCells z.cells (grownCap w (n + m) c elem - (n + m))) = (aZeros z.cells.toList (grownCap w (n + m) c elem - (n + m))).toArray := by
    apply Array.ext'; rw [zeroCells_eq]
  simp only [grownCap] at hzl
  simp [Builtin.append_, run_underlying ht, run_sizeOf hinf, sizeOf, typeInfo, zeroValue, hinf, hz, hlen, hroom, h63', h48, Question.forced, hold', hnew, newRow, hzl, grownCap]

theorem aAppend_ok {t ty : TypeId} {s s' x x' : Value} {st : AStep} (h : aAppend P H t s x = some st) (S : Sim J F H w) (hs : ORel J w s s') (hx : ORel J w x x') :
    StepOk P J F H w ((do pure (Next.value (← Builtin.append_ #[t, t] ty #[s', x'])) : Sem Next).run P w) st := by
  unfold aAppend at h
  split at h
  · rename_i elem ht
    split at h
    · rename_i inf hinf
      split at h
      · rename_i z hz
        split at h
        · rename_i hcond
          obtain ⟨hpos, hzc, hbytes, h63⟩ := hcond
          split at h
          · rename_i news hnews
            split at h
            · rename_i h1
              have hkx : x ≠ unk := by intro e; subst e; simp [aCellsOf, unk] at hnews
              have hx' := hx.known hkx
              obtain ⟨news', hn1, hn2, hn3, hn4⟩ := run_cellsOf (P := P) hnews S hx'
              obtain ⟨Sd, Ed⟩ := S.still (w' := w.drew) rfl rfl rfl rfl
              have hxd := hx'.mono (Inj.le_refl J) Ed.rows
              obtain ⟨newsd, hd1, hd2, hd3, hd4⟩ := run_cellsOf (P := P) hnews Sd hxd
              have hxs : ∀ k v, x' ≠ .int k v := by
                intro k v e; subst e; cases hx'; simp [aCellsOf] at hnews
              have htt : ∀ k, P.underlying t ≠ some (.int k) := by intro k e; rw [ht] at e; cases e
              split at h
              · have es : s' = .slice none 0 0 := by have := hs.known (by simp [unk]); cases this; rfl
                subst es
                split at h
                · rename_i hm
                  cases h
                  refine StepOk.value S (v' := .slice none 0 0) ?_ (.inr .nilSlice)
                  rw [hm] at hn1 hn3
                  simp [Builtin.append_, run_underlying ht, run_sizeOf hinf, hn3, hn1]
                · rename_i hm
                  cases h
                  rw [show aSliceLen (.slice none 0 0) = 0 from rfl, Nat.zero_add] at hbytes h63
                  obtain ⟨cap, hcap, hrun⟩ := run_append_grows (P := P) (ty := ty) ht hinf hz (s' := .slice none 0 0) (base := none) (n := 0) (c := 0) (olds := []) rfl (by rfl) hn3 hd1 (by rfl) (by omega) (by simpa using hbytes) (by simpa using h63) hzc hxs htt
                  simp only [Nat.zero_add, List.nil_append] at hrun hcap
                  obtain ⟨b, v', w', J', F', g1, g2, g3, g4, g5⟩ := newRow_ok (P := P) Sd (cs := news) (cs' := newsd) hd2 elem (aZeros z.cells.toList (cap - aSliceLen x)) (mk := fun b => .slice (some ⟨b, 0, none⟩) (aSliceLen x) inf.size)
                    (v' := .slice (some ⟨w.heap.size, 0, none⟩) (aSliceLen x) cap) (nx := .ok (.value (.slice (some ⟨w.heap.size, 0, none⟩) (aSliceLen x) cap)) (w.drew.alloc (.cells (newsd ++ aZeros z.cells.toList (cap - aSliceLen x)).toArray elem))) rfl fun b => by
                      refine VRel.slice (r := w.heap.size) (o := 0) (i := 0) (Inj.put_same J b _) hcap ⟨_, elem, (0, 0), heap_alloc_same w.drew _, ?_⟩
                      have e1 : newsd.length = aSliceLen x * inf.size := by rw [← hd2.1, hd4]
                      simp only [List.size_toArray, List.length_append, e1, aZeros_length, Array.length_toList, hzc, ← Nat.add_mul]
                      rw [show aSliceLen x + (cap - aSliceLen x) = cap by omega]; omega
                  exact ⟨b, v', w', J', F', g1, by rw [Sem.run_bind, hrun]; exact g2, g3, Ed.trans g4, g5⟩
              · rename_i b i n e
                have hs' := hs.known (by simp [unk])
                split at h
                · rename_i cs hb
                  split at h
                  · rename_i hc
                    obtain ⟨rfl, hfit⟩ := hc
                    rw [show aSliceLen (.slice (some ⟨b, i, none⟩) n inf.size) = n from rfl] at hbytes h63
                    split at h
                    · rename_i hm
                      cases h
                      refine StepOk.value S (v' := s') ?_ (.inr hs')
                      rw [hm] at hn1 hn3
                      have hl0 : news'.length = 0 := by rw [← hn2.1, hn4, hm]; simp
                      have hnil : news' = [] := List.eq_nil_of_length_eq_zero hl0
                      subst hnil
                      cases hs' with
                      | slice hj hnc hrow => simp [Builtin.append_, run_underlying ht, run_sizeOf hinf, hn3, hn1, hnc, storeCells]
                      | slice0 hj => simp [Builtin.append_, run_underlying ht, run_sizeOf hinf, hn3, hn1, storeCells]
                    · rename_i hm
                      cases h
                      obtain ⟨r, off, cc, T, fr, e1, e2, e3, e4, e5, e6⟩ := S.obj b _ hb
                      have e4 := e4 rfl
                      subst e4
                      obtain ⟨nb, hnb, hHnb⟩ := S.fresh
                      have hnews1 : ∀ v ∈ news', v.oneCell' = true := by
                        intro v hmv
                        obtain ⟨k, hk⟩ := List.getElem?_of_mem hmv
                        obtain ⟨u, hu, hr⟩ := hn2.get' hk
                        exact hr.oneCell ((List.all_eq_true.1 h1) u (List.mem_of_getElem? hu))
                      have hlen' : news'.length = aSliceLen x * inf.size := by rw [← hn2.1, hn4]
                      -- the row that grows in a new place
                      have grow : ∀ (base : Option Addr) (c : Nat) (olds olds' : List Value), s' = .slice base n c → c < n + aSliceLen x → olds = (cs.take (i + n * inf.size)).drop i →
                          (Builtin.firstCells inf.size n s').run P w = .ok olds'.toArray w → (Builtin.firstCells inf.size n s').run P w.drew = .ok olds'.toArray w.drew → VRels J w.drew olds olds' →
                          StepOk P J F H w ((do pure (Next.value (← Builtin.append_ #[t, t] ty #[s', x'])) : Sem Next).run P w)
                            (.new (H.del b) (.cells false ((cs.take (i + n * inf.size)).drop i ++ news)) fun nb => .slice (some ⟨nb, 0, none⟩) (n + aSliceLen x) inf.size) := by
                        intro base c olds olds' hs1 hcap0 holds hf1 hf2 hrel
                        obtain ⟨cap, hcap, hrun⟩ := run_append_grows (P := P) (ty := ty) ht hinf hz hs1 hf1 hn3 hd1 hf2 hcap0 hbytes h63 hzc hxs htt
                        obtain ⟨Sf, Ef⟩ := Sd.forget b
                        have hHb : (H.del b) nb = none := by simp only [AH.del]; split <;> first | rfl | exact hHnb
                        have hall : VRels J w.drew ((cs.take (i + n * inf.size)).drop i ++ news) (olds' ++ newsd) := by rw [← holds]; exact hrel.append hd2
                        obtain ⟨F', S', E'⟩ := new_cells Sf hnb hHb hall elem (aZeros z.cells.toList (cap - (n + aSliceLen x)))
                        refine ⟨nb, .slice (some ⟨w.heap.size, 0, none⟩) (n + aSliceLen x) cap, _, _, F', hHnb, by rw [Sem.run_bind, hrun]; rfl, S', (Ed.trans Ef).trans E', ?_⟩
                        refine VRel.slice (r := w.heap.size) (o := 0) (i := 0) (Inj.put_same J nb _) hcap ⟨_, elem, (0, 0), heap_alloc_same w.drew _, ?_⟩
                        have l1 : olds'.length = n * inf.size := by rw [← hrel.1, holds]; simp; omega
                        have l2 : newsd.length = aSliceLen x * inf.size := by rw [← hd2.1, hd4]
                        simp only [List.size_toArray, List.length_append, l1, l2, aZeros_length, Array.length_toList, hzc, ← Nat.add_mul]
                        rw [show n + aSliceLen x + (cap - (n + aSliceLen x)) = cap by omega]; omega
                      cases hs' with
                      | slice hj hnc hrow =>
                        rename_i r' o' c
                        rw [e1] at hj; cases hj
                        by_cases hroom : n + aSliceLen x ≤ c
                        · obtain ⟨cc2, T2, fr2, q1, q2⟩ := hrow
                          rw [e3] at q1; cases q1
                          have hmul : (n + aSliceLen x) * inf.size ≤ c * inf.size := Nat.mul_le_mul_right _ hroom
                          have hadd := Nat.add_mul n (aSliceLen x) inf.size
                          obtain ⟨F', S', E'⟩ := S.regrow (k := i + n * inf.size) hb (Nat.le_add_right _ _) hfit hn2 hnb hHnb e1 e2 e3 e5 e6 (by rw [hn4]; omega) rfl
                          refine ⟨nb, .slice (some ⟨r, off + i, none⟩) (n + aSliceLen x) c, _, _, F', hHnb, ?_, S', E', ?_⟩
                          · have hst := run_storeCells_at P r (off + i + n * inf.size) T news' 0 cc w e3 (by rw [hlen']; omega) hnews1
                            simp only [Nat.add_zero, Nat.add_assoc] at hst
                            simp [Builtin.append_, run_underlying ht, run_sizeOf hinf, hn3, hn1, hroom, Addr.add_lit, hst, Nat.add_assoc]
                          · refine VRel.slice (r := r) (o := off + i) (i := 0) (Inj.put_same J nb _) hroom ?_
                            exact E'.rows _ _ ⟨cc, T, (0, 0), e3, by omega⟩
                        · obtain ⟨l, hl1, hl2, hl3, hl4⟩ := run_loadCells_rel (P := P) (n := n * inf.size) e3 e5 e6 hfit
                          obtain ⟨l', hl1', hl2', hl3', hl4'⟩ := run_loadCells_rel (P := P) (w := w.drew) (n := n * inf.size) (J := J) (cs := cs) (cc := cc) (T := T) (fr := (0, 0)) (off := off) (i := i) e3 e5 (e6.mono (Inj.le_refl J) Ed.rows) hfit
                          have hll : l' = l := by rw [hl4, hl4']
                          subst hll
                          refine grow _ c ((cs.drop i).take (n * inf.size)) l' rfl (by omega) ?_ hl1 hl1' hl2'
                          rw [List.drop_take]; congr 1; omega
                      | slice0 hj =>
                        refine grow _ 0 [] [] rfl (by omega) ?_ ?_ ?_ .nil
                        · simp
                        · simp [Builtin.firstCells, loadCells, loadCellsFrom]
                        · simp [Builtin.firstCells, loadCells, loadCellsFrom]
                  · cases h
                · cases h
              · cases h
            · cases h
          · cases h
        · cases h
      · cases h
    · cases h
  · cases h

end
end Go.Abs
