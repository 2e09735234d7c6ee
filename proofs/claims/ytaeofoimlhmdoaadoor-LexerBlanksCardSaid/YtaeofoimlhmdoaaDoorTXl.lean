/-
  A part of the proof: contracts of single functions over the abstract heap.
-/
import Derived.Test.YtaeofoimlhmdoaaDoorTXk
namespace Go.Proofs.TD
open Go Go.Abs
set_option maxRecDepth 100000
set_option linter.unusedVariables false
set_option linter.unusedSimpArgs false

/-- A token's text. -/
def textT (k : Int) (t : List UInt8) (u : Nat) : List UInt8 :=
  if k = 1 then 36 :: t else if k = 2 then Lib.decDigits u else if k = 3 then 35 :: hexLow 16 u else if k = 4 then [61] else t

/-- A token that may be laid out. -/
def okT (k : Int) (t : List UInt8) (u : Nat) : Prop :=
  u < 18446744073709551616 ∧ ((k = 0 ∨ k = 1) ∧ nameB t = true ∧ t.length ≤ 20 ∧ u = 0 ∨ (k = 2 ∨ k = 3) ∧ t = [] ∨ k = 4 ∧ t = [] ∧ u = 0)

/-- Nothing, or a blank ahead. -/
def calm (r : List UInt8) : Prop := r = [] ∨ ∃ r', r = 32 :: r'

theorem tw_calm {q : UInt8 → Bool} (hq : q 32 = false) {l r : List UInt8} (hl : l.all q = true) (hr : calm r) : tw q (l ++ r) = l.length := by
  induction l with
  | nil =>
    rcases hr with rfl | ⟨r', rfl⟩
    · rfl
    · simp [tw, List.takeWhile_cons, hq]
  | cons c l ih =>
    simp only [List.all_cons, Bool.and_eq_true] at hl
    have := ih hl.2
    unfold tw at this ⊢
    simp only [List.cons_append, List.takeWhile_cons, hl.1, if_true, List.length_cons, this]

theorem nm_calm {t r : List UInt8} (ht : nameB t = true) (hr : calm r) : nm (t ++ r) = t.length := by
  cases t with
  | nil => cases ht
  | cons c t =>
    simp only [nameB, Bool.and_eq_true] at ht
    simp only [List.cons_append, nm, ht.1, if_true, tw_calm (q := isE) (by decide) ht.2 hr, List.length_cons]
    omega

theorem numL_calm : ∀ (l r : List UInt8) (a n u : Nat), calm r → a < 18446744073709551616 → Lib.parseUintM (2 ^ 64 - 1) a l = .ok u → numL a n (l ++ r) = (u, n + l.length) := by
  intro l
  induction l with
  | nil =>
    intro r a n u hr ha h
    simp only [Lib.parseUintM, Lib.NumEnd.ok.injEq] at h
    subst h
    rcases hr with rfl | ⟨r', rfl⟩
    · rfl
    · simp [numL, isF]
  | cons c l ih =>
    intro r a n u hr ha h
    simp only [Lib.parseUintM] at h
    split at h
    · rename_i hf
      split at h
      · cases h
      · split at h
        · cases h
        · have hF : isF c = true := by simpa [isF] using hf
          simp only [List.cons_append, numL, hF, if_true]
          rw [if_neg (by omega), Nat.mul_comm 10 a, ih r _ _ u hr (by omega) h, List.length_cons]
          congr 1; omega
    · cases h

theorem dec_pos (u : Nat) : 0 < (Lib.decDigits u).length := List.length_pos_iff.2 (dec_ne_nil u)

theorem textT_len {k : Int} {t : List UInt8} {u : Nat} (h : okT k t u) : 0 < (textT k t u).length ∧ (textT k t u).length ≤ 21 := by
  obtain ⟨hu, ⟨hk, hn, hl, rfl⟩ | ⟨hk, rfl⟩ | ⟨rfl, rfl, rfl⟩⟩ := h
  · have : 0 < t.length := by cases t with
      | nil => cases hn
      | cons => simp
    rcases hk with rfl | rfl <;> simp [textT] <;> omega
  · have h1 := dec_pos u
    have h2 := decDigits_le u hu
    have h3 := hexLow_length 16 u
    rcases hk with rfl | rfl <;> simp [textT] <;> omega
  · simp [textT]

/-- What is laid out is scanned. -/
theorem tok_text {k : Int} {t : List UInt8} {u : Nat} {r : List UInt8} (h : okT k t u) (hr : calm r) : tok (textT k t u ++ r) = ((k, t, u), (textT k t u).length) := by
  obtain ⟨hu, ⟨hk, hn, hl, rfl⟩ | ⟨hk, rfl⟩ | ⟨rfl, rfl, rfl⟩⟩ := h
  · rcases hk with rfl | rfl
    · cases t with
      | nil => cases hn
      | cons c t =>
        have hL : isL c = true := by simp only [nameB, Bool.and_eq_true] at hn; exact hn.1
        obtain ⟨n1, n2, n3, n4⟩ := isL_ne hL
        have hnm := nm_calm hn hr
        simp only [List.cons_append] at hnm
        have e : textT 0 (c :: t) 0 = c :: t := by simp [textT]
        simp only [e, List.cons_append, tok, n1, n2, n3, n4, if_false, Bool.false_eq_true, hnm]
        simp
    · have hnm := nm_calm hn hr
      have hpos : t.length ≠ 0 := by cases t with
        | nil => cases hn
        | cons => simp
      simp [textT, tok, hnm, hpos]
  · rcases hk with rfl | rfl
    · have hp := pum_dec u hu
      have hd := digs_dec u hu
      generalize hl : Lib.decDigits u = l at hp hd
      cases l with
      | nil => exact absurd hl (dec_ne_nil u)
      | cons c l =>
        have hc := digs_head hd
        have hF : isF c = true := by
          have h1 := UInt8.le_iff_toNat_le.1 hc.1
          have h2 := UInt8.le_iff_toNat_le.1 hc.2
          simp [isF]; exact ⟨h1, h2⟩
        have c1 : c ≠ 61 := by rintro rfl; exact absurd hc.2 (by decide)
        have c2 : c ≠ 36 := by rintro rfl; exact absurd hc.1 (by decide)
        have c3 : c ≠ 35 := by rintro rfl; exact absurd hc.1 (by decide)
        have hnum := numL_calm (c :: l) r 0 0 u hr (by omega) hp
        simp only [List.cons_append] at hnum
        have e : textT 2 [] u = c :: l := by simp [textT, hl]
        simp only [e, List.cons_append, tok, c1, c2, c3, hF, if_true, if_false, hnum]
        simp
    · have hx : (hexLow 16 u).all isX = true := by
        rw [List.all_eq_true]
        intro x hx
        have : ∀ (k : Nat), x ∈ hexLow k u → isX x = true := by
          intro k
          induction k with
          | zero => intro h; simp [hexLow] at h
          | succ k ih =>
            intro h
            simp only [hexLow, List.mem_cons] at h
            rcases h with rfl | h
            · have : ∀ m : Fin 16, isX (hexd m.val) = true := by decide
              exact this ⟨u / 16 ^ k % 16, Nat.mod_lt _ (by omega)⟩
            · exact ih h
        exact this 16 hx
      have htw := tw_calm (q := isX) (by decide) hx hr
      have htk : (hexLow 16 u ++ r).take (tw isX (hexLow 16 u ++ r)) = hexLow 16 u := by rw [htw]; simp
      simp [textT, tok, htk, ph_hexLow u hu, hexLow_length]
  · simp [textT, tok]

/-- Blanks ahead are passed over. -/
theorem sc_blanks : ∀ (n F a : Nat) (l : List UInt8), n + l.length < F → sc F a (List.replicate n 32 ++ l) = sc F (a + n) l := by
  intro n
  induction n with
  | zero => intro F a l h; simp
  | succ n ih =>
    intro F a l h
    obtain ⟨G, rfl⟩ : ∃ G, F = G + 1 := ⟨F - 1, by omega⟩
    have : sc (G + 1) a (List.replicate (n + 1) 32 ++ l) = sc G (a + 1) (List.replicate n 32 ++ l) := by simp [sc, List.replicate_succ]
    rw [this, ih G (a + 1) l (by omega), show a + 1 + n = a + (n + 1) by omega]
    exact sc_fuel _ _ _ _ (by omega) (by omega)

theorem sc_step {F a : Nat} {l : List UInt8} (hF : l.length < F) (h0 : (tok l).2 ≠ 0) (hc : ∀ c r, l = c :: r → c ≠ 32) : sc F a l = scP [((tok l).1, a)] (sc F (a + (tok l).2) (l.drop (tok l).2)) := by
  cases l with
  | nil => simp [tok] at h0
  | cons c r =>
    obtain ⟨G, rfl⟩ : ∃ G, F = G + 1 := ⟨F - 1, by simp at hF; omega⟩
    simp only [sc, if_neg (hc c r rfl), if_neg h0]
    rw [sc_fuel G (G + 1) _ _ (by simp at hF ⊢; omega) (by simp at hF ⊢; omega)]
    cases sc (G + 1) (a + (tok (c :: r)).2) ((c :: r).drop (tok (c :: r)).2) <;> simp [scP]

theorem scP_scP (a b : List TokR) (z : Nat ⊕ List TokR) : scP a (scP b z) = scP (a ++ b) z := by cases z <;> simp [scP]

/-- A line, and its tokens, whatever calm rest follows. -/
def Laid18 (line : List UInt8) (want : List TokR) : Prop := ∀ r, calm r → ∀ F, (line ++ r).length < F → sc F 0 (line ++ r) = scP want (sc F line.length r)

theorem Laid18.nil : Laid18 [] [] := by
  intro r _ F _
  simp only [List.nil_append, List.length_nil]
  cases sc F 0 r <;> simp [scP]

theorem text_head {k : Int} {t : List UInt8} {u : Nat} {c : UInt8} {r : List UInt8} (h : okT k t u) (e : textT k t u = c :: r) : c ≠ 32 := by
  obtain ⟨hu, ⟨hk, hn, hl, rfl⟩ | ⟨hk, rfl⟩ | ⟨rfl, rfl, rfl⟩⟩ := h
  · rcases hk with rfl | rfl
    · simp [textT] at e
      subst e
      simp only [nameB, Bool.and_eq_true] at hn
      rintro rfl
      exact absurd hn.1 (by decide)
    · simp [textT] at e; rw [← e.1]; decide
  · rcases hk with rfl | rfl
    · simp [textT] at e
      have hd := digs_dec u hu
      rw [e] at hd
      have hc := digs_head hd
      rintro rfl; exact absurd hc.1 (by decide)
    · simp [textT] at e; rw [← e.1]; decide
  · simp [textT] at e; rw [← e.1]; decide

theorem Laid18.snoc {line : List UInt8} {want : List TokR} (h : Laid18 line want) (n : Nat) {k : Int} {t : List UInt8} {u : Nat} (ho : okT k t u) :
    Laid18 (line ++ List.replicate (n + 1) 32 ++ textT k t u) (want ++ [((k, t, u), line.length + (n + 1))]) := by
  intro r hr F hF
  have e : line ++ List.replicate (n + 1) 32 ++ textT k t u ++ r = line ++ (List.replicate (n + 1) 32 ++ (textT k t u ++ r)) := by simp
  rw [e] at hF ⊢
  rw [h _ (.inr ⟨List.replicate n 32 ++ (textT k t u ++ r), by simp [List.replicate_succ]⟩) F hF, sc_blanks _ _ _ _ (by simp at hF ⊢; omega)]
  have htk := tok_text (r := r) ho hr
  have hlen := textT_len ho
  rw [sc_step (by simp at hF ⊢; omega) (by rw [htk]; show (textT k t u).length ≠ 0; omega) (fun c r' hcr => by
    cases hx : textT k t u with
    | nil => rw [hx] at hlen; simp at hlen
    | cons d s => rw [hx] at hcr; simp at hcr; rw [← hcr.1]; exact text_head ho hx)]
  rw [htk, scP_scP]
  simp only [List.drop_left]
  congr 2
  simp; omega

/-- Whether there are blanks ahead does but shift; those behind do nothing. -/
def shift (n : Nat) : Nat ⊕ List TokR → Nat ⊕ List TokR
  | .inl a => .inl (a + n)
  | .inr l => .inr (l.map fun x => (x.1, x.2 + n))

theorem sc_shift (n : Nat) : ∀ (F a : Nat) (l : List UInt8), sc F (a + n) l = shift n (sc F a l) := by
  intro F
  induction F with
  | zero => intro a l; rfl
  | succ F ih =>
    intro a l
    cases l with
    | nil => rfl
    | cons c r =>
      simp only [sc]
      split
      · rw [show a + n + 1 = a + 1 + n by omega, ih]
      · split
        · rfl
        · rw [show a + n + (tok (c :: r)).2 = a + (tok (c :: r)).2 + n by omega, ih]
          cases sc F (a + (tok (c :: r)).2) ((c :: r).drop (tok (c :: r)).2) <;> simp [shift]

theorem tw_app {q : UInt8 → Bool} (hq : q 32 = false) (l : List UInt8) (b : List UInt8) : tw q (l ++ 32 :: b) = tw q l := by
  unfold tw
  induction l with
  | nil => simp [List.takeWhile_cons, hq]
  | cons c l ih =>
    simp only [List.cons_append, List.takeWhile_cons]
    split
    · simp only [List.length_cons, ih]
    · rfl
theorem nm_app (l b : List UInt8) : nm (l ++ 32 :: b) = nm l := by
  cases l with
  | nil => simp [nm, isL]
  | cons c l => simp only [List.cons_append, nm, tw_app (q := isE) (by decide)]
theorem numL_app (b : List UInt8) : ∀ (l : List UInt8) (a n : Nat), numL a n (l ++ 32 :: b) = numL a n l := by
  intro l
  induction l with
  | nil => intro a n; simp [numL, isF]
  | cons c l ih => intro a n; simp only [List.cons_append, numL, ih]
theorem take_app {q : UInt8 → Bool} (hq : q 32 = false) (l b : List UInt8) : (l ++ 32 :: b).take (tw q (l ++ 32 :: b)) = l.take (tw q l) := by
  rw [tw_app hq, List.take_append_of_le_length (tw_le q l)]
theorem tok_app (c : UInt8) (r b : List UInt8) : tok (c :: (r ++ 32 :: b)) = tok (c :: r) := by
  have h1 := nm_app r b
  have h2 : nm (c :: (r ++ 32 :: b)) = nm (c :: r) := nm_app (c :: r) b
  have h3 := numL_app b (c :: r) 0 0
  simp only [List.cons_append] at h3
  have h4 := nm_le r
  have h5 := nm_le (c :: r)
  have h6 : (c :: (r ++ 32 :: b)).take (nm (c :: r)) = (c :: r).take (nm (c :: r)) := by
    have : c :: (r ++ 32 :: b) = (c :: r) ++ 32 :: b := rfl
    rw [this, List.take_append_of_le_length h5]
  simp only [tok, h1, h2, h3, h6, take_app (q := isX) (by decide), List.take_append_of_le_length h4]

theorem sc_tail (m : Nat) : ∀ (F a : Nat) (l : List UInt8), (l ++ List.replicate m 32).length < F → sc F a (l ++ List.replicate m 32) = sc F a l := by
  intro F
  induction F with
  | zero => intro a l h; omega
  | succ F ih =>
    intro a l h
    cases m with
    | zero => simp
    | succ m =>
    cases l with
    | nil =>
      have := sc_blanks (m + 1) (F + 1) a [] (by simp at h ⊢; omega)
      simp only [List.append_nil] at this
      rw [List.nil_append, this]
      rfl
    | cons c r =>
      have ht : tok (c :: (r ++ List.replicate (m + 1) 32)) = tok (c :: r) := by rw [List.replicate_succ]; exact tok_app c r _
      simp only [List.cons_append, sc]
      split
      · exact ih _ _ (by simp at h ⊢; omega)
      · rw [ht]
        split
        · rfl
        · rename_i hn
          have hle := tok_le (c :: r)
          have : (c :: (r ++ List.replicate (m + 1) 32)).drop (tok (c :: r)).2 = (c :: r).drop (tok (c :: r)).2 ++ List.replicate (m + 1) 32 := by
            have e : c :: (r ++ List.replicate (m + 1) 32) = (c :: r) ++ List.replicate (m + 1) 32 := rfl
            rw [e, List.drop_append_of_le_length hle]
          rw [this, ih _ _ (by simp at h ⊢; omega)]

theorem scan_blanks (l : List UInt8) (hl : l.length ≤ 900) : scanR ([32, 32, 32] ++ l ++ [32, 32]) =
    ((scanR l).1.map (fun x => (x.1, x.2 + 3)), (match (scanR l).2.2 with | 0 => 0 | _ => (scanR l).2.1 + 3), (scanR l).2.2) := by
  have e : [32, 32, 32] ++ l ++ [32, 32] = List.replicate 3 32 ++ (l ++ List.replicate 2 32) := by simp [List.replicate]
  unfold scanR
  rw [if_neg (by simp <;> omega), if_neg (by omega), e, sc_blanks _ _ _ _ (by simp <;> omega), sc_tail _ _ _ _ (by simp <;> omega), sc_shift, sc_fuel _ (l.length + 1) _ _ (by simp <;> omega) (by omega)]
  cases sc (l.length + 1) 0 l <;> simp [shift]
end Go.Proofs.TD
