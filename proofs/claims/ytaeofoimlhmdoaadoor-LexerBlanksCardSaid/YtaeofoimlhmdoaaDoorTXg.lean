/-
  A part of the proof: contracts of single functions over the abstract heap.
-/
import Derived.Test.YtaeofoimlhmdoaaDoorTXf
import Derived.Test.YtaeofoimlhmdoaaDoorAbsV
namespace Go.Proofs.TD
open Go Go.Abs
open Go.Proofs (Tryd.prog)
set_option maxRecDepth 100000
set_option linter.unusedVariables false
set_option linter.unusedSimpArgs false
variable {H : AH}

/-- A token and where it stands. -/
abbrev TokR : Type := (Int × List UInt8 × Nat) × Nat
def tokCR (x : TokR) : List Value := tokC x.1.1 x.1.2.1 x.1.2.2 x.2
def tokCs (l : List TokR) : List Value := l.flatMap tokCR
theorem tokCs_length (l : List TokR) : (tokCs l).length = l.length * 4 := by
  induction l with
  | nil => rfl
  | cons x l ih => simp only [tokCs, List.flatMap_cons, List.length_append] at ih ⊢; simp [tokCR, tokC, ih]; omega
theorem tokCs_snoc (l : List TokR) (x : TokR) : tokCs (l ++ [x]) = tokCs l ++ tokCR x := by simp [tokCs]

def IsToks (H : AH) (v : Value) (l : List TokR) : Prop := (l = [] ∧ v = .slice none 0 0) ∨ (l ≠ [] ∧ ∃ b, v = .slice (some ⟨b, 0, none⟩) l.length 4 ∧ H b = some (.cells false (tokCs l)))
theorem IsToks.mono {H H' : AH} {v : Value} {l : List TokR} (h : IsToks H v l) (hl : H.le H') : IsToks H' v l :=
  h.imp id fun ⟨a, b, h1, h2⟩ => ⟨a, b, h1, hl _ _ h2⟩
theorem IsToks.known {H : AH} {v : Value} {l : List TokR} (h : IsToks H v l) : Go.Abs.known v = true := by
  rcases h with ⟨_, rfl⟩ | ⟨_, b, rfl, _⟩ <;> rfl

/-- A line's tokens from a place on, or where it is wrong. -/
def sc : Nat → Nat → List UInt8 → Nat ⊕ List TokR
  | 0, _, _ => .inr []
  | _ + 1, _, [] => .inr []
  | f + 1, at_, c :: r =>
    if c = 32 then sc f (at_ + 1) r
    else if (tok (c :: r)).2 = 0 then .inl at_
    else match sc f (at_ + (tok (c :: r)).2) ((c :: r).drop (tok (c :: r)).2) with
      | .inl a => .inl a
      | .inr l => .inr (((tok (c :: r)).1, at_) :: l)

def scP (acc : List TokR) : Nat ⊕ List TokR → Nat ⊕ List TokR
  | .inl a => .inl a
  | .inr l => .inr (acc ++ l)

theorem sc_fuel : ∀ (f g at_ : Nat) (l : List UInt8), l.length < f → l.length < g → sc f at_ l = sc g at_ l := by
  intro f
  induction f with
  | zero => intro g at_ l h; omega
  | succ f ih =>
    intro g at_ l h1 h2
    cases g with
    | zero => omega
    | succ g =>
      cases l with
      | nil => rfl
      | cons c r =>
        simp only [sc]
        simp only [List.length_cons] at h1 h2
        split
        · exact ih g _ r (by omega) (by omega)
        · split
          · rfl
          · rename_i hn
            rw [ih g _ ((c :: r).drop (tok (c :: r)).2) (by simp; omega) (by simp; omega)]

/-- What is scanned: the tokens, where it is wrong, the error. -/
def scanR (l : List UInt8) : List TokR × Nat × Int :=
  if 1000 < l.length then ([], 0, 8) else match sc (l.length + 1) 0 l with
    | .inl a => ([], a, 2)
    | .inr t => (t, 0, 0)

def ScanGives (H : AH) (l : List UInt8) (x : AOut) (H' : AH) : Prop := H.le H' ∧ ∃ v, x = .ret (.tuple #[v, .int .i64 (scanR l).2.1, .int .i64 (scanR l).2.2]) ∧ IsToks H' v (scanR l).1

theorem bb33 {k f u : Int} {t : List UInt8} : runS p H (.buildSlice 33 1 [(0, tokV k t u f)]) = some (.new H (.cells false (tokC k t u f)) fun b => .slice (some ⟨b, 0, none⟩) 1 4) := by kernel_rfl
theorem bb36 {k f u : Int} {t : List UInt8} : runS p H (.buildSlice 36 1 [(0, tokV k t u f)]) = some (.new H (.cells false (tokC k t u f)) fun b => .slice (some ⟨b, 0, none⟩) 1 4) := by kernel_rfl

theorem one_toks (x : TokR) : (tokCR x).all Value.oneCell' = true := rfl

/-- One token more. -/
theorem push_tok {S : TypeId} {e : Nat} (hA : appFact p S = some (e, 4, 40, 4)) (hbs : ∀ (H : AH) (x : TokR), runS p H (.buildSlice S 1 [(0, tokV x.1.1 x.1.2.1 x.1.2.2 x.2)]) = some (.new H (.cells false (tokCR x)) fun b => .slice (some ⟨b, 0, none⟩) 1 4))
    {H0 H : AH} {v : Value} {acc : List TokR} {x : TokR} {K : Value → AH → Prop} {Q : Value → AH → Prop} (hl : H0.le H) (hacc : IsToks H v acc) (hnew : ∀ b, v = .slice (some ⟨b, 0, none⟩) acc.length 4 → H0 b = none) (hlen : acc.length < 1000000)
    (hK : ∀ v' H', H0.le H' → IsToks H' v' (acc ++ [x]) → (∀ b, v' = .slice (some ⟨b, 0, none⟩) (acc ++ [x]).length 4 → H0 b = none) → K v' H') :
    stepV p H (runS p H (.buildSlice S 1 [(0, tokV x.1.1 x.1.2.1 x.1.2.2 x.2)])) (fun y H1 => stepV p H1 (runS p H1 (.append S v y)) K Q) Q := by
  rw [hbs, stepV_new]
  intro b1 hb1
  have hrow : (H.upd b1 (.cells false (tokCR x))) b1 = some (.cells false (tokCR x)) := upd_self
  have hx := cellsOf_row (n := 1) (sz := 4) hrow (by simp [tokCR, tokC]) (by omega)
  rcases hacc with ⟨rfl, rfl⟩ | ⟨hne, b, rfl, hb⟩
  · rw [append_nil (m := 1) hA (by omega) hx rfl (by omega) (one_toks x) (by omega) (by omega), stepV_new]
    intro b2 hb2
    have hn1 : H0 b1 = none := AH.none_of_le hl hb1
    have hn2 : H0 b2 = none := AH.none_of_le (AH.le_upd' hl hn1) hb2
    refine hK _ _ (AH.le_upd' (AH.le_upd' hl hn1) hn2) (.inr ⟨by simp, b2, rfl, by simp [tokCs]⟩) (fun b' e => ?_)
    simp only [Value.slice.injEq, Option.some.injEq, Addr.mk.injEq, and_true] at e
    rw [← e.1]; exact hn2
  · have hbb1 : b ≠ b1 := AH.fresh_ne hb hb1
    have hb' : (H.upd b1 (.cells false (tokCR x))) b = some (.cells false (tokCs acc)) := by rw [upd_ne hbb1]; exact hb
    rw [append_row (m := 1) hA (by omega) hb' (by rw [tokCs_length]; omega) hx rfl (by omega) (one_toks x) (by omega) (by omega), stepV_new]
    intro b2 hb2
    have hn1 : H0 b1 = none := AH.none_of_le hl hb1
    have hnb : H0 b = none := hnew b rfl
    have hn2 : H0 b2 = none := AH.none_of_le (AH.le_upd' hl hn1) hb2
    refine hK _ _ (AH.le_upd' (AH.le_del (AH.le_upd' hl hn1) hnb) hn2) (.inr ⟨by simp, b2, by simp, ?_⟩) (fun b' e => ?_)
    · rw [upd_self, tokCs_snoc]
      have : (tokCs acc).take (0 + acc.length * 4) = tokCs acc := List.take_of_length_le (by rw [tokCs_length]; omega)
      rw [this]; rfl
    · simp only [Value.slice.injEq, Option.some.injEq, Addr.mk.injEq, and_true] at e
      rw [← e.1]; exact hn2

theorem push33 {H0 H : AH} {v : Value} {acc : List TokR} {k f : Int} {u n : Nat} {t : List UInt8} {K : Value → AH → Prop} {Q : Value → AH → Prop} (hl : H0.le H) (hacc : IsToks H v acc) (hnew : ∀ b, v = .slice (some ⟨b, 0, none⟩) acc.length 4 → H0 b = none) (hlen : acc.length < 1000000)
    (hK : ∀ v' H', H0.le H' → IsToks H' v' (acc ++ [((k, t, u), n)]) → (∀ b, v' = .slice (some ⟨b, 0, none⟩) (acc ++ [((k, t, u), n)]).length 4 → H0 b = none) → K v' H') :
    stepV p H (runS p H (.buildSlice 33 1 [(0, tokV k t u n)])) (fun y H1 => stepV p H1 (runS p H1 (.append 33 v y)) K Q) Q :=
  push_tok (S := 33) (e := 43) (x := ((k, t, u), n)) (by kernel_rfl) (fun H x => bb33) hl hacc hnew hlen hK
theorem push36 {H0 H : AH} {v : Value} {acc : List TokR} {k f : Int} {u n : Nat} {t : List UInt8} {K : Value → AH → Prop} {Q : Value → AH → Prop} (hl : H0.le H) (hacc : IsToks H v acc) (hnew : ∀ b, v = .slice (some ⟨b, 0, none⟩) acc.length 4 → H0 b = none) (hlen : acc.length < 1000000)
    (hK : ∀ v' H', H0.le H' → IsToks H' v' (acc ++ [((k, t, u), n)]) → (∀ b, v' = .slice (some ⟨b, 0, none⟩) (acc ++ [((k, t, u), n)]).length 4 → H0 b = none) → K v' H') :
    stepV p H (runS p H (.buildSlice 36 1 [(0, tokV k t u n)])) (fun y H1 => stepV p H1 (runS p H1 (.append 36 v y)) K Q) Q :=
  push_tok (S := 36) (e := 45) (x := ((k, t, u), n)) (by kernel_rfl) (fun H x => bb36) hl hacc hnew hlen hK

theorem ret3 {R : AOut → AH → Prop} {u v w : Value} (h : known u = true) (h' : known v = true) (h'' : known w = true) : (real p).ret [.val u, .val v, .val w] R H = R (.ret (.tuple #[u, v, w])) H := by
  simp [real, rvsRun, List.mapM_cons, List.mapM_nil, rvRun, h, h', h'']

theorem tok_le (l : List UInt8) : (tok l).2 ≤ l.length := by
  cases l with
  | nil => simp [tok]
  | cons c r =>
    simp only [tok, List.length_cons]
    have h1 := nm_le r
    have h2 := nm_le (c :: r)
    have h3 := tw_le isX r
    split
    · simp
    · split
      · split <;> simp; omega
      · split
        · split
          · rename_i h
            have := ph_len h
            rw [List.length_take] at this
            simp; omega
          · simp
        · split
          · have := pum_num (c :: r) 0 0 (by omega)
            have h4 := tw_le isF (c :: r)
            simp only [List.length_cons] at h4
            by_cases hok : ∃ u, Lib.parseUintM (2 ^ 64 - 1) 0 ((c :: r).takeWhile isF) = .ok u
            · obtain ⟨u, hu⟩ := hok
              rw [this.1 u hu]; simp; omega
            · rw [this.2 (fun u hu => hok ⟨u, hu⟩)]; simp
          · simpa using h2

theorem g29 {l : List UInt8} : Gives p 29 [bS l, bS [32]] H (bS (Lib.trimLeftB l 32)) :=
  Gives.of_calls Tryd.call29 rfl rfl fun J F w S => (Tryd.strings_TrimLeft_one ⟨l.toArray⟩ 32 (by decide) w).mono fun e w' h => by
    obtain ⟨rfl, rfl⟩ := h
    exact ⟨by simp [bS], .refl _ _⟩
end Go.Proofs.TD
