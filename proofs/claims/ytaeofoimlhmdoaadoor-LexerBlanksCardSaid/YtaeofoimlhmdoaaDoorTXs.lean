/-
  Proved: LexerBlanks returns true for every tokens, gaps and text, and leaves them as they were; conditions: the listed variables hold what the row lists (tied by the card).
-/
import Derived.Test.YtaeofoimlhmdoaaDoorTDp
import Derived.Test.YtaeofoimlhmdoaaDoorTXn
import Derived.Test.YtaeofoimlhmdoaaDoorAbsX
namespace Go.Proofs.YtaeofoimlhmdoaaDoor.lexerBlanks
open Go Go.Abs Go.RowKit Go.ChangeShapes Go.WideShapes Go.Proofs.TD
open Go.Proofs (Tryd.prog)
set_option maxRecDepth 100000
set_option linter.unusedVariables false
set_option linter.unusedSimpArgs false

theorem rec_tok {H : Type} {enc : TypeId × Value → H} {W : World} {fuel : Nat} {cs : List Value} {x : DataW H × List MemPlace} (h : DataW.trod enc Tryd.prog W 0 (fun _ => true) true fuel 43 cs = some x) (hl : cs.length = 4) :
    ∃ y : TokIn, cs = inCR y ∧ (y.1.2.2 < 18446744073709551616 ∧ y.1.2.1.length < 9223372036854775808) := by
  obtain ⟨_, hu, _⟩ := u43
  obtain ⟨y0, y1, y2, y3, n, hx, hlen, h0, h1, h2, h3⟩ := Joins.trod_struct4 hu h
  match cs, hl with
  | [c0, c1, c2, c3], _ =>
    have k0 : Tryd.prog.cellsOf 3 = 1 := by kernel_rfl
    have k1 : Tryd.prog.cellsOf 9 = 1 := by kernel_rfl
    have k2 : Tryd.prog.cellsOf 24 = 1 := by kernel_rfl
    simp only [k0, k1, k2, List.drop_zero, List.drop_succ_cons, List.take_succ_cons, List.take_zero] at h0 h1 h2 h3
    obtain ⟨k, e0, _, _⟩ := DataW.trod_int (k := .i64) (by kernel_rfl) h0
    obtain ⟨s, e1, _, hs⟩ := DataW.trod_string (by kernel_rfl) h1
    obtain ⟨u, e2, _, hwf⟩ := DataW.trod_int (k := .u64) (by kernel_rfl) h2
    obtain ⟨f, e3, _, _⟩ := DataW.trod_int (k := .i64) (by kernel_rfl) h3
    have hr : 0 ≤ u ∧ u ≤ 18446744073709551615 := by simpa [Lit.wf, IntKind.min, IntKind.max, IntKind.bits, IntKind.signed] using hwf
    simp only [List.cons.injEq, and_true] at e0 e1 e2 e3
    subst e0; subst e1; subst e2; subst e3
    obtain ⟨l, hl⟩ := exists_bS s
    refine ⟨((k, l, u.toNat), f), ?_, by simp; omega, ?_⟩
    · simp only [inCR, tokC, hl]; rw [Int.toNat_of_nonneg hr.1]
    · simp only
      have e : s = ⟨l.toArray⟩ := by simpa [bS] using hl
      have : s.size = l.length := by rw [e]; rfl
      have hm : maxLen ≤ 9223372036854775807 := by decide
      omega

theorem rec_byte {H : Type} {enc : TypeId × Value → H} {W : World} {fuel : Nat} {cs : List Value} {x : DataW H × List MemPlace} (h : DataW.trod enc Tryd.prog W 0 (fun _ => true) true fuel 5 cs = some x) :
    ∃ y : UInt8, cs = [.int .u8 y.toNat] ∧ True := by
  obtain ⟨u, e2, _, hwf⟩ := DataW.trod_int (k := .u8) (by kernel_rfl) h
  have hr : 0 ≤ u ∧ u ≤ 255 := by simpa [Lit.wf, IntKind.min, IntKind.max, IntKind.bits, IntKind.signed] using hwf
  refine ⟨UInt8.ofNat u.toNat, ?_, trivial⟩
  rw [e2, UInt8.toNat_ofNat']
  congr 2
  omega

theorem bytesV_flat (l : List UInt8) : bytesV l = l.flatMap fun y => [.int .u8 y.toNat] := by
  induction l with
  | nil => rfl
  | cons c l ih => simp only [bytesV, List.map_cons, List.flatMap_cons] at ih ⊢; rw [ih]; rfl

/-- A slice that comes in gets a name. -/
theorem intro_slice {J : Inj} {F : Nat → Nat → Prop} {H0 : AH} {W : World} (S : Sim J F H0 W) (hro : ∀ a o, H0 a = some o → o.ro = true) {b sz : Nat} (hb : J b = none) (hH : H0 b = none) (hs : 0 < sz)
    {α : Type} {g : α → List Value} (hg : ∀ x, (g x).length = sz) (hgc : ∀ x, (g x).all closed = true) {r off n c : Nat} {cc : Array Value} {T : TypeId} {fr : Nat × Nat} {L : List α} (hn : n ≤ c) (hh : W.heap[r]? = some (.cells cc T fr)) (hfit : 0 < c → off + c * sz ≤ cc.size)
    (hL : L.length = n) (hcs : ((cc.toList.drop off).take (n * sz)) = L.flatMap g) :
    ∃ J' F' H', Sim J' F' H' W ∧ (∀ a o, H' a = some o → o.ro = true) ∧ H0.le H' ∧ J.le J' ∧ (∀ a, a ≠ b → J' a = J a ∧ H' a = H0 a) ∧ VRel J' W (.slice (some ⟨b, 0, none⟩) n sz) (.slice (some ⟨r, off, none⟩) n c) ∧ (L = [] ∨ H' b = some (.cells true (L.flatMap g))) := by
  have hJne : ∀ a, a ≠ b → (J.put b (r, off)) a = J a := fun a ha => Inj.put_ne J _ ha
  by_cases hc0 : c = 0
  · have hn0 : n = 0 := by omega
    subst hc0; subst hn0
    refine ⟨J.put b (r, off), F, H0, S.nameAt hb (lt_of_block hh), hro, AH.le_refl _, Inj.le_put J _ hb, fun a ha => ⟨hJne a ha, rfl⟩, .slice0 (o := off) (by rw [Inj.put_same]), .inl (List.eq_nil_of_length_eq_zero hL)⟩
  · have hf := hfit (by omega)
    have hlen : (L.flatMap g).length = n * sz := by rw [rec_length hg, hL]
    have hle : n * sz ≤ c * sz := Nat.mul_le_mul_right sz hn
    have hcl : (L.flatMap g).all closed = true := by
      rw [List.all_eq_true]
      intro x hx
      obtain ⟨y, _, hy⟩ := List.mem_flatMap.1 hx
      exact List.all_eq_true.1 (hgc y) x hy
    obtain ⟨S', hro'⟩ := S.addRo hro hb hH hh (off := off) (cs := L.flatMap g) (by rw [hlen]; omega) (by rw [hlen]; exact hcs) hcl
    refine ⟨_, _, _, S', hro', AH.le_upd hH, Inj.le_put J _ hb, fun a ha => ⟨hJne a ha, AH.upd_ne _ _ ha⟩, ?_, .inr upd_self⟩
    have := VRel.slice (J := J.put b (r, off)) (w := W) (b := b) (i := 0) (r := r) (o := off) (n := n) (e := sz) (c := c) (by rw [Inj.put_same]) hn ⟨cc, T, fr, hh, by omega⟩
    simpa using this

theorem contract (H : Type) (enc : TypeId × Value → H) (W : World) (base : Nat) (args : Array Value) (ds gs : List (DataW H)) (before : List MemPlace)
    (hval : ∀ (j : Nat) t v, Tryd.f6.params[j]? = some t → args[j]? = some v → Value.okWide Tryd.prog W .any base t v)
    (hW : DataW.Whole enc Tryd.prog Tryd.f6.params.toList Rows.lexerBlanksSpec.vars false W args.toList ds gs before) (hL : laidMetH Tryd.prog Rows.lexerBlanksRow.laid W) :
    Calls Tryd.prog 6 args W fun e W' => ∃ v, e = .returned v ∧ Rows.lexerBlanksSpec.post enc Tryd.prog Tryd.f6 false true false false W args v W' := by
  have hL' : laidMet Tryd.prog Rows.lexerBlanksRow.laid W := hL
  have hW' := hW
  obtain ⟨p, q, hA0, hV, rfl, hfz, hnd⟩ := hW
  have hA : DataW.TrodAll enc Tryd.prog W 0 (fun _ => true) true Tryd.f6.params.toList args.toList ds p := hA0
  rw [Tryd.params6] at hA hval
  obtain ⟨v0, vs0, d0, ds0, p0, q0, hargs, rfl, rfl, h0, r0⟩ := trodAll_cons hA
  obtain ⟨v1, vs1, d1, ds1, p1, q1, rfl, rfl, rfl, h1, r1⟩ := trodAll_cons r0
  obtain ⟨v2, vs2, d2, ds2, p2, q2, rfl, rfl, rfl, h2, r2⟩ := trodAll_cons r1
  obtain ⟨rfl, rfl, rfl⟩ := trodAll_nil r2
  obtain rfl : args = #[v0, v1, v2] := by cases args; simp_all
  obtain ⟨s, rfl, rfl, rfl, hs⟩ := ChangeMaps.open_string (t := 9) (by kernel_rfl) (hval 2 9 v2 rfl rfl) h2
  obtain ⟨l, hl⟩ := exists_bS s
  have hvars := vars_of hL' (.tail _ (.tail _ (.head _))) (.tail _ (.tail _ (.tail _ (.tail _ (.tail _ (.head _)))))) (.tail _ (.tail _ (.tail _ (.tail _ (.head _)))))
  have S := Sim.start (P := Tryd.prog) (l := laidVars) (W := W) (by
    obtain ⟨cs, h, _⟩ := hvars ("strconv.ErrRange", _) (by simp [laidVars]; rfl)
    rcases Nat.eq_zero_or_pos W.heap.size with h0 | h0
    · unfold World.var? at h
      have : ∀ g : Nat, W.heap[g]? = none := fun g => Array.getElem?_eq_none (by omega)
      simp [this] at h
    · exact h0) hvars
  -- the tokens
  obtain ⟨J1, F1, H1, A0, L, S1, ro1, le1, fr1, rel1, in1, hu, ht⟩ : ∃ J1 F1 H1 A0 L, Sim J1 F1 H1 W ∧ (∀ a o, H1 a = some o → o.ro = true) ∧ AH.le (fun a => if a = 0 then some (AObj.ext true (varsRep Tryd.prog laidVars)) else none) H1 ∧
      (J1 2 = none ∧ H1 2 = none) ∧ VRel J1 W A0 v0 ∧ IsIn H1 A0 L ∧ (∀ x ∈ L, x.1.2.2 < 18446744073709551616) ∧ (∀ x ∈ L, x.1.2.1.length < 9223372036854775808) := by
    rcases read_slice (sz := 4) u33 (by kernel_rfl) (by omega) (hval 0 33 v0 rfl rfl) h0 with rfl | ⟨r, off, n, c, cc, T, fr, rfl, hn, hm, hh, hfit, hel⟩
    · exact ⟨_, _, _, .slice none 0 0, [], S, start_ro, AH.le_refl _, ⟨rfl, rfl⟩, .nilSlice, .inl ⟨rfl, .inl rfl⟩, by simp, by simp⟩
    · have hcn : 0 < n → off + n * 4 ≤ cc.size := fun h => by have := hfit (by omega); omega
      obtain ⟨L, hLl, hLc, hLq⟩ := gather (g := inCR) (Q := fun y => y.1.2.2 < 18446744073709551616 ∧ y.1.2.1.length < 9223372036854775808) (sz := 4) (fun _ => rfl) n (cc.toList.drop off)
        (by rcases Nat.eq_zero_or_pos n with h | h
            · subst h; simp
            · have := hcn h; simp; omega)
        (fun i hi => by
          obtain ⟨fuel, D, Pl, ht⟩ := hel i hi
          have := hcn (by omega)
          exact rec_tok ht (by simp; omega))
      obtain ⟨J1, F1, H1, a1, a2, a3, a4, a5, a6, a7⟩ := intro_slice (b := 1) (sz := 4) S start_ro rfl rfl (by omega) (g := inCR) (fun _ => rfl) (fun _ => rfl) hn hh hfit hLl hLc
      refine ⟨J1, F1, H1, _, L, a1, a2, a3, ?_, a6, ?_, fun x hx => (hLq x hx).1, fun x hx => (hLq x hx).2⟩
      · obtain ⟨e1, e2⟩ := a5 2 (by omega); exact ⟨by rw [e1]; rfl, by rw [e2]; rfl⟩
      · rcases a7 with rfl | a7
        · left; exact ⟨rfl, .inr ⟨1, by rw [← hLl]; rfl⟩⟩
        · right; exact ⟨1, by rw [hLl], a7⟩
  -- the gaps
  obtain ⟨J2, F2, H2, A1, G, S2, ro2, le2, lej, rel2, in2⟩ : ∃ J2 F2 H2 A1 G, Sim J2 F2 H2 W ∧ (∀ a o, H2 a = some o → o.ro = true) ∧ H1.le H2 ∧ J1.le J2 ∧ VRel J2 W A1 v1 ∧ IsBytes H2 A1 G := by
    rcases read_slice (sz := 1) u41' (by kernel_rfl) (by omega) (hval 1 41 v1 rfl rfl) h1 with rfl | ⟨r, off, n, c, cc, T, fr, rfl, hn, hm, hh, hfit, hel⟩
    · exact ⟨_, _, _, .slice none 0 0, [], S1, ro1, AH.le_refl _, Inj.le_refl _, .nilSlice, .inl ⟨rfl, .inl rfl⟩⟩
    · have hcn : 0 < n → off + n * 1 ≤ cc.size := fun h => by have := hfit (by omega); omega
      obtain ⟨L, hLl, hLc, hLq⟩ := gather (g := fun y : UInt8 => [Value.int .u8 y.toNat]) (Q := fun _ => True) (sz := 1) (fun _ => rfl) n (cc.toList.drop off)
        (by rcases Nat.eq_zero_or_pos n with h | h
            · subst h; simp
            · have := hcn h; simp; omega)
        (fun i hi => by
          obtain ⟨fuel, D, Pl, ht⟩ := hel i hi
          exact rec_byte ht)
      obtain ⟨J1, F1, H1, a1, a2, a3, a4, a5, a6, a7⟩ := intro_slice (b := 2) (sz := 1) S1 ro1 fr1.1 fr1.2 (by omega) (g := fun y : UInt8 => [Value.int .u8 y.toNat]) (fun _ => rfl) (fun _ => rfl) hn hh hfit hLl hLc
      refine ⟨J1, F1, H1, _, L, a1, a2, a3, a4, a6, ?_⟩
      · rcases a7 with rfl | a7
        · left; exact ⟨rfl, .inr ⟨2, by rw [← hLl]; rfl⟩⟩
        · right; exact ⟨2, by rw [hLl], by rw [bytesV_flat]; exact a7⟩
  have hlaid : Laid H2 := (show Laid (fun a => if a = 0 then some (AObj.ext true (varsRep Tryd.prog laidVars)) else none) from ⟨0, rfl⟩).mono (AH.le_trans le1 le2)
  have walk : Calls Tryd.prog 6 #[v0, v1, .string s] W fun e W' => e = .returned (.bool true) ∧ Below W.heap.size W W' := by
    have g := g6 (s := l) (in1.mono le2) in2 hu ht hlaid
    refine Does.below g S2 ro2 (args' := #[v0, v1, .string s]) ?_ rfl (fun x H' h => h.1)
    rw [hl]
    exact .cons (rel1.mono lej (.refl W)) (.cons rel2 (.cons (closed_self rfl) .nil))
  exact walk.mono fun e W' ⟨he, hb⟩ => ⟨_, he, law_post laidOut (by kernel_rfl) (tb := 4) (by kernel_rfl) (by kernel_rfl) rfl rfl hW' hb⟩

abbrev noArgs : Array Value := #[.slice none 0 0, .slice none 0 0, .string ⟨#[]⟩]
theorem reads (os : Os) {H : Type} (enc : TypeId × Value → H) : ∃ places, DataW.whole enc Tryd.prog ((laidWorld os).forCall (fun _ _ => 0) ⟨#[], noArgs, []⟩).memory Tryd.f6.params.toList Rows.lexerBlanksSpec.vars false noArgs.toList 8 = some ([.nil, .nil, .lit (.string [])], [], places) :=
  ⟨[], by kernel_rfl⟩

theorem laid_met (os : Os) : laidMet Tryd.prog Rows.lexerBlanksRow.laid ((laidWorld os).forCall (fun _ _ => 0) ⟨#[], noArgs, []⟩).memory :=
  laidMet_of_run' 8 (by kernel_rfl) (by kernel_rfl)

theorem lifted (os : Os) (started : os.Started) (H : Type) (enc : TypeId × Value → H) (F : Stop.Interp) :
    ReturnsInHanded {} Tryd.checked os 6 .any ((OpenSpec.ofChange Rows.lexerBlanksSpec).preRow enc Tryd.prog Tryd.f6 Rows.lexerBlanksRow.domain false Rows.lexerBlanksRow.laid) (((OpenSpec.ofChange Rows.lexerBlanksSpec).at F).post enc Tryd.prog Tryd.f6 false true false false) := by
  obtain ⟨places, hx⟩ := reads os enc
  refine returnsInHanded_of_row (C := Tryd.checked) (s := OpenSpec.ofChange Rows.lexerBlanksSpec) own started (by kernel_rfl) Tryd.func6
    (witness_row_atRef (enc := enc) (C := Tryd.checked) false (laidWorld os) noArgs rfl (by kernel_rfl) (by kernel_rfl) (by kernel_rfl)
      (OpenSpec.preRow_of_cond 8 hx (by kernel_rfl) (fun k hk => by cases hk) (by kernel_rfl) (laid_met os))) ?_
  intro W base args ds gs before hval hW _ _ _ hL _ _
  exact contract H enc W base args ds gs before hval hW hL

theorem said : Rows.LexerBlanksSaid :=
  OpenClaim.holds_of_cond 6 Tryd.f6 rfl rfl rfl rfl rfl rfl rfl ⟨rfl, rfl, rfl, rfl, rfl⟩ rfl rfl rfl rfl rfl (by kernel_rfl) Tryd.func6 (by kernel_rfl)
    (of_decide_eq_true (by kernel_rfl)) (by unfold Func.isWrapper; first | (rw [if_pos (by decide +kernel)]; kernel_rfl) | (rw [if_neg (by decide +kernel)]; exact ⟨rfl, rfl⟩))
    (fun os started H enc _ F => by rw [OpenClaim.pre_eq_preRow]; exact lifted os started H enc F)

theorem plain (f : FuncId) (fn : Func) (hf : Tryd.pinned.checked.prog.funcNamed "socage/socagelaw18.LexerBlanks" = some f) (hfn : Tryd.pinned.checked.prog.funcs[f]? = some fn) :
    true = Tryd.pinned.checked.prog.looks [] ∧ ∀ (j : Nat) t, fn.params[j]? = some t → Tryd.pinned.checked.prog.wantsStandIn t = false := by
  obtain rfl : f = 6 := Option.some.inj ((show Tryd.prog.funcNamed "socage/socagelaw18.LexerBlanks" = some 6 by kernel_rfl).symm.trans hf) |>.symm
  obtain rfl : fn = Tryd.f6 := (Option.some.inj (Tryd.func6.symm.trans hfn)).symm
  refine ⟨by kernel_rfl, fun j t ht => ?_⟩
  rw [Tryd.params6] at ht
  rcases (show t = 33 ∨ t = 41 ∨ t = 9 by simpa using Array.mem_of_getElem? ht) with rfl | rfl | rfl
  · exact (show Tryd.prog.wantsStandIn 33 = false by kernel_rfl)
  · exact (show Tryd.prog.wantsStandIn 41 = false by kernel_rfl)
  · exact (show Tryd.prog.wantsStandIn 9 = false by kernel_rfl)

theorem card : Rows.LexerBlanksCardSaid :=
  Claim7.holds_tied_plain_at .later [] _ _ _ _ said (fun _ h => by cases h) (by kernel_rfl) (fun _ h => by cases h) lexerBlanks_row_tie rfl ⟨rfl, rfl⟩ (by kernel_rfl) rfl plain (by kernel_rfl)
#print axioms card
end Go.Proofs.YtaeofoimlhmdoaaDoor.lexerBlanks
