/-
  What code comes to, with joins: where two ways meet, a relation over the slots that are used behind it may be named once.
-/
import Derived.Test.YtaeofoimlhmdoaaDoorAbsT
set_option linter.unusedSimpArgs false
set_option linter.unusedVariables false
namespace Go.Abs
open Go.RowKit

def wj (α : Ip) (T : Nat → Option Nat) (S : Nat → List Nat) (C : Nat → Option (List Nat)) (n : Nat) : Code → (AExit → List Value → AH → Prop) → List Value → AH → Prop
  | .skip, Q, A, H => Q .normal A H
  | .region _ ops false, Q, A, H => wcOps α ops Q ops.toList A H
  | .region id ops true, Q, A, H => match T id with
    | none => wcQuiet α ops H (fun A' => Q .normal A' H) ops.toList A
    | some n => wcQuiet α ops H (fun A' => wcOps α ops Q (ops.toList.drop n) A' H) (ops.toList.take n) A
  | .seq x y, Q, A, H => match C (firstRegion y) with
    | none => wj α T S C n x (fun e A' H' => match e with | .normal => wj α T S C n y Q A' H' | e => Q e A' H') A H
    | some L => ∃ M : List Value → AH → Prop,
        wj α T S C n x (fun e A' H' => match e with | .normal => longB n A' (M (pickS L A') H') | e => Q e A' H') A H ∧
        forallN L.length fun xs => ∀ H, M xs H → wj α T S C n y Q (spreadS n L xs) H
  | .cond c x y, Q, A, H => selV (aev A c) (wj α T S C n x Q A H) (wj α T S C n y Q A H)
  | .block id c, Q, A, H => wj α T S C n c (fun e A' H' => match e with | .exit i => if i = id then Q .normal A' H' else Q (.exit i) A' H' | e => Q e A' H') A H
  | .loop c, Q, A, H => longB n A (∃ I : Nat → List Value → AH → Prop, (∃ m, I m (pickS (S (firstRegion c)) A) H) ∧
      ∀ m, forallN (S (firstRegion c)).length fun xs => ∀ H, I m xs H →
        wj α T S C n c (fun e A' H' => match e with | .normal => longB n A' (∃ k, k < m ∧ I k (pickS (S (firstRegion c)) A') H') | e => Q e A' H') (spreadS n (S (firstRegion c)) xs) H)
  | .exit id, Q, A, H => Q (.exit id) A H
  | .scope c, Q, A, H => wj α T S C n c Q A H
  | .label _, Q, A, H => Q .normal A H
  | .ret, Q, A, H => Q .ret A H
  | _, _, _, _ => False

section
variable {P : Program}

/-- Slots that are not spoken of are forgotten. -/
theorem SimCode.spread {c : Code} {Q : AExit → List Value → AH → Prop} {A : List Value} {H : AH} {n : Nat} (hn : n ≤ A.length) (L : List Nat) (h : SimCode P c (spreadS n L (pickS L A)) H Q) : SimCode P c A H Q :=
  fun J F w a S hA hd => h J F w a S (hA.spread hn L) hd

theorem region_wj {id : Nat} {ops : Array Oper} {draw : Bool} {T : Nat → Option Nat} {Q : AExit → List Value → AH → Prop} {A : List Value} {H : AH} (hm : P.follows .mixedOrders = true)
    (hk : okDraw T (.region id ops draw) = true) (h : wc (real P) T (fun _ => []) 0 (.region id ops draw) Q A H) : SimCode P (.region id ops draw) A H Q :=
  vc_sound hm _ _ _ _ hk (wc_vc _ _ _ _ _ (fun _ _ _ h => h) h)

theorem wj_sound {T : Nat → Option Nat} {S : Nat → List Nat} {C : Nat → Option (List Nat)} {n : Nat} (hm : P.follows .mixedOrders = true) : ∀ (c : Code) (Q : AExit → List Value → AH → Prop) (A : List Value) (H : AH), okDraw T c = true → wj (real P) T S C n c Q A H → SimCode P c A H Q := by
  intro c
  induction c with
  | skip => intro Q A H _ h J F w a Sm hA hd; exact wp_skip ⟨J, F, .normal, A, H, h, trivial, Sm, .refl J F H w, hA, hd⟩
  | region id ops draw =>
    intro Q A H hk h
    cases draw with
    | false => exact region_wj hm hk h
    | true => exact region_wj hm hk h
  | seq x y ihx ihy =>
    intro Q A H hk h
    simp only [okDraw, Bool.and_eq_true] at hk
    simp only [wj] at h
    split at h
    · refine seq_sound ((ihx _ A H hk.1 h).mono fun e A' H' hq => ?_)
      cases e with
      | normal => exact ihy Q A' H' hk.2 hq
      | _ => exact hq
    · rename_i L hL
      obtain ⟨M, h1, h2⟩ := h
      refine seq_sound ((ihx _ A H hk.1 h1).mono fun e A' H' hq => ?_)
      cases e with
      | normal =>
        obtain ⟨hn, hM⟩ := longB_out hq
        exact SimCode.spread hn L (ihy Q _ H' hk.2 (forallN_spec _ _ h2 (pickS L A') (by simp [pickS]) H' hM))
      | _ => exact hq
  | cond c x y ihx ihy =>
    intro Q A H hk h
    simp only [okDraw, Bool.and_eq_true] at hk
    simp only [wj, selV] at h
    split at h
    · rename_i b hb
      exact cond_sound hb (fun e => ihx Q A H hk.1 (by subst e; exact h)) (fun e => ihy Q A H hk.2 (by subst e; exact h))
    · exact h.elim
  | block id c ih => intro Q A H hk h; exact block_sound (ih _ A H hk h)
  | loop c ih =>
    intro Q A H hk h
    simp only [wj] at h
    obtain ⟨hl, I, ⟨m, h0⟩, hr⟩ := longB_out h
    refine loop_sound (S (firstRegion c)) n I hl h0 fun m xs H hxs hI => ?_
    refine (ih _ _ H hk (forallN_spec _ _ (hr m) xs hxs H hI)).mono fun e A' H' hq => ?_
    cases e with
    | normal => exact longB_out hq
    | _ => exact hq
  | exit id => intro Q A H _ h J F w a Sm hA hd; exact wp_exit ⟨J, F, .exit id, A, H, h, rfl, Sm, .refl J F H w, hA, hd⟩
  | scope c ih => intro Q A H hk h; exact scope_sound (ih Q A H hk h)
  | label l => intro Q A H _ h J F w a Sm hA hd; exact wp_label ⟨J, F, .normal, A, H, h, trivial, Sm, .refl J F H w, hA, hd⟩
  | ret => intro Q A H _ h J F w a Sm hA hd; exact wp_ret ⟨J, F, .ret, A, H, h, trivial, Sm, .refl J F H w, hA, hd⟩
  | _ => intro Q A H hk h; exact h.elim

/-- A call, by what its function's text comes to, with joins. -/
theorem Does.of_wj {f : FuncId} {fn : Func} {args : List Value} {H : AH} {R : AOut → AH → Prop} (T : Nat → Option Nat) (S : Nat → List Nat) (C : Nat → Option (List Nat)) (V : Ip → Prop) (hm : P.follows .mixedOrders = true) (hf : P.funcs[f]? = some fn) (hcall : Callable P f)
    (hk : (fn.body.isSome && okDraw T (bodyOf fn)) = true) (hV : ∀ α, V α = wj α T S C fn.ntmps (bodyOf fn) (fnEnd α fn R) (args ++ List.replicate (fn.ntmps - args.length) unk) H) (h : V (real P)) : Does P f args H R := by
  simp only [Bool.and_eq_true] at hk
  have hb : fn.body = some (bodyOf fn) := by
    obtain ⟨c, hc⟩ := Option.isSome_iff_exists.1 hk.1
    simp [bodyOf, hc]
  rw [hV] at h
  exact Does.of_code hf hb hcall ((wj_sound hm _ _ _ _ hk.2 h).mono fnEnd_post)

#print axioms Does.of_wj
end
end Go.Abs
