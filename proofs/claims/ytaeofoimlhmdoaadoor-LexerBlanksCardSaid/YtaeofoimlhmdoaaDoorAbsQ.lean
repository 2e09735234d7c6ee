/-
  Contracts that speak of the model's own worlds, as calls over the abstract heap.
-/
import Derived.Test.YtaeofoimlhmdoaaDoorAbsP
import Derived.Below
set_option linter.unusedSimpArgs false
set_option linter.unusedVariables false
namespace Go.Abs
open Go.RowKit

section
variable {P : Program} {J : Inj} {F : Nat → Nat → Prop} {H : AH} {w w' : World} {v : Value}

/-- New blocks alone. -/
theorem Sim.below (S : Sim J F H w) (h : Below w.heap.size w w') : Sim J F H w' ∧ Evolves J F H w J F H w' := by
  have hr : RowsLe w w' := by
    rintro r n ⟨cc, T, fr, e, k⟩
    exact ⟨cc, T, fr, by rw [h.block r (lt_of_block e)]; exact e, k⟩
  refine ⟨⟨fun a o ha => (S.obj a o ha).mono (Inj.le_refl J) hr (fun r hF => h.block r ((S.obj a o ha).within r hF)), S.apart, S.named, S.bound, fun a r o e => Nat.lt_of_lt_of_le (S.within a r o e) h.size⟩, ?_⟩
  exact ⟨Inj.le_refl J, hr, h.size, h.os, h.tape, h.output, fun r hlt _ => h.block r hlt, fun a o ha hro r hF => .inr ⟨a, o, ha, hro, hF⟩, fun _ ha => .inl ha⟩

theorem VRels.closed_eq {l l' : List Value} (h : VRels J w l l') (hc : l.all closed = true) : l' = l := by
  induction l generalizing l' with
  | nil => exact h.nil_inv
  | cons x l ih =>
    obtain ⟨v', t', rfl, hv, ht⟩ := h.cons_inv
    simp only [List.all_cons, Bool.and_eq_true] at hc
    rw [Go.Abs.closed_eq hc.1 hv, ih ht hc.2]

/-- A contract whose world behind the call has new blocks alone. -/
theorem Gives.of_calls {f : FuncId} {args : List Value} (hcall : Callable P f) (hc : args.all closed = true) (hv : closed v = true)
    (h : ∀ J F w, Sim J F H w → Calls P f args.toArray w fun e w' => e = .returned v ∧ Below w.heap.size w w') : Gives P f args H v := by
  refine ⟨hcall, fun J F w args' S hargs => ?_⟩
  have e : args' = args.toArray := by
    have := hargs.closed_eq hc
    rw [← this]
  subst e
  refine (h J F w S).mono fun e w' hh => ?_
  obtain ⟨rfl, hb⟩ := hh
  obtain ⟨S', E'⟩ := S.below hb
  exact ⟨J, F, .ret v, H, ⟨rfl, rfl⟩, .inr (closed_self hv), S', E'⟩
end
end Go.Abs
