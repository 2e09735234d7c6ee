/-
  What a program's listed variables hold, as an object that is only read; new names for blocks that a contract has made.
-/
import Derived.Test.YtaeofoimlhmdoaaDoorAbsR
import GoSem.Claims
set_option linter.unusedSimpArgs false
set_option linter.unusedVariables false
namespace Go.Abs
open Go.RowKit

section
variable {P : Program} {J : Inj} {F : Nat → Nat → Prop} {H : AH} {w w' : World} {v : Value}

/-- Variables that hold what is listed. -/
def varsRep (P : Program) (l : List (String × (Array Value → Prop))) : ARep where
  holds _ w _ F := (∀ r, F r → r < w.heap.size) ∧ ∀ x ∈ l, ∃ g cs, P.globalNamed x.1 = some g ∧ F g ∧ w.var? P x.1 = some cs ∧ x.2 cs
  stable := by
    intro J J' w w' a F h hJ hw hk
    refine ⟨fun r hr => ?_, fun x hx => ?_⟩
    · have h1 := h.1 r hr
      have h2 := hk r hr
      rw [Array.getElem?_eq_getElem h1] at h2
      exact lt_of_block h2
    · obtain ⟨g, cs, h1, h2, h3, h4⟩ := h.2 x hx
      refine ⟨g, cs, h1, h2, ?_, h4⟩
      unfold World.var? at h3 ⊢
      rw [h1, Option.bind_some] at h3 ⊢
      rw [hk g h2]; exact h3
  within := fun J w a F h => h.1

/-- The abstract heap knows of the listed variables. -/
def HasVars (P : Program) (l : List (String × (Array Value → Prop))) (H : AH) : Prop := ∃ g, H g = some (.ext true (varsRep P l))

theorem HasVars.mono {l : List (String × (Array Value → Prop))} {H H' : AH} (h : HasVars P l H) (hl : H.le H') : HasVars P l H' :=
  h.imp fun _ e => hl _ _ e

theorem HasVars.get {l : List (String × (Array Value → Prop))} (h : HasVars P l H) (S : Sim J F H w) {x : String × (Array Value → Prop)} (hx : x ∈ l) : ∃ cs, w.var? P x.1 = some cs ∧ x.2 cs := by
  obtain ⟨g, hg⟩ := h
  obtain ⟨_, cs, _, _, h3, h4⟩ := (S.obj g _ hg).2 x hx
  exact ⟨cs, h3, h4⟩

theorem HasVars.upd {l : List (String × (Array Value → Prop))} (h : HasVars P l H) {m : Nat} {o : AObj} (hm : H m = none) : HasVars P l (H.upd m o) :=
  h.mono (AH.le_upd hm)

/-- A new name for a block that no name stands for yet. -/
theorem Sim.name (S : Sim J F H w) {b N : Nat} (hb : J b = none) (hN : N < w.heap.size) : Sim (J.put b (N, 0)) F H w ∧ Evolves J F H w (J.put b (N, 0)) F H w := by
  have hle := Inj.le_put J (N, 0) hb
  refine ⟨⟨fun a o h => (S.obj a o h).mono hle (.refl w) (fun _ _ => rfl), S.apart, fun a o h => ?_, ?_, ?_⟩, ?_⟩
  · have := S.named a o h
    unfold Inj.put
    split
    · simp
    · exact this
  · obtain ⟨M, hM⟩ := S.bound
    refine ⟨max M (b + 1), fun a ha => ?_⟩
    unfold Inj.put
    rw [if_neg (by omega)]
    exact hM a (by omega)
  · intro a r o h
    unfold Inj.put at h
    split at h
    · cases h; exact hN
    · exact S.within a r o h
  · exact ⟨hle, .refl w, Nat.le_refl _, rfl, rfl, rfl, fun _ _ _ => rfl, fun a o h hro r hr => .inr ⟨a, o, h, hro, hr⟩, fun _ h => .inl h⟩

theorem Does.of_calls {f : FuncId} {args : List Value} {R : AOut → AH → Prop} (hcall : Callable P f) (hc : args.all closed = true)
    (h : ∀ J F w, Sim J F H w → Calls P f args.toArray w fun e w' => ∃ J' F' x H', R x H' ∧ OutRel J' w' x e ∧ Sim J' F' H' w' ∧ Evolves J F H w J' F' H' w') : Does P f args H R := by
  refine ⟨hcall, fun J F w args' S hargs => ?_⟩
  have e : args' = args.toArray := by
    have := hargs.closed_eq hc
    rw [← this]
  subst e
  exact h J F w S
#print axioms Does.of_calls
end
end Go.Abs
