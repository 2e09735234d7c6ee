/-
  Code over the abstract heap: what a function's text comes to, as a proposition, and that it says enough.
-/
import Derived.Test.YtaeofoimlhmdoaaDoorAbsK
set_option linter.unusedSimpArgs false
set_option linter.unusedVariables false
namespace Go.Abs
open Go.RowKit

inductive AExit where
  | normal
  | exit (id : Nat)
  | ret
  | pan (v : Value)

inductive AOut where
  | ret (v : Value)
  | pan (v : Value)

def ExRel (J : Inj) (w : World) : AExit → Exit → Prop
  | .normal, .normal => True
  | .exit i, .exit j => i = j
  | .ret, .ret => True
  | .pan v, .panic ch => ∃ v', ch = [{ v := v', recovered := false }] ∧ VRel J w v v'
  | _, _ => False

def OutRel (J : Inj) (w : World) : AOut → Ending → Prop
  | .ret v, .returned v' => ORel J w v v'
  | .pan v, .panicked ch => ∃ v', ch = [{ v := v', recovered := false }] ∧ VRel J w v v'
  | _, _ => False

/-- A proposition over abstract states, as one over the model's. -/
def Conc (J : Inj) (F : Nat → Nat → Prop) (H : AH) (w : World) (Q : AExit → List Value → AH → Prop) (e : Exit) (a : Act) (w' : World) : Prop :=
  ∃ J' F' x A H', Q x A H' ∧ ExRel J' w' x e ∧ Sim J' F' H' w' ∧ Evolves J F H w J' F' H' w' ∧ FRel J' w' A a.tmps ∧ a.defers = []

def Callable (P : Program) (f : FuncId) : Prop := ∀ args w, (callFunc f args).run P w = .ok (.enter f args) w

/-- What a call comes to, over the abstract heap. -/
structure Does (P : Program) (f : FuncId) (args : List Value) (H : AH) (R : AOut → AH → Prop) : Prop where
  callable : Callable P f
  run : ∀ J F w (args' : Array Value), Sim J F H w → VRels J w args args'.toList →
    Calls P f args' w fun e w' => ∃ J' F' x H', R x H' ∧ OutRel J' w' x e ∧ Sim J' F' H' w' ∧ Evolves J F H w J' F' H' w'

/-- What code comes to, over the abstract heap. -/
def SimCode (P : Program) (c : Code) (A : List Value) (H : AH) (Q : AExit → List Value → AH → Prop) : Prop :=
  ∀ J F w a, Sim J F H w → FRel J w A a.tmps → a.defers = [] → c.wp P (Conc J F H w Q) a w

theorem Does.mono {P : Program} {f : FuncId} {args : List Value} {H : AH} {R R' : AOut → AH → Prop} (h : Does P f args H R) (hr : ∀ x H', R x H' → R' x H') : Does P f args H R' :=
  ⟨h.1, fun J F w args' S ha => (h.2 J F w args' S ha).mono fun e w' ⟨J', F', x, H', h1, h2⟩ => ⟨J', F', x, H', hr x H' h1, h2⟩⟩

theorem Conc.trans {J J1 : Inj} {F F1 : Nat → Nat → Prop} {H H1 : AH} {w w1 : World} {Q : AExit → List Value → AH → Prop} {e : Exit} {a : Act} {w' : World}
    (hE : Evolves J F H w J1 F1 H1 w1) (h : Conc J1 F1 H1 w1 Q e a w') : Conc J F H w Q e a w' := by
  obtain ⟨J', F', x, A, H', h1, h2, h3, h4, h5⟩ := h
  exact ⟨J', F', x, A, H', h1, h2, h3, hE.trans h4, h5⟩

theorem SimCode.mono {P : Program} {c : Code} {A : List Value} {H : AH} {Q Q' : AExit → List Value → AH → Prop} (h : SimCode P c A H Q) (hq : ∀ x A H, Q x A H → Q' x A H) : SimCode P c A H Q' :=
  fun J F w a S hA hd => wp_mono (h J F w a S hA hd) fun e a w' ⟨J', F', x, A, H', h1, h2⟩ => ⟨J', F', x, A, H', hq _ _ _ h1, h2⟩

/-- One of two, by a Bool. -/
def selB (b : Bool) (X Y : Prop) : Prop :=
  match b with
  | true => X
  | false => Y

/-- One of two, by a value. -/
def selV (v : Value) (X Y : Prop) : Prop :=
  match v with
  | .bool b => selB b X Y
  | _ => False

/-- A guard's outcome is told apart. -/
def splitB (g : Bool) (v : Value) (K : Value → Prop) : Prop :=
  match g with
  | true => selV v (K (.bool true)) (K (.bool false))
  | false => K v

theorem splitB_out {g : Bool} {v : Value} {K : Value → Prop} (h : splitB g v K) : K v := by
  cases g with
  | false => exact h
  | true =>
    simp only [splitB, selV] at h
    split at h
    · rename_i b; cases b
      · exact h
      · exact h
    · exact h.elim

/-- Is what this operation gives a guard of one behind it? -/
def isGuard (ops : Array Oper) (o : Oper) (rest : List Oper) : Bool :=
  rest.any fun p => match p.guard, o.dst with
    | some (j, _), some d => ((ops[j]?).bind (·.dst)) == some d
    | _, _ => false

def ayield (ops : Array Oper) (A : List Value) (j : Nat) : Option (Option Bool) :=
  match (ops[j]?).bind (·.dst) with
  | some d => match A[d]? with
    | some (.bool b) => some (some b)
    | some (.tuple ⟨[]⟩) => some none
    | _ => none
  | none => none

/-- Is it what is wanted? -/
def wants (b : Option Bool) (want : Bool) : Bool :=
  match b with
  | some b => match b, want with
    | true, true | false, false => true
    | _, _ => false
  | none => false

theorem wants_iff {b : Option Bool} {want : Bool} : wants b want = (b == some want) := by
  cases b with
  | none => rfl
  | some b => cases b <;> cases want <;> rfl

/-- What an operation comes to, and what is asked behind it. -/
def stepV (P : Program) (H : AH) (st : Option AStep) (K : Value → AH → Prop) (Q : Value → AH → Prop) : Prop :=
  match st with
  | some (.val v H') => K v H'
  | some (.new H0 ob mk) => ∀ b, H b = none → K (mk b) (H0.upd b ob)
  | some (.call f args) => Does P f args H fun x H' => match x with
    | .ret v => K v H'
    | .pan v => Q v H'
  | some (.pan v) => Q v H
  | none => False

/-- One operation, and what is asked behind it. -/
def vcStep (P : Program) (A : List Value) (H : AH) (o : Oper) (g : Bool) (K : List Value → AH → Prop) (Q : AExit → List Value → AH → Prop) : Prop :=
  stepV P H (aop P A H o) (fun v H' => splitB g v fun v => K (aput A o.dst v) H') fun v H' => Q (.pan v) A H'

/-- The operations of a region, in their order. -/
def vcOps (P : Program) (ops : Array Oper) (Q : AExit → List Value → AH → Prop) : List Oper → List Value → AH → Prop
  | [], A, H => Q .normal A H
  | o :: rest, A, H =>
    match o.guard with
    | none => vcStep P A H o (isGuard ops o rest) (vcOps P ops Q rest) Q
    | some (j, want) =>
      match ayield ops A j with
      | some b => if wants b want = true then vcStep P A H o (isGuard ops o rest) (vcOps P ops Q rest) Q else vcOps P ops Q rest (aput A o.dst undef) H
      | none => False

section
variable {P : Program}

theorem step_sound {A : List Value} {H : AH} {o : Oper} {g : Bool} {K : List Value → AH → Prop} {Q : AExit → List Value → AH → Prop} (h : vcStep P A H o g K Q)
    {J : Inj} {F : Nat → Nat → Prop} {w : World} {a : Act} (S : Sim J F H w) (hA : FRel J w A a.tmps) (hd : a.defers = []) {K' : Act → World → Prop} {Q' : Exit → Act → World → Prop}
    (hK : ∀ J1 F1 A1 H1 w1 a1, K A1 H1 → Sim J1 F1 H1 w1 → Evolves J F H w J1 F1 H1 w1 → FRel J1 w1 A1 a1.tmps → a1.defers = [] → K' a1 w1)
    (hQ : ∀ J1 F1 A1 H1 w1 a1 v v', Q (.pan v) A1 H1 → Sim J1 F1 H1 w1 → Evolves J F H w J1 F1 H1 w1 → FRel J1 w1 A1 a1.tmps → a1.defers = [] → VRel J1 w1 v v' → Q' (.panic [{ v := v', recovered := false }]) a1 w1) :
    o.wp P a w K' Q' := by
  unfold vcStep stepV at h
  split at h
  · rename_i v H1 ho
    have hs := aop_ok ho S hA
    obtain ⟨nx, v', w', J', F', hr, hnx, S', E', hv⟩ := hs
    have h := splitB_out h
    unfold Oper.wp
    rw [hr]
    rcases hnx with rfl | ⟨rfl, rfl⟩
    · exact hK J' F' _ _ w' _ h S' E' ((hA.mono E'.le E'.rows).put o.dst hv) (by cases hdst : o.dst <;> simp [Act.put, hd])
    · exact hK J' F' _ _ w' _ h S' E' ((hA.mono E'.le E'.rows).put o.dst hv) (by cases hdst : o.dst <;> simp [Act.put, hd])
  · rename_i H0 ob mk ho
    obtain ⟨b, v', w', J', F', hb, hr, S', E', hv⟩ := aop_ok ho S hA
    unfold Oper.wp
    rw [hr]
    exact hK J' F' _ _ w' _ (splitB_out (h b hb)) S' E' ((hA.mono E'.le E'.rows).put o.dst (.inr hv)) (by cases hdst : o.dst <;> simp [Act.put, hd])
  · rename_i f args ho
    obtain ⟨args', hr, hargs⟩ := aop_ok ho S hA
    unfold Oper.wp
    rw [hr, h.1 args' w]
    refine (h.2 J F w args' S hargs).mono fun e w' hh => ?_
    obtain ⟨J', F', x, H', h1, h2, S', E'⟩ := hh
    cases x with
    | ret v =>
      cases e with
      | returned v' => exact hK J' F' _ _ w' _ (splitB_out h1) S' E' ((hA.mono E'.le E'.rows).put o.dst h2) (by cases hdst : o.dst <;> simp [Act.put, hd])
      | panicked ch => exact h2.elim
      | outgrown => exact h2.elim
    | pan v =>
      cases e with
      | returned v' => exact h2.elim
      | panicked ch =>
        obtain ⟨v', rfl, hv⟩ := h2
        exact hQ J' F' _ _ w' _ v v' h1 S' E' (hA.mono E'.le E'.rows) hd hv
      | outgrown => exact h2.elim
  · rename_i v ho
    obtain ⟨v', hr, hv⟩ := aop_ok ho S hA
    unfold Oper.wp
    rw [hr]
    exact hQ J F A H w a v v' h S (.refl J F H w) hA hd hv
  · exact h.elim

theorem ayield_rel {ops : Array Oper} {A : List Value} {j : Nat} {b : Option Bool} (h : ayield ops A j = some b) {J : Inj} {w : World} {a : Act} (hA : FRel J w A a.tmps) : yielded ops a.tmps j = b := by
  unfold ayield at h
  split at h
  · rename_i d hd
    split at h
    · rename_i b' hb
      cases h
      have hi := hA.2 d
      rw [List.getD_eq_getElem?_getD, hb] at hi
      have hv := (hi.known (by simp [unk])).bool_inv
      have hlt : d < A.length := by
        rcases Nat.lt_or_ge d A.length with g | g
        · exact g
        · rw [List.getElem?_eq_none g] at hb; cases hb
      have : a.tmps[d]? = some (.bool b') := by
        rw [Array.getD_eq_getD_getElem?] at hv
        have hlt' : d < a.tmps.size := Nat.lt_of_lt_of_le hlt hA.1
        rw [Array.getElem?_eq_getElem hlt'] at hv ⊢
        simpa using hv
      unfold yielded
      rw [hd, Option.bind_some, this]
    · rename_i hb
      cases h
      have hi := hA.2 d
      rw [List.getD_eq_getElem?_getD, hb] at hi
      obtain ⟨cc, hv, hr⟩ := (hi.known (by intro e; simp [unk] at e)).tuple_inv'
      have hcc : cc = #[] := by simpa using hr.1.symm
      subst hcc
      have hlt : d < A.length := by
        rcases Nat.lt_or_ge d A.length with g | g
        · exact g
        · rw [List.getElem?_eq_none g] at hb; cases hb
      have : a.tmps[d]? = some (.tuple #[]) := by
        rw [Array.getD_eq_getD_getElem?] at hv
        have hlt' : d < a.tmps.size := Nat.lt_of_lt_of_le hlt hA.1
        rw [Array.getElem?_eq_getElem hlt'] at hv ⊢
        simpa using hv
      unfold yielded
      rw [hd, Option.bind_some, this]
    · cases h
  · cases h

theorem undef_rel {J : Inj} {w : World} : ORel J w undef undef := .inr (VRel.tuple (c := []) (c' := []) rfl (by simp))

theorem ops_sound {ops : Array Oper} {Q : AExit → List Value → AH → Prop} : ∀ (l : List Oper) (A : List Value) (H : AH), vcOps P ops Q l A H →
    ∀ J F w a J0 F0 H0 w0, Sim J F H w → FRel J w A a.tmps → a.defers = [] → Evolves J0 F0 H0 w0 J F H w → wpList P ops (Conc J0 F0 H0 w0 Q) l a w
  | [], A, H, h, J, F, w, a, J0, F0, H0, w0, S, hA, hd, E => ⟨J, F, .normal, A, H, h, trivial, S, E, hA, hd⟩
  | o :: rest, A, H, h, J, F, w, a, J0, F0, H0, w0, S, hA, hd, E => by
    have step : ∀ g, vcStep P A H o g (vcOps P ops Q rest) Q → o.wp P a w (wpList P ops (Conc J0 F0 H0 w0 Q) rest) (Conc J0 F0 H0 w0 Q) := by
      intro g hg
      refine step_sound hg S hA hd (fun J1 F1 A1 H1 w1 a1 hK S1 E1 hA1 hd1 => ?_) (fun J1 F1 A1 H1 w1 a1 v v' hq S1 E1 hA1 hd1 hv => ?_)
      · exact ops_sound rest A1 H1 hK J1 F1 w1 a1 J0 F0 H0 w0 S1 hA1 hd1 (E.trans E1)
      · exact ⟨J1, F1, .pan v, A1, H1, hq, ⟨v', rfl, hv⟩, S1, E.trans E1, hA1, hd1⟩
    unfold wpList
    unfold vcOps at h
    split at h
    · rename_i hg
      rw [if_pos (by simp [Region.wanted, hg])]
      exact .inl (step _ h)
    · rename_i j want hg
      split at h
      · rename_i b hb
        have hy := ayield_rel hb hA
        split at h
        · rename_i hbw
          rw [if_pos (by rw [wants_iff] at hbw; simpa [Region.wanted, hg, hy] using hbw)]
          exact .inl (step _ h)
        · rename_i hbw
          rw [if_neg (by rw [wants_iff] at hbw; simpa [Region.wanted, hg, hy] using hbw)]
          exact ops_sound rest _ H h J F w _ J0 F0 H0 w0 S (hA.put o.dst undef_rel) (by cases hdst : o.dst <;> simp [Act.put, hd]) E
      · exact h.elim

theorem region_sound {id : Nat} {ops : Array Oper} {Q : AExit → List Value → AH → Prop} {A : List Value} {H : AH} (h : vcOps P ops Q ops.toList A H) : SimCode P (.region id ops false) A H Q :=
  fun J F w a S hA hd => wp_region_list (ops_sound ops.toList A H h J F w a J F H w S hA hd (.refl J F H w))

theorem seq_sound {x y : Code} {Q : AExit → List Value → AH → Prop} {A : List Value} {H : AH}
    (h : SimCode P x A H fun e A' H' => match e with | .normal => SimCode P y A' H' Q | e => Q e A' H') : SimCode P (.seq x y) A H Q := by
  intro J F w a S hA hd
  refine wp_seq (wp_mono (h J F w a S hA hd) fun e a' w' hc => ?_)
  obtain ⟨J', F', x', A', H', h1, h2, S', E', hA', hd'⟩ := hc
  cases e with
  | normal =>
    cases x' <;> simp only [ExRel] at h2
    exact wp_mono (h1 J' F' w' a' S' hA' hd') fun e a w' hc => hc.trans E'
  | ret =>
    cases x' <;> simp only [ExRel] at h2
    exact ⟨J', F', .ret, A', H', h1, trivial, S', E', hA', hd'⟩
  | exit i =>
    cases x' <;> simp only [ExRel] at h2
    exact ⟨J', F', .exit _, A', H', h1, h2, S', E', hA', hd'⟩
  | panic ch =>
    cases x' <;> simp only [ExRel] at h2
    exact ⟨J', F', .pan _, A', H', h1, h2, S', E', hA', hd'⟩
  | goto l => cases x' <;> simp only [ExRel] at h2
  | outgrown => cases x' <;> simp only [ExRel] at h2

theorem cond_sound {c : Operand} {x y : Code} {Q : AExit → List Value → AH → Prop} {A : List Value} {H : AH} {b : Bool} (hc : aev A c = .bool b)
    (h1 : b = true → SimCode P x A H Q) (h2 : b = false → SimCode P y A H Q) : SimCode P (.cond c x y) A H Q := by
  intro J F w a S hA hd
  have he := hA.ev c
  rw [hc] at he
  exact wp_cond_split (he.known (by simp [unk])).bool_inv (fun e => h1 e J F w a S hA hd) (fun e => h2 e J F w a S hA hd)

theorem block_sound {id : Nat} {c : Code} {Q : AExit → List Value → AH → Prop} {A : List Value} {H : AH}
    (h : SimCode P c A H fun e A' H' => match e with | .exit i => if i = id then Q .normal A' H' else Q (.exit i) A' H' | e => Q e A' H') : SimCode P (.block id c) A H Q := by
  intro J F w a S hA hd
  refine wp_block (wp_mono (h J F w a S hA hd) fun e a' w' hc => ?_)
  obtain ⟨J', F', x', A', H', h1, h2, S', E', hA', hd'⟩ := hc
  cases e with
  | normal => cases x' <;> simp only [ExRel] at h2; exact ⟨J', F', .normal, A', H', h1, trivial, S', E', hA', hd'⟩
  | ret => cases x' <;> simp only [ExRel] at h2; exact ⟨J', F', .ret, A', H', h1, trivial, S', E', hA', hd'⟩
  | exit i =>
    cases x' <;> simp only [ExRel] at h2
    subst h2
    simp only [Exit.inBlock]
    simp only at h1
    split
    · rename_i e
      rw [if_pos e] at h1
      exact ⟨J', F', .normal, A', H', h1, trivial, S', E', hA', hd'⟩
    · rename_i e
      rw [if_neg e] at h1
      exact ⟨J', F', .exit _, A', H', h1, rfl, S', E', hA', hd'⟩
  | panic ch => cases x' <;> simp only [ExRel] at h2; exact ⟨J', F', .pan _, A', H', h1, h2, S', E', hA', hd'⟩
  | goto l => cases x' <;> simp only [ExRel] at h2
  | outgrown => cases x' <;> simp only [ExRel] at h2

theorem scope_sound {c : Code} {Q : AExit → List Value → AH → Prop} {A : List Value} {H : AH} (h : SimCode P c A H Q) : SimCode P (.scope c) A H Q := by
  intro J F w a S hA hd
  refine wp_scope_straight (wp_mono (h J F w a S hA hd) fun e a' w' hc => ?_)
  cases e with
  | goto l => obtain ⟨J', F', x', A', H', h1, h2, _⟩ := hc; cases x' <;> simp only [ExRel] at h2
  | _ => exact hc

theorem exists_least {p : Nat → Prop} (h : ∃ n, p n) : ∃ n, p n ∧ ∀ m, p m → n ≤ m := by
  obtain ⟨n, hn⟩ := h
  induction n using Nat.strongRecOn with
  | _ n ih =>
    by_cases hm : ∃ m, m < n ∧ p m
    · obtain ⟨m, h1, h2⟩ := hm; exact ih m h1 h2
    · exact ⟨n, hn, fun m hp => by
        rcases Nat.lt_or_ge m n with g | g
        · exact absurd ⟨m, g, hp⟩ hm
        · exact g⟩

/-- A loop's rule, its measure in the relation. -/
theorem wp_loop_rel {c : Code} {Q : Exit → Act → World → Prop} {a : Act} {w : World} (I : Nat → Act → World → Prop) {n : Nat} (h₀ : I n a w)
    (round : ∀ n a w, I n a w → c.wp P (Exit.then (fun a' w' => ∃ m, m < n ∧ I m a' w') Q) a w) : (Code.loop c).wp P Q a w := by
  classical
  let μ : Act → World → Nat := fun a w => if h : ∃ n, I n a w then Classical.choose (exists_least h) else 0
  refine wp_loop (fun a w => ∃ n, I n a w) μ ⟨n, h₀⟩ fun a w hI => ?_
  have hμ : μ a w = Classical.choose (exists_least hI) := dif_pos hI
  refine wp_mono (round _ a w (Classical.choose_spec (exists_least hI)).1) fun e a' w' hq => ?_
  cases e with
  | normal =>
    obtain ⟨m, hm, hIm⟩ := hq
    refine ⟨⟨m, hIm⟩, ?_⟩
    have hex : ∃ n, I n a' w' := ⟨m, hIm⟩
    have : μ a' w' = Classical.choose (exists_least hex) := dif_pos hex
    rw [this, hμ]
    exact Nat.lt_of_le_of_lt ((Classical.choose_spec (exists_least hex)).2 m hIm) hm
  | _ => exact hq

/-- For each list of so many values. -/
def forallN : Nat → (List Value → Prop) → Prop
  | 0, p => p []
  | n + 1, p => ∀ x, forallN n fun l => p (x :: l)

theorem forallN_spec : ∀ (n : Nat) (p : List Value → Prop), forallN n p → ∀ l : List Value, l.length = n → p l
  | 0, p, h, l, hl => by rw [List.eq_nil_of_length_eq_zero hl]; exact h
  | n + 1, p, h, l, hl => by
    cases l with
    | nil => simp at hl
    | cons x l => exact forallN_spec n (fun l => p (x :: l)) (h x) l (by simpa using hl)

/-- Slots picked out of a frame. -/
def pickS (S : List Nat) (A : List Value) : List Value := S.map fun i => A.getD i unk

/-- A frame of n slots of which only some are known. -/
def spreadS (n : Nat) : List Nat → List Value → List Value
  | s :: S, x :: xs => (spreadS n S xs).set s x
  | _, _ => List.replicate n unk

theorem spreadS_length (n : Nat) : ∀ (S : List Nat) (xs : List Value), (spreadS n S xs).length = n
  | [], _ => by simp [spreadS]
  | _ :: _, [] => by simp [spreadS]
  | s :: S, x :: xs => by simp [spreadS, spreadS_length n S xs]

theorem FRel.spread {J : Inj} {w : World} {A : List Value} {t : Array Value} (h : FRel J w A t) {n : Nat} (hn : n ≤ A.length) (S : List Nat) : FRel J w (spreadS n S (pickS S A)) t := by
  refine ⟨by rw [spreadS_length]; exact Nat.le_trans hn h.1, fun i => ?_⟩
  have key : ∀ (S : List Nat) (i : Nat), (spreadS n S (pickS S A)).getD i unk = unk ∨ (spreadS n S (pickS S A)).getD i unk = A.getD i unk := by
    intro S
    induction S with
    | nil =>
      intro i; left
      simp only [pickS, List.map_nil, spreadS]
      rw [List.getD_eq_getElem?_getD, List.getElem?_replicate]
      split <;> rfl
    | cons s S ih =>
      intro i
      simp only [pickS, List.map_cons, spreadS]
      rw [List.getD_eq_getElem?_getD, List.getElem?_set]
      by_cases e : s = i
      · subst e
        simp only [if_true]
        split
        · right; rfl
        · left; rfl
      · rw [if_neg e, ← List.getD_eq_getElem?_getD]; exact ih i
  rcases key S i with e | e
  · rw [e]; exact .inl rfl
  · rw [e]; exact h.2 i

/-- The frame is long enough. -/
def longB (n : Nat) (A : List Value) (X : Prop) : Prop :=
  match Nat.ble n A.length with
  | true => X
  | false => False

theorem longB_out {n : Nat} {A : List Value} {X : Prop} (h : longB n A X) : n ≤ A.length ∧ X := by
  unfold longB at h
  split at h
  · rename_i e; exact ⟨Nat.le_of_ble_eq_true e, h⟩
  · exact h.elim

theorem loop_sound {c : Code} {Q : AExit → List Value → AH → Prop} {A : List Value} {H : AH} (S : List Nat) (n : Nat) (I : Nat → List Value → AH → Prop) {m : Nat} (hlen : n ≤ A.length) (h0 : I m (pickS S A) H)
    (round : ∀ m xs H, xs.length = S.length → I m xs H → SimCode P c (spreadS n S xs) H fun e A' H' => match e with | .normal => n ≤ A'.length ∧ ∃ k, k < m ∧ I k (pickS S A') H' | e => Q e A' H') : SimCode P (.loop c) A H Q := by
  intro J F w a Sm hA hd
  refine wp_loop_rel (fun m a w' => ∃ J' F' xs H', xs.length = S.length ∧ I m xs H' ∧ Sim J' F' H' w' ∧ Evolves J F H w J' F' H' w' ∧ FRel J' w' (spreadS n S xs) a.tmps ∧ a.defers = []) (n := m)
    ⟨J, F, _, H, by simp [pickS], h0, Sm, .refl J F H w, hA.spread hlen S, hd⟩ fun m a1 w1 ⟨J1, F1, xs, H1, hxs, hI, S1, E1, hA1, hd1⟩ => ?_
  refine wp_mono (round m xs H1 hxs hI J1 F1 w1 a1 S1 hA1 hd1) fun e a' w' hc => ?_
  obtain ⟨J', F', x', A', H', h1, h2, S', E', hA', hd'⟩ := hc
  cases e with
  | normal =>
    cases x' <;> simp only [ExRel] at h2
    obtain ⟨hl, k, hk, hIk⟩ := h1
    exact ⟨k, hk, J', F', _, H', by simp [pickS], hIk, S', E1.trans E', hA'.spread hl S, hd'⟩
  | ret => cases x' <;> simp only [ExRel] at h2; exact ⟨J', F', .ret, A', H', h1, trivial, S', E1.trans E', hA', hd'⟩
  | exit i => cases x' <;> simp only [ExRel] at h2; exact ⟨J', F', .exit _, A', H', h1, h2, S', E1.trans E', hA', hd'⟩
  | panic ch => cases x' <;> simp only [ExRel] at h2; exact ⟨J', F', .pan _, A', H', h1, h2, S', E1.trans E', hA', hd'⟩
  | goto l => cases x' <;> simp only [ExRel] at h2
  | outgrown => cases x' <;> simp only [ExRel] at h2

end
end Go.Abs
