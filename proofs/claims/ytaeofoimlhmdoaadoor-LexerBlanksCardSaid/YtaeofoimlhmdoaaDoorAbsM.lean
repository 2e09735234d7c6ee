/-
  Regions that draw their order, over the abstract heap: operations that leave it as it is may come in any order; what has an effect comes behind them.
-/
import Derived.Test.YtaeofoimlhmdoaaDoorAbsL
import Derived.StillTail
set_option linter.unusedSimpArgs false
set_option linter.unusedVariables false
namespace Go.Abs
open Go.RowKit

section
variable {P : Program} {ops : Array Oper} {md : Region.Mode} {H : AH}

theorem aop_congr {A A' : List Value} {o : Oper} (h : ∀ x ∈ o.op.operands, aev A x = aev A' x) : aop P A H o = aop P A' H o := by
  obtain ⟨dst, op, type, pos, after, guard⟩ := o
  have hmap : ∀ (xs : Array Operand), (∀ x ∈ xs, aev A x = aev A' x) → xs.toList.map (aev A) = xs.toList.map (aev A') := fun xs hx =>
    List.map_congr_left fun x hm => hx x (by simpa using hm)
  have hamap : ∀ (xs : Array Operand), (∀ x ∈ xs, aev A x = aev A' x) → xs.map (aev A) = xs.map (aev A') := fun xs hx =>
    Array.map_congr_left hx
  have hpairs : ∀ (ps : Array (Nat × Operand)), (∀ x ∈ (ps.toList.map (·.2)).toArray, aev A x = aev A' x) → (ps.toList.map fun p => (p.1, aev A p.2)) = ps.toList.map fun p => (p.1, aev A' p.2) := fun ps hx =>
    List.map_congr_left fun p hm => by rw [hx p.2 (by simpa using List.mem_map_of_mem (f := (·.2)) hm)]
  have hopt : ∀ (x : Option Operand), (∀ y ∈ x.toArray, aev A y = aev A' y) → x.map (aev A) = x.map (aev A') := fun x hx => by
    cases x with
    | none => rfl
    | some x => simp [hx x (by simp)]
  cases op with
  | call c =>
    simp only [Op.operands, Call.operands] at h
    simp only [aop]
    have ha := hmap c.args fun x hx => h x (by simp [hx])
    have ha' := hamap c.args fun x hx => h x (by simp [hx])
    cases hc : c.callee with
    | value f =>
      have hf := h f (by simp [hc])
      simp only [hf, ha]
    | invoke r m => rfl
    | builtin b =>
      have hone : ∀ x, x ∈ c.args.toList → aev A x = aev A' x := fun x hx => h x (by simp at hx; simp [hx])
      cases b <;> first
        | rfl
        | (simp only [ha, ha']; done)
        | (simp only []
           generalize hl : c.args.toList = l at hone ⊢
           generalize c.argTypes.toList = ts
           rcases l with _ | ⟨x, _ | ⟨y, _ | ⟨z, l⟩⟩⟩ <;> rcases ts with _ | ⟨t, _ | ⟨t', _ | ⟨t'', ts⟩⟩⟩ <;> first
             | rfl
             | (have h1 := hone x (by simp); simp only [h1]; done)
             | (have h1 := hone x (by simp); have h2 := hone y (by simp); simp only [h1, h2]; done))
  | build t ps => simp only [Op.operands] at h; simp only [aop]; rw [hpairs ps h]
  | buildSlice t n ps => simp only [Op.operands] at h; simp only [aop]; rw [hpairs ps h]
  | makeFunc fn f c =>
    simp only [Op.operands] at h
    simp only [aop]
    rw [hmap f fun x hx => h x (by simp [hx]), hmap c fun x hx => h x (by simp [hx])]
  | makeMap t r => simp only [Op.operands] at h; simp only [aop]; rw [hopt r h]
  | slice t x lo hi mx =>
    simp only [Op.operands] at h
    simp only [aop]
    rw [h x (by simp), hopt lo fun y hy => h y (by simp only [Array.mem_append]; exact .inl (.inl (.inr hy))),
      hopt hi fun y hy => h y (by simp only [Array.mem_append]; exact .inl (.inr hy)), hopt mx fun y hy => h y (by simp only [Array.mem_append]; exact .inr hy)]
  | pick c x y => simp only [Op.operands] at h; simp only [aop, h c (by simp), h x (by simp), h y (by simp)]
  | store t x y => simp only [Op.operands] at h; simp only [aop, h x (by simp), h y (by simp)]
  | binOp op t x y ty => simp only [Op.operands] at h; simp only [aop, h x (by simp), h y (by simp)]
  | makeSlice t x y => simp only [Op.operands] at h; simp only [aop, h x (by simp), h y (by simp)]
  | indexAddr t x y => simp only [Op.operands] at h; simp only [aop, h x (by simp), h y (by simp)]
  | index t x y => simp only [Op.operands] at h; simp only [aop, h x (by simp), h y (by simp)]
  | lookup t x y ok => simp only [Op.operands] at h; simp only [aop, h x (by simp), h y (by simp)]
  | mapUpdate t x y z => simp only [Op.operands] at h; simp only [aop, h x (by simp), h y (by simp), h z (by simp)]
  | insert t x y z => simp only [Op.operands] at h; simp only [aop, h x (by simp), h y (by simp), h z (by simp)]
  | _ => first
    | rfl
    | (simp only [Op.operands] at h
       have h1 := h _ (by simp; rfl)
       simp only [aop, h1])

/-- Is the operation carried out? -/
def awanted (ops : Array Oper) (o : Oper) (A : List Value) : Option Bool :=
  match o.guard with
  | none => some true
  | some (j, want) => (ayield ops A j).map fun b => wants b want

/-- The operation leaves the heap as it is, and gives v. -/
def aquiet (P : Program) (H : AH) (o : Oper) (A : List Value) (v : Value) : Prop :=
  aop P A H o = some (.val v H) ∨ ∃ f args, aop P A H o = some (.call f args) ∧ Does P f args H fun x H' => x = .ret v ∧ H' = H

def AYields (P : Program) (ops : Array Oper) (H : AH) (o : Oper) (v : Value) (A : List Value) : Prop :=
  (awanted ops o A = some true ∧ aquiet P H o A v) ∨ (awanted ops o A = some false ∧ v = undef)

def qstep (P : Program) (ops : Array Oper) (H : AH) (i : Nat) (K : List Value → Prop) (A : List Value) : Prop :=
  match ops[i]? with
  | none => False
  | some o => ∃ v, AYields P ops H o v A ∧ K (aput A o.dst v)

theorem qstep_mono {i : Nat} {A : List Value} {K K' : List Value → Prop} (h : ∀ A, K A → K' A) (hh : qstep P ops H i K A) : qstep P ops H i K' A := by
  unfold qstep at *
  split at hh
  · exact hh.elim
  · obtain ⟨v, h1, h2⟩ := hh; exact ⟨v, h1, h _ h2⟩

theorem AYields.qstep {i : Nat} {o : Oper} {v : Value} {A : List Value} (hi : ops[i]? = some o) (hy : AYields P ops H o v A) {K : List Value → Prop} (h : K (aput A o.dst v)) : qstep P ops H i K A := by
  unfold Go.Abs.qstep
  simp only [hi]
  exact ⟨v, hy, h⟩

theorem aev_put {A : List Value} {dst : Option Tmp} {v : Value} {x : Operand} (h : ∀ d, dst = some d → x ≠ .tmp d) : aev (aput A dst v) x = aev A x := by
  cases dst with
  | none => rfl
  | some d =>
    cases x with
    | tmp t =>
      have hne : d ≠ t := fun e => h d rfl (e ▸ rfl)
      simp [aev, aput, List.getD_eq_getElem?_getD, List.getElem?_set_ne hne]
    | _ => rfl

theorem aput_comm (A : List Value) {x y : Option Tmp} (v u : Value) (h : ∀ d, x = some d → y ≠ some d) : aput (aput A x v) y u = aput (aput A y u) x v := by
  cases x with
  | none => rfl
  | some d =>
    cases y with
    | none => rfl
    | some e =>
      have hne : d ≠ e := fun he => h d rfl (he ▸ rfl)
      simp only [aput]
      exact List.set_comm _ _ hne

theorem mem_looksAt {o : Oper} {d : Tmp} (h : Operand.tmp d ∈ o.op.operands) : d ∈ o.looksAt ops := by
  unfold Oper.looksAt
  refine List.mem_append.2 (.inl ?_)
  rw [List.mem_filterMap]
  exact ⟨.tmp d, by simpa using h, rfl⟩

theorem aop_put (o : Oper) (A : List Value) (dst : Option Tmp) (v : Value) (h : ∀ d, dst = some d → d ∉ o.looksAt ops) : aop P (aput A dst v) H o = aop P A H o :=
  aop_congr fun x hx => aev_put fun d hd e => h d hd (mem_looksAt (e ▸ hx))

theorem awanted_put (o : Oper) (A : List Value) (dst : Option Tmp) (v : Value) (h : ∀ d, dst = some d → d ∉ o.looksAt ops) : awanted ops o (aput A dst v) = awanted ops o A := by
  unfold awanted
  cases hg : o.guard with
  | none => rfl
  | some p =>
    obtain ⟨j, want⟩ := p
    simp only []
    have : ayield ops (aput A dst v) j = ayield ops A j := by
      unfold ayield
      cases hj : (ops[j]?).bind (·.dst) with
      | none => rfl
      | some t =>
        simp only []
        have hne : ∀ d, dst = some d → d ≠ t := by
          intro d hd e
          refine h d hd ?_
          unfold Oper.looksAt
          refine List.mem_append.2 (.inr ?_)
          rw [hg]
          simp only []
          rw [hj]; simp [e]
        cases dst with
        | none => rfl
        | some d => simp only [aput]; rw [List.getElem?_set_ne (hne d rfl)]
    rw [this]

theorem AYields.of_same {o : Oper} {v : Value} {A A' : List Value} (hy : AYields P ops H o v A) (he : aop P A' H o = aop P A H o) (hw : awanted ops o A' = awanted ops o A) : AYields P ops H o v A' := by
  unfold AYields aquiet at *
  rw [he, hw]
  exact hy

/-- One operation 'oj', apart from 'oi'. -/
theorem qstep_put {j : Nat} {oi oj : Oper} {v : Value} (hj : ops[j]? = some oj) (hap : oi.apart ops oj = true) {K : List Value → Prop} {A : List Value}
    (hy : AYields P ops H oi v A) (h : qstep P ops H j K (aput A oi.dst v)) : qstep P ops H j (fun A' => AYields P ops H oi v A' ∧ K (aput A' oi.dst v)) A := by
  obtain ⟨h1, h2, h3⟩ := Oper.apart_spec hap
  have keep : ∀ u, AYields P ops H oi v (aput A oj.dst u) := fun u => hy.of_same (aop_put oi A oj.dst u h3) (awanted_put oi A oj.dst u h3)
  unfold qstep at *
  simp only [hj] at *
  obtain ⟨u, hu, hn⟩ := h
  refine ⟨u, hu.of_same (aop_put oj A oi.dst v h1).symm (awanted_put oj A oi.dst v h1).symm, keep u, ?_⟩
  rw [← aput_comm A v u h2]
  exact hn

/-- The head's operations in whichever order, then what L says. -/
def anyHead (P : Program) (md : Region.Mode) (ops : Array Oper) (H : AH) (n : Nat) (L : Array Bool → List Value → Prop) : Nat → Array Bool → List Value → Prop
  | 0, listed, A => L listed A
  | f + 1, listed, A =>
    Region.ready md ops listed ≠ [] ∧ ∀ i ∈ Region.ready md ops listed, i < n ∧ qstep P ops H i (anyHead P md ops H n L f (listed.setIfInBounds i true)) A

theorem anyHead_first {n i : Nat} {oi : Oper} {v : Value} {L : Array Bool → List Value → Prop} (hi : ops[i]? = some oi)
    (htw : ∀ listed : Array Bool, HeadInv md ops n listed → listed.getD i true = false → ∀ t, n ≤ t → t ∉ Region.ready md ops listed) (hin : i < n)
    (hdone : ∀ listed A, L listed A → ∀ j ∈ Region.ready md ops listed, n ≤ j) :
    ∀ (f : Nat) (listed : Array Bool) (A : List Value), HeadInv md ops n listed →
      (∀ j oj, ops[j]? = some oj → j ≠ i → listed.getD j true = false → (∀ e ∈ oj.after, Region.binds md e = true → e.on ≠ i) → oi.apart ops oj = true) →
      i ∈ Region.ready md ops listed → AYields P ops H oi v A →
      anyHead P md ops H n L f (listed.setIfInBounds i true) (aput A oi.dst v) → anyHead P md ops H n L (f + 1) listed A := by
  intro f
  induction f with
  | zero =>
    intro listed A inv _ hr hy K
    have hun := (mem_ready.1 hr).1
    refine ⟨fun h => (by rw [h] at hr; cases hr), fun j hj => ?_⟩
    have hjn : j < n := by
      rcases Nat.lt_or_ge j n with h | h
      · exact h
      · exact absurd hj (htw _ inv hun j h)
    refine ⟨hjn, ?_⟩
    by_cases hji : j = i
    · subst hji; exact hy.qstep hi K
    · have := hdone _ _ K j (ready_mono hj hji)
      omega
  | succ f ih =>
    intro listed A inv hfree hr hy K
    have hun := (mem_ready.1 hr).1
    refine ⟨fun h => (by rw [h] at hr; cases hr), fun j hj => ?_⟩
    have hjn : j < n := by
      rcases Nat.lt_or_ge j n with h | h
      · exact h
      · exact absurd hj (htw _ inv hun j h)
    refine ⟨hjn, ?_⟩
    by_cases hji : j = i
    · subst hji; exact hy.qstep hi K
    · have h1 := (K.2 j (ready_mono hj hji)).2
      obtain ⟨hjun, oj, hoj, hall⟩ := mem_ready.1 hj
      have hnot : ∀ e ∈ oj.after, Region.binds md e = true → e.on ≠ i := fun e he hb heq => by
        have h1 := hall e he hb
        rw [heq, getD_both hun] at h1
        cases h1
      have h2 := qstep_put hoj (hfree j oj hoj hji hjun hnot) hy h1
      have hfree' : ∀ k ok, ops[k]? = some ok → k ≠ i → (listed.setIfInBounds j true).getD k true = false →
          (∀ e ∈ ok.after, Region.binds md e = true → e.on ≠ i) → oi.apart ops ok = true := fun k ok hk hki hun hno => by
        refine hfree k ok hk hki ?_ hno
        by_cases hjk : j = k
        · subst hjk; exact hjun
        · rw [getD_set_ne true hjk] at hun; exact hun
      refine qstep_mono (fun A' h3 => ih (listed.setIfInBounds j true) A' (inv.set hj hjn) hfree' (ready_mono hr (Ne.symm hji)) h3.1 ?_) h2
      rw [Array.setIfInBounds_comm _ _ hji]
      exact h3.2

/-- What an operation comes to that leaves the heap as it is, and what is asked behind it. -/
def stepQ (P : Program) (H : AH) (st : Option AStep) (K : Value → Prop) : Prop :=
  match st with
  | some (.val v H') => H' = H ∧ K v
  | some (.call f args) => ∃ v, Does P f args H (fun x H' => x = .ret v ∧ H' = H) ∧ K v
  | _ => False

/-- One operation that leaves the heap as it is. -/
def vcQ1 (P : Program) (A : List Value) (H : AH) (o : Oper) (g : Bool) (K : List Value → Prop) : Prop :=
  match o.op with
  | .move x | .assign x => splitB g (aev A x) fun v => K (aput A o.dst v)
  | _ => stepQ P H (aop P A H o) fun v => splitB g v fun v => K (aput A o.dst v)

/-- The head in its lexical order. -/
def vcQuiet (P : Program) (ops : Array Oper) (H : AH) (L : List Value → Prop) : List Oper → List Value → Prop
  | [], A => L A
  | o :: rest, A =>
    match o.guard with
    | none => vcQ1 P A H o (isGuard ops o rest) (vcQuiet P ops H L rest)
    | some (j, want) =>
      match ayield ops A j with
      | some b =>
        if wants b want = true then vcQ1 P A H o (isGuard ops o rest) (vcQuiet P ops H L rest)
        else vcQuiet P ops H L rest (aput A o.dst undef)
      | none => False

theorem vcQuiet_step {L : List Value → Prop} {o : Oper} {rest : List Oper} {A : List Value} (h : vcQuiet P ops H L (o :: rest) A) : ∃ v, AYields P ops H o v A ∧ vcQuiet P ops H L rest (aput A o.dst v) := by
  have one : vcQ1 P A H o (isGuard ops o rest) (vcQuiet P ops H L rest) → ∃ v, aquiet P H o A v ∧ vcQuiet P ops H L rest (aput A o.dst v) := by
    intro h
    unfold vcQ1 at h
    split at h
    · rename_i x ho
      exact ⟨_, .inl (by simp [aop, ho]), splitB_out h⟩
    · rename_i x ho
      exact ⟨_, .inl (by simp [aop, ho]), splitB_out h⟩
    unfold stepQ at h
    split at h
    · rename_i v H' ho
      obtain ⟨rfl, h⟩ := h
      exact ⟨v, .inl ho, splitB_out h⟩
    · rename_i f args ho
      obtain ⟨v, hs, h⟩ := h
      exact ⟨v, .inr ⟨f, args, ho, hs⟩, splitB_out h⟩
    · exact h.elim
  unfold vcQuiet at h
  cases hg : o.guard with
  | none =>
    simp only [hg] at h
    obtain ⟨v, h1, h2⟩ := one h
    exact ⟨v, .inl ⟨by simp [awanted, hg], h1⟩, h2⟩
  | some p =>
    obtain ⟨j, want⟩ := p
    simp only [hg] at h
    split at h
    · rename_i b hb
      split at h
      · rename_i hbw
        obtain ⟨v, h1, h2⟩ := one h
        exact ⟨v, .inl ⟨by simp [awanted, hg, hb, hbw], h1⟩, h2⟩
      · rename_i hbw
        exact ⟨undef, .inr ⟨by simp [awanted, hg, hb, hbw], rfl⟩, h⟩
    · exact h.elim

theorem anyHead_lex {n g : Nat} {Lq : List Value → Prop}
    (htw : ∀ i, i < n → ∀ listed : Array Bool, HeadInv md ops n listed → listed.getD i true = false → ∀ t, n ≤ t → t ∉ Region.ready md ops listed) :
    ∀ (l : List Oper) (k : Nat) (listed : Array Bool) (A : List Value), (∀ j, j < l.length → l[j]? = ops[k + j]?) → k + l.length = n → HeadInv md ops n listed →
    Region.lexHead md ops g l.length k listed = true → vcQuiet P ops H Lq l A →
    anyHead P md ops H n (fun listed' A' => Region.seqB md ops g n listed' = true ∧ Lq A') l.length listed A
  | [], k, listed, A, _, hk, _, hB, h => by
    have : k = n := by simpa using hk
    subst this
    exact ⟨by simpa [Region.lexHead] using hB, h⟩
  | o :: l, k, listed, A, hl, hk, inv, hB, h => by
    have h0 : ops[k]? = some o := by simpa using (hl 0 (by simp)).symm
    simp only [List.length_cons, Region.lexHead, Bool.and_eq_true] at hB
    obtain ⟨⟨hr, hf⟩, hB'⟩ := hB
    have hkn : k < n := by simp only [List.length_cons] at hk; omega
    have hr' : k ∈ Region.ready md ops listed := by simpa using hr
    obtain ⟨v, hy, hK⟩ := vcQuiet_step h
    exact anyHead_first h0 (htw k hkn) hkn (fun listed' A' hL => seqB_ready hL.1) l.length listed A inv (Region.free_spec h0 hf) hr' hy
      (anyHead_lex htw l (k + 1) _ _ (fun j hj => by have := hl (j + 1) (by simp; omega); simpa [Nat.add_assoc, Nat.add_comm 1 j] using this) (by simp only [List.length_cons] at hk; omega) (inv.set hr' hkn) hB' hK)

theorem awanted_rel {o : Oper} {A : List Value} {b : Bool} (h : awanted ops o A = some b) {J : Inj} {w : World} {a : Act} (hA : FRel J w A a.tmps) : Region.wanted o (yielded ops a.tmps) = b := by
  unfold awanted at h
  unfold Region.wanted
  split at h
  · rename_i hg; cases h; simp [hg]
  · rename_i j want hg
    rw [Option.map_eq_some_iff] at h
    obtain ⟨b', hb', rfl⟩ := h
    rw [hg]
    simp only [ayield_rel hb' hA]
    exact wants_iff.symm

theorem quiet_sound {o : Oper} {A : List Value} {v : Value} (h : aquiet P H o A v) {J : Inj} {F : Nat → Nat → Prop} {w : World} {a : Act} (S : Sim J F H w) (hA : FRel J w A a.tmps) (hd : a.defers = [])
    {K' : Act → World → Prop} {Q' : Exit → Act → World → Prop}
    (hK : ∀ J1 F1 w1 a1, Sim J1 F1 H w1 → Evolves J F H w J1 F1 H w1 → FRel J1 w1 (aput A o.dst v) a1.tmps → a1.defers = [] → K' a1 w1) : o.wp P a w K' Q' := by
  have hs : vcStep P A H o false (fun A1 H1 => H1 = H ∧ A1 = aput A o.dst v) (fun _ _ _ => False) := by
    unfold vcStep stepV
    rcases h with h | ⟨f, args, h, hsp⟩
    · rw [h]; exact ⟨rfl, rfl⟩
    · rw [h]
      exact hsp.mono fun x H' hx => by obtain ⟨rfl, rfl⟩ := hx; exact ⟨rfl, rfl⟩
  refine step_sound hs S hA hd (fun J1 F1 A1 H1 w1 a1 hk S1 E1 hA1 hd1 => ?_) (fun J1 F1 A1 H1 w1 a1 v v' hq _ _ _ _ _ => hq.elim)
  obtain ⟨rfl, rfl⟩ := hk
  exact hK J1 F1 w1 a1 S1 E1 hA1 hd1

theorem any_sound {n g : Nat} {L : Array Bool → List Value → Prop} {Q' : Exit → Act → World → Prop} {J0 : Inj} {F0 : Nat → Nat → Prop} {H0 : AH} {w0 : World}
    (hL : ∀ listed A a w J F, L listed A → Sim J F H w → Evolves J0 F0 H0 w0 J F H w → FRel J w A a.tmps → a.defers = [] → wpAny P md ops Q' g listed a w) :
    ∀ (f : Nat) (listed : Array Bool) (A : List Value) (a : Act) (w : World) J F, anyHead P md ops H n L f listed A → Sim J F H w → Evolves J0 F0 H0 w0 J F H w → FRel J w A a.tmps → a.defers = [] →
      wpAny P md ops Q' (f + g) listed a w
  | 0, listed, A, a, w, J, F, h, S, E, hA, hd => by rw [Nat.zero_add]; exact hL listed A a w J F h S E hA hd
  | f + 1, listed, A, a, w, J, F, h, S, E, hA, hd => by
    rw [show f + 1 + g = (f + g) + 1 by omega]
    refine ⟨fun h0 => absurd h0 h.1, fun i hi => ?_⟩
    have hq := (h.2 i hi).2
    unfold qstep at hq
    unfold wpOp
    split at hq
    · exact hq.elim
    · rename_i o ho
      simp only [ho]
      obtain ⟨v, hy, hK⟩ := hq
      rcases hy with ⟨hw, hv⟩ | ⟨hw, rfl⟩
      · rw [if_pos (awanted_rel hw hA)]
        exact .inl (quiet_sound hv S hA hd fun J1 F1 w1 a1 S1 E1 hA1 hd1 => any_sound hL f _ _ a1 w1 J1 F1 hK S1 (E.trans E1) hA1 hd1)
      · rw [if_neg (by rw [awanted_rel hw hA]; simp)]
        exact any_sound hL f _ _ _ w J F hK S E (hA.put o.dst undef_rel) (by cases hdst : o.dst <;> simp [Act.put, hd])

/-- A region that draws: its first n operations leave the heap as it is, the others come in their order behind them. -/
theorem region_tail_sound {id n : Nat} {l : List Oper} {Q : AExit → List Value → AH → Prop} {A : List Value} (hm : P.follows .mixedOrders = true) (hB : Region.lexTailB .any l.toArray n = true)
    (h : vcQuiet P l.toArray H (fun A' => vcOps P l.toArray Q (l.drop n) A' H) (l.take n) A) : SimCode P (.region id l.toArray true) A H Q := by
  intro J F w a S hA hd
  simp only [Region.lexTailB, Bool.and_eq_true, decide_eq_true_eq] at hB
  obtain ⟨⟨⟨⟨hsel, hn⟩, hs⟩, hc⟩, hlex⟩ := hB
  have hn' : n < l.length := by simpa using hn
  have htl : (l.take n).length = n := by simp; omega
  have hdl : (l.drop n).length = l.toArray.size - n := by simp
  have inv0 : HeadInv .any l.toArray n (Array.replicate l.toArray.size false) :=
    ⟨by simp, fun j oj _ hl => (by rw [getD_replicate_false] at hl; cases hl), fun t _ ht => getD_in (by simpa using ht) (getD_replicate_false _ _)⟩
  have K := anyHead_lex (md := .any) (g := l.toArray.size - n) (fun i hi listed inv hun => tail_waits hs hc hn inv _ i rfl hi hun) (l.take n) 0 _ A (fun j hj => by
    have hj' : j < n := by rw [htl] at hj; exact hj
    simp [hj']) (by simpa using htl) inv0 (by rw [htl]; exact hlex) h
  refine wp_region_any hm ?_
  obtain ⟨Sd, Ed⟩ := S.still (w' := { w with drawn := w.drawn + 1 }) rfl rfl rfl rfl
  have hAd : FRel J { w with drawn := w.drawn + 1 } A a.tmps := hA.mono (Inj.le_refl J) Ed.rows
  have := any_sound (Q' := Conc J F H w Q) (g := l.toArray.size - n) (J0 := J) (F0 := F) (H0 := H) (w0 := w) (fun listed A' a' w' J' F' hL S' E' hA' hd' => by
    have := wpAny_of_seq (md := .any) (Q' := Conc J F H w Q) (l.drop n) n listed a' w' (fun j => by simp [List.getElem?_drop]) (by rw [hdl]; exact hL.1) (ops_sound (l.drop n) A' H hL.2 J' F' w' a' J F H w S' hA' hd' E')
    rwa [hdl] at this) _ _ A a _ J F K Sd Ed hAd hd
  rw [htl, show n + (l.toArray.size - n) = l.toArray.size by omega] at this
  exact this

theorem lexHead_of_from {md : Region.Mode} {ops : Array Oper} : ∀ (f k : Nat) (listed : Array Bool), Region.lexFrom md ops f k listed = true → Region.lexHead md ops 0 f k listed = true
  | 0, k, listed, h => h
  | f + 1, k, listed, h => by
    simp only [Region.lexFrom, Region.lexHead, Bool.and_eq_true] at h ⊢
    exact ⟨h.1, lexHead_of_from f (k + 1) _ h.2⟩

/-- A region that draws, all of whose operations leave the heap as it is. -/
theorem region_quiet_sound {id : Nat} {l : List Oper} {Q : AExit → List Value → AH → Prop} {A : List Value} (hm : P.follows .mixedOrders = true) (hB : Region.lexB .any l.toArray = true)
    (h : vcQuiet P l.toArray H (fun A' => Q .normal A' H) l A) : SimCode P (.region id l.toArray true) A H Q := by
  intro J F w a S hA hd
  simp only [Region.lexB, Bool.and_eq_true] at hB
  have hlex := lexHead_of_from _ _ _ hB.2
  have inv0 : HeadInv .any l.toArray l.length (Array.replicate l.toArray.size false) :=
    ⟨by simp, fun j oj _ hl => (by rw [getD_replicate_false] at hl; cases hl), fun t _ ht => getD_in (by simpa using ht) (getD_replicate_false _ _)⟩
  have K := anyHead_lex (md := .any) (n := l.length) (g := 0) (Lq := fun A' => Q .normal A' H) (fun i hi listed inv hun t ht hr => by
      obtain ⟨_, ot, hot, _⟩ := mem_ready.1 hr
      have := (Array.getElem?_eq_some_iff.1 hot).1
      simp at this; omega) l 0 _ A (fun j hj => by simp) (by simp) inv0 (by simpa using hlex) h
  refine wp_region_any hm ?_
  obtain ⟨Sd, Ed⟩ := S.still (w' := { w with drawn := w.drawn + 1 }) rfl rfl rfl rfl
  have hAd : FRel J { w with drawn := w.drawn + 1 } A a.tmps := hA.mono (Inj.le_refl J) Ed.rows
  have := any_sound (Q' := Conc J F H w Q) (g := 0) (J0 := J) (F0 := F) (H0 := H) (w0 := w) (fun listed A' a' w' J' F' hL S' E' hA' hd' => by
    refine ⟨by simpa [Region.seqB] using hL.1, ?_⟩
    exact ⟨J', F', .normal, A', H, hL.2, trivial, S', E', hA', hd'⟩) _ _ A a _ J F K Sd Ed hAd hd
  simpa using this

#print axioms region_tail_sound
#print axioms region_quiet_sound
end
end Go.Abs
