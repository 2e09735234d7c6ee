/-
  What code comes to, over operations that nothing unfolds: the interpretation is a variable of the text.
-/
import Derived.Test.YtaeofoimlhmdoaaDoorAbsN
set_option linter.unusedSimpArgs false
set_option linter.unusedVariables false
namespace Go.Abs
open Go.RowKit

/-- An operation, with values in its operands' places. -/
inductive SOp where
  | pick (c x y : Value)
  | alloc (t : TypeId)
  | box (x : Value)
  | build (t : TypeId) (ps : List (Nat × Value))
  | buildSlice (t : TypeId) (n : Nat) (ps : List (Nat × Value))
  | load (t : TypeId) (x : Value)
  | store (t : TypeId) (x y : Value)
  | nilCheck (x : Value)
  | bin (op : BinOp) (t : TypeId) (c : Bool) (x y : Value)
  | un (op : UnOp) (x : Value)
  | convert (s d : TypeId) (x : Value)
  | mkIface (t : TypeId) (x : Value)
  | mkFunc (fn : Fn) (f c : List Value)
  | makeMap (t : TypeId) (r : Option Value)
  | makeSlice (t : TypeId) (l c : Value)
  | slice (t : TypeId) (x : Value) (lo hi mx : Option Value)
  | fieldAddr (s : TypeId) (f : Nat) (x : Value)
  | field (t : TypeId) (f : Nat) (x : Value)
  | indexAddr (t : TypeId) (x i : Value)
  | index (t : TypeId) (x i : Value)
  | lookup (t : TypeId) (m k : Value) (ok : Bool)
  | update (t : TypeId) (m k v : Value)
  | range (t : TypeId) (x : Value)
  | next (x : Value) (str : Bool)
  | assert (x : Value) (t : TypeId) (ok : Bool)
  | extract (x : Value) (i : Nat)
  | panic (x : Value)
  | call (f : Value) (args : List Value)
  | append (t : TypeId) (s x : Value)
  | len (t : TypeId) (x : Value)
  | delete (t : TypeId) (m k : Value)
  | clear (t : TypeId) (x : Value)
  | min (xs : List Value)
  | max (xs : List Value)
  | none

def mkS (A : List Value) (o : Op) : SOp :=
  match o with
  | .pick c x y => .pick (aev A c) (aev A x) (aev A y)
  | .alloc t => .alloc t
  | .box _ x => .box (aev A x)
  | .build t ps => .build t (ps.toList.map fun p => (p.1, aev A p.2))
  | .buildSlice t n ps => .buildSlice t n (ps.toList.map fun p => (p.1, aev A p.2))
  | .load t x => .load t (aev A x)
  | .store t x y => .store t (aev A x) (aev A y)
  | .nilCheck x => .nilCheck (aev A x)
  | .binOp op t x y _ => .bin op t (isC x || isC y) (aev A x) (aev A y)
  | .unOp op _ x => .un op (aev A x)
  | .convert s d x => .convert s d (aev A x)
  | .makeInterface t x => .mkIface t (aev A x)
  | .makeFunc fn f c => .mkFunc fn (f.toList.map (aev A)) (c.toList.map (aev A))
  | .makeMap t r => .makeMap t (r.map (aev A))
  | .makeSlice t l c => .makeSlice t (aev A l) (aev A c)
  | .slice t x lo hi mx => .slice t (aev A x) (lo.map (aev A)) (hi.map (aev A)) (mx.map (aev A))
  | .fieldAddr s x f => .fieldAddr s f (aev A x)
  | .field t x f => .field t f (aev A x)
  | .indexAddr t x i => .indexAddr t (aev A x) (aev A i)
  | .index t x i => .index t (aev A x) (aev A i)
  | .lookup t m k ok => .lookup t (aev A m) (aev A k) ok
  | .mapUpdate t m k v | .insert t m k v => .update t (aev A m) (aev A k) (aev A v)
  | .range t x => .range t (aev A x)
  | .next x str => .next (aev A x) str
  | .typeAssert x _ t ok => .assert (aev A x) t ok
  | .extract x i => .extract (aev A x) i
  | .panic x => .panic (aev A x)
  | .call c => match c.callee with
    | .value f => .call (aev A f) (c.args.toList.map (aev A))
    | .builtin .append => match c.args.toList, c.argTypes.toList with
      | [s, x], [t, t'] => if t = t' then .append t (aev A s) (aev A x) else .none
      | _, _ => .none
    | .builtin .len => match c.args.toList, c.argTypes.toList with
      | [x], [t] => .len t (aev A x)
      | _, _ => .none
    | .builtin .delete => match c.args.toList, c.argTypes.toList with
      | [m, k], t :: _ => .delete t (aev A m) (aev A k)
      | _, _ => .none
    | .builtin .clear => match c.args.toList, c.argTypes.toList with
      | [x], [t] => .clear t (aev A x)
      | _, _ => .none
    | .builtin .min => .min (c.args.toList.map (aev A))
    | .builtin .max => .max (c.args.toList.map (aev A))
    | _ => .none
  | _ => .none

def runS (P : Program) (H : AH) (o : SOp) : Option AStep :=
  match o with
  | .pick c x y => aPick H c x y
  | .alloc t => aAlloc P H t
  | .box x => aBox H x
  | .build t ps => aBuild P H t ps
  | .buildSlice t n ps => aBuildSlice P H t n ps
  | .load t x => aLoad P H t x
  | .store t x y => aStore P H t x y
  | .nilCheck x => aNil H x
  | .bin op t c x y => aBin P H op t c x y
  | .un op x => aPureIf P H (closed x) (Op.unary op x)
  | .convert s d x => aConvert P H s d x
  | .mkIface t x => aMkIface P H t x
  | .mkFunc fn f c => aMkFunc H fn f c
  | .makeMap t r => aMakeMap P H t r
  | .makeSlice t l c => aMakeSlice P H t l c
  | .slice t x lo hi mx => aSlice P H t x lo hi mx
  | .fieldAddr s f x => aFieldAddr P H s f x
  | .field t f x => aField P H t f x
  | .indexAddr t x i => aIndexAddr P H t x i
  | .index t x i => aIndex P H t x i
  | .lookup t m k ok => aLookup P H t m k ok
  | .update t m k v => aUpdate P H t m k v
  | .range t x => aRange P H t x
  | .next x str => aNext H x str
  | .assert x t ok => aAssert P H x t ok
  | .extract x i => aExtract H x i
  | .panic x => aPanic x
  | .call f args => aCall f args
  | .append t s x => aAppend P H t s x
  | .len t x => aLen P H t x
  | .delete t m k => aDelete P H t m k
  | .clear t x => aClear P H t x
  | .min xs => aPureIf P H (xs.all closed) (Builtin.min_ #[] 0 xs.toArray)
  | .max xs => aPureIf P H (xs.all closed) (Builtin.max_ #[] 0 xs.toArray)
  | .none => Option.none

/-- Is it an operation that gives what it is given? -/
def isMove : Op → Bool
  | .move _ | .assign _ => true
  | _ => false

theorem runS_mkS (P : Program) (A : List Value) (H : AH) (o : Oper) (hm : isMove o.op = false) : runS P H (mkS A o.op) = aop P A H o := by
  obtain ⟨dst, op, type, pos, after, guard⟩ := o
  cases op with
  | move x => cases hm
  | assign x => cases hm
  | call c =>
    simp only [mkS, aop]
    cases hc : c.callee with
    | value f => rfl
    | invoke r m => rfl
    | builtin b =>
      cases b <;> first
        | rfl
        | (simp only []
           generalize c.args.toList = l
           generalize c.argTypes.toList = ts
           rcases l with _ | ⟨a, _ | ⟨b, _ | ⟨_, _⟩⟩⟩ <;> rcases ts with _ | ⟨t, _ | ⟨t', _ | ⟨_, _⟩⟩⟩ <;> first | rfl | (simp only []; split <;> rfl))
  | _ => rfl

/-- What is given back. -/
inductive RV where
  | val (v : Value)
  | cell (x : Value) (t : TypeId)

/-- The interpretation. -/
structure Ip where
  st : AH → SOp → (Value → AH → Prop) → (Value → AH → Prop) → Prop
  q : AH → SOp → (Value → Prop) → Prop
  ret : List RV → (AOut → AH → Prop) → AH → Prop

def rvOf (A : List Value) : ResultVar → RV
  | .tmp t => .val (A.getD t unk)
  | .cell a t => .cell (A.getD a unk) t

def rvRun (P : Program) (H : AH) : RV → Option Value
  | .val v => some v
  | .cell x t => match x with
    | .pointer (some ⟨b, i, none⟩) => match H b with
      | some (.cells _ cs) => aPart P t cs i
      | _ => none
    | _ => none

def rvsRun (P : Program) (H : AH) : List RV → Option Value
  | [] => some unk
  | [r] => rvRun P H r
  | rs => match rs.mapM (rvRun P H) with
    | some vs => if vs.all known then some (.tuple vs.toArray) else none
    | none => none

/-- What the program's own steps are. -/
def real (P : Program) : Ip where
  st H s K Q := stepV P H (runS P H s) K Q
  q H s K := stepQ P H (runS P H s) K
  ret rs R H := match rvsRun P H rs with
    | some v => R (.ret v) H
    | none => False

def wcStep (α : Ip) (A : List Value) (H : AH) (o : Oper) (g : Bool) (K : List Value → AH → Prop) (Q : AExit → List Value → AH → Prop) : Prop :=
  match o.op with
  | .move x | .assign x => splitB g (aev A x) fun v => K (aput A o.dst v) H
  | .pick c x y => selV (aev A c) (splitB g (aev A x) fun v => K (aput A o.dst v) H) (splitB g (aev A y) fun v => K (aput A o.dst v) H)
  | _ => α.st H (mkS A o.op) (fun v H' => splitB g v fun v => K (aput A o.dst v) H') fun v H' => Q (.pan v) A H'

def wcOps (α : Ip) (ops : Array Oper) (Q : AExit → List Value → AH → Prop) : List Oper → List Value → AH → Prop
  | [], A, H => Q .normal A H
  | o :: rest, A, H =>
    match o.guard with
    | none => wcStep α A H o (isGuard ops o rest) (wcOps α ops Q rest) Q
    | some (j, want) =>
      match ayield ops A j with
      | some b => if wants b want = true then wcStep α A H o (isGuard ops o rest) (wcOps α ops Q rest) Q else wcOps α ops Q rest (aput A o.dst undef) H
      | none => False

def wcQ1 (α : Ip) (A : List Value) (H : AH) (o : Oper) (g : Bool) (K : List Value → Prop) : Prop :=
  match o.op with
  | .move x | .assign x => splitB g (aev A x) fun v => K (aput A o.dst v)
  | .pick c x y => selV (aev A c) (splitB g (aev A x) fun v => K (aput A o.dst v)) (splitB g (aev A y) fun v => K (aput A o.dst v))
  | _ => α.q H (mkS A o.op) fun v => splitB g v fun v => K (aput A o.dst v)

def wcQuiet (α : Ip) (ops : Array Oper) (H : AH) (L : List Value → Prop) : List Oper → List Value → Prop
  | [], A => L A
  | o :: rest, A =>
    match o.guard with
    | none => wcQ1 α A H o (isGuard ops o rest) (wcQuiet α ops H L rest)
    | some (j, want) =>
      match ayield ops A j with
      | some b =>
        if wants b want = true then wcQ1 α A H o (isGuard ops o rest) (wcQuiet α ops H L rest)
        else wcQuiet α ops H L rest (aput A o.dst undef)
      | none => False

def wc (α : Ip) (T : Nat → Option Nat) (S : Nat → List Nat) (n : Nat) : Code → (AExit → List Value → AH → Prop) → List Value → AH → Prop
  | .skip, Q, A, H => Q .normal A H
  | .region _ ops false, Q, A, H => wcOps α ops Q ops.toList A H
  | .region id ops true, Q, A, H => match T id with
    | none => wcQuiet α ops H (fun A' => Q .normal A' H) ops.toList A
    | some n => wcQuiet α ops H (fun A' => wcOps α ops Q (ops.toList.drop n) A' H) (ops.toList.take n) A
  | .seq x y, Q, A, H => wc α T S n x (fun e A' H' => match e with | .normal => wc α T S n y Q A' H' | e => Q e A' H') A H
  | .cond c x y, Q, A, H => selV (aev A c) (wc α T S n x Q A H) (wc α T S n y Q A H)
  | .block id c, Q, A, H => wc α T S n c (fun e A' H' => match e with | .exit i => if i = id then Q .normal A' H' else Q (.exit i) A' H' | e => Q e A' H') A H
  | .loop c, Q, A, H => longB n A (∃ I : Nat → List Value → AH → Prop, (∃ m, I m (pickS (S (firstRegion c)) A) H) ∧
      ∀ m, forallN (S (firstRegion c)).length fun xs => ∀ H, I m xs H →
        wc α T S n c (fun e A' H' => match e with | .normal => longB n A' (∃ k, k < m ∧ I k (pickS (S (firstRegion c)) A') H') | e => Q e A' H') (spreadS n (S (firstRegion c)) xs) H)
  | .exit id, Q, A, H => Q (.exit id) A H
  | .scope c, Q, A, H => wc α T S n c Q A H
  | .label _, Q, A, H => Q .normal A H
  | .ret, Q, A, H => Q .ret A H
  | _, _, _, _ => False

section
variable {P : Program}

theorem splitB_mono {g : Bool} {v : Value} {K K' : Value → Prop} (h : ∀ v, K v → K' v) (hk : splitB g v K) : splitB g v K' := by
  cases g with
  | false => exact h _ hk
  | true =>
    simp only [splitB, selV] at hk ⊢
    split at hk
    · rename_i b; cases b <;> exact h _ hk
    · exact hk.elim

theorem stepV_mono {H : AH} {st : Option AStep} {K K' Q Q' : Value → AH → Prop} (hK : ∀ v H, K v H → K' v H) (hQ : ∀ v H, Q v H → Q' v H) (h : stepV P H st K Q) : stepV P H st K' Q' := by
  unfold stepV at h ⊢
  split at h
  · exact hK _ _ h
  · intro b hb; exact hK _ _ (h b hb)
  · refine h.mono fun x H' hx => ?_
    cases x with
    | ret v => exact hK _ _ hx
    | pan v => exact hQ _ _ hx
  · exact hQ _ _ h
  · exact h

theorem stepQ_mono {H : AH} {st : Option AStep} {K K' : Value → Prop} (hK : ∀ v, K v → K' v) (h : stepQ P H st K) : stepQ P H st K' := by
  unfold stepQ at h ⊢
  split at h
  · exact ⟨h.1, hK _ h.2⟩
  · obtain ⟨v, h1, h2⟩ := h; exact ⟨v, h1, hK _ h2⟩
  · exact h

theorem selV_out {v : Value} {X Y : Prop} (h : selV v X Y) : ∃ b, v = .bool b ∧ (if b then X else Y) := by
  unfold selV at h
  split at h
  · rename_i b; cases b <;> exact ⟨_, rfl, by simpa [selB] using h⟩
  · exact h.elim

theorem wcStep_vc {A : List Value} {H : AH} {o : Oper} {g : Bool} {K K' : List Value → AH → Prop} {Q Q' : AExit → List Value → AH → Prop} (hK : ∀ A H, K A H → K' A H) (hQ : ∀ e A H, Q e A H → Q' e A H)
    (h : wcStep (real P) A H o g K Q) : vcStep P A H o g K' Q' := by
  have gen : isMove o.op = false → stepV P H (runS P H (mkS A o.op)) (fun v H' => splitB g v fun v => K (aput A o.dst v) H') (fun v H' => Q (.pan v) A H') → vcStep P A H o g K' Q' := by
    intro hm h
    rw [runS_mkS P A H o hm] at h
    exact stepV_mono (fun v H' hh => splitB_mono (fun v => hK _ _) hh) (fun v H' => hQ _ _ _) h
  unfold wcStep at h
  split at h
  · rename_i x ho
    have := splitB_mono (K' := fun v => K' (aput A o.dst v) H) (fun v => hK _ _) h
    unfold vcStep aop
    rw [ho]; exact this
  · rename_i x ho
    have := splitB_mono (K' := fun v => K' (aput A o.dst v) H) (fun v => hK _ _) h
    unfold vcStep aop
    rw [ho]; exact this
  · rename_i c x y ho
    obtain ⟨b, hc, h⟩ := selV_out h
    have h : splitB g (if b then aev A x else aev A y) fun v => K (aput A o.dst v) H := by cases b <;> exact h
    have := splitB_mono (K' := fun v => K' (aput A o.dst v) H) (fun v => hK _ _) h
    unfold vcStep aop
    rw [ho]; simp only [aPick, hc]; exact this
  · rename_i h1 h2 h3
    refine gen ?_ h
    cases hop : o.op <;> first | rfl | exact absurd hop (h1 _) | exact absurd hop (h2 _)

theorem wcOps_vc {ops : Array Oper} {Q Q' : AExit → List Value → AH → Prop} (hQ : ∀ e A H, Q e A H → Q' e A H) : ∀ (l : List Oper) (A : List Value) (H : AH), wcOps (real P) ops Q l A H → vcOps P ops Q' l A H := by
  intro l
  induction l with
  | nil => intro A H h; exact hQ _ _ _ h
  | cons o rest ih =>
    intro A H h
    unfold wcOps at h
    unfold vcOps
    cases hg : o.guard with
    | none => simp only [hg] at h ⊢; exact wcStep_vc ih hQ h
    | some p =>
      obtain ⟨j, want⟩ := p
      simp only [hg] at h ⊢
      split at h
      · rename_i b hb
        simp only [hb]
        split at h
        · rename_i hbw; rw [if_pos hbw]; exact wcStep_vc ih hQ h
        · rename_i hbw; rw [if_neg hbw]; exact ih _ _ h
      · exact h.elim

theorem wcQ1_vc {A : List Value} {H : AH} {o : Oper} {g : Bool} {K K' : List Value → Prop} (hK : ∀ A, K A → K' A) (h : wcQ1 (real P) A H o g K) : vcQ1 P A H o g K' := by
  have gen : isMove o.op = false → stepQ P H (runS P H (mkS A o.op)) (fun v => splitB g v fun v => K (aput A o.dst v)) → vcQ1 P A H o g K' := by
    intro hm h
    rw [runS_mkS P A H o hm] at h
    have := stepQ_mono (K' := fun v => splitB g v fun v => K' (aput A o.dst v)) (fun v hh => splitB_mono (fun v => hK _) hh) h
    unfold vcQ1
    split
    · rename_i x ho; rw [ho] at hm; cases hm
    · rename_i x ho; rw [ho] at hm; cases hm
    · exact this
  unfold wcQ1 at h
  split at h
  · rename_i x ho
    unfold vcQ1
    rw [ho]; exact splitB_mono (fun v => hK _) h
  · rename_i x ho
    unfold vcQ1
    rw [ho]; exact splitB_mono (fun v => hK _) h
  · rename_i c x y ho
    obtain ⟨b, hc, h⟩ := selV_out h
    refine gen (by rw [ho]; rfl) ?_
    rw [ho]
    simp only [mkS, runS, hc, aPick]
    refine ⟨rfl, ?_⟩
    cases b <;> exact h
  · rename_i h1 h2 h3
    refine gen ?_ h
    cases hop : o.op <;> first | rfl | exact absurd hop (h1 _) | exact absurd hop (h2 _)

theorem wcQuiet_vc {ops : Array Oper} {H : AH} {L L' : List Value → Prop} (hL : ∀ A, L A → L' A) : ∀ (l : List Oper) (A : List Value), wcQuiet (real P) ops H L l A → vcQuiet P ops H L' l A := by
  intro l
  induction l with
  | nil => intro A h; exact hL _ h
  | cons o rest ih =>
    intro A h
    unfold wcQuiet at h
    unfold vcQuiet
    cases hg : o.guard with
    | none => simp only [hg] at h ⊢; exact wcQ1_vc ih h
    | some p =>
      obtain ⟨j, want⟩ := p
      simp only [hg] at h ⊢
      split at h
      · rename_i b hb
        simp only [hb]
        split at h
        · rename_i hbw; rw [if_pos hbw]; exact wcQ1_vc ih h
        · rename_i hbw; rw [if_neg hbw]; exact ih _ h
      · exact h.elim

theorem longB_mono {X Y : Prop} (h : X → Y) : ∀ {n : Nat} {A : List Value}, longB n A X → longB n A Y := by
  intro n
  induction n with
  | zero => intro A hx; cases A <;> first | exact h hx | exact hx
  | succ n ih => intro A hx; cases A with
    | nil => exact hx
    | cons a A => exact ih hx

theorem forallN_mono {K K' : List Value → Prop} (h : ∀ xs, K xs → K' xs) : ∀ {n : Nat}, forallN n K → forallN n K' := by
  intro n
  induction n generalizing K K' with
  | zero => intro hk; exact h _ hk
  | succ n ih => intro hk x; exact ih (fun xs => h (x :: xs)) (hk x)

theorem wc_vc {T : Nat → Option Nat} {S : Nat → List Nat} {n : Nat} : ∀ (c : Code) (Q Q' : AExit → List Value → AH → Prop) (A : List Value) (H : AH), (∀ e A H, Q e A H → Q' e A H) → wc (real P) T S n c Q A H → vc P T S n c Q' A H := by
  intro c
  induction c with
  | skip => intro Q Q' A H hQ h; exact hQ _ _ _ h
  | region id ops draw =>
    intro Q Q' A H hQ h
    cases draw with
    | false => exact wcOps_vc hQ _ _ _ h
    | true =>
      simp only [wc] at h
      simp only [vc]
      split at h
      · rename_i hT; rw [hT]; exact wcQuiet_vc (fun A => hQ _ _ _) _ _ h
      · rename_i n hT; rw [hT]; exact wcQuiet_vc (fun A => wcOps_vc hQ _ _ _) _ _ h
  | seq x y ihx ihy =>
    intro Q Q' A H hQ h
    refine ihx _ _ A H (fun e A H he => ?_) h
    cases e with
    | normal => exact ihy Q Q' A H hQ he
    | _ => exact hQ _ _ _ he
  | cond c x y ihx ihy =>
    intro Q Q' A H hQ h
    simp only [wc] at h
    simp only [vc, selV]
    simp only [selV] at h
    split at h
    · rename_i b hb
      cases b
      · exact ihy _ _ A H hQ h
      · exact ihx _ _ A H hQ h
    · exact h.elim
  | block id c ih =>
    intro Q Q' A H hQ h
    refine ih _ _ A H (fun e A H he => ?_) h
    cases e with
    | exit i =>
      simp only [] at he ⊢
      split at he
      · rename_i hi; rw [if_pos hi]; exact hQ _ _ _ he
      · rename_i hi; rw [if_neg hi]; exact hQ _ _ _ he
    | _ => exact hQ _ _ _ he
  | loop c ih =>
    intro Q Q' A H hQ h
    refine longB_mono (fun ⟨I, h0, hr⟩ => ⟨I, h0, fun m => forallN_mono (fun xs hx H hI => ?_) (hr m)⟩) h
    refine ih _ _ _ H (fun e A H he => ?_) (hx H hI)
    cases e with
    | normal => exact he
    | _ => exact hQ _ _ _ he
  | exit id => intro Q Q' A H hQ h; exact hQ _ _ _ h
  | scope c ih => intro Q Q' A H hQ h; exact ih _ _ A H hQ h
  | label l => intro Q Q' A H hQ h; exact hQ _ _ _ h
  | ret => intro Q Q' A H hQ h; exact hQ _ _ _ h
  | _ => intro Q Q' A H hQ h; exact h.elim

/-- What is asked at a function's end. -/
def fnEnd (α : Ip) (fn : Func) (R : AOut → AH → Prop) (x : AExit) (A : List Value) (H : AH) : Prop :=
  match x with
  | .normal | .ret => α.ret (fn.results.toList.map (rvOf A)) R H
  | .pan v => R (.pan v) H
  | .exit _ => False

theorem rvRun_of (P : Program) (H : AH) (A : List Value) (r : ResultVar) : rvRun P H (rvOf A r) = aResult P H A r := by cases r <;> rfl

theorem rvsRun_of (P : Program) (H : AH) (A : List Value) (rs : List ResultVar) : rvsRun P H (rs.map (rvOf A)) = aResults P H A rs := by
  match rs with
  | [] => rfl
  | [r] => exact rvRun_of P H A r
  | r :: r' :: rs =>
    have : ∀ l : List ResultVar, (l.map (rvOf A)).mapM (rvRun P H) = l.mapM (aResult P H A) := by
      intro l
      rw [List.mapM_map]
      congr 1
      funext r
      exact rvRun_of P H A r
    simp only [List.map_cons, rvsRun, aResults]
    have h := this (r :: r' :: rs)
    simp only [List.map_cons] at h
    rw [h]
    rfl

theorem fnEnd_post {fn : Func} {R : AOut → AH → Prop} (e : AExit) (A : List Value) (H : AH) (h : fnEnd (real P) fn R e A H) : fnPost P fn R e A H := by
  cases e <;> first
    | exact h
    | (simp only [fnEnd, real, rvsRun_of] at h; exact h)

/-- A call, by what its function's text comes to, written out over an interpretation that stands for any. -/
theorem Does.of_wc {f : FuncId} {fn : Func} {args : List Value} {H : AH} {R : AOut → AH → Prop} (T : Nat → Option Nat) (S : Nat → List Nat) (V : Ip → Prop) (hm : P.follows .mixedOrders = true) (hf : P.funcs[f]? = some fn) (hcall : Callable P f)
    (hk : (fn.body.isSome && okDraw T (bodyOf fn)) = true) (hV : ∀ α, V α = wc α T S fn.ntmps (bodyOf fn) (fnEnd α fn R) (args ++ List.replicate (fn.ntmps - args.length) unk) H) (h : V (real P)) : Does P f args H R := by
  simp only [Bool.and_eq_true] at hk
  have hb : fn.body = some (bodyOf fn) := by
    obtain ⟨c, hc⟩ := Option.isSome_iff_exists.1 hk.1
    simp [bodyOf, hc]
  rw [hV] at h
  exact Does.of_vc T S hm hf hb hcall hk.2 (wc_vc _ _ _ _ _ fnEnd_post h)

#print axioms Does.of_wc
end
end Go.Abs
