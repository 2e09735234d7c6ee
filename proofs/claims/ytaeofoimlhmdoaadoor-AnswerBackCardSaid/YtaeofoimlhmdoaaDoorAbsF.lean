/-
  One operation over the abstract heap: values out of values.
-/
import Derived.Test.YtaeofoimlhmdoaaDoorAbsE
set_option linter.unusedSimpArgs false
set_option linter.unusedVariables false
namespace Go.Abs
open Go.RowKit

section
variable {P : Program} {J : Inj} {F : Nat → Nat → Prop} {H : AH} {w : World} {A : List Value} {a : Act}

/-- A run that looks at nothing but the program, whose value holds no address. -/
def aPure (P : Program) (H : AH) (s : Sem Value) : Option AStep :=
  match prun P s with
  | some v => if closed v then some (.val v H) else none
  | none => none

theorem aPure_ok {s : Sem Value} {st : AStep} (h : aPure P H s = some st) (S : Sim J F H w) :
    StepOk P J F H w ((do pure (Next.value (← s)) : Sem Next).run P w) st := by
  unfold aPure at h
  split at h
  · rename_i v hv
    split at h
    · rename_i hc
      cases h
      exact StepOk.value S (v' := v) (by simp [prun_run s hv]) (.inr (closed_self hc))
    · cases h
  · cases h

/-- One of the two is nil, the other one isn't. -/
def nilApart : Value → Value → Bool
  | .pointer (some ⟨_, _, none⟩), .pointer none | .pointer none, .pointer (some ⟨_, _, none⟩) => true
  | .map (some _), .map none | .map none, .map (some _) => true
  | .slice (some ⟨_, _, none⟩) _ _, .slice none 0 0 | .slice none 0 0, .slice (some ⟨_, _, none⟩) _ _ => true
  | .func _ _ _, .nilFunc | .nilFunc, .func _ _ _ => true
  | .iface _ _, .nilIface | .nilIface, .iface _ _ => true
  | _, _ => false

def nilDesc : TypeDesc → Value → Bool
  | .pointer _, .pointer _ | .map _ _, .map _ | .slice _, .slice _ _ _ | .func _ _ _, .func _ _ _ | .func _ _ _, .nilFunc | .interface _, .iface _ _ | .interface _, .nilIface => true
  | _, _ => false

/-- Is an operand a constant? -/
def isC : Operand → Bool
  | .const _ => true
  | _ => false

/-- An operand that is a constant, or none. -/
def encC (c : Bool) : Operand := if c then .const (.bool false) else .tmp 0

theorem eqGuard_enc (op : BinOp) (t : TypeId) (x y : Operand) (a b : Value) : eqGuard op t x y a b = eqGuard op t (encC (isC x || isC y)) (.tmp 0) a b := by
  unfold eqGuard
  cases x <;> cases y <;> rfl

/-- c: one of the operands is a constant. -/
def aBin (P : Program) (H : AH) (op : BinOp) (t : TypeId) (c : Bool) (x y : Value) : Option AStep :=
  if closed x && closed y then aPure P H (do eqGuard op t (encC c) (.tmp 0) x y; binOp op t x y)
  else if nilApart x y then
    match P.underlying t, op with
    | some d, .eql => if nilDesc d x && nilDesc d y then some (.val (.bool false) H) else none
    | some d, .neq => if nilDesc d x && nilDesc d y then some (.val (.bool true) H) else none
    | _, _ => none
  else none

theorem nilApart_rel {x y x' y' : Value} (h : nilApart x y = true) (hx : VRel J w x x') (hy : VRel J w y y') : nilApart x' y' = true := by
  unfold nilApart at h
  split at h <;> first | (cases hx <;> cases hy <;> rfl) | cases h

theorem nilDesc_rel {d : TypeDesc} {x x' : Value} (hx : VRel J w x x') : nilDesc d x' = nilDesc d x := by
  cases hx <;> cases d <;> rfl

theorem run_nilApart {t : TypeId} {d : TypeDesc} (hd : P.underlying t = some d) {x y : Value} (h : nilApart x y = true) (hx : nilDesc d x = true) (hy : nilDesc d y = true) (op : BinOp) (ox oy : Operand) (w : World) :
    (op = .eql → (do eqGuard op t ox oy x y; binOp op t x y).run P w = .ok (.bool false) w) ∧ (op = .neq → (do eqGuard op t ox oy x y; binOp op t x y).run P w = .ok (.bool true) w) := by
  have heq : (Op.equal t x y).run P w = .ok false w := by
    unfold Op.equal Op.maxDepth
    unfold nilApart at h
    rw [show (10000 : Nat) = 9999 + 1 from rfl]
    unfold Op.equalIn
    rw [Sem.run_bind, run_underlying hd, Result.andThen_ok]
    split at h <;> cases d <;> first | rfl | (simp [nilDesc] at hx; done) | (simp [nilDesc] at hy; done) | cases h
  have hg : (eqGuard op t ox oy x y).run P w = .ok () w := by
    unfold eqGuard
    unfold nilApart at h
    cases op <;> split at h <;> first | rfl | cases h
  have hb : ∀ (b : Bool), (op = .eql ∧ b = false ∨ op = .neq ∧ b = true) → (binOp op t x y).run P w = .ok (.bool b) w := by
    intro b hb
    unfold nilApart at h
    rcases hb with ⟨rfl, rfl⟩ | ⟨rfl, rfl⟩ <;> split at h <;> first | (simp only [binOp, Sem.run_bind, heq, Result.andThen_ok, Sem.run_pure]; done) | (simp only [binOp, Sem.run_bind, heq, Result.andThen_ok, Sem.run_pure]; rfl) | cases h
  exact ⟨fun e => by simp only [Sem.run_bind, hg, Result.andThen_ok]; exact hb false (.inl ⟨e, rfl⟩), fun e => by simp only [Sem.run_bind, hg, Result.andThen_ok]; exact hb true (.inr ⟨e, rfl⟩)⟩

theorem aBin_ok {op : BinOp} {t : TypeId} {ox oy : Operand} {x y x' y' : Value} {st : AStep} (h : aBin P H op t (isC ox || isC oy) x y = some st) (S : Sim J F H w) (hx : ORel J w x x') (hy : ORel J w y y') :
    StepOk P J F H w ((do pure (Next.value (← (do eqGuard op t ox oy x' y'; binOp op t x' y'))) : Sem Next).run P w) st := by
  unfold aBin at h
  have hcl : ∀ {v v' : Value}, closed v = true → ORel J w v v' → v' = v := by
    intro v v' hc hr
    exact closed_eq hc (hr.known (by intro e; subst e; simp [closed, closedN, unk] at hc))
  have hne : ∀ {u : Value}, nilApart x y = true → x ≠ unk ∧ y ≠ unk := by
    intro _ hn
    constructor <;> (intro e; subst e; simp [nilApart, unk] at hn)
  split at h
  · rename_i hc
    simp only [Bool.and_eq_true] at hc
    rw [hcl hc.1 hx, hcl hc.2 hy, eqGuard_enc]
    exact aPure_ok h S
  · split at h
    · rename_i hn
      have hx' := hx.known (hne (u := x) hn).1
      have hy' := hy.known (hne (u := x) hn).2
      have hn' := nilApart_rel hn hx' hy'
      split at h
      · rename_i d hd
        split at h
        · rename_i hdd
          simp only [Bool.and_eq_true] at hdd
          cases h
          have := (run_nilApart (ox := ox) (oy := oy) hd hn' ((nilDesc_rel hx').trans hdd.1) ((nilDesc_rel hy').trans hdd.2) .eql w).1 rfl
          exact StepOk.value S (v' := .bool false) (by rw [Sem.run_bind, this]; rfl) (.inr (.bool false))
        · cases h
      · rename_i d hd
        split at h
        · rename_i hdd
          simp only [Bool.and_eq_true] at hdd
          cases h
          have := (run_nilApart (ox := ox) (oy := oy) hd hn' ((nilDesc_rel hx').trans hdd.1) ((nilDesc_rel hy').trans hdd.2) .neq w).2 rfl
          exact StepOk.value S (v' := .bool true) (by rw [Sem.run_bind, this]; rfl) (.inr (.bool true))
        · cases h
      · cases h
    · cases h

def aMkIface (P : Program) (H : AH) (t : TypeId) (x : Value) : Option AStep :=
  match P.underlying t with
  | some (.interface _) | none => none
  | some _ => if known x then some (.val (.iface t x) H) else none

theorem aMkIface_ok {t : TypeId} {x x' : Value} {st : AStep} (h : aMkIface P H t x = some st) (S : Sim J F H w) (hx : ORel J w x x') :
    StepOk P J F H w ((do pure (Next.value (← Instr.makeInterface t x')) : Sem Next).run P w) st := by
  unfold aMkIface at h
  split at h
  · cases h
  · cases h
  · rename_i d hd0 hd
    split at h
    · rename_i hk
      cases h
      refine StepOk.value S (v' := .iface t x') ?_ (.inr (.iface t (hx.known (known_ne hk))))
      simp only [Instr.makeInterface, Sem.run_bind, run_underlying hd, Result.andThen_ok]
      cases d <;> first | rfl | exact (hd0 _ rfl).elim
    · cases h

theorem rel_map {xs : List Operand} (hA : FRel J w A a.tmps) (h : (xs.map (aev A)).all known = true) : VRels J w (xs.map (aev A)) (xs.map a.eval) := by
  induction xs with
  | nil => exact .nil
  | cons x xs ih =>
    simp only [List.map_cons, List.all_cons, Bool.and_eq_true] at h ⊢
    exact .cons ((hA.ev x).known (known_ne h.1)) (ih h.2)

def aMkFunc (H : AH) (fn : Fn) (f c : List Value) : Option AStep :=
  if f.all known && c.all known then some (.val (.func fn f.toArray c.toArray) H) else none

theorem aMkFunc_ok {fn : Fn} {f c : Array Operand} {st : AStep} (h : aMkFunc H fn (f.toList.map (aev A)) (c.toList.map (aev A)) = some st) (S : Sim J F H w) (hA : FRel J w A a.tmps) :
    StepOk P J F H w ((do pure (Next.value (← Instr.makeFunc fn (f.map a.eval) (c.map a.eval))) : Sem Next).run P w) st := by
  unfold aMkFunc at h
  split at h
  · rename_i hk
    simp only [Bool.and_eq_true] at hk
    cases h
    have h1 := rel_map hA hk.1
    have h2 := rel_map hA hk.2
    refine StepOk.value S (v' := .func fn (f.toList.map a.eval).toArray (c.toList.map a.eval).toArray) ?_ (.inr (.func fn h1.1 h2.1 h1.2 h2.2))
    have e : ∀ x : Array Operand, (x.toList.map a.eval).toArray = x.map a.eval := fun x => by apply Array.ext'; simp
    rw [e, e]; rfl
  · cases h

theorem VRel.agg_inv {c : List Value} {v' : Value} (h : VRel J w (.agg c.toArray) v') : ∃ c', v' = .agg c' ∧ VRels J w c c'.toList := by
  generalize hv : Value.agg c.toArray = v at h
  cases h with
  | agg hc hvc => cases hv; exact ⟨_, rfl, by simpa using ⟨hc, hvc⟩⟩
  | _ => cases hv

theorem VRel.agg_inv' {c : Array Value} {v' : Value} (h : VRel J w (.agg c) v') : ∃ c', v' = .agg c' ∧ VRels J w c.toList c'.toList := by
  have : VRel J w (.agg c.toList.toArray) v' := by simpa using h
  exact this.agg_inv

theorem VRel.tuple_inv' {c : Array Value} {v' : Value} (h : VRel J w (.tuple c) v') : ∃ c', v' = .tuple c' ∧ VRels J w c.toList c'.toList := by
  generalize hv : Value.tuple c = v at h
  cases h with
  | tuple hc hvc => cases hv; exact ⟨_, rfl, by simpa using ⟨hc, hvc⟩⟩
  | _ => cases hv

theorem run_part_rel {t : TypeId} {cs : List Value} {i : Nat} {v : Value} (h : aPart P t cs i = some v) {cc : Array Value} (hv : VRels J w cs cc.toList) :
    ∃ v', (part t cc i).run P w = .ok v' w ∧ VRel J w v v' := by
  unfold aPart at h
  split at h
  · cases h
  · rename_i d hd
    unfold part
    simp only [Sem.run_bind, run_isAgg hd, Result.andThen_ok]
    split at h
    · rename_i hagg
      split at h
      · cases h
      · rename_i inf hinf
        split at h
        · cases h
          refine ⟨.agg (cc.extract i (i + inf.size)), by simp [hagg, run_sizeOf hinf], ?_⟩
          have := (hv.drop i).take inf.size
          have e : (cc.extract i (i + inf.size)) = (List.take inf.size (List.drop i cc.toList)).toArray := by
            apply Array.ext'
            simp [Array.toList_extract, List.extract]
          rw [e]
          exact VRel.aggs this
        · cases h
    · rename_i hagg
      obtain ⟨v', e, hr⟩ := hv.get h
      rw [Array.getElem?_toList] at e
      exact ⟨v', by simp [hagg, e], hr⟩

def aField (P : Program) (H : AH) (t : TypeId) (k : Nat) (x : Value) : Option AStep :=
  match P.underlying t, x with
  | some (.struct fs), .agg cs =>
    match fs[k]? with
    | some f => (aPart P f.type cs.toList f.offset).map fun v => .val v H
    | none => none
  | _, _ => none

theorem aField_ok {t : TypeId} {k : Nat} {x x' : Value} {st : AStep} (h : aField P H t k x = some st) (S : Sim J F H w) (hx : ORel J w x x') :
    StepOk P J F H w ((do pure (Next.value (← Instr.field t x' k)) : Sem Next).run P w) st := by
  unfold aField at h
  split at h
  · rename_i fs cs hs
    split at h
    · rename_i f hf
      simp only [Option.map_eq_some_iff] at h
      obtain ⟨v, hv, rfl⟩ := h
      obtain ⟨cc, rfl, hr⟩ := (hx.known (by simp [unk])).agg_inv'
      obtain ⟨v', hrun, hrel⟩ := run_part_rel hv hr
      refine StepOk.value S (v' := v') ?_ (.inr hrel)
      simp [Instr.field, run_underlying hs, hf, asAgg, hrun]
    · cases h
  · cases h

/-- It is a row of results, not what says nothing. -/
def notUnk (vs : Array Value) : Bool :=
  match vs.toList with
  | [.tuple _] => false
  | _ => true

def aExtract (H : AH) (x : Value) (i : Nat) : Option AStep :=
  match x with
  | .tuple vs => if notUnk vs = true then match vs[i]? with
    | some v => some (.val v H)
    | none => none
    else none
  | _ => none

theorem aExtract_ok {i : Nat} {x x' : Value} {st : AStep} (h : aExtract H x i = some st) (S : Sim J F H w) (hx : ORel J w x x') :
    StepOk P J F H w ((do pure (Next.value (← Instr.extract x' i)) : Sem Next).run P w) st := by
  unfold aExtract at h
  split at h
  · rename_i vs
    split at h
    rotate_left
    · cases h
    rename_i hsz
    split at h
    · rename_i v hv
      cases h
      have hne : Value.tuple vs ≠ unk := by
        intro e; simp [unk] at e; subst e; simp [notUnk] at hsz
      obtain ⟨cc, rfl, hr⟩ := (hx.known hne).tuple_inv'
      obtain ⟨v', e, hrel⟩ := hr.get (i := i) (v := v) (by simpa using hv)
      rw [Array.getElem?_toList] at e
      refine StepOk.value S (v' := v') ?_ (.inr hrel)
      simp [Instr.extract, e]
    · cases h
  · cases h

def aIndex (P : Program) (H : AH) (t : TypeId) (x i : Value) : Option AStep :=
  match x, i with
  | .string s, .int k n => aPure P H (Instr.index t (.string s) (.int k n))
  | .agg cs, .int _ n =>
    match P.underlying t with
    | some (.array len elem) =>
      match P.info? elem with
      | some inf => if 0 ≤ n ∧ n < len then (aPart P elem cs.toList (n.toNat * inf.size)).map fun v => .val v H else none
      | none => none
    | _ => none
  | _, _ => none

theorem VRel.int_inv {k : IntKind} {n : Int} {v' : Value} (h : VRel J w (.int k n) v') : v' = .int k n := by cases h; rfl
theorem VRel.string_inv {s : ByteArray} {v' : Value} (h : VRel J w (.string s) v') : v' = .string s := by cases h; rfl
theorem VRel.bool_inv {s : Bool} {v' : Value} (h : VRel J w (.bool s) v') : v' = .bool s := by cases h; rfl

theorem aIndex_ok {t : TypeId} {x x' i i' : Value} {st : AStep} (h : aIndex P H t x i = some st) (S : Sim J F H w) (hx : ORel J w x x') (hi : ORel J w i i') :
    StepOk P J F H w ((do pure (Next.value (← Instr.index t x' i')) : Sem Next).run P w) st := by
  unfold aIndex at h
  split at h
  · rw [(hx.known (by simp [unk])).string_inv, (hi.known (by simp [unk])).int_inv]
    exact aPure_ok h S
  · rename_i cs k n
    rw [(hi.known (by simp [unk])).int_inv]
    split at h
    · rename_i len elem ht
      split at h
      · rename_i inf hinf
        split at h
        · rename_i hn
          simp only [Option.map_eq_some_iff] at h
          obtain ⟨v, hv, rfl⟩ := h
          obtain ⟨cc, rfl, hr⟩ := (hx.known (by simp [unk])).agg_inv'
          obtain ⟨v', hrun, hrel⟩ := run_part_rel hv hr
          refine StepOk.value S (v' := v') ?_ (.inr hrel)
          simp [Instr.index, asIntOf, run_underlying ht, hn, run_sizeOf hinf, hrun]
        · cases h
      · cases h
    · cases h
  · cases h

def aIndexAddr (P : Program) (H : AH) (t : TypeId) (x i : Value) : Option AStep :=
  match x, i with
  | .slice (some ⟨b, o, none⟩) len e, .int _ n =>
    match P.underlying t with
    | some (.slice elem) =>
      match P.info? elem with
      | some inf => if 0 ≤ n ∧ n < len ∧ inf.size = e then some (.val (.pointer (some ⟨b, o + n.toNat * e, none⟩)) H) else none
      | none => none
    | _ => none
  | .pointer (some ⟨b, o, none⟩), .int _ n =>
    match P.underlying t with
    | some (.array len elem) =>
      match P.info? elem with
      | some inf => if 0 ≤ n ∧ n < len then some (.val (.pointer (some ⟨b, o + n.toNat * inf.size, none⟩)) H) else none
      | none => none
    | _ => none
  | _, _ => none

theorem aIndexAddr_ok {t : TypeId} {x x' i i' : Value} {st : AStep} (h : aIndexAddr P H t x i = some st) (S : Sim J F H w) (hx : ORel J w x x') (hi : ORel J w i i') :
    StepOk P J F H w ((do pure (Next.value (← Instr.indexAt t x' i')) : Sem Next).run P w) st := by
  unfold aIndexAddr at h
  split at h
  · rename_i b o len e k n
    rw [(hi.known (by simp [unk])).int_inv]
    split at h
    · rename_i elem ht
      split at h
      · rename_i inf hinf
        split at h
        · rename_i hn
          obtain ⟨hn0, hn1, rfl⟩ := hn
          cases h
          have hx' := hx.known (by simp [unk])
          cases hx' with
          | slice hj hc hrow =>
            rename_i r off c
            refine StepOk.value S (v' := .pointer (some ⟨r, off + (o + n.toNat * inf.size), none⟩)) ?_ (.inr (.ptr hj))
            simp [Instr.indexAt, asIntOf, run_underlying ht, run_sizeOf hinf, hn0, hn1, Addr.add_lit, Nat.add_assoc]
          | slice0 hj => simp at hn1; omega
        · cases h
      · cases h
    · cases h
  · rename_i b o k n
    rw [(hi.known (by simp [unk])).int_inv]
    split at h
    · rename_i len elem ht
      split at h
      · rename_i inf hinf
        split at h
        · rename_i hn
          cases h
          obtain ⟨r, off, hj, rfl⟩ := (hx.known (by simp [unk])).ptr_inv
          refine StepOk.value S (v' := .pointer (some ⟨r, off + (o + n.toNat * inf.size), none⟩)) ?_ (.inr (.ptr hj))
          simp [Instr.indexAt, asIntOf, run_underlying ht, run_sizeOf hinf, hn, Addr.add_lit, Nat.add_assoc, Instr.sureAddr]
        · cases h
      · cases h
    · cases h
  · cases h

end
end Go.Abs
