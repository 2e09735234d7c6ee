/-
  What single operations come to, over values that are given.
-/
import Derived.Test.YtaeofoimlhmdoaaDoorAbsO
set_option linter.unusedSimpArgs false
set_option linter.unusedVariables false
namespace Go.Abs
open Go.RowKit

def k (α : Ip) (R : AOut → AH → Prop) (H : AH) (s : SOp) (K : Value → AH → Prop) : Prop := α.st H s K fun v H' => R (.pan v) H'
def fnV (f : Nat) : Value := .func (.func f) #[] #[]
def bS (l : List UInt8) : Value := .string ⟨l.toArray⟩

section
variable {P : Program} {H H' : AH} {R : AOut → AH → Prop} {K Q : Value → AH → Prop} {t : TypeId} {c : Bool} {v : Value}

@[simp] theorem k_real {s : SOp} : k (real P) R H s K = stepV P H (runS P H s) K (fun v H' => R (.pan v) H') := rfl
@[simp] theorem q_real {s : SOp} {L : Value → Prop} : (real P).q H s L = stepQ P H (runS P H s) L := rfl
@[simp] theorem stepV_val : stepV P H (some (.val v H')) K Q = K v H' := rfl
@[simp] theorem stepV_pan : stepV P H (some (.pan v)) K Q = Q v H := rfl
@[simp] theorem stepV_new {o : AObj} {mk : Nat → Value} : stepV P H (some (.new H' o mk)) K Q = ∀ b, H b = none → K (mk b) (H'.upd b o) := rfl
@[simp] theorem stepQ_val {L : Value → Prop} : stepQ P H (some (.val v H)) L = L v := by simp [stepQ]
@[simp] theorem ret_one : (real P).ret [.val v] R H = R (.ret v) H := rfl
@[simp] theorem selV_true {X Y : Prop} : selV (.bool true) X Y = X := rfl
@[simp] theorem selV_false {X Y : Prop} : selV (.bool false) X Y = Y := rfl
@[simp] theorem selV_bool {b : Bool} {X Y : Prop} : selV (.bool b) X Y = if b then X else Y := by cases b <;> rfl
theorem selV_prop {p : Prop} [Decidable p] {X Y : Prop} : selV (.bool (decide p)) X Y = if p then X else Y := by by_cases h : p <;> simp [h]

/-- A call whose function does what is said. -/
theorem stepV_call {f : FuncId} {args : List Value} {D : AOut → AH → Prop} (h : Does P f args H D) (hK : ∀ v H', D (.ret v) H' → K v H') (hQ : ∀ v H', D (.pan v) H' → Q v H') : stepV P H (some (.call f args)) K Q :=
  h.mono fun x H' hx => by cases x with
    | ret v => exact hK _ _ hx
    | pan v => exact hQ _ _ hx

/-- It gives v, and the heap is as it was. -/
def Gives (P : Program) (f : FuncId) (args : List Value) (H : AH) (v : Value) : Prop := Does P f args H fun x H' => x = .ret v ∧ H' = H

theorem Gives.step {f : FuncId} {args : List Value} (h : Gives P f args H v) (hK : K v H) : stepV P H (some (.call f args)) K Q :=
  stepV_call h (fun v' H' e => by obtain ⟨e, rfl⟩ := e; cases e; exact hK) (fun v' H' e => by cases e.1)

theorem Gives.stepQ {f : FuncId} {args : List Value} {L : Value → Prop} (h : Gives P f args H v) (hK : L v) : stepQ P H (some (.call f args)) L := ⟨v, h, hK⟩

@[simp] theorem runS_call {f : Nat} {args : List Value} : runS P H (.call (fnV f) args) = if args.all known = true then some (.call f args) else none := by
  simp [runS, fnV, aCall]

theorem closed_int {kd : IntKind} {n : Int} : closed (.int kd n) = true := rfl
theorem closed_bool {b : Bool} : closed (.bool b) = true := rfl
theorem closed_string {s : ByteArray} : closed (.string s) = true := rfl

attribute [local simp] prun_pure

variable {kd : IntKind} {a b : Int}
@[simp] theorem bin_add : runS P H (.bin .add t c (.int kd a) (.int kd b)) = some (.val (.int kd (kd.wrap (a + b))) H) := by
  simp [runS, aBin, closed_int, aPure, eqGuard, binOp, Op.intArith, prun]
@[simp] theorem bin_sub : runS P H (.bin .sub t c (.int kd a) (.int kd b)) = some (.val (.int kd (kd.wrap (a - b))) H) := by
  simp [runS, aBin, closed_int, aPure, eqGuard, binOp, Op.intArith]
@[simp] theorem bin_mul : runS P H (.bin .mul t c (.int kd a) (.int kd b)) = some (.val (.int kd (kd.wrap (a * b))) H) := by
  simp [runS, aBin, closed_int, aPure, eqGuard, binOp, Op.intArith]
theorem bin_quo (h : b ≠ 0) : runS P H (.bin .quo t c (.int kd a) (.int kd b)) = some (.val (.int kd (kd.wrap (a.tdiv b))) H) := by
  simp [runS, aBin, closed_int, aPure, eqGuard, binOp, Op.intDiv, h]
theorem bin_rem (h : b ≠ 0) : runS P H (.bin .rem t c (.int kd a) (.int kd b)) = some (.val (.int kd (a.tmod b)) H) := by
  simp [runS, aBin, closed_int, aPure, eqGuard, binOp, Op.intDiv, h]
@[simp] theorem bin_and : runS P H (.bin .and t c (.int kd a) (.int kd b)) = some (.val (.int kd (kd.wrap ↑((a % 2 ^ kd.bits).toNat &&& (b % 2 ^ kd.bits).toNat))) H) := by
  simp [runS, aBin, closed_int, aPure, eqGuard, binOp, Op.intBits]
@[simp] theorem bin_or : runS P H (.bin .or t c (.int kd a) (.int kd b)) = some (.val (.int kd (kd.wrap ↑((a % 2 ^ kd.bits).toNat ||| (b % 2 ^ kd.bits).toNat))) H) := by
  simp [runS, aBin, closed_int, aPure, eqGuard, binOp, Op.intBits]
@[simp] theorem bin_lss : runS P H (.bin .lss t c (.int kd a) (.int kd b)) = some (.val (.bool (decide (a < b))) H) := by
  simp [runS, aBin, closed_int, closed_bool, aPure, eqGuard, binOp, Op.intCmp]
@[simp] theorem bin_leq : runS P H (.bin .leq t c (.int kd a) (.int kd b)) = some (.val (.bool (decide (a ≤ b))) H) := by
  simp [runS, aBin, closed_int, closed_bool, aPure, eqGuard, binOp, Op.intCmp]
@[simp] theorem bin_gtr : runS P H (.bin .gtr t c (.int kd a) (.int kd b)) = some (.val (.bool (decide (a > b))) H) := by
  simp [runS, aBin, closed_int, closed_bool, aPure, eqGuard, binOp, Op.intCmp]
@[simp] theorem bin_geq : runS P H (.bin .geq t c (.int kd a) (.int kd b)) = some (.val (.bool (decide (a ≥ b))) H) := by
  simp [runS, aBin, closed_int, closed_bool, aPure, eqGuard, binOp, Op.intCmp]
@[simp] theorem bin_eql : runS P H (.bin .eql t c (.int kd a) (.int kd b)) = some (.val (.bool (decide (a = b))) H) := by
  have : (a == b) = decide (a = b) := rfl
  simp [runS, aBin, closed_int, closed_bool, aPure, eqGuard, binOp, Op.intCmp, this]
@[simp] theorem bin_neq : runS P H (.bin .neq t c (.int kd a) (.int kd b)) = some (.val (.bool (decide (a ≠ b))) H) := by
  have : (a != b) = decide (a ≠ b) := by by_cases h : a = b <;> simp [h]
  simp only [runS, aBin, closed_int, closed_bool, aPure, eqGuard, binOp, Op.intCmp, this]
  simp [closed_bool]
variable {s s' : ByteArray}
@[simp] theorem bin_seql : runS P H (.bin .eql t c (.string s) (.string s')) = some (.val (.bool (decide (s.toList = s'.toList))) H) := by
  have : (s.toList == s'.toList) = decide (s.toList = s'.toList) := by by_cases h : s.toList = s'.toList <;> simp [h]
  simp only [runS, aBin, closed_string, closed_bool, aPure, eqGuard, binOp, Op.stringOp, this]
  simp [closed_bool]
@[simp] theorem bin_sneq : runS P H (.bin .neq t c (.string s) (.string s')) = some (.val (.bool (decide (s.toList ≠ s'.toList))) H) := by
  have : (s.toList == s'.toList) = decide (s.toList = s'.toList) := by by_cases h : s.toList = s'.toList <;> simp [h]
  simp only [runS, aBin, closed_string, closed_bool, aPure, eqGuard, binOp, Op.stringOp, this]
  simp [closed_bool]
theorem bin_sadd (h : ((s.size + s'.size : Nat) : Int) ≤ IntKind.i64.max) : runS P H (.bin .add t c (.string s) (.string s')) = some (.val (.string (s ++ s')) H) := by
  have : ¬ ((s.size + s'.size : Nat) : Int) > IntKind.i64.max := by omega
  simp only [runS, aBin, closed_string, closed_bool, aPure, eqGuard, binOp, Op.stringOp, if_neg this]
  simp [closed_string]
@[simp] theorem un_not {x : Bool} : runS P H (.un .not (.bool x)) = some (.val (.bool (!x)) H) := by
  simp [runS, aPureIf, closed_bool, aPure, Op.unary]
@[simp] theorem run_extract {vs : Array Value} {i : Nat} : runS P H (.extract (.tuple vs) i) = if notUnk vs = true then match vs[i]? with | some v => some (.val v H) | none => none else none := rfl
@[simp] theorem notUnk_two {x y : Value} {l : List Value} : notUnk (x :: y :: l).toArray = true := by simp [notUnk]
@[simp] theorem notUnk_bool {x : Bool} : notUnk #[.bool x] = true := rfl

@[simp] theorem run_box {x : Value} : runS P H (.box x) = if known x = true then some (.new H (.cells false x.cells.toList) fun b => .pointer (some ⟨b, 0, none⟩)) else none := rfl
@[simp] theorem run_load {m i : Nat} : runS P H (.load t (.pointer (some ⟨m, i, none⟩))) = match H m with | some (.cells _ cs) => (aPart P t cs i).map fun v => .val v H | _ => none := rfl
theorem run_store {m i : Nat} {v : Value} : runS P H (.store t (.pointer (some ⟨m, i, none⟩)) v) = match H m, P.info? t with
    | some (.cells false cs), some inf =>
      if known v = true ∧ v.cells.size = inf.size ∧ i + v.cells.toList.length ≤ cs.length ∧ v.cells.toList.all Value.oneCell' = true then
        some (.val unk (H.upd m (.cells false (awr cs i v.cells.toList)))) else none
    | _, _ => none := rfl
@[simp] theorem upd_self {m : Nat} {o : AObj} : (H.upd m o) m = some o := by simp [AH.upd]
theorem upd_ne {m n : Nat} {o : AObj} (h : n ≠ m) : (H.upd m o) n = H n := by simp [AH.upd, h]
@[simp] theorem upd_upd {m : Nat} {o o' : AObj} : (H.upd m o).upd m o' = H.upd m o' := by
  funext x; simp only [AH.upd]; split <;> rfl

/-- What there was is as it was. -/
def AH.le (H H' : AH) : Prop := ∀ m o, H m = some o → H' m = some o
theorem AH.le_refl (H : AH) : H.le H := fun _ _ h => h
theorem AH.le_trans {H1 H2 H3 : AH} (h : H1.le H2) (h' : H2.le H3) : H1.le H3 := fun m o e => h' m o (h m o e)
theorem AH.le_upd {m : Nat} {o : AObj} (h : H m = none) : H.le (H.upd m o) := fun n o' e => by
  have : n ≠ m := by intro he; subst he; rw [h] at e; cases e
  simp [AH.upd, this, e]

/-- What is forgotten at a call's end. -/
theorem Does.drop {f : FuncId} {args : List Value} {R R' : AOut → AH → Prop} (h : Does P f args H R') (hr : ∀ x H', R' x H' → ∃ H'' : AH, H''.le H' ∧ R x H'') : Does P f args H R := by
  refine ⟨h.1, fun J F w args' S ha => (h.2 J F w args' S ha).mono fun e w' hh => ?_⟩
  obtain ⟨J', F', x, H', h1, h2, S', E'⟩ := hh
  obtain ⟨H'', hle, hR⟩ := hr x H' h1
  obtain ⟨S'', E''⟩ := S'.less hle
  exact ⟨J', F', x, H'', hR, h2, S'', E'.trans E''⟩

/-- A function that gives v and leaves what there was. -/
theorem Gives.of {f : FuncId} {args : List Value} (h : Does P f args H fun x H' => x = .ret v ∧ H.le H') : Gives P f args H v :=
  h.drop fun x H' hx => ⟨H, hx.2, hx.1, rfl⟩

theorem prun_prog : prun P program = some P := rfl
theorem prun_underlying {t : TypeId} {d : TypeDesc} (h : P.underlying t = some d) : prun P (underlying t) = some d := by
  unfold underlying
  rw [prun_bind', prun_prog]
  simp [h, prun_pure]
theorem prun_eqInt {d : Nat} {t : TypeId} {kd kd' : IntKind} {a b : Int} (h : P.underlying t = some (.int kd')) : prun P (Op.equalIn (d+1) t (.int kd a) (.int kd b)) = some (decide (a = b)) := by
  unfold Op.equalIn
  rw [prun_bind', prun_underlying h]
  simp [prun_pure, BEq.beq]
theorem prun_part {t : TypeId} {d : TypeDesc} {cs : Array Value} {off : Nat} (h : P.underlying t = some d) (ha : isAggD d = false) (v : Value) (hv : cs[off]? = some v) : prun P (part t cs off) = some v := by
  unfold part isAgg
  rw [prun_bind', prun_bind', prun_underlying h]
  cases d <;> first | (simp [isAggD] at ha; done) | simp [prun_pure, hv]
theorem run_index {t : TypeId} {s : ByteArray} {kd : IntKind} {n : Nat} (h : P.underlying t = some .string) (hn : n < s.size) : runS P H (.index t (.string s) (.int kd n)) = some (.val (.int .u8 s[n].toNat) H) := by
  simp only [runS, aIndex, Instr.index, asIntOf, aPure, prun_bind', prun_underlying h, prun_pure, Option.bind_some]
  simp [hn, closed_int, prun_pure]
@[simp] theorem Gives_def {f : FuncId} {args : List Value} : Does P f args H (fun x H' => x = .ret v ∧ H' = H) = Gives P f args H v := rfl

end
end Go.Abs
