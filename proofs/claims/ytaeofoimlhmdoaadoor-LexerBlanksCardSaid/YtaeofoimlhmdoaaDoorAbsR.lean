/-
  What single operations come to: texts of bytes, slices, places.
-/
import Derived.Test.YtaeofoimlhmdoaaDoorAbsQ
set_option linter.unusedSimpArgs false
set_option linter.unusedVariables false
namespace Go.Abs
open Go.RowKit

section
variable {P : Program} {H : AH} {t : TypeId} {c : Bool} {kd : IntKind} {l l' : List UInt8}

theorem bS_toList : (⟨l.toArray⟩ : ByteArray).toList = l := by
  have : ∀ (n i : Nat) (r : List UInt8), n = l.length - i → ByteArray.toList.loop (⟨l.toArray⟩ : ByteArray) i r = r.reverse ++ l.drop i := by
    intro n
    induction n with
    | zero =>
      intro i r h
      unfold ByteArray.toList.loop
      have : ¬ i < (⟨l.toArray⟩ : ByteArray).size := by show ¬ i < l.length; omega
      rw [if_neg this, List.drop_eq_nil_of_le (by omega)]; simp
    | succ n ih =>
      intro i r h
      have hi : i < l.length := by omega
      unfold ByteArray.toList.loop
      rw [if_pos (show i < (⟨l.toArray⟩ : ByteArray).size from hi), ih (i + 1) _ (by omega), List.drop_eq_getElem_cons hi]
      simp [ByteArray.get!, hi]
  have := this l.length 0 [] rfl
  simpa [ByteArray.toList] using this

@[simp] theorem bS_inj : bS l = bS l' ↔ l = l' := by
  constructor
  · intro h; simp only [bS, Value.string.injEq, ByteArray.mk.injEq] at h; simpa using congrArg Array.toList h
  · rintro rfl; rfl
@[simp] theorem known_bS : known (bS l) = true := rfl
@[simp] theorem closed_bS : closed (bS l) = true := rfl
@[simp] theorem cells_bS : (bS l).cells = #[bS l] := rfl
@[simp] theorem oneCell_bS : (bS l).oneCell' = true := rfl
theorem exists_bS (s : ByteArray) : ∃ l, Value.string s = bS l := ⟨s.data.toList, by simp [bS]⟩

@[simp] theorem bs_eql : runS P H (.bin .eql t c (bS l) (bS l')) = some (.val (.bool (decide (l = l'))) H) := by
  rw [bS, bS, bin_seql, bS_toList, bS_toList]
@[simp] theorem bs_neq : runS P H (.bin .neq t c (bS l) (bS l')) = some (.val (.bool (decide (l ≠ l'))) H) := by
  rw [bS, bS, bin_sneq, bS_toList, bS_toList]
theorem bs_add (h : l.length + l'.length < 9223372036854775808) : runS P H (.bin .add t c (bS l) (bS l')) = some (.val (bS (l ++ l')) H) := by
  rw [bS, bS, bin_sadd]
  · have : (⟨l.toArray⟩ : ByteArray) ++ ⟨l'.toArray⟩ = ⟨(l ++ l').toArray⟩ := by
      apply ByteArray.ext
      simp [ByteArray.data_append]
    rw [this]; rfl
  · show ((l.length + l'.length : Nat) : Int) ≤ 9223372036854775807
    omega
theorem bs_len (h : P.underlying t = some .string) : runS P H (.len t (bS l)) = some (.val (.int .i64 l.length) H) := by
  simp only [runS, aLen, h, bS]; rfl
theorem bs_index (h : P.underlying t = some .string) {n : Nat} (hn : n < l.length) : runS P H (.index t (bS l) (.int kd n)) = some (.val (.int .u8 l[n].toNat) H) := by
  rw [bS, run_index h (show n < (⟨l.toArray⟩ : ByteArray).size from hn)]
  rfl

theorem extract_bS (a b : Nat) : (⟨l.toArray⟩ : ByteArray).extract a b = ⟨((l.take b).drop a).toArray⟩ := by
  apply ByteArray.ext
  rw [ByteArray.data_extract]
  simp [List.drop_take]

theorem run_bound {n : Nat} {y : Nat} {cd : BoundsCode} (h : n ≤ y) : prun P (Instr.sliceBound (.int kd n) y cd) = some n := by
  simp only [Instr.sliceBound, asIntOf, prun_bind', prun_pure, Option.bind_some]
  rw [if_pos (by omega)]
  simp [prun_pure]

theorem bs_slice_lo (h : P.underlying t = some .string) {n : Nat} (hn : n ≤ l.length) : runS P H (.slice t (bS l) (some (.int kd n)) none none) = some (.val (bS (l.drop n)) H) := by
  have hc : closed (.int kd n) = true := rfl
  simp only [runS, aSlice, bS, hc, Option.all_some, Option.all_none, Bool.and_self, if_true, aPure, Instr.sliceAt, Instr.slice, prun_bind', prun_underlying h, Option.bind_some, Instr.sliceBounds, prun_pure]
  simp only [Instr.sliceAt, Instr.slice, prun_bind', prun_underlying h, Option.bind_some, Instr.sliceBounds, prun_pure, Option.isSome_none, Bool.false_eq_true, if_false]
  rw [run_bound (show n ≤ (⟨l.toArray⟩ : ByteArray).size from hn)]
  simp only [Option.bind_some, extract_bS]
  rw [show (⟨l.toArray⟩ : ByteArray).size = l.length from rfl, List.take_length]
  rfl
theorem bs_slice_hi (h : P.underlying t = some .string) {n : Nat} (hn : n ≤ l.length) : runS P H (.slice t (bS l) none (some (.int kd n)) none) = some (.val (bS (l.take n)) H) := by
  have hc : closed (.int kd n) = true := rfl
  simp only [runS, aSlice, bS, hc, Option.all_some, Option.all_none, Bool.and_self, if_true, aPure]
  simp only [Instr.sliceAt, Instr.slice, prun_bind', prun_underlying h, Option.bind_some, Instr.sliceBounds, prun_pure, Option.isSome_none, Bool.false_eq_true, if_false]
  rw [run_bound (show n ≤ (⟨l.toArray⟩ : ByteArray).size from hn)]
  simp only [Option.bind_some, extract_bS]
  rfl
theorem bs_slice_lohi (h : P.underlying t = some .string) {kd' : IntKind} {n m : Nat} (hn : n ≤ m) (hm : m ≤ l.length) : runS P H (.slice t (bS l) (some (.int kd n)) (some (.int kd' m)) none) = some (.val (bS ((l.take m).drop n)) H) := by
  have hc : closed (.int kd n) = true := rfl
  have hc' : closed (.int kd' m) = true := rfl
  simp only [runS, aSlice, bS, hc, hc', Option.all_some, Option.all_none, Bool.and_self, if_true, aPure]
  simp only [Instr.sliceAt, Instr.slice, prun_bind', prun_underlying h, Option.bind_some, Instr.sliceBounds, prun_pure, Option.isSome_none, Bool.false_eq_true, if_false]
  rw [run_bound (show m ≤ (⟨l.toArray⟩ : ByteArray).size from hm)]
  simp only [Option.bind_some]
  rw [run_bound hn]
  simp only [Option.bind_some, extract_bS]
  rfl

/-- A store. -/
def aSt (H : AH) (m i n : Nat) (v : Value) : Option AStep :=
  match H m with
  | some (.cells false cs) => if known v = true ∧ v.cells.size = n ∧ i + n ≤ cs.length ∧ v.cells.toList.all Value.oneCell' = true then
      some (.val unk (H.upd m (.cells false (awr cs i v.cells.toList)))) else none
  | _ => none

theorem store_of {n m i : Nat} {v : Value} (h : (P.info? t).map (·.size) = some n) : runS P H (.store t (.pointer (some ⟨m, i, none⟩)) v) = aSt H m i n v := by
  obtain ⟨inf, hi, hn⟩ := Option.map_eq_some_iff.1 h
  rw [run_store, hi]
  unfold aSt
  cases H m with
  | none => rfl
  | some o =>
    cases o with
    | cells ro cs =>
      cases ro with
      | true => rfl
      | false =>
        simp only [hn]
        by_cases hs : v.cells.size = n
        · simp [hs]
        · simp [hs]
    | _ => rfl

theorem indexAddr_sl {e sz : Nat} {m i n : Nat} {j : Int} (h : P.underlying t = some (.slice e)) (hs : (P.info? e).map (·.size) = some sz) :
    runS P H (.indexAddr t (.slice (some ⟨m, i, none⟩) n sz) (.int kd j)) = if 0 ≤ j ∧ j < n then some (.val (.pointer (some ⟨m, i + j.toNat * sz, none⟩)) H) else none := by
  obtain ⟨inf, hi, hn⟩ := Option.map_eq_some_iff.1 hs
  simp [runS, aIndexAddr, h, hi, hn]

theorem indexAddr_arr {e sz len : Nat} {m i : Nat} {j : Int} (h : P.underlying t = some (.array len e)) (hs : (P.info? e).map (·.size) = some sz) :
    runS P H (.indexAddr t (.pointer (some ⟨m, i, none⟩)) (.int kd j)) = if 0 ≤ j ∧ j < len then some (.val (.pointer (some ⟨m, i + j.toNat * sz, none⟩)) H) else none := by
  obtain ⟨inf, hi, hn⟩ := Option.map_eq_some_iff.1 hs
  simp [runS, aIndexAddr, h, hi, hn]

theorem index_arr {e sz len : Nat} {cs : Array Value} {j : Int} (h : P.underlying t = some (.array len e)) (hs : (P.info? e).map (·.size) = some sz) :
    runS P H (.index t (.agg cs) (.int kd j)) = if 0 ≤ j ∧ j < len then (aPart P e cs.toList (j.toNat * sz)).map fun v => .val v H else none := by
  obtain ⟨inf, hi, hn⟩ := Option.map_eq_some_iff.1 hs
  simp [runS, aIndex, h, hi, hn]

theorem slice_ptr {e sz len : Nat} {m i : Nat} {cs : List Value} {ro : Bool} {hi : Nat} (h : P.underlying t = some (.array len e)) (hs : (P.info? e).map (·.size) = some sz) (hm : H m = some (.cells ro cs)) (hl : i + len * sz ≤ cs.length) (hh : hi ≤ len) :
    runS P H (.slice t (.pointer (some ⟨m, i, none⟩)) none (some (.int kd hi)) none) = some (.val (.slice (some ⟨m, i, none⟩) hi sz) H) := by
  obtain ⟨inf, hi', hn⟩ := Option.map_eq_some_iff.1 hs
  simp [runS, aSlice, h, hi', hn, hm, aBound, hh, hl]

theorem len_slice {e : Nat} {m i n sz : Nat} (h : P.underlying t = some (.slice e)) : runS P H (.len t (.slice (some ⟨m, i, none⟩) n sz)) = some (.val (.int .i64 n) H) := by
  simp [runS, aLen, h, goInt]
theorem len_nil {e : Nat} (h : P.underlying t = some (.slice e)) : runS P H (.len t (.slice none 0 0)) = some (.val (.int .i64 0) H) := by
  simp [runS, aLen, h, goInt]

@[simp] theorem ret_nil {R : AOut → AH → Prop} : (real P).ret [] R H = R (.ret unk) H := rfl
theorem ret_cell {R : AOut → AH → Prop} {m i : Nat} {cs : List Value} {ro : Bool} {v : Value} (h : H m = some (.cells ro cs)) (hv : aPart P t cs i = some v) : (real P).ret [.cell (.pointer (some ⟨m, i, none⟩)) t] R H = R (.ret v) H := by
  simp [real, rvsRun, rvRun, h, hv]
@[simp] theorem ret_vals {R : AOut → AH → Prop} {u v : Value} : (real P).ret [.val u, .val v] R H = if known u = true ∧ known v = true then R (.ret (.tuple #[u, v])) H else False := by
  simp only [real, rvsRun, List.mapM_cons, List.mapM_nil, rvRun]
  by_cases hu : known u = true <;> by_cases hv : known v = true <;> simp [hu, hv]
theorem ret_cellval {R : AOut → AH → Prop} {m i : Nat} {cs : List Value} {ro : Bool} {u v : Value} (h : H m = some (.cells ro cs)) (hv : aPart P t cs i = some v) : (real P).ret [.cell (.pointer (some ⟨m, i, none⟩)) t, .val u] R H = if known v = true ∧ known u = true then R (.ret (.tuple #[v, u])) H else False := by
  simp only [real, rvsRun, List.mapM_cons, List.mapM_nil, rvRun, h, hv]
  by_cases hu : known u = true <;> by_cases hv : known v = true <;> simp [hu, hv]

theorem AH.le_upd' {H H' : AH} {m : Nat} {o : AObj} (hl : H.le H') (h : H m = none) : H.le (H'.upd m o) := fun n o' e => by
  have : n ≠ m := by intro he; subst he; rw [h] at e; cases e
  simp [AH.upd, this, hl n o' e]
theorem AH.none_of_le {H H' : AH} {m : Nat} (hl : H.le H') (h : H' m = none) : H m = none := by
  cases e : H m with
  | none => rfl
  | some o => rw [hl m o e] at h; cases h

/-- A store of one cell. -/
theorem aSt_one {m i : Nat} {cs : List Value} {v : Value} (h : H m = some (.cells false cs)) (hi : i < cs.length) (hk : known v = true) (hc : v.cells = #[v]) (ho : v.oneCell' = true) :
    aSt H m i 1 v = some (.val unk (H.upd m (.cells false (cs.set i v)))) := by
  simp only [aSt, h, hk, hc]
  rw [if_pos ⟨trivial, rfl, hi, by simp [ho]⟩]
  rfl

theorem wrap_u64' {n : Int} : IntKind.u64.wrap n = n % 18446744073709551616 := rfl
theorem wrap_u32' {n : Int} : IntKind.u32.wrap n = n % 4294967296 := rfl
theorem wrap_u8' {n : Int} : IntKind.u8.wrap n = n % 256 := rfl
theorem wrap_i64' {n : Int} : IntKind.i64.wrap n = if n % 18446744073709551616 ≥ 9223372036854775808 then n % 18446744073709551616 - 18446744073709551616 else n % 18446744073709551616 := by
  simp [IntKind.wrap, IntKind.bits, IntKind.signed]
/-- Bytes, as cells. -/
def bytesV (l : List UInt8) : List Value := l.map fun x => .int .u8 x.toNat
@[simp] theorem bytesV_length : (bytesV l).length = l.length := by simp [bytesV]
theorem bytesOf_map : ∀ (l : List UInt8), bytesOf (bytesV l) = some (l.map fun x => (x.toNat : Int)) := by
  intro l
  induction l with
  | nil => rfl
  | cons x l ih => simp only [bytesV] at ih; simp [bytesV, bytesOf, ih]

theorem push_all : ∀ (l : List UInt8) (r : ByteArray), (l.map fun x => (x.toNat : Int)).foldl (fun r n => r.push (UInt8.ofNat n.toNat)) r = ⟨(r.data.toList ++ l).toArray⟩ := by
  intro l
  induction l with
  | nil => intro r; simp
  | cons x l ih =>
    intro r
    simp only [List.map_cons, List.foldl_cons, ih]
    simp [ByteArray.push]

/-- Bytes into a text. -/
theorem conv_bytes {s d : TypeId} {b k : Nat} {ro : Bool} (hs : P.underlying s = some (.slice 5)) (hd : P.underlying d = some .string) (h5 : P.underlying 5 = some (.int .u8)) (h : H b = some (.cells ro (bytesV l))) (hk : k = l.length) (h0 : l ≠ []) :
    runS P H (.convert s d (.slice (some ⟨b, 0, none⟩) k 1)) = some (.val (bS l) H) := by
  have hc : closed (.slice (some ⟨b, 0, none⟩) k 1) = false := rfl
  have hk0 : k ≠ 0 := by rw [hk]; intro e; exact h0 (List.length_eq_zero_iff.1 e)
  have e : aCellsOf H 1 (.slice (some ⟨b, 0, none⟩) k 1) = some (bytesV l) := by
    simp only [aCellsOf, hk0, if_false, h]
    rw [if_pos (by simp [hk])]
    simp only [hk, List.drop_zero, Nat.mul_one]
    rw [List.take_of_length_le (by simp)]
  simp only [runS, aConvert, hc, Bool.false_eq_true, if_false, hs, hd, h5, e, Option.bind_some, bytesOf_map, push_all]
  rfl
end
end Go.Abs
