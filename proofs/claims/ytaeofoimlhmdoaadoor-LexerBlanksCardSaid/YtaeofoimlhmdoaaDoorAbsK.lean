/-
  One operation over the abstract heap: whichever it is.
-/
import Derived.Test.YtaeofoimlhmdoaaDoorAbs1
set_option linter.unusedSimpArgs false
set_option linter.unusedVariables false
namespace Go.Abs
open Go.RowKit

def bytesOf : List Value → Option (List Int)
  | [] => some []
  | .int .u8 n :: l => (bytesOf l).map (n :: ·)
  | _ => none

theorem bytesOf_eq : ∀ {l : List Value} {ns : List Int}, bytesOf l = some ns → l = ns.map (Value.int .u8) := by
  intro l
  induction l with
  | nil => intro ns h; simp [bytesOf] at h; subst h; rfl
  | cons v l ih =>
    intro ns h
    cases v with
    | int k n =>
      cases k <;> simp [bytesOf] at h
      obtain ⟨m, hm, rfl⟩ := h
      rw [ih hm]; rfl
    | _ => simp [bytesOf] at h

section
variable {P : Program} {J : Inj} {F : Nat → Nat → Prop} {H : AH} {w : World} {A : List Value} {a : Act}

theorem VRels.ints {ns : List Int} {l : List Value} (h : VRels J w (ns.map (Value.int .u8)) l) : l = ns.map (Value.int .u8) := by
  induction ns generalizing l with
  | nil => exact h.nil_inv
  | cons n ns ih =>
    obtain ⟨v', t', rfl, hv, ht⟩ := h.cons_inv
    rw [hv.int_inv, ih ht]; rfl

def aConvert (P : Program) (H : AH) (s d : TypeId) (x : Value) : Option AStep :=
  if closed x then aPure P H (convert s d x) else
  match P.underlying s, P.underlying d, x with
  | some (.slice e), some .string, .slice (some ⟨_, _, none⟩) _ _ =>
    match P.underlying e, (aCellsOf H 1 x).bind bytesOf with
    | some (.int .u8), some ns => some (.val (.string (ns.foldl (fun r n => r.push (UInt8.ofNat n.toNat)) ByteArray.empty)) H)
    | _, _ => none
  | _, _, _ => none

theorem aConvert_ok {s d : TypeId} {x x' : Value} {st : AStep} (h : aConvert P H s d x = some st) (S : Sim J F H w) (hx : ORel J w x x') :
    StepOk P J F H w ((do pure (Next.value (← convert s d x')) : Sem Next).run P w) st := by
  unfold aConvert at h
  split at h
  · rename_i hc
    rw [closed_eq hc (hx.known (by intro e; subst e; simp [closed, closedN, unk] at hc))]
    exact aPure_ok h S
  · split at h
    · rename_i e b i n c hs hd hncl
      split at h
      · rename_i ns he hns
        cases h
        obtain ⟨l, hl, hb⟩ := Option.bind_eq_some_iff.1 hns
        have hx' := hx.known (by simp [unk])
        obtain ⟨l', h1, h2, h3, h4⟩ := run_cellsOf (P := P) hl S hx'
        rw [bytesOf_eq hb] at h2
        have := h2.ints
        subst this
        have key : ∀ {r : Addr} {m cap : Nat}, x' = .slice (some r) m cap → m = n → (Conv.bytesToString x').run P w = .ok (.string (ns.foldl (fun r n => r.push (UInt8.ofNat n.toNat)) ByteArray.empty)) w := by
          intro r m cap ex em
          subst ex
          subst em
          refine run_bytesToString w r _ cap ns ?_
          simpa [Builtin.firstCells, aSliceLen] using h1
        have hkey : (Conv.bytesToString x').run P w = .ok (.string (ns.foldl (fun r n => r.push (UInt8.ofNat n.toNat)) ByteArray.empty)) w ∧ ∃ r m cap, x' = .slice (some r) m cap := by
          cases hx' with
          | slice hj hn hr => exact ⟨key rfl rfl, _, _, _, rfl⟩
          | slice0 hj => exact ⟨key rfl rfl, _, _, _, rfl⟩
        obtain ⟨hk, r, m, cap, ex⟩ := hkey
        refine StepOk.value S (v' := .string (ns.foldl (fun r n => r.push (UInt8.ofNat n.toNat)) ByteArray.empty)) ?_ (.inr (.string _))
        subst ex
        rw [Sem.run_bind, run_convert_bytes_string w s d e (some r) m cap hs he hd, hk]; rfl
      · cases h
    · cases h

def aClear (P : Program) (H : AH) (t : TypeId) (x : Value) : Option AStep :=
  match P.underlying t with
  | some (.slice elem) =>
    match x with
    | .slice none 0 0 => some (.val unk H)
    | .slice (some ⟨b, i, none⟩) n e =>
      if n = 0 then some (.val unk H) else
      match H b, (P.info? elem).bind (·.zero) with
      | some (.cells false cs), some z =>
        if z.cells.size = e ∧ i + n * e ≤ cs.length ∧ z.cells.toList.all closed = true ∧ z.cells.toList.all Value.oneCell' = true then
          some (.val unk (H.upd b (.cells false (awr cs i (aZeros z.cells.toList n))))) else none
      | _, _ => none
    | _ => none
  | _ => none

theorem aClear_ok {t ty : TypeId} {ts : Array TypeId} {x x' : Value} {st : AStep} (hts : ts[0]? = some t) (h : aClear P H t x = some st) (S : Sim J F H w) (hx : ORel J w x x') :
    StepOk P J F H w ((do pure (Next.value (← Builtin.clear_ ts ty #[x'])) : Sem Next).run P w) st := by
  have none' : ∀ {base : Option Addr} {c : Nat} {elem : TypeId}, P.underlying t = some (.slice elem) → x' = .slice base 0 c → StepOk P J F H w ((do pure (Next.value (← Builtin.clear_ ts ty #[x'])) : Sem Next).run P w) (.val unk H) := by
    intro base c elem ht ex
    subst ex
    refine StepOk.value S (v' := .tuple #[]) ?_ (.inl rfl)
    simp only [Builtin.clear_, hts, List.getElem?_toArray, List.getElem?_cons_zero, Sem.run_bind, run_underlying ht, Result.andThen_ok]
    cases base <;> rfl
  unfold aClear at h
  split at h
  · rename_i elem ht
    split at h
    · cases h
      have hx' := hx.known (by simp [unk])
      have ex : x' = .slice none 0 0 := by cases hx'; rfl
      exact none' ht ex
    · rename_i b i n e
      have hx' := hx.known (by simp [unk])
      split at h
      · rename_i hn
        subst hn
        cases h
        cases hx' with
        | slice hj hn hr => exact none' ht rfl
        | slice0 hj => exact none' ht rfl
      · rename_i hn
        split at h
        · rename_i cs z hb hz
          split at h
          · rename_i hc
            obtain ⟨rfl, hfit, hzc, hz1⟩ := hc
            cases h
            cases hx' with
            | slice0 hj => exact absurd rfl hn
            | slice hj hnc hrow =>
              rename_i r off c
              have hz0 : VRels J w (aZeros z.cells.toList n) (aZeros z.cells.toList n) := aZeros_closed hzc
              have hl : (aZeros z.cells.toList n).length = n * z.cells.size := by simp [aZeros_length]
              obtain ⟨r', off', cc, T, e1, e2, e3, e4, e5, e6⟩ := S.write (P := P) (i := i) hb (by rw [hl]; exact hfit) hz0 (by
                intro v hv
                rw [aZeros_eq] at hv
                simp only [List.mem_flatten, List.mem_replicate] at hv
                obtain ⟨l, ⟨_, rfl⟩, hv⟩ := hv
                exact (List.all_eq_true.1 hz1) v hv)
              rw [hj] at e1; cases e1
              refine ⟨.value (.tuple #[]), undef, _, J, F, ?_, .inl rfl, e5, e6, .inl rfl⟩
              have hst := e4 (off + i) rfl
              have hzl : (Builtin.zeroCells z.cells n).toList = aZeros z.cells.toList n := zeroCells_eq _ _
              obtain ⟨m, rfl⟩ : ∃ m, n = m + 1 := ⟨n - 1, by omega⟩
              simp only [Builtin.clear_, hts, List.getElem?_toArray, List.getElem?_cons_zero, Sem.run_bind, run_underlying ht, Result.andThen_ok, run_zero_bind hz, hzl, hst, Sem.run_pure]
          · cases h
        · cases h
    · cases h
  · cases h

/-- One of two values. -/
def aPick (H : AH) (c x y : Value) : Option AStep :=
  match c with
  | .bool t => some (.val (if t then x else y) H)
  | _ => none

/-- A call of a function value. -/
def aCall (f : Value) (args : List Value) : Option AStep :=
  match f with
  | .func (.func fid) first cap => if args.all known then some (.call fid (first.toList ++ args ++ cap.toList)) else none
  | _ => none

/-- An operation whose operands hold no addresses, by its run. -/
def aPureIf (P : Program) (H : AH) (c : Bool) (s : Sem Value) : Option AStep := if c then aPure P H s else none

/-- An operation over the abstract heap. -/
def aop (P : Program) (A : List Value) (H : AH) (o : Oper) : Option AStep :=
  match o.op with
  | .move x | .assign x => some (.val (aev A x) H)
  | .pick c x y => aPick H (aev A c) (aev A x) (aev A y)
  | .alloc t => aAlloc P H t
  | .box _ x => aBox H (aev A x)
  | .build t ps => aBuild P H t (ps.toList.map fun p => (p.1, aev A p.2))
  | .buildSlice t n ps => aBuildSlice P H t n (ps.toList.map fun p => (p.1, aev A p.2))
  | .load t x => aLoad P H t (aev A x)
  | .store t x y => aStore P H t (aev A x) (aev A y)
  | .nilCheck x => aNil H (aev A x)
  | .binOp op t x y _ => aBin P H op t (isC x || isC y) (aev A x) (aev A y)
  | .unOp op _ x => aPureIf P H (closed (aev A x)) (Op.unary op (aev A x))
  | .convert s d x => aConvert P H s d (aev A x)
  | .makeInterface t x => aMkIface P H t (aev A x)
  | .makeFunc fn f c => aMkFunc H fn (f.toList.map (aev A)) (c.toList.map (aev A))
  | .makeMap t r => aMakeMap P H t (r.map (aev A))
  | .makeSlice t l c => aMakeSlice P H t (aev A l) (aev A c)
  | .slice t x lo hi mx => aSlice P H t (aev A x) (lo.map (aev A)) (hi.map (aev A)) (mx.map (aev A))
  | .fieldAddr s x f => aFieldAddr P H s f (aev A x)
  | .field t x f => aField P H t f (aev A x)
  | .indexAddr t x i => aIndexAddr P H t (aev A x) (aev A i)
  | .index t x i => aIndex P H t (aev A x) (aev A i)
  | .lookup t m k ok => aLookup P H t (aev A m) (aev A k) ok
  | .mapUpdate t m k v | .insert t m k v => aUpdate P H t (aev A m) (aev A k) (aev A v)
  | .range t x => aRange P H t (aev A x)
  | .next x str => aNext H (aev A x) str
  | .typeAssert x _ t ok => aAssert P H (aev A x) t ok
  | .extract x i => aExtract H (aev A x) i
  | .panic x => aPanic (aev A x)
  | .call c => match c.callee with
    | .value f => aCall (aev A f) (c.args.toList.map (aev A))
    | .builtin .append => match c.args.toList, c.argTypes.toList with
      | [s, x], [t, t'] => if t = t' then aAppend P H t (aev A s) (aev A x) else none
      | _, _ => none
    | .builtin .len => match c.args.toList, c.argTypes.toList with
      | [x], [t] => aLen P H t (aev A x)
      | _, _ => none
    | .builtin .delete => match c.args.toList, c.argTypes.toList with
      | [m, k], t :: _ => aDelete P H t (aev A m) (aev A k)
      | _, _ => none
    | .builtin .clear => match c.args.toList, c.argTypes.toList with
      | [x], [t] => aClear P H t (aev A x)
      | _, _ => none
    | .builtin .min => aPureIf P H ((c.args.toList.map (aev A)).all closed) (Builtin.min_ #[] 0 (c.args.toList.map (aev A)).toArray)
    | .builtin .max => aPureIf P H ((c.args.toList.map (aev A)).all closed) (Builtin.max_ #[] 0 (c.args.toList.map (aev A)).toArray)
    | _ => none
  | _ => none

theorem aop_ok {o : Oper} {st : AStep} (h : aop P A H o = some st) (S : Sim J F H w) (hA : FRel J w A a.tmps) : StepOk P J F H w ((execOp a.eval o).run P w) st := by
  unfold aop at h
  split at h
  · rename_i x ho
    cases h
    exact StepOk.value S (v' := a.eval x) (by simp only [execOp, ho]; rfl) (hA.ev x)
  · rename_i x ho
    cases h
    exact StepOk.value S (v' := a.eval x) (by simp only [execOp, ho]; rfl) (hA.ev x)
  · rename_i c x y ho
    unfold aPick at h
    split at h
    · rename_i t hc
      cases h
      have he := hA.ev c
      rw [hc] at he
      have he := (he.known (by simp [unk])).bool_inv
      refine StepOk.value S (v' := if t then a.eval x else a.eval y) (by simp only [execOp, ho, he]; cases t <;> rfl) ?_
      cases t
      · exact hA.ev y
      · exact hA.ev x
    · cases h
  · rename_i t ho
    have := aAlloc_ok h S
    simpa only [execOp, ho] using this
  · rename_i t x ho
    have := aBox_ok (P := P) (t := t) h S (hA.ev x)
    simpa only [execOp, ho] using this
  · rename_i t ps ho
    have := aBuild_ok h S hA
    simpa only [execOp, ho] using this
  · rename_i t n ps ho
    have := aBuildSlice_ok h S hA
    simpa only [execOp, ho] using this
  · rename_i t x ho
    have := aLoad_ok h S (hA.ev x)
    simpa only [execOp, ho] using this
  · rename_i t x y ho
    have := aStore_ok h S (hA.ev x) (hA.ev y)
    simpa only [execOp, ho] using this
  · rename_i x ho
    exact aNil_ok ho h S hA
  · rename_i op t x y ty ho
    have := aBin_ok h S (hA.ev x) (hA.ev y)
    simpa only [execOp, ho] using this
  · rename_i op t x ho
    unfold aPureIf at h
    split at h
    · rename_i hc
      have := aPure_ok h S
      rw [← ev_closed hA hc] at this
      simpa only [execOp, ho] using this
    · cases h
  · rename_i s d x ho
    have := aConvert_ok h S (hA.ev x)
    simpa only [execOp, ho] using this
  · rename_i t x ho
    have := aMkIface_ok h S (hA.ev x)
    simpa only [execOp, ho] using this
  · rename_i fn f c ho
    have := aMkFunc_ok (P := P) h S hA
    simpa only [execOp, ho] using this
  · rename_i t r ho
    have := aMakeMap_ok h S hA
    simpa only [execOp, ho] using this
  · rename_i t l c ho
    have := aMakeSlice_ok h S (hA.ev l) (hA.ev c)
    simpa only [execOp, ho] using this
  · rename_i t x lo hi mx ho
    have := aSlice_ok h S hA (hA.ev x)
    simpa only [execOp, ho] using this
  · rename_i s x f ho
    have := aFieldAddr_ok h S (hA.ev x)
    simpa only [execOp, ho] using this
  · rename_i t x f ho
    have := aField_ok h S (hA.ev x)
    simpa only [execOp, ho] using this
  · rename_i t x i ho
    have := aIndexAddr_ok h S (hA.ev x) (hA.ev i)
    simpa only [execOp, ho] using this
  · rename_i t x i ho
    have := aIndex_ok h S (hA.ev x) (hA.ev i)
    simpa only [execOp, ho] using this
  · rename_i t m k ok ho
    have := aLookup_ok h S (hA.ev m) (hA.ev k)
    simpa only [execOp, ho] using this
  · rename_i t m k v ho
    have := aUpdate_ok h S (hA.ev m) (hA.ev k) (hA.ev v)
    simpa only [execOp, ho] using this
  · rename_i t m k v ho
    have := aUpdate_ok h S (hA.ev m) (hA.ev k) (hA.ev v)
    simpa only [execOp, ho] using this
  · rename_i t x ho
    have := aRange_ok h S (hA.ev x)
    simpa only [execOp, ho] using this
  · rename_i x str ho
    have := aNext_ok (P := P) (ty := o.type) h S (hA.ev x)
    simpa only [execOp, ho] using this
  · rename_i x xt t ok ho
    have := aAssert_ok (xt := xt) h S (hA.ev x)
    simpa only [execOp, ho] using this
  · rename_i x i ho
    have := aExtract_ok (P := P) h S (hA.ev x)
    simpa only [execOp, ho] using this
  · rename_i x ho
    have := aPanic_ok (P := P) (F := F) (H := H) h (hA.ev x)
    simpa only [execOp, ho] using this
  · rename_i c ho
    have argsList : (c.args.map a.eval) = (c.args.toList.map a.eval).toArray := by apply Array.ext'; simp
    split at h
    · rename_i f hcal
      unfold aCall at h
      split at h
      · rename_i fid first cap hf
        split at h
        · rename_i hk
          cases h
          have hfr := hA.ev f
          rw [hf] at hfr
          have hfr := hfr.known (by simp [unk])
          generalize hx' : a.eval f = f' at hfr
          generalize hx0 : Value.func (.func fid) first cap = f0 at hfr
          cases hfr with
          | func fn q1 q2 q3 q4 =>
            rename_i l1 l1' l2 l2'
            cases hx0
            have h1 : VRels J w l1 l1' := ⟨q1, q3⟩
            have h2 : VRels J w l2 l2' := ⟨q2, q4⟩
            have h3 := rel_map hA hk
            refine ⟨l1'.toArray ++ (c.args.map a.eval) ++ l2'.toArray, ?_, ?_⟩
            · simp only [execOp, ho, resolve, hcal, hx', Deferred.ofValue, Sem.run_bind, Sem.run_pure, Result.andThen_ok, invoke]
            · simp only [Array.toList_append, List.toList_toArray, Array.toList_map]
              simpa using (h1.append h3).append h2
          | _ => cases hx0
        · cases h
      · cases h
    · rename_i hcal
      split at h
      · rename_i s x t t' hargs hts
        split at h
        · rename_i e
          subst e
          have := aAppend_ok (ty := o.type) h S (hA.ev s) (hA.ev x)
          have ea : c.args = #[s, x] := by apply Array.ext'; simpa using hargs
          have et : c.argTypes = #[t, t] := by apply Array.ext'; simpa using hts
          simp only [execOp, ho, resolve, hcal, ea, et, invoke, builtin, Sem.run_bind, Sem.run_pure, Result.andThen_ok, List.map_toArray, List.map_cons, List.map_nil] at this ⊢
          exact this
        · cases h
      · cases h
    · rename_i hcal
      split at h
      · rename_i x t hargs hts
        have := aLen_ok (ty := o.type) h S (hA.ev x)
        have ea : c.args = #[x] := by apply Array.ext'; simpa using hargs
        have et : c.argTypes = #[t] := by apply Array.ext'; simpa using hts
        simp only [execOp, ho, resolve, hcal, ea, et, invoke, builtin, Sem.run_bind, Sem.run_pure, Result.andThen_ok, List.map_toArray, List.map_cons, List.map_nil] at this ⊢
        exact this
      · cases h
    · rename_i hcal
      split at h
      · rename_i m k t ts hargs hts
        have := aDelete_ok (ty := o.type) (ts := c.argTypes) (by rw [← Array.getElem?_toList, hts]; rfl) h S (hA.ev m) (hA.ev k)
        have ea : c.args = #[m, k] := by apply Array.ext'; simpa using hargs
        simp only [execOp, ho, resolve, hcal, ea, invoke, builtin, Sem.run_bind, Sem.run_pure, Result.andThen_ok, List.map_toArray, List.map_cons, List.map_nil] at this ⊢
        exact this
      · cases h
    · rename_i hcal
      split at h
      · rename_i x t hargs hts
        have := aClear_ok (ty := o.type) (ts := c.argTypes) (by rw [← Array.getElem?_toList, hts]; rfl) h S (hA.ev x)
        have ea : c.args = #[x] := by apply Array.ext'; simpa using hargs
        simp only [execOp, ho, resolve, hcal, ea, invoke, builtin, Sem.run_bind, Sem.run_pure, Result.andThen_ok, List.map_toArray, List.map_cons, List.map_nil] at this ⊢
        exact this
      · cases h
    · rename_i hcal
      unfold aPureIf at h
      split at h
      · rename_i hc
        have := aPure_ok h S
        have e2 : (c.args.toList.map (aev A)).toArray = c.args.map a.eval := by
          rw [map_ev_closed hA (xs := c.args) (by simpa [List.all_map] using hc)]
          apply Array.ext'; simp
        rw [e2] at this
        simp only [execOp, ho, resolve, hcal, invoke, builtin, Sem.run_bind, Sem.run_pure, Result.andThen_ok] at this ⊢
        exact this
      · cases h
    · rename_i hcal
      unfold aPureIf at h
      split at h
      · rename_i hc
        have := aPure_ok h S
        have e2 : (c.args.toList.map (aev A)).toArray = c.args.map a.eval := by
          rw [map_ev_closed hA (xs := c.args) (by simpa [List.all_map] using hc)]
          apply Array.ext'; simp
        rw [e2] at this
        simp only [execOp, ho, resolve, hcal, invoke, builtin, Sem.run_bind, Sem.run_pure, Result.andThen_ok] at this ⊢
        exact this
      · cases h
    · cases h
  · cases h

#print axioms aop_ok
end
end Go.Abs
