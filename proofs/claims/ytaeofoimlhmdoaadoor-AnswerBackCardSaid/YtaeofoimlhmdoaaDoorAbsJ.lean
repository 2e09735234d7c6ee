/-
  One operation over the abstract heap: maps; clear; bytes as a string.
-/
import Derived.Test.YtaeofoimlhmdoaaDoorAbsI
set_option linter.unusedSimpArgs false
set_option linter.unusedVariables false
namespace Go.Abs
open Go.RowKit

/-- The entries of a map as the model's, their stamps left out. -/
def aEntries (es : List (Value × Value)) : List MapEntry := es.map fun e => { key := e.1, val := .bool false, born := 0 }

/-- Where a key stands among some: none: it isn't there. -/
def aFind (P : Program) (kt : TypeId) (k : Value) (es : List (Value × Value)) : Option (Option Nat) :=
  (prun P (Instr.findKey kt k (aEntries es))).map fun r => r.map (·.1)

section
variable {P : Program} {J : Inj} {F : Nat → Nat → Prop} {H : AH} {w : World} {A : List Value} {a : Act}

/-- The key's place hangs on the keys alone. -/
theorem findNow_keys (kind : TypeDesc) (k : Value) : ∀ (l l' : List MapEntry) (i : Nat), l.map (·.key) = l'.map (·.key) →
    ∀ r, Instr.findNow kind k l i = some r → ∃ r', Instr.findNow kind k l' i = some r' ∧ r'.map (·.1) = r.map (·.1) ∧ ∀ j v, r' = some (j, v) → i ≤ j ∧ (l'[j - i]?).map (·.val) = some v := by
  intro l
  induction l with
  | nil =>
    intro l' i h r hr
    cases l' with
    | nil => simp [Instr.findNow] at hr ⊢; subst hr; simp
    | cons e l' => simp at h
  | cons e l ih =>
    intro l' i h r hr
    cases l' with
    | nil => simp at h
    | cons e' l' =>
      simp at h
      obtain ⟨hk, h⟩ := h
      simp only [Instr.findNow] at hr ⊢
      rw [← hk]
      cases hs : Instr.sameNow kind k e.key with
      | none => rw [hs] at hr; cases hr
      | some b =>
        rw [hs] at hr
        cases b with
        | true =>
          simp at hr ⊢
          subst hr
          simp
        | false =>
          simp only at hr ⊢
          obtain ⟨r', e1, e2, e3⟩ := ih l' (i + 1) h r hr
          refine ⟨r', e1, e2, fun j v hj => ?_⟩
          obtain ⟨g1, g2⟩ := e3 j v hj
          refine ⟨by omega, ?_⟩
          rw [show j - i = (j - (i + 1)) + 1 by omega, List.getElem?_cons_succ]
          exact g2

theorem findAsking_keys (kt : TypeId) (k : Value) : ∀ (l l' : List MapEntry) (i : Nat), l.map (·.key) = l'.map (·.key) →
    ∀ r, prun P (Instr.findAsking kt k l i) = some r → ∃ r', prun P (Instr.findAsking kt k l' i) = some r' ∧ r'.map (·.1) = r.map (·.1) ∧ ∀ j v, r' = some (j, v) → i ≤ j ∧ (l'[j - i]?).map (·.val) = some v := by
  intro l
  induction l with
  | nil =>
    intro l' i h r hr
    cases l' with
    | nil => simp [Instr.findAsking, prun_pure] at hr ⊢; subst hr; simp
    | cons e l' => simp at h
  | cons e l ih =>
    intro l' i h r hr
    cases l' with
    | nil => simp at h
    | cons e' l' =>
      simp at h
      obtain ⟨hk, h⟩ := h
      simp only [Instr.findAsking, prun_bind'] at hr ⊢
      rw [← hk]
      cases hs : prun P (Op.equal kt k e.key) with
      | none => rw [hs] at hr; cases hr
      | some b =>
        rw [hs] at hr
        cases b with
        | true =>
          simp [prun_pure] at hr ⊢
          subst hr
          simp
        | false =>
          simp only [Option.bind_some, Bool.false_eq_true, if_false] at hr ⊢
          obtain ⟨r', e1, e2, e3⟩ := ih l' (i + 1) h r hr
          refine ⟨r', e1, e2, fun j v hj => ?_⟩
          obtain ⟨g1, g2⟩ := e3 j v hj
          refine ⟨by omega, ?_⟩
          rw [show j - i = (j - (i + 1)) + 1 by omega, List.getElem?_cons_succ]
          exact g2

theorem findKey_keys {kt : TypeId} {k : Value} {l l' : List MapEntry} (h : l.map (·.key) = l'.map (·.key)) {r : Option (Nat × Value)} (hr : prun P (Instr.findKey kt k l) = some r) (w : World) :
    ∃ r', (Instr.findKey kt k l').run P w = .ok r' w ∧ r'.map (·.1) = r.map (·.1) ∧ ∀ j v, r' = some (j, v) → (l'[j]?).map (·.val) = some v := by
  unfold Instr.findKey at hr ⊢
  rw [prun_bind'] at hr
  cases hu : prun P (underlying kt) with
  | none => rw [hu] at hr; cases hr
  | some d =>
    rw [hu, Option.bind_some] at hr
    rw [Sem.run_bind, prun_run _ hu w, Result.andThen_ok]
    cases hn : Instr.findNow d k l 0 with
    | some r0 =>
      simp only [hn, prun_pure] at hr
      cases hr
      obtain ⟨r', e1, e2, e3⟩ := findNow_keys d k l l' 0 h _ hn
      refine ⟨r', by simp [e1], e2, fun j v hj => by simpa using (e3 j v hj).2⟩
    | none =>
      simp only [hn] at hr
      have hn' : Instr.findNow d k l' 0 = none := by
        cases hc : Instr.findNow d k l' 0 with
        | none => rfl
        | some x =>
          obtain ⟨r', e1, _⟩ := findNow_keys d k l' l 0 h.symm _ hc
          rw [hn] at e1; cases e1
      obtain ⟨r', e1, e2, e3⟩ := findAsking_keys (P := P) kt k l l' 0 h _ hr
      refine ⟨r', by simp only [hn']; exact prun_run _ e1 w, e2, fun j v hj => by simpa using (e3 j v hj).2⟩

theorem keys_closed {es : List (Value × Value)} {cc : List MapEntry} (h : EntriesRel J w es cc) (hc : (es.map (·.1)).all closed = true) : (aEntries es).map (·.key) = cc.map (·.key) := by
  have e1 : (aEntries es).map (·.key) = es.map (·.1) := by simp [aEntries]
  rw [e1]
  refine List.ext_getElem? fun i => ?_
  have hl := h.1.1
  rcases Nat.lt_or_ge i (es.map (·.1)).length with g | g
  · have e2 := List.getElem?_eq_getElem g
    obtain ⟨v', e3, hr⟩ := h.1.get e2
    rw [e2, e3]
    rw [closed_eq ((List.all_eq_true.1 hc) _ (List.getElem_mem g)) hr]
  · rw [List.getElem?_eq_none g, List.getElem?_eq_none (by omega)]

def aLookup (P : Program) (H : AH) (t : TypeId) (m k : Value) (ok : Bool) : Option AStep :=
  match P.underlying t with
  | some (.map kt et) =>
    if closed k then
      match m with
      | .map none =>
        match prun P (Instr.checkKey true 10000 kt k), (P.info? et).bind (·.zero) with
        | some _, some z => if closed z then some (.val (if ok then .tuple #[z, .bool false] else z) H) else none
        | _, _ => none
      | .map (some r) =>
        match H r with
        | some (.map es) =>
          match prun P (Instr.checkKey es.isEmpty 10000 kt k) with
          | some _ =>
            if (es.map (·.1)).all closed then
              match aFind P kt k es with
              | some (some i) => match es[i]? with
                | some e => if known e.2 then some (.val (if ok then .tuple #[e.2, .bool true] else e.2) H) else none
                | none => none
              | some none => match (P.info? et).bind (·.zero) with
                | some z => if closed z then some (.val (if ok then .tuple #[z, .bool false] else z) H) else none
                | none => none
              | none => none
            else none
          | none => none
        | _ => none
      | _ => none
    else none
  | _ => none

theorem run_getMap {r : Nat} {cc : Array MapEntry} {clk : Nat} (h : w.heap[r]? = some (.map cc clk)) : (getObj r).run P w = .ok (.map cc clk) w := by
  simp [getObj, Sem.run, h]

theorem two_rel {v v' : Value} (b : Bool) (hv : VRel J w v v') : VRel J w (.tuple #[v, .bool b]) (.tuple #[v', .bool b]) := VRel.tuples (.cons hv (.cons (.bool b) .nil))

theorem aLookup_ok {t : TypeId} {m m' k k' : Value} {ok : Bool} {st : AStep} (h : aLookup P H t m k ok = some st) (S : Sim J F H w) (hm : ORel J w m m') (hk : ORel J w k k') :
    StepOk P J F H w ((do pure (Next.value (← Instr.lookup t m' k' ok)) : Sem Next).run P w) st := by
  have fin : ∀ {v v' : Value} {b : Bool}, VRel J w v v' → (Instr.lookup t m' k' ok).run P w = .ok (if ok then .tuple #[v', .bool b] else v') w →
      StepOk P J F H w ((do pure (Next.value (← Instr.lookup t m' k' ok)) : Sem Next).run P w) (.val (if ok then .tuple #[v, .bool b] else v) H) := by
    intro v v' b hv hr
    refine StepOk.value S (v' := if ok then .tuple #[v', .bool b] else v') (by rw [Sem.run_bind, hr]; rfl) (.inr ?_)
    cases ok
    · exact hv
    · exact two_rel b hv
  unfold aLookup at h
  split at h
  · rename_i kt et ht
    split at h
    · rename_i hck
      have hkk : k' = k := closed_eq hck (hk.known (by intro e; subst e; simp [closed, closedN, unk] at hck))
      subst hkk
      split at h
      · have hm' := hm.known (by simp [unk])
        have em : m' = .map none := by cases hm'; rfl
        subst em
        split at h
        · rename_i u z hchk hz
          split at h
          · rename_i hcl
            cases h
            refine fin (v' := z) (closed_self hcl) ?_
            have hfk : (Instr.findKey kt k' []).run P w = .ok none w := by
              unfold Instr.findKey
              have hu : ∃ d, prun P (underlying kt) = some d := by
                cases hu : prun P (underlying kt) with
                | some d => exact ⟨d, rfl⟩
                | none =>
                  unfold Instr.checkKey at hchk
                  rw [prun_bind', hu] at hchk; cases hchk
              obtain ⟨d, hu⟩ := hu
              rw [Sem.run_bind, prun_run _ hu w, Result.andThen_ok]
              rfl
            simp only [Instr.lookup, Sem.run_bind, run_underlying ht, Result.andThen_ok, Sem.run_pure]
            have e1 : (#[] : Array MapEntry).isEmpty = true := rfl
            rw [e1, prun_run _ hchk w]
            simp only [Result.andThen_ok]
            rw [hfk]
            simp [run_zero_bind hz]
          · cases h
        · cases h
      · rename_i r
        split at h
        · rename_i es hr
          have hm' := hm.known (by simp [unk])
          cases hm' with
          | map hj =>
            rename_i r'
            obtain ⟨r2, cc, clk, h1, h2, h3, h4, h5, h6⟩ := S.obj r _ hr
            rw [hj] at h1; cases h1
            split at h
            · rename_i u hchk
              split at h
              · rename_i hcl
                have hkeys := keys_closed h4 hcl
                have hemp : cc.isEmpty = es.isEmpty := by
                  have := h4.1.1
                  simp at this
                  rw [Array.isEmpty, ← this]
                  cases es <;> simp
                have hrun1 : ∀ i v, (Instr.findKey kt k' cc.toList).run P w = .ok (some (i, v)) w → (Instr.lookup t (.map (some r')) k' ok).run P w = .ok (if ok then .tuple #[v, .bool true] else v) w := by
                  intro i v hf
                  simp only [Instr.lookup, Sem.run_bind, run_underlying ht, Result.andThen_ok, run_getMap h3, Sem.run_pure, hemp, prun_run _ hchk w, hf]
                have hrun2 : ∀ z, (Instr.findKey kt k' cc.toList).run P w = .ok none w → (zeroValue et).run P w = .ok z w → (Instr.lookup t (.map (some r')) k' ok).run P w = .ok (if ok then .tuple #[z, .bool false] else z) w := by
                  intro z hf hz
                  simp only [Instr.lookup, Sem.run_bind, run_underlying ht, Result.andThen_ok, run_getMap h3, Sem.run_pure, hemp, prun_run _ hchk w, hf, hz]
                split at h
                · rename_i i hfind
                  split at h
                  · rename_i e he
                    split at h
                    · rename_i hkn
                      cases h
                      unfold aFind at hfind
                      obtain ⟨r0, hr0, hr1⟩ := Option.map_eq_some_iff.1 hfind
                      obtain ⟨r', g1, g2, g3⟩ := findKey_keys (P := P) hkeys hr0 w
                      rw [hr1] at g2
                      cases r' with
                      | none => cases g2
                      | some p =>
                        obtain ⟨j, v⟩ := p
                        simp at g2
                        subst g2
                        have g4 := g3 j v rfl
                        obtain ⟨v', q1, q2⟩ := h4.2.get (i := j) (v := e.2) (by simp [he])
                        have : v' = v := by
                          rw [List.getElem?_map] at q1
                          rw [q1] at g4; exact Option.some.inj g4
                        subst this
                        exact fin q2 (hrun1 _ _ g1)
                    · cases h
                  · cases h
                · rename_i hfind
                  split at h
                  · rename_i z hz
                    split at h
                    · rename_i hzc
                      cases h
                      unfold aFind at hfind
                      obtain ⟨r0, hr0, hr1⟩ := Option.map_eq_some_iff.1 hfind
                      obtain ⟨r', g1, g2, g3⟩ := findKey_keys (P := P) hkeys hr0 w
                      rw [hr1] at g2
                      cases r' with
                      | some p => cases g2
                      | none => exact fin (v' := z) (closed_self hzc) (hrun2 z g1 (run_zero_bind hz w))
                    · cases h
                  · cases h
                · cases h
              · cases h
            · cases h
        · cases h
      · cases h
    · cases h
  · cases h

/-- A map changes: its entries, and the count of stamps. -/
theorem Sim.setMap (S : Sim J F H w) {b r : Nat} {es es' : List (Value × Value)} {cc cc' : Array MapEntry} {clk clk' : Nat} (hb : H b = some (.map es)) (h1 : J b = some (r, 0)) (h2 : ∀ x, F b x ↔ x = r)
    (h3 : w.heap[r]? = some (.map cc clk)) (hrel : EntriesRel J w es' cc'.toList) (hnd : (cc'.toList.map (·.born)).Nodup) (hlt : ∀ e ∈ cc'.toList, e.born < clk') :
    (setObj r (.map cc' clk')).run P w = .ok () { w with heap := w.heap.setIfInBounds r (.map cc' clk') } ∧
    Sim J F (H.upd b (.map es')) { w with heap := w.heap.setIfInBounds r (.map cc' clk') } ∧ Evolves J F H w J F (H.upd b (.map es')) { w with heap := w.heap.setIfInBounds r (.map cc' clk') } := by
  have hl := lt_of_block h3
  have hother : ∀ k, k ≠ r → ({ w with heap := w.heap.setIfInBounds r (.map cc' clk') } : World).heap[k]? = w.heap[k]? := fun k hk => by
    simp [Array.getElem?_setIfInBounds, Ne.symm hk]
  have hrows : RowsLe w { w with heap := w.heap.setIfInBounds r (.map cc' clk') } := rows_setOther h3 (by simp) hother
  refine ⟨by simp [setObj, Sem.run, h3], ?_⟩
  exact S.update (J' := J) (F' := F) (a := b) (o' := .map es') (w' := { w with heap := w.heap.setIfInBounds r (.map cc' clk') })
    (Inj.le_refl J) hrows (by simp) rfl rfl rfl (.inl ⟨_, hb, rfl⟩) (fun k hk hno => hother k fun e => hno ⟨⟨_, hb, rfl⟩, (h2 k).2 e⟩) (fun _ _ => rfl)
    (fun k hk => .inr ⟨⟨_, hb, rfl⟩, hk⟩) ⟨r, cc', clk', h1, h2, by simp [Array.getElem?_setIfInBounds, hl], hrel.mono (Inj.le_refl J) hrows, hnd, hlt⟩ (S.named b _ hb) S.bound (fun c k o e => by simpa using S.within c k o e)

def aUpdate (P : Program) (H : AH) (t : TypeId) (m k v : Value) : Option AStep :=
  match P.underlying t with
  | some (.map kt _) =>
    match m with
    | .map (some r) =>
      match H r with
      | some (.map es) =>
        if closed k = true ∧ known v = true ∧ (es.map (·.1)).all closed = true then
          match prun P (Instr.checkKey false 10000 kt k) with
          | some _ =>
            match aFind P kt k es with
            | some (some i) => match es[i]? with
              | some e => match prun P (Instr.keyThatStays e.1 k) with
                | some k1 => if closed k1 then some (.val unk (H.upd r (.map (es.set i (k1, v))))) else none
                | none => none
              | none => none
            | some none => some (.val unk (H.upd r (.map (es ++ [(k, v)]))))
            | none => none
          | none => none
        else none
      | _ => none
    | _ => none
  | _ => none

theorem EntriesRel.set {es : List (Value × Value)} {cc : List MapEntry} (h : EntriesRel J w es cc) (i : Nat) {k k' v v' : Value} (hk : VRel J w k k') (hv : VRel J w v v') (b : Nat) :
    EntriesRel J w (es.set i (k, v)) (cc.set i { key := k', val := v', born := b }) := by
  constructor
  · have := h.1.set i hk
    simpa [List.map_set] using this
  · have := h.2.set i hv
    simpa [List.map_set] using this

theorem modify_toList (cc : Array MapEntry) (i : Nat) (f : MapEntry → MapEntry) (e : MapEntry) (he : cc[i]? = some e) : (cc.modify i f).toList = cc.toList.set i (f e) := by
  apply List.ext_getElem?
  intro j
  simp only [Array.getElem?_toList, Array.getElem?_modify, List.getElem?_set, Array.length_toList]
  by_cases hj : i = j
  · subst hj
    obtain ⟨hlt, hev⟩ := Array.getElem?_eq_some_iff.1 he
    simp [hlt, hev]
  · simp [hj]

theorem aUpdate_ok {t : TypeId} {m m' k k' v v' : Value} {st : AStep} (h : aUpdate P H t m k v = some st) (S : Sim J F H w) (hm : ORel J w m m') (hk : ORel J w k k') (hv : ORel J w v v') :
    StepOk P J F H w ((do Instr.mapUpdate t m' k' v'; pure Next.skip : Sem Next).run P w) st := by
  unfold aUpdate at h
  split at h
  · rename_i kt et ht
    split at h
    · rename_i r
      split at h
      · rename_i es hr
        split at h
        · rename_i hc
          obtain ⟨hck, hkv, hcl⟩ := hc
          have hkk : k' = k := closed_eq hck (hk.known (by intro e; subst e; simp [closed, closedN, unk] at hck))
          subst hkk
          have hvv := hv.known (known_ne hkv)
          have hm' := hm.known (by simp [unk])
          cases hm' with
          | map hj =>
            rename_i r'
            obtain ⟨r2, cc, clk, h1, h2, h3, h4, h5, h6⟩ := S.obj r _ hr
            rw [hj] at h1; cases h1
            have hkeys := keys_closed h4 hcl
            split at h
            · rename_i u hchk
              split at h
              · rename_i i hfind
                split at h
                · rename_i e he
                  split at h
                  · rename_i k1 hk1
                    split at h
                    · rename_i hk1c
                      cases h
                      unfold aFind at hfind
                      obtain ⟨r0, hr0, hr1⟩ := Option.map_eq_some_iff.1 hfind
                      obtain ⟨rr, g1, g2, g3⟩ := findKey_keys (P := P) hkeys hr0 w
                      rw [hr1] at g2
                      cases rr with
                      | none => cases g2
                      | some p =>
                        obtain ⟨j, vv⟩ := p
                        simp at g2
                        subst g2
                        have hj : j < cc.size := by
                          have := g3 j vv rfl
                          rcases Nat.lt_or_ge j cc.size with g | g
                          · exact g
                          · rw [List.getElem?_eq_none (by simpa using g)] at this; cases this
                        have hkeyj : cc[j].key = e.1 := by
                          have := congrArg (fun l => l[j]?) hkeys
                          simp [aEntries, he, hj] at this
                          exact this.symm
                        have hmod := modify_toList cc j (fun x => { x with key := k1, val := v' }) cc[j] (Array.getElem?_eq_getElem hj)
                        obtain ⟨s1, s2, s3⟩ := S.setMap (P := P) (es' := es.set j (k1, v)) (cc' := cc.modify j fun x => { x with key := k1, val := v' }) (clk' := clk) hr ‹_› h2 h3
                          (by rw [hmod]; exact h4.set j (closed_self hk1c) hvv _)
                          (by
                            rw [hmod, List.map_set]
                            have : (List.map (·.born) cc.toList).set j cc[j].born = List.map (·.born) cc.toList := by
                              apply List.ext_getElem?
                              intro q
                              rw [List.getElem?_set]
                              split
                              · rename_i e; subst e; simp [hj]
                              · rfl
                            rw [this]; exact h5)
                          (by
                            rw [hmod]
                            intro x hx
                            rcases List.mem_or_eq_of_mem_set hx with g | g
                            · exact h6 x g
                            · subst g; exact h6 cc[j] (by simp))
                        refine ⟨.skip, undef, _, J, F, ?_, .inr ⟨rfl, rfl⟩, s2, s3, .inl rfl⟩
                        have e3 : (cc[j]?).map (·.key) = some e.1 := by simp [hj, hkeyj]
                        simp only [Instr.mapUpdate, Sem.run_bind, run_underlying ht, Result.andThen_ok, run_getMap h3, prun_run _ hchk w, g1, e3, Option.getD_some, prun_run _ hk1 w, s1, Sem.run_pure]
                    · cases h
                  · cases h
                · cases h
              · rename_i hfind
                cases h
                unfold aFind at hfind
                obtain ⟨r0, hr0, hr1⟩ := Option.map_eq_some_iff.1 hfind
                obtain ⟨rr, g1, g2, g3⟩ := findKey_keys (P := P) hkeys hr0 w
                rw [hr1] at g2
                cases rr with
                | some p => cases g2
                | none =>
                  obtain ⟨s1, s2, s3⟩ := S.setMap (P := P) (es' := es ++ [(k', v)]) (cc' := cc.push { key := k', val := v', born := clk }) (clk' := clk + 1) hr ‹_› h2 h3
                    (by
                      constructor
                      · simpa using h4.1.append (VRels.cons (closed_self hck) VRels.nil)
                      · simpa using h4.2.append (VRels.cons hvv VRels.nil))
                    (by
                      rw [Array.toList_push, List.map_append, List.nodup_append]
                      refine ⟨h5, by simp, ?_⟩
                      intro x hx y hy
                      simp at hy
                      subst hy
                      simp only [List.mem_map] at hx
                      obtain ⟨q, hq, rfl⟩ := hx
                      have := h6 q hq
                      omega)
                    (by
                      intro x hx
                      rw [Array.toList_push, List.mem_append] at hx
                      rcases hx with g | g
                      · have := h6 x g; omega
                      · simp at g; subst g; simp)
                  refine ⟨.skip, undef, _, J, F, ?_, .inr ⟨rfl, rfl⟩, s2, s3, .inl rfl⟩
                  simp only [Instr.mapUpdate, Sem.run_bind, run_underlying ht, Result.andThen_ok, run_getMap h3, prun_run _ hchk w, g1, s1, Sem.run_pure]
              · cases h
            · cases h
        · cases h
      · cases h
    · cases h
  · cases h

def aDelete (P : Program) (H : AH) (t : TypeId) (m k : Value) : Option AStep :=
  match P.underlying t with
  | some (.map kt _) =>
    match m with
    | .map (some r) =>
      match H r with
      | some (.map es) =>
        if closed k = true ∧ (es.map (·.1)).all closed = true then
          match prun P (Instr.checkKey es.isEmpty 10000 kt k) with
          | some _ =>
            match aFind P kt k es with
            | some (some i) => some (.val unk (H.upd r (.map (es.eraseIdx i))))
            | some none => some (.val unk (H.upd r (.map es)))
            | none => none
          | none => none
        else none
      | _ => none
    | _ => none
  | _ => none

theorem VRels.eraseIdx {l l' : List Value} (h : VRels J w l l') (n : Nat) : VRels J w (l.eraseIdx n) (l'.eraseIdx n) := by
  rw [List.eraseIdx_eq_take_drop_succ, List.eraseIdx_eq_take_drop_succ]
  exact (h.take n).append (h.drop _)

theorem aDelete_ok {t ty : TypeId} {m m' k k' : Value} {ts : Array TypeId} {st : AStep} (hts : ts[0]? = some t) (h : aDelete P H t m k = some st) (S : Sim J F H w) (hm : ORel J w m m') (hk : ORel J w k k') :
    StepOk P J F H w ((do pure (Next.value (← Builtin.delete_ ts ty #[m', k'])) : Sem Next).run P w) st := by
  unfold aDelete at h
  split at h
  · rename_i kt et ht
    split at h
    · rename_i r
      split at h
      · rename_i es hr
        split at h
        · rename_i hc
          obtain ⟨hck, hcl⟩ := hc
          have hkk : k' = k := closed_eq hck (hk.known (by intro e; subst e; simp [closed, closedN, unk] at hck))
          subst hkk
          have hm' := hm.known (by simp [unk])
          cases hm' with
          | map hj =>
            rename_i r'
            obtain ⟨r2, cc, clk, h1, h2, h3, h4, h5, h6⟩ := S.obj r _ hr
            rw [hj] at h1; cases h1
            have hkeys := keys_closed h4 hcl
            have hemp : cc.isEmpty = es.isEmpty := by
              have := h4.1.1
              simp at this
              rw [Array.isEmpty, ← this]
              cases es <;> simp
            split at h
            · rename_i u hchk
              split at h
              · rename_i i hfind
                cases h
                unfold aFind at hfind
                obtain ⟨r0, hr0, hr1⟩ := Option.map_eq_some_iff.1 hfind
                obtain ⟨rr, g1, g2, g3⟩ := findKey_keys (P := P) hkeys hr0 w
                rw [hr1] at g2
                cases rr with
                | none => cases g2
                | some p =>
                  obtain ⟨j, vv⟩ := p
                  simp at g2
                  subst g2
                  have hl : (cc.eraseIdxIfInBounds j).toList = cc.toList.eraseIdx j := by simp
                  obtain ⟨s1, s2, s3⟩ := S.setMap (P := P) (es' := es.eraseIdx j) (cc' := cc.eraseIdxIfInBounds j) (clk' := clk) hr ‹_› h2 h3
                    (by
                      rw [hl]
                      have em : ∀ {α β : Type} (f : α → β) (l : List α), (l.eraseIdx j).map f = (l.map f).eraseIdx j := fun f l => by
                        rw [List.eraseIdx_eq_take_drop_succ, List.eraseIdx_eq_take_drop_succ, List.map_append, List.map_take, List.map_drop]
                      exact ⟨by rw [em, em]; exact h4.1.eraseIdx j, by rw [em, em]; exact h4.2.eraseIdx j⟩)
                    (by
                      rw [hl]
                      exact List.Nodup.sublist ((List.eraseIdx_sublist (l := cc.toList) (k := j)).map _) h5)
                    (by
                      rw [hl]
                      intro x hx
                      exact h6 x (List.mem_of_mem_eraseIdx hx))
                  refine ⟨.value (.tuple #[]), undef, _, J, F, ?_, .inl rfl, s2, s3, .inl rfl⟩
                  simp only [Builtin.delete_, hts, List.getElem?_toArray, List.getElem?_cons_zero, List.getElem?_cons_succ, Sem.run_bind, run_underlying ht, Result.andThen_ok, run_getMap h3, hemp, prun_run _ hchk w, g1, s1, Sem.run_pure]
              · rename_i hfind
                cases h
                unfold aFind at hfind
                obtain ⟨r0, hr0, hr1⟩ := Option.map_eq_some_iff.1 hfind
                obtain ⟨rr, g1, g2, g3⟩ := findKey_keys (P := P) hkeys hr0 w
                rw [hr1] at g2
                cases rr with
                | some p => cases g2
                | none =>
                  obtain ⟨s1, s2, s3⟩ := S.setMap (P := P) (es' := es) (cc' := cc) (clk' := clk) hr ‹_› h2 h3 h4 h5 h6
                  refine ⟨.value (.tuple #[]), undef, _, J, F, ?_, .inl rfl, s2, s3, .inl rfl⟩
                  simp only [Builtin.delete_, hts, List.getElem?_toArray, List.getElem?_cons_zero, List.getElem?_cons_succ, Sem.run_bind, run_underlying ht, Result.andThen_ok, run_getMap h3, hemp, prun_run _ hchk w, g1, s1, Sem.run_pure]
              · cases h
            · cases h
        · cases h
      · cases h
    · cases h
  · cases h

end
end Go.Abs
