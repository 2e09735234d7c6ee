/-
  From a call over the abstract heap to a law's row: a law that answers true and leaves all as it was.
-/
import Derived.Test.YtaeofoimlhmdoaaDoorAbsS
import Derived.Carry
import Derived.ChangeSame
set_option linter.unusedSimpArgs false
set_option linter.unusedVariables false
namespace Go.Abs
open Go.RowKit Go.ChangeShapes Go.WideShapes

section
variable {P : Program}

/-- Where every object is only read, nothing turns. -/
theorem Does.below {f : FuncId} {args : List Value} {H0 : AH} {R : AOut → AH → Prop} (h : Does P f args H0 R) {J : Inj} {F : Nat → Nat → Prop} {W : World} (S : Sim J F H0 W)
    (hro : ∀ a o, H0 a = some o → o.ro = true) {args' : Array Value} (ha : VRels J W args args'.toList) {v : Value} (hv : closed v = true) (hR : ∀ x H', R x H' → x = .ret v) :
    Calls P f args' W fun e W' => e = .returned v ∧ Below W.heap.size W W' := by
  refine (h.2 J F W args' S ha).mono fun e W' hh => ?_
  obtain ⟨J', F', x, H', h1, h2, S', E'⟩ := hh
  have hx := hR x H' h1
  subst hx
  refine ⟨?_, ⟨E'.os, E'.tape, E'.output, E'.size, fun k hk => E'.keep k hk fun a o ho hr => by rw [hro a o ho] at hr; cases hr⟩⟩
  cases e with
  | returned v' =>
    have : v ≠ unk := by rintro rfl; simp [closed, closedN, unk] at hv
    rw [closed_eq hv (ORel.known h2 this)]
  | panicked ch => exact h2.elim
  | outgrown => exact h2.elim

theorem trodAll_below {H : Type} {enc : TypeId × Value → H} (hl : laidOutB P = true) {W W' : World} (hb : Below W.heap.size W W') :
    ∀ {ts : List TypeId} {vs : List Value} {ds : List (DataW H)} {ps : List MemPlace}, (ts.all fun t => P.readableRec t && decide (t < P.types.size)) = true →
      DataW.TrodAll enc P W 0 (fun _ => true) true ts vs ds ps → (∀ p ∈ ps, p.block < W.heap.size) → ∀ sp : Nat → Bool, (∀ p ∈ ps, sp p.block = true) → DataW.TrodAll enc P W' 0 sp true ts vs ds ps
  | [], [], [], ps, _, h, _, _, _ => h
  | t :: ts, v :: vs, d :: ds, ps, hr, h, hlt, sp, hs => by
    simp only [List.all_cons, Bool.and_eq_true, decide_eq_true_eq] at hr
    obtain ⟨p, q, h1, h2, rfl⟩ := h
    exact ⟨p, q, WideElems.Trod_stays hl hr.1.1 hr.1.2 h1 (fun x hx => hb.same (hlt x (List.mem_append_left _ hx))) (fun x hx => hs x (List.mem_append_left _ hx)),
      trodAll_below hl hb hr.2 h2 (fun x hx => hlt x (List.mem_append_right _ hx)) sp (fun x hx => hs x (List.mem_append_right _ hx)), rfl⟩
  | [], [], _ :: _, _, _, h, _, _, _ => h.elim
  | [], _ :: _, _, _, _, h, _, _, _ => h.elim
  | _ :: _, [], _, _, _, h, _, _, _ => h.elim
  | _ :: _, _ :: _, [], _, _, h, _, _, _ => h.elim

/-- A law's answer and what is left as it was: what its row asks behind the call. -/
theorem law_post {H : Type} {enc : TypeId × Value → H} {f : Func} {s : ChangeSpec} {apart fresh handsOn again : Bool} {W W' : World} {args : Array Value} {ds gs : List (DataW H)} {before : List MemPlace} {tb : TypeId}
    (hl : laidOutB P = true) (hr : (f.params.toList.all fun t => P.readableRec t && decide (t < P.types.size)) = true) (hb : P.underlying tb = some .bool) (hres : f.resultTypes = #[tb]) (hvars : s.vars = [])
    (hfn : s.fn H ds = { results := [.lit (.bool true)], args := ds }) (hW : DataW.Whole enc P f.params.toList s.vars apart W args.toList ds gs before) (hB : Below W.heap.size W W') :
    s.post enc P f apart fresh handsOn again W args (.bool true) W' := by
  have hlt := hW.lt
  have hW' := hW
  obtain ⟨p, q, hA, hV, hps, hz, hn⟩ := hW
  rw [hvars] at hV
  obtain ⟨hg, hq⟩ : gs = [] ∧ q = [] := by
    cases gs with
    | nil => exact ⟨rfl, hV⟩
    | cons => exact hV.elim
  subst hg; subst hq
  have hbf : before = p := by rw [hps, List.append_nil]
  subst hbf
  have hfn' : s.fn H (ds ++ []) = { results := [.lit (.bool true)], args := ds } := by rw [List.append_nil]; exact hfn
  have hr1 : ∀ (b : Nat) (sp : Nat → Bool) (hd : Bool), DataW.TrodAll enc P W' b sp hd f.resultTypes.toList ((Value.bool true).resultList f.resultTypes.size) (s.fn H (ds ++ [])).results [] := by
    intro b sp hd
    rw [hfn', hres]
    exact ⟨[], [], ⟨1, by simp [DataW.trod, Value.cells, hb]⟩, rfl, rfl⟩
  have ha1 : ∀ sp : Nat → Bool, (∀ x ∈ before, sp x.block = true) → DataW.TrodAll enc P W' 0 sp true f.params.toList args.toList (s.fn H (ds ++ [])).args before := by
    intro sp hs
    rw [hfn']
    exact trodAll_below hl hB hr hA hlt sp hs
  have hv1 : ∀ sp : Nat → Bool, DataW.TrodVars enc P W' sp s.vars (s.fn H (ds ++ [])).vars [] := by
    intro sp
    rw [hfn', hvars]
    rfl
  refine ⟨ds, [], before, [], before, [], hW', hr1 _ _ _, ha1 _ (fun x hx => by simpa using hlt x hx), hv1 _, World.keptBut_mono (fun x hx => ⟨hx, .inr (.inl hx)⟩) (hB.frame _), fun _ => ⟨?_, ?_⟩⟩
  · intro j t r h1 h2
    rw [hres] at h1 h2
    cases j with
    | zero =>
      simp at h1; subst h1
      have : r = .bool true := by simpa [Value.resultList] using h2.symm
      subst this
      simp [Value.okWide, hb, Cell.okWide, Cell.ok]
    | succ j => simp at h1
  · refine ⟨_, _, ([] ++ before) ++ [], ⟨[] ++ before, [], trodAll_append (ha1 _ (fun _ _ => rfl)) (hr1 _ _ _), hv1 _, rfl, ?_, ?_⟩, ?_⟩
    · intro b off hp
      have hp' : MemPlace.cell b off ∈ before := by simpa using hp
      have : b < W.heap.size := hlt _ hp'
      rw [hB.frozen (p := ⟨b, off, none⟩) this]
      exact hz b off hp'
    · intro ha
      have := hn ha
      simpa using this
    · intro x hx _
      simpa using hx

/-- A first heap: the listed variables, under one name. -/
theorem Sim.start {l : List (String × (Array Value → Prop))} {W : World} (h0 : 0 < W.heap.size)
    (hv : ∀ x ∈ l, ∃ cs, W.var? P x.1 = some cs ∧ x.2 cs) :
    Sim (fun a => if a = 0 then some (0, 0) else none) (fun _ r => r < W.heap.size) (fun a => if a = 0 then some (.ext true (varsRep P l)) else none) W := by
  refine ⟨?_, ?_, ?_, ⟨1, fun a ha => if_neg (by omega)⟩, ?_⟩
  · intro a o ha
    split at ha
    · cases ha
      refine ⟨fun r hr => hr, fun x hx => ?_⟩
      obtain ⟨cs, h1, h2⟩ := hv x hx
      have h1' := h1
      unfold World.var? at h1
      cases hg : P.globalNamed x.1 with
      | none => simp [hg] at h1
      | some g =>
        simp only [hg, Option.bind_some] at h1
        refine ⟨g, cs, rfl, ?_, h1', h2⟩
        show g < W.heap.size
        rcases Nat.lt_or_ge g W.heap.size with hlt | hge
        · exact hlt
        · rw [Array.getElem?_eq_none hge] at h1; simp at h1
    · cases ha
  · intro a b oa ob ha hb hne

    split at ha
    · split at hb
      · omega
      · cases hb
    · cases ha
  · intro a o ha

    split at ha
    · rename_i e; rw [if_pos e]; simp
    · cases ha
  · intro a r o ha

    split at ha
    · cases ha; exact h0
    · cases ha

theorem start_ro {l : List (String × (Array Value → Prop))} : ∀ a o, (fun a => if a = 0 then some (AObj.ext true (varsRep P l)) else none) a = some o → o.ro = true := by
  intro a o h
  replace h : (if a = 0 then some (AObj.ext true (varsRep P l)) else none) = some o := h
  split at h
  · cases h; rfl
  · cases h

end
end Go.Abs
