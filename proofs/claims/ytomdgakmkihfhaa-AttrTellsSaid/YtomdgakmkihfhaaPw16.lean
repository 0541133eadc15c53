/-
  Contracts out of what is known of a call in the model; the row, where package-level variables are listed.
-/
import Derived.Test.YtomdgakmkihfhaaPw15
import Derived.Stop.Joined
import Derived.LaidSub
import Derived.MakeChecks
set_option linter.unusedSectionVars false
set_option linter.unusedSimpArgs false
set_option linter.unusedVariables false
namespace Go.Sh
variable [Laid]

theorem simL_of {g : Gh} {H : Heap} {N : Nat} : ∀ {as : List AV} {vs : List Value}, as.length = vs.length → (∀ i, i < as.length → SimV g H N (as.getD i .undef) (vs.getD i undef)) → SimL g H N as vs
  | [], [], _, _ => by simp only [SimL]
  | [], _ :: _, h, _ => by simp at h
  | _ :: _, [], h, _ => by simp at h
  | a :: as, v :: vs, h, hs => by
    simp only [SimL]
    exact ⟨by simpa using hs 0 (by simp), simL_of (by simpa using h) fun i hi => by simpa using hs (i + 1) (by simpa using hi)⟩

theorem frz_scal {σ : List AObj} : ∀ {rs : List Pk} {y : PkTs rs} {M : Nat}, rs.all scalarK = true → frzP σ rs (pksA M rs y) = some σ
  | [], _, _, _ => rfl
  | r :: rs, y, M, h => by
    simp only [List.all_cons, Bool.and_eq_true] at h
    have ih := frz_scal (σ := σ) (rs := rs) (y := y.2) (M := M) h.2
    cases r <;> simp only [scalarK] at h <;> first | (cases h.1; done) | skip
    all_goals
      simp only [pksA, frzP, isOwn, pkA, cellsA, frzL, frzO]
      exact ih
theorem take_scal {σ : List AObj} : ∀ {rs : List Pk} {y : PkTs rs} {M : Nat}, rs.all scalarK = true → takePs σ rs (pksA M rs y) = some (y, [])
  | [], _, _, _ => rfl
  | r :: rs, y, M, h => by
    simp only [List.all_cons, Bool.and_eq_true] at h
    have ih := take_scal (σ := σ) (rs := rs) (y := y.2) (M := M) h.2
    cases r <;> simp only [scalarK] at h <;> first | (cases h.1; done) | skip
    all_goals
      simp only [pksA, takePs, isOwn, pkA, takeP, decide_true, ih]
      rfl
theorem outL_outA {rs : List Pk} {as : List AV} (h : as.length = rs.length) : outL rs (outA as) = some as := by
  cases rs with
  | nil =>
    cases as with
    | nil => rfl
    | cons => simp at h
  | cons r rs =>
    cases as with
    | nil => simp at h
    | cons a as =>
      cases rs with
      | nil =>
        cases as with
        | nil => rfl
        | cons => simp at h
      | cons r2 rs =>
        cases as with
        | nil => simp at h
        | cons b as => rfl
theorem outP_scal {rs : List Pk} {st : St} {y : PkTs rs} {K : PkTs rs → Prop} {M : Nat} (h : rs.all scalarK = true) (k : K y) : outP rs st (outA (pksA M rs y)) K := by
  unfold outP
  rw [outL_outA (pksA_length _ _ _)]
  simp only [frz_scal h, take_scal h, srcIds, uniqB]
  exact k

theorem parS_simL {E : En} {ps : List Pk} {x : PkTs ps} {vs : List Value} {H : Heap} {g : Gh} (s : Sim E (parS ps x) (env0 vs) H g) (hl : vs.length = ps.length) : SimL g H (pksR ps x).length (pksA 0 ps x) vs := by
  refine simL_of (by rw [pksA_length]; omega) fun i _ => ?_
  have := s.tmp i
  simpa [parS, env0] using this

/-- A function that reads alone, from what is known of its call. -/
theorem fnQ_lib {P : Program} {f : FuncId} {ps rs : List Pk} {q : PkTs ps → (PkTs rs → Prop) → Prop} (hrs : rs.all scalarK = true) (hen : Enters P f)
    (h : ∀ x K, q x K → ∀ (W : World) (g : Gh) (vs : List Value), (∀ b, g.Z b → hp W b ≠ none) → SimL g (hp W) (pksR ps x).length (pksA 0 ps x) vs → Laid.ok (layH (hp W)) →
      Calls P f ⟨vs⟩ W fun e W' => ∃ y v, e = .returned v ∧ SimV g (hp W') (pksR ps x).length (outA (pksA 0 rs y)) v ∧ K y ∧ Keep Nil (hp W) (hp W') ∧ Rest W W') : FnQ P f ps rs q := by
  intro x K hx H g vs hl s
  refine ⟨hen, fun W hW => ?_⟩
  subst hW
  refine (h x K hx W g vs s.zlive (parS_simL s hl) (by have := s.layH.2; rw [this]; exact s.lay.ok)).mono fun e W' ⟨y, v, he, hv, hk, hkp, hr⟩ => ⟨v, he, ?_, hr⟩
  obtain ⟨s', _⟩ := s.keepAll hkp
  exact ⟨_, _, _, _, s', hv, outP_scal hrs hk⟩

/-- A function that hands out a new row. -/
theorem fnQ_row {P : Program} {f : FuncId} {ps : List Pk} {T : TypeId} {ks : List Kd} {q : PkTs ps → (PkTs [.own T ks] → Prop) → Prop} (hks : Kd.decs ks ks = isTrue rfl) (hen : Enters P f)
    (h : ∀ x K, q x K → ∀ (W : World) (g : Gh) (vs : List Value), (∀ b, g.Z b → hp W b ≠ none) → SimL g (hp W) (pksR ps x).length (pksA 0 ps x) vs → Laid.ok (layH (hp W)) →
      Calls P f ⟨vs⟩ W fun e W' => ∃ (xs : List (Tp ks)) (us : List Value) (n : Nat), e = .returned (.slice (some ⟨n, 0, none⟩) xs.length xs.length) ∧ hp W n = none ∧ hp W' = (hp W).upd n (.cells ⟨us⟩ T (0, 0)) ∧ us.length = xs.length * ks.length ∧ xs.length ≤ lenMax ∧
        (∀ i x, xs[i]? = some x → CellsOk g.Z (hp W) ks x (fun j => us[i * ks.length + j]?)) ∧ K (xs, ()) ∧ Rest W W') : FnQ P f ps [.own T ks] q := by
  intro x K hx H g vs hl s
  refine ⟨hen, fun W hW => ?_⟩
  subst hW
  refine (h x K hx W g vs s.zlive (parS_simL s hl) (by have := s.layH.2; rw [this]; exact s.lay.ok)).mono fun e W' ⟨xs, us, n, he, hn, hW', hul, hlm, hc, hk, hr⟩ => ⟨_, he, ?_, hr⟩
  rw [hW']
  obtain ⟨a, st', g', s', r', hv, _, hk'⟩ := s.newRow (K := fun a st' => outP [.own T ks] st' a K) hn (vs := us) (T := T) (xs := xs) (cap := xs.length) (Nat.le_refl _) hlm hul hc (by
    simp only [outP, outL, frzP, isOwn, takePs, takeP, St.new, parS]
    rw [List.getElem?_append_right (Nat.le_refl _), Nat.sub_self]
    simp only [List.getElem?_cons_zero, Nat.beq_refl, hks, castL, srcIds, uniqB, memB, Bool.not_false, Bool.and_true]
    exact hk)
  exact ⟨a, st', _, g', s', hv, hk'⟩

theorem laidMet.tail {P : Program} {W : World} {x : String × DataW Unit} {rest : List (String × DataW Unit)} (h : laidMet P (x :: rest) W) : laidMet P rest W := by
  obtain ⟨ps, hl, hn, hc⟩ := h
  obtain ⟨g', t', cs, fuel, p, q, hg', ht', hvar, hd, hrest, rfl⟩ := hl
  exact ⟨q, hrest, (List.nodup_append.1 hn).2.1, fun b off hb => hc b off (List.mem_append_right _ hb)⟩

theorem keep_below {w w' : World} (h : Go.RowKit.Below w.heap.size w w') : Keep Nil (hp w) (hp w') ∧ Rest w w' := by
  have hs : ∀ b, hp w b ≠ none → hp w' b = hp w b := fun b hb => h.block b (by
    rcases Nat.lt_or_ge b w.heap.size with hlt | hge
    · exact hlt
    · exact absurd (by simp [hp, hge] : hp w b = none) hb)
  exact ⟨⟨fun b _ hb => hs b hb, fun b hb => by rw [hs b hb]; exact hb⟩, ⟨h.os, h.tape, h.output, fun b ds hb => (h.block b (Array.getElem?_eq_some_iff.1 hb).1).trans hb, h.size⟩⟩

open Go.ChangeShapes Go.WideShapes Go.ChangeAt Go.RowKit in
/-- The row, from the condition on the call; package-level variables are listed. -/
theorem lifted3 {C : Checked} {os : Os} {f : FuncId} {fn : Func} {s : ChangeSpec} {conds : List PathCond} {apart fresh handsOn : Bool} {H : Type} {enc : TypeId × Value → H} {tb : TypeId} {laid : List (String × DataW Unit)}
    (own : ownKnob C.prog.godebug = none) (started : os.Started) (noInit : C.prog.inits.idxOf? f = none) (hfn : C.prog.funcs[f]? = some fn)
    (witness : ∃ (w : World) (tape : Tape) (i : Input), w.os = os ∧ (w.forCall tape i).Shaped C.prog ∧ i.vars = [] ∧ Input.okWide C.prog (w.forCall tape i) .any w.heap.size f i ∧
      ((s.pre enc C.prog fn conds apart (w.forCall tape i).memory i.args ∧ laidMetH C.prog laid (w.forCall tape i).memory) ∧ sizedMet enc C.prog fn (OpenSpec.ofChange s) apart (w.forCall tape i).memory i.args) ∧ Assume.holds {} C.prog (lone (Frame.enter C.prog f i.args .normal) [] (w.forCall tape i)))
    (hl : laidOutB C.prog = true) (hpar : fn.params.toList.all (fun t => C.prog.readableRec t && decide (t < C.prog.types.size)) = true) (hv : s.vars = []) (hrt : fn.resultTypes = #[tb]) (htb : C.prog.underlying tb = some .bool)
    (walk : ∀ (W : World) (base : Nat) (args : Array Value) (ds : List (DataW H)) (p : List MemPlace), (∀ (j : Nat) t v, fn.params[j]? = some t → args[j]? = some v → Value.okWide C.prog W .any base t v) →
      DataW.TrodAll enc C.prog W 0 (fun _ => true) true fn.params.toList args.toList ds p → (DataW.weightsEach C.prog fn.params.toList ds).all (· ≤ reachBytes) = true → laidMetH C.prog laid W → W.ShapedOpen C.prog → s.fn H ds = { results := [.lit (.bool true)], args := ds } ∧
      FnW C.prog f args (hp W) fun v H' => v = .bool true ∧ Keep Nil (hp W) H') :
    ReturnsInHanded {} C os f .any (fun w args => (s.pre enc C.prog fn conds apart w args ∧ laidMetH C.prog laid w) ∧ sizedMet enc C.prog fn (OpenSpec.ofChange s) apart w args) (s.post enc C.prog fn apart fresh handsOn false) := by
  refine returnsInHanded_of_calls own started noInit witness ?_
  intro w tape i _ hsh _ hok hpre _
  obtain ⟨_, _, _, fn', hfn', _, _, _, _, hval⟩ := hok
  have e : fn' = fn := Option.some.inj (hfn'.symm.trans hfn)
  subst e
  obtain ⟨⟨⟨ds, gs, before, hw, hc⟩, hL⟩, hz⟩ := hpre
  have hwt := hz.weights hw
  have hW := DataW.Whole.of_heap (w' := w.forCall tape i) (by rfl) hw
  have hW' := hW
  obtain ⟨p, q, hA, hV, rfl, _, _⟩ := hW'
  have hV' := hV
  rw [hv] at hV'
  obtain ⟨rfl, rfl⟩ := trodVars_none hV'
  have hvt : (OpenSpec.ofChange s).bare.plain.varTypes C.prog = [] := by
    have : (OpenSpec.ofChange s).bare.plain.vars = [] := hv
    unfold DataSpec.varTypes
    rw [this]; rfl
  rw [hvt, List.append_nil, List.append_nil] at hwt
  obtain ⟨hs, hf⟩ := walk (w.forCall tape i) w.heap.size i.args ds p hval hA hwt (laidMetH.of_heap (w := (w.forCall tape i).memory) rfl hL) hsh
  refine (hf.2 (w.forCall tape i) rfl).mono fun e W' ⟨v, he, ⟨hv', hk⟩, hr⟩ => ?_
  subst hv' he
  exact ChangeSpec.post_blind (post_true hl hpar hv hrt htb hW (by rw [List.append_nil]; exact hs) (hk.below hr))

end Go.Sh
