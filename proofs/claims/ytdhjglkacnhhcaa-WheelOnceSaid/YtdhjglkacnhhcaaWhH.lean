/-
  WheelOnce: a timer comes at just the tick when it is due, once.
-/
import Derived.Test.YtdhjglkacnhhcaaWhG
set_option linter.all false
set_option maxRecDepth 100000
namespace Go.Proofs.Ytdhjglkacnhhcaa
open Go.Sh Go.Wheel

def mine : Int := 1125899906842624
structure OnceI (M : WM) (t : Int) (came : Int) : Prop where
  lo : M.now < t → dueL mine M.L = some t
  hi : t ≤ M.now → dueL mine M.L = none
  came : came = if M.now < t then 0 else 1
theorem once_act {M : WM} (ok : M.Ok) {t came : Int} (h : OnceI M t came) {d k n : Int} (hd : amongV d 7 < 4) (hk : k ≠ mine) : OnceI (actM M d k n) t came ∧ (actM M d k n).now = M.now := by
  have key : ∀ M' : WM, M'.now = M.now → dueL mine M'.L = dueL mine M.L → OnceI M' t came ∧ M'.now = M.now := fun M' h1 h2 => ⟨⟨fun h3 => by rw [h2]; exact h.lo (by omega), fun h3 => by rw [h2]; exact h.hi (by omega), by rw [h1]; exact h.came⟩, h1⟩
  have hset : OnceI (M.set k n).2 t came ∧ (M.set k n).2.now = M.now := by
    refine key _ (set_now M k n) ?_
    unfold WM.set
    split
    · rfl
    · split
      · rfl
      · show dueL mine (insL M.L k (M.now + n)) = _
        rw [due_ins ok.up, if_neg (fun e => hk e.symm)]
  unfold actM
  generalize amongV d 7 = r at hd
  unfold actR
  split
  · refine key _ (stop_now M k) ?_
    unfold WM.stop
    split
    · rfl
    · show dueL mine (wo M.L k) = _
      rw [due_wo M.L k mine ok.up, if_neg (fun e => hk e.symm)]
  · omega
  · omega
  · omega
  · exact hset
theorem mem_keys {L : List Ent} (h : Up L) {k t : Int} : k ∈ keysAt L t ↔ dueL k L = some t := by
  unfold keysAt
  rw [due_some h]
  simp only [List.mem_map, List.mem_filter, decide_eq_true_eq]
  constructor
  · rintro ⟨e, ⟨h1, rfl⟩, rfl⟩; exact h1
  · intro h1; exact ⟨(k, t), ⟨h1, rfl⟩, rfl⟩
theorem due_rest {L : List Ent} (h : Up L) (k t : Int) : dueL k (restAt L t) = if dueL k L = some t then none else dueL k L := by
  have hr : Up (restAt L t) := up_filter h _
  have hm : ∀ e, e ∈ restAt L t ↔ e ∈ L ∧ e.2 ≠ t := fun e => by unfold restAt; simp [List.mem_filter]
  cases hd : dueL k L with
  | none =>
    rw [if_neg (by simp)]
    rw [due_none] at hd ⊢
    intro e he; exact hd e ((hm e).1 he).1
  | some u =>
    by_cases e : u = t
    · subst e
      rw [if_pos rfl, due_none]
      intro x hx hxk
      have h1 := (hm x).1 hx
      have := up_inj h h1.1 (due_mem hd) hxk
      subst this; exact h1.2 rfl
    · rw [if_neg (by simpa using e), due_some hr, hm]
      exact ⟨due_mem hd, e⟩

theorem once_spec (hsort : SortOk) {H : Heap} {a : Option Addr} {n cap : Nat} (ha : IsActs H a n) (after : Int) : FnW Try.prog f_law04_WheelOnce ⟨[.slice a n cap, .int .i64 after]⟩ H fun v H' => v = .bool true ∧ Keep Nil H H' := by
  refine law04_WheelOnce_sh a n cap after ?_
  unfold law04_WheelOnce_p
  refine (works_spec hsort).mono ?_
  rintro _ Hw ⟨rfl, kw⟩
  refine ⟨_, rfl, ?_⟩
  rw [Bool.not_true, IfB_false]
  refine new_spec.mono ?_
  rintro _ H1 ⟨b, F1, rfl, w1, k1, f1⟩
  refine ⟨_, rfl, NewW.intro fun y hy => ?_⟩
  have hp := pair0 w1 (kw.trans k1) (fun z hz => kw.free (f1 z hz)) hy rfl
  generalize H1.upd y (.cells ⟨[.slice none 0 0, .int .i64 0]⟩ T_ref04_Wheel (0, 0)) = H2 at hp
  refine (among_spec after (n := 60) (by omega) (by omega)).mono ?_
  rintro _ _ ⟨rfl, rfl⟩
  have hlt := amongV_lt after (n := 60) (by omega)
  refine ⟨_, rfl, ?_⟩
  obtain ⟨t, ht⟩ : ∃ t : Int, t = 1 + (amongV after 60 : Nat) := ⟨_, rfl⟩
  have hw1 : IntKind.wrap .i64 (1 + ((amongV after 60 : Nat) : Int)) = t := by rw [wrap_id (by omega) (by omega), ht]
  rw [hw1]
  have e1 : WM.set ⟨[], 0⟩ mine t = (0, ⟨[(mine, t)], 0⟩) := by
    unfold WM.set
    have : (⟨[], 0⟩ : WM).may t = true := by unfold WM.may maxT; rw [decide_eq_true (by omega), decide_eq_true (by show t ≤ 1099511627776 - 0; omega)]; rfl
    rw [this, if_neg (by simp), if_neg (by simp)]
    show (0, (⟨insL [] mine (0 + t), 0⟩ : WM)) = _
    rw [Int.zero_add]; rfl
  have ok1 : (⟨[(mine, t)], 0⟩ : WM).Ok := by have := ok0.set mine t; rw [e1] at this; exact this
  refine (wset_spec hp.w ok0 mine t).mono ?_
  rintro _ H3 ⟨rfl, F3, w3, s3⟩
  rw [e1] at w3 ⊢
  have h3 := hp.stepW w3 s3
  refine ⟨_, rfl, ?_⟩
  rw [show ((0 : Int) != 0) = false from rfl, IfB_false]
  refine (rset_spec h3.r ok0 mine t).mono ?_
  rintro _ H4 ⟨rfl, G4, r4, s4⟩
  rw [e1] at r4 ⊢
  have h4 := h3.stepR r4 s4
  refine ⟨_, rfl, ?_⟩
  have hI0 : OnceI ⟨[(mine, t)], 0⟩ t 0 := ⟨fun _ => rfl, fun h => by simp only at h; omega, by rw [if_pos (by show (0 : Int) < t; omega)]⟩
  refine LoopI.intro (fun m s H3 => ∃ (i : Nat) (F G : Nat → Prop) (M : WM) (came : Int), s = (came, (i : Int), ()) ∧ i ≤ 100 ∧ m = 100 - i ∧ Pair H H3 b y F G M M ∧ M.Ok ∧ OnceI M t came ∧ M.now ≤ i) 100 ⟨0, _, _, _, _, rfl, Nat.zero_le _, by omega, h4, ok1, hI0, Int.le_refl _⟩ ?_
  rintro m s H5 ⟨i, F, G, M, came, rfl, hi, rfl, h5, ok, hI, hnow⟩ g
  unfold law04_WheelOnce_l12
  dsimp only
  have hlo := ok.lo
  -- the end
  have fin : ∀ nx, law04_WheelOnce_j0 a n cap (amongV after 60 : Nat) (some ⟨b, 0, none⟩) y came i nx false H5 fun v H1 => ∀ H2, Shut H H1 H2 → v = .bool true ∧ Keep Nil H H2 := by
    intro nx
    unfold law04_WheelOnce_j0
    rw [IfB_false]
    refine (wnow_spec h5.w).mono ?_
    rintro _ _ ⟨rfl, rfl⟩
    refine ⟨_, rfl, by rw [hw1]; omega, ?_⟩
    rw [hw1]
    have hq : came = min 1 (IntKind.wrap .i64 (Int.tdiv M.now t)) := by
      rw [hI.came]
      by_cases e : M.now < t
      · rw [if_pos e, Int.tdiv_eq_zero_of_lt hlo e]; rfl
      · rw [if_neg e]
        have h1 : 1 ≤ Int.tdiv M.now t := by
          rw [Int.tdiv_eq_ediv_of_nonneg hlo]
          exact (Int.le_ediv_iff_mul_le (by omega)).2 (by omega)
        have h2 : Int.tdiv M.now t ≤ M.now := by
          rw [Int.tdiv_eq_ediv_of_nonneg hlo]
          exact Int.ediv_le_self _ hlo
        rw [wrap_id (by omega) (by omega)]; omega
    rw [show (came == min 1 (IntKind.wrap .i64 (Int.tdiv M.now t))) = true by rw [← hq]; simp, IfB_true]
    refine (wnow_spec h5.w).mono ?_
    rintro _ _ ⟨rfl, rfl⟩
    refine ⟨_, rfl, fun H2 hs => ⟨?_, shutS h5.keep hs⟩⟩
    rw [hI.came]
    by_cases e : M.now < t
    · rw [if_pos e, decide_eq_false (by omega)]; rfl
    · rw [if_neg e, decide_eq_true (by omega)]; rfl
  have next : ∀ F' G' M' came' H', i < 100 → Pair H H' b y F' G' M' M' → M'.Ok → OnceI M' t came' → M'.now ≤ i + 1 → (fun x' H' => ∃ k', k' < 100 - i ∧ ∃ (i : Nat) (F G : Nat → Prop) (M : WM) (came : Int), x' = (came, (i : Int), ()) ∧ i ≤ 100 ∧ k' = 100 - i ∧ Pair H H' b y F G M M ∧ M.Ok ∧ OnceI M t came ∧ M.now ≤ i) (came', (IntKind.wrap .i64 ((i : Int) + 1)), ()) H' :=
    fun F' G' M' came' H' h100 hp' ok' hI' hn' => ⟨100 - (i + 1), by omega, i + 1, F', G', M', came', by rw [wrap_id (by omega) (by omega)]; simp, by omega, rfl, hp', ok', hI', by omega⟩
  by_cases hlt2 : i < n
  · rw [decide_eq_true (by omega), IfB_true]
    by_cases h100 : i < 100
    · rw [decide_eq_true (by omega)]
      unfold law04_WheelOnce_j0
      rw [IfB_true]
      obtain ⟨q, o, rfl, d, k, e, c0, c1, c2⟩ := ha i hlt2
      refine NilP.intro _ rfl (InB.intro i rfl hlt2 ?_)
      rw [elemAt_none]
      refine ⟨_, cell_keep h5.keep c0, _, cell_keep h5.keep c1, _, cell_keep h5.keep c2, NewW.intro fun v hv => ?_⟩
      refine StCell.blk Blk.upd_eq (by simp) rfl (StCell.blk Blk.upd_eq (by simp) rfl (StCell.blk Blk.upd_eq (by simp) rfl ?_))
      have kv : Keep Nil H5 ((((H5.upd v (.cells ⟨[Value.int .i64 0, Value.int .i64 0, Value.int .i64 0]⟩ T_law04_Act (0, 0))).upd v (.cells ((⟨[Value.int .i64 0, Value.int .i64 0, Value.int .i64 0]⟩ : Array Value).setIfInBounds 0 (.int .i64 d)) T_law04_Act (0, 0))).upd v (.cells (((⟨[Value.int .i64 0, Value.int .i64 0, Value.int .i64 0]⟩ : Array Value).setIfInBounds 0 (.int .i64 d)).setIfInBounds 1 (.int .i64 k)) T_law04_Act (0, 0))).upd v (.cells ((((⟨[Value.int .i64 0, Value.int .i64 0, Value.int .i64 0]⟩ : Array Value).setIfInBounds 0 (.int .i64 d)).setIfInBounds 1 (.int .i64 k)).setIfInBounds 2 (.int .i64 e)) T_law04_Act (0, 0))) :=
        ((((Keep.refl _ _).upd (.inr hv)).upd (.inr hv)).upd (.inr hv)).upd (.inr hv)
      have hV : Blk ((((H5.upd v (.cells ⟨[Value.int .i64 0, Value.int .i64 0, Value.int .i64 0]⟩ T_law04_Act (0, 0))).upd v (.cells ((⟨[Value.int .i64 0, Value.int .i64 0, Value.int .i64 0]⟩ : Array Value).setIfInBounds 0 (.int .i64 d)) T_law04_Act (0, 0))).upd v (.cells (((⟨[Value.int .i64 0, Value.int .i64 0, Value.int .i64 0]⟩ : Array Value).setIfInBounds 0 (.int .i64 d)).setIfInBounds 1 (.int .i64 k)) T_law04_Act (0, 0))).upd v (.cells ((((⟨[Value.int .i64 0, Value.int .i64 0, Value.int .i64 0]⟩ : Array Value).setIfInBounds 0 (.int .i64 d)).setIfInBounds 1 (.int .i64 k)).setIfInBounds 2 (.int .i64 e)) T_law04_Act (0, 0))) v T_law04_Act ⟨[.int .i64 d, .int .i64 k, .int .i64 e]⟩ := Blk.upd_eq
      generalize ((((H5.upd v (.cells ⟨[Value.int .i64 0, Value.int .i64 0, Value.int .i64 0]⟩ T_law04_Act (0, 0))).upd v (.cells ((⟨[Value.int .i64 0, Value.int .i64 0, Value.int .i64 0]⟩ : Array Value).setIfInBounds 0 (.int .i64 d)) T_law04_Act (0, 0))).upd v (.cells (((⟨[Value.int .i64 0, Value.int .i64 0, Value.int .i64 0]⟩ : Array Value).setIfInBounds 0 (.int .i64 d)).setIfInBounds 1 (.int .i64 k)) T_law04_Act (0, 0))).upd v (.cells ((((⟨[Value.int .i64 0, Value.int .i64 0, Value.int .i64 0]⟩ : Array Value).setIfInBounds 0 (.int .i64 d)).setIfInBounds 1 (.int .i64 k)).setIfInBounds 2 (.int .i64 e)) T_law04_Act (0, 0))) = H6 at kv hV
      have h6 := h5.keepN kv
      have d0 : H6.cell ⟨v, 0, none⟩ = some (.int .i64 d) := by rw [hV.cell]; rfl
      have d1 : H6.cell ⟨v, 1, none⟩ = some (.int .i64 k) := by rw [hV.cell]; rfl
      have d2 : H6.cell ⟨v, 2, none⟩ = some (.int .i64 e) := by rw [hV.cell]; rfl
      refine ⟨d, d0, (among_spec d (n := 7) (by omega) (by omega)).mono ?_⟩
      rintro _ _ ⟨rfl, rfl⟩
      refine ⟨_, rfl, ?_⟩
      unfold law04_WheelOnce_j1
      by_cases h4' : amongV d 7 < 4
      · rw [decide_eq_true (by omega), IfB_true]
        refine ⟨k, d1, ?_⟩
        by_cases hk : k = mine
        · rw [show (k != 1125899906842624) = false by rw [hk]; rfl, IfB_false]
          exact next _ _ _ _ _ h100 h6 ok hI (by omega)
        · rw [show (k != 1125899906842624) = true by simpa [mine] using hk, IfB_true]
          refine ⟨d, d0, k, d1, e, d2, (do_spec hsort h6 ok d k e).mono ?_⟩
          rintro _ H7 ⟨rfl, F7, G7, h7⟩
          obtain ⟨hI7, hn7⟩ := once_act ok hI (d := d) (n := e) h4' hk
          exact ⟨_, rfl, next _ _ _ _ _ h100 h7 (ok_act ok d k e) hI7 (by omega)⟩
      · rw [decide_eq_false (by omega), IfB_false]
        have hte := tick_eq ok (by unfold maxT; omega)
        refine (tick_spec hsort h6.w ok).mono ?_
        rintro _ H7 ⟨⟨s, rfl, a7, cap7, rfl, ho7⟩, F7, w7, s7⟩
        have h7 := h6.stepW w7 s7
        refine ⟨_, _, _, _, rfl, (rtick_spec h7.r ok).mono ?_⟩
        rintro _ H8 ⟨⟨s8, rfl, a8, cap8, rfl, ho8⟩, G8, r8, s8⟩
        have h8 := h7.stepR r8 s8
        have ho7' := ho7.keep s8.keep fun z hz hg => h6.r.live hg (ho7.free hz)
        have ok8 := ok.skip 1
        refine ⟨_, _, _, _, rfl, (has_int ho7' (by have := skip_len_le M ok 1; omega) _).mono ?_⟩
        rintro _ _ ⟨rfl, rfl⟩
        refine ⟨_, rfl, ?_⟩
        rw [hte] at h8 ok8 ⊢
        simp only at h8 ok8 ⊢
        -- what holds behind the tick
        have tail : ∀ came', OnceI ⟨restAt M.L (M.now + 1), M.now + 1⟩ t came' → law04_WheelOnce_j2 (some ⟨q, o, none⟩) n cap (amongV after 60 : Nat) (some ⟨b, 0, none⟩) y i (fun x' H' => ∃ k', k' < 100 - i ∧ ∃ (i : Nat) (F G : Nat → Prop) (M : WM) (came : Int), x' = (came, (i : Int), ()) ∧ i ≤ 100 ∧ k' = 100 - i ∧ Pair H H' b y F G M M ∧ M.Ok ∧ OnceI M t came ∧ M.now ≤ i) came' H8 fun v H1 => ∀ H2, Shut H H1 H2 → v = .bool true ∧ Keep Nil H H2 := by
          intro came' hI8
          unfold law04_WheelOnce_j2
          refine (wdue_spec h8.w mine).mono ?_
          rintro _ _ ⟨rfl, rfl⟩
          refine ⟨_, _, rfl, (wnow_spec h8.w).mono ?_⟩
          rintro _ _ ⟨rfl, rfl⟩
          refine ⟨_, rfl, ?_⟩
          rw [hw1]
          unfold law04_WheelOnce_j3 law04_WheelOnce_j1
          have nx := next _ _ _ came' _ h100 h8 ok8 hI8 (by show M.now + 1 ≤ _; omega)
          by_cases hlt3 : M.now + 1 < t
          · have hd := hI8.lo hlt3
            simp only at hd
            rw [hd, show ((some t : Option Int).isSome) = true from rfl, decide_eq_true hlt3, show (!(true == true)) = false from rfl, IfB_false, IfB_true, show (((some t : Option Int).getD 0) != t) = false by simp, IfB_false]
            exact nx
          · have hd := hI8.hi (by show t ≤ M.now + 1; omega)
            simp only at hd
            rw [hd, show ((none : Option Int).isSome) = false from rfl, decide_eq_false hlt3, show (!(false == false)) = false from rfl, IfB_false, IfB_false, IfB_false]
            exact nx
        have hmk := mem_keys ok.up (k := mine) (t := M.now + 1)
        have hdr := due_rest ok.up mine (M.now + 1)
        by_cases hmem : mine ∈ keysAt M.L (M.now + 1)
        · have hdm := hmk.1 hmem
          have hltt : M.now < t := Int.lt_of_not_ge fun h => by have := hI.hi h; rw [this] at hdm; cases hdm
          have hdt := hI.lo hltt
          rw [hdt] at hdm
          have htn : t = M.now + 1 := Option.some.inj hdm
          rw [show decide ((1125899906842624 : Int) ∈ keysAt M.L (M.now + 1)) = true from decide_eq_true hmem, IfB_true]
          refine (wnow_spec h8.w).mono ?_
          rintro _ _ ⟨rfl, rfl⟩
          refine ⟨_, rfl, ?_⟩
          rw [hw1, show (M.now + 1 != t) = false by simp [htn], IfB_false]
          have hc0 : came = 0 := by rw [hI.came, if_pos hltt]
          rw [hc0, show IntKind.wrap .i64 ((0 : Int) + 1) = 1 from rfl]
          refine tail 1 ⟨fun h => by simp only at h; omega, fun _ => ?_, by rw [if_neg (by show ¬(M.now + 1 < t); omega)]⟩
          show dueL mine (restAt M.L (M.now + 1)) = none
          rw [hdr, if_pos (by rw [hdt, htn])]
        · rw [show decide ((1125899906842624 : Int) ∈ keysAt M.L (M.now + 1)) = false from decide_eq_false hmem, IfB_false]
          have hne : dueL mine M.L ≠ some (M.now + 1) := fun h => hmem (hmk.2 h)
          refine tail came ⟨fun h => ?_, fun h => ?_, ?_⟩
          · show dueL mine (restAt M.L (M.now + 1)) = some t
            simp only at h
            rw [hdr, if_neg hne]; exact hI.lo (by omega)
          · show dueL mine (restAt M.L (M.now + 1)) = none
            simp only at h
            rw [hdr, if_neg hne]
            refine hI.hi (Int.le_of_not_gt fun h2 => hne ?_)
            rw [hI.lo h2]; congr 1; omega
          · rw [hI.came]
            show (if M.now < t then (0 : Int) else 1) = if M.now + 1 < t then 0 else 1
            by_cases h1 : M.now + 1 < t
            · rw [if_pos h1, if_pos (by omega)]
            · rw [if_neg h1]
              rw [if_neg]
              intro h2
              exact hne (by rw [hI.lo h2]; congr 1; omega)
    · rw [decide_eq_false (by omega)]
      exact fin _
  · rw [decide_eq_false (by omega), IfB_false]
    exact fin _
end Go.Proofs.Ytdhjglkacnhhcaa
