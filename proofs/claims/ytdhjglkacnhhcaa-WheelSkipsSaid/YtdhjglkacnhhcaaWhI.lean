/-
  WheelSkips: to skip is to tick so many times.
-/
import Derived.Test.YtdhjglkacnhhcaaWhH
set_option linter.all false
set_option maxRecDepth 100000
namespace Go.Proofs.Ytdhjglkacnhhcaa
open Go.Sh Go.Wheel

/-- A heap with what lies in S besides. -/
noncomputable def withS (H0 H : Heap) (S : Nat → Prop) : Heap := by
  classical
  exact ⟨fun b => if S b then H b else H0 b, by
    obtain ⟨n, hn⟩ := H.fin
    obtain ⟨m, hm⟩ := H0.fin
    refine ⟨max n m, fun b hb => ?_⟩
    show (if S b then H b else H0 b) = none
    split
    · exact hn b (by omega)
    · exact hm b (by omega)⟩
theorem withS_in {H0 H : Heap} {S : Nat → Prop} {b : Nat} (h : S b) : withS H0 H S b = H b := by unfold withS; simp [h]
theorem withS_out {H0 H : Heap} {S : Nat → Prop} {b : Nat} (h : ¬ S b) : withS H0 H S b = H0 b := by unfold withS; simp [h]
/-- A heap without what lies in S. -/
noncomputable def sansS (H : Heap) (S : Nat → Prop) : Heap := by
  classical
  exact ⟨fun b => if S b then none else H b, by
    obtain ⟨n, hn⟩ := H.fin
    refine ⟨n, fun b hb => ?_⟩
    show (if S b then none else H b) = none
    split
    · rfl
    · exact hn b hb⟩
theorem sansS_in {H : Heap} {S : Nat → Prop} {b : Nat} (h : S b) : sansS H S b = none := by unfold sansS; simp [h]
theorem sansS_out {H : Heap} {S : Nat → Prop} {b : Nat} (h : ¬ S b) : sansS H S b = H b := by unfold sansS; simp [h]
theorem sansS_keep (H : Heap) (S : Nat → Prop) : Keep Nil (sansS H S) H := ⟨fun b _ h => by
    by_cases e : S b
    · rw [sansS_in e] at h; exact absurd rfl h
    · rw [sansS_out e], fun b h => by
    by_cases e : S b
    · rw [sansS_in e] at h; exact absurd rfl h
    · rw [sansS_out e] at h; exact h⟩

def loopM (M : WM) : List (Int × Int × Int) → WM
  | [] => M
  | e :: l => loopM (actM M e.1 e.2.1 e.2.2) l
theorem loopM_snoc (M : WM) (l : List (Int × Int × Int)) (e : Int × Int × Int) : loopM M (l ++ [e]) = actM (loopM M l) e.1 e.2.1 e.2.2 := by
  induction l generalizing M with
  | nil => rfl
  | cons x l ih => simp only [List.cons_append, loopM]; exact ih _
theorem loopM_ok {M : WM} (ok : M.Ok) : ∀ l : List (Int × Int × Int), (loopM M l).Ok := by
  intro l
  induction l generalizing M with
  | nil => exact ok
  | cons x l ih => exact ih (ok_act ok _ _ _)

/-- Acts, by a list. -/
def ActsL (H : Heap) (a : Option Addr) (n : Nat) (l : List (Int × Int × Int)) : Prop := l.length = n ∧ ∀ i (h : i < l.length), ∃ b o, a = some ⟨b, o, none⟩ ∧
  H.cell ⟨b, o + i * 3, none⟩ = some (.int .i64 (l[i]).1) ∧ H.cell ⟨b, o + i * 3 + 1, none⟩ = some (.int .i64 (l[i]).2.1) ∧ H.cell ⟨b, o + i * 3 + 2, none⟩ = some (.int .i64 (l[i]).2.2)
theorem actsL {H : Heap} {a : Option Addr} : ∀ {n : Nat}, IsActs H a n → ∃ l, ActsL H a n l
  | 0, _ => ⟨[], rfl, fun i h => by simp at h⟩
  | n + 1, ha => by
    obtain ⟨l, hl, hc⟩ := actsL (n := n) fun i hi => ha i (by omega)
    obtain ⟨b, o, e, d, k, m, c0, c1, c2⟩ := ha n (by omega)
    refine ⟨l ++ [(d, k, m)], by simp [hl], fun i h => ?_⟩
    by_cases hi : i < l.length
    · rw [List.getElem_append_left hi]; exact hc i hi
    · have : i = n := by simp at h; omega
      subst this
      rw [List.getElem_append_right (by omega)]
      simp only [hl, Nat.sub_self, List.getElem_cons_zero]
      exact ⟨b, o, e, c0, c1, c2⟩
theorem ActsL.keep {H H' : Heap} {a : Option Addr} {n : Nat} {l : List (Int × Int × Int)} (h : ActsL H a n l) (k : Keep Nil H H') : ActsL H' a n l :=
  ⟨h.1, fun i hi => by obtain ⟨b, o, e, c0, c1, c2⟩ := h.2 i hi; exact ⟨b, o, e, cell_keep k c0, cell_keep k c1, cell_keep k c2⟩⟩

theorem WAt.same {H H' : Heap} {b : Nat} {F : Nat → Prop} {M : WM} (h : WAt H b F M) (k : ∀ u, F u → H' u = H u) : WAt H' b F M := by
  obtain ⟨c, mb, es, ck, R, hw, rfl⟩ := h
  refine ⟨c, mb, es, ck, R, { hw with blk := hw.blk.same (k _ (.inl rfl)), map := hw.map.same (k _ (.inr (.inl rfl))), row := (fun i hi => ?_) }, rfl⟩
  have := hw.row i hi
  refine ⟨this.1, this.2.1, ?_⟩
  rcases this.2.2 with h3 | ⟨m, rest, e1, e2, e3, e4⟩
  · exact .inl h3
  · exact .inr ⟨m, rest, e1, e2, e3.same (k _ (.inr (.inr ⟨i, hi, e1⟩))), e4⟩
structure Tri (H H' : Heap) (x z : Nat) (F F2 : Nat → Prop) (M N : WM) : Prop where
  wx : WAt H' x F M
  wz : WAt H' z F2 N
  ap : ∀ u, F u → ¬ F2 u
  fx : ∀ u, F u → H u = none
  fz : ∀ u, F2 u → H u = none
  keep : Keep Nil H H'
theorem Tri.stepX {H H1 H2 : Heap} {x z : Nat} {F F2 F' : Nat → Prop} {M N M' : WM} (h : Tri H H1 x z F F2 M N) (w : WAt H2 x F' M') (s : Stp F H1 H2 F') : Tri H H2 x z F' F2 M' N :=
  ⟨w, h.wz.keep s.keep fun u hu hf => h.ap u hf hu, fun u hu hg => by
    rcases s.new u hu with h1 | h1
    · exact h.ap u h1 hg
    · exact h.wz.live hg h1, fun u hu => by
    rcases s.new u hu with h1 | h1
    · exact h.fx u h1
    · exact h.keep.free h1, h.fz, h.keep.then s.keep fun u hu => .inr (h.fx u hu)⟩
theorem Tri.stepZ {H H1 H2 : Heap} {x z : Nat} {F F2 F' : Nat → Prop} {M N N' : WM} (h : Tri H H1 x z F F2 M N) (w : WAt H2 z F' N') (s : Stp F2 H1 H2 F') : Tri H H2 x z F F' M N' :=
  ⟨h.wx.keep s.keep fun u hu hf => h.ap u hu hf, w, fun u hu hg => by
    rcases s.new u hg with h1 | h1
    · exact h.ap u hu h1
    · exact h.wx.live hu h1, h.fx, fun u hu => by
    rcases s.new u hu with h1 | h1
    · exact h.fz u h1
    · exact h.keep.free h1, h.keep.then s.keep fun u hu => .inr (h.fz u hu)⟩
theorem Tri.keepN {H H1 H2 : Heap} {x z : Nat} {F F2 : Nat → Prop} {M N : WM} (h : Tri H H1 x z F F2 M N) (k : Keep Nil H1 H2) : Tri H H2 x z F F2 M N :=
  { h with wx := h.wx.keep k fun _ _ h => h, wz := h.wz.keep k fun _ _ h => h, keep := h.keep.trans k }

theorem skips_spec (hsort : SortOk) {H : Heap} {a : Option Addr} {n cap : Nat} (ha : IsActs H a n) (n1 : Int) : FnW Try.prog f_law04_WheelSkips ⟨[.slice a n cap, .int .i64 n1]⟩ H fun v H' => v = .bool true ∧ Keep Nil H H' := by
  obtain ⟨l, hal⟩ := actsL ha
  have hln := hal.1
  refine law04_WheelSkips_sh a n cap n1 ?_
  unfold law04_WheelSkips_p
  refine (works_spec hsort).mono ?_
  rintro _ Hw ⟨rfl, kw⟩
  refine ⟨_, rfl, ?_⟩
  rw [Bool.not_true, IfB_false]
  refine new_spec.mono ?_
  rintro _ H1 ⟨x, F1, rfl, w1, k1, f1⟩
  refine ⟨_, rfl, new_spec.mono ?_⟩
  rintro _ H2 ⟨z, F2, rfl, w2, k2, f2⟩
  refine ⟨_, rfl, NewW.intro fun y hy => ?_⟩
  have kH1 : Keep Nil H H1 := kw.trans k1
  have kH2 : Keep Nil H H2 := kH1.trans k2
  have f1H : ∀ u, F1 u → H u = none := fun u hu => kw.free (f1 u hu)
  have f2H : ∀ u, F2 u → H u = none := fun u hu => kH1.free (f2 u hu)
  have hdis : ∀ u, F1 u → ¬ F2 u := fun u h1 h2 => w1.live h1 (f2 u h2)
  -- the first pair, with z in what was there
  have kZ2 : Keep Nil (withS H H2 F2) H2 := ⟨fun u _ hu => by
      by_cases e : F2 u
      · rw [withS_in e]
      · rw [withS_out e] at hu ⊢; exact kH2.same u (fun h => h) hu, fun u hu => by
      by_cases e : F2 u
      · rw [withS_in e] at hu; exact hu
      · rw [withS_out e] at hu; exact kH2.live u hu⟩
  have kHZ : Keep Nil H (withS H H2 F2) := ⟨fun u _ hu => by
      by_cases e : F2 u
      · exact absurd (f2H u e) hu
      · rw [withS_out e], fun u hu => by
      by_cases e : F2 u
      · exact absurd (f2H u e) hu
      · rw [withS_out e]; exact hu⟩
  have hpz := pair0 (H := withS H H2 F2) (w1.keep k2 fun _ _ h => h) kZ2 (fun u hu => by rw [withS_out (hdis u hu)]; exact f1H u hu) hy rfl
  have hwz : WAt (H2.upd y (.cells ⟨[.slice none 0 0, .int .i64 0]⟩ T_ref04_Wheel (0, 0))) z F2 ⟨[], 0⟩ := w2.keep ((Keep.refl Nil _).new hy) fun _ _ h => h
  generalize hZ : withS H H2 F2 = HZ at *
  generalize H2.upd y (.cells ⟨[.slice none 0 0, .int .i64 0]⟩ T_ref04_Wheel (0, 0)) = H3 at hpz hwz
  have zk : ∀ {Hx}, Keep Nil HZ Hx → WAt Hx z F2 ⟨[], 0⟩ := fun {Hx} kx => hwz.same fun u hu => by
    have hl : HZ u ≠ none := by rw [← hZ, withS_in hu]; exact w2.live hu
    rw [kx.same u (fun h => h) hl, hpz.keep.same u (fun h => h) hl]
  have halZ : ∀ {Hx}, Keep Nil HZ Hx → ActsL Hx a n l := fun kx => hal.keep (kHZ.trans kx)
  refine LoopI.intro (fun m s H4 => ∃ (i : Nat) (F G : Nat → Prop), s = ((i : Int), ()) ∧ i ≤ 60 ∧ i ≤ n ∧ m = 60 - i ∧ Pair HZ H4 x y F G (loopM ⟨[], 0⟩ (l.take i)) (loopM ⟨[], 0⟩ (l.take i))) 60 ⟨0, _, _, rfl, Nat.zero_le _, Nat.zero_le _, by omega, hpz⟩ ?_
  rintro m s H4 ⟨i, F, G, rfl, hi, hin, rfl, h4⟩ g
  have okL : ∀ i, (loopM ⟨[], 0⟩ (l.take i)).Ok := fun i => loopM_ok ok0 _
  unfold law04_WheelSkips_l5
  dsimp only
  -- behind both loops
  have last : ∀ (H5 : Heap) (F F2 : Nat → Prop) (M : WM) nx1 nx2 (i : Int) (y2 : Nat), M.Ok → Tri H H5 x z F F2 M M → law04_WheelSkips_j1 a n cap n1 (some ⟨x, 0, none⟩) (some ⟨z, 0, none⟩) y2 i nx1 nx2 false H5 fun v H1 => ∀ H2, Shut H H1 H2 → v = .bool true ∧ Keep Nil H H2 := by
    intro H5 F F2 M nx1 nx2 i y2 ok h5
    unfold law04_WheelSkips_j1
    rw [IfB_false]
    refine (among_spec n1 (n := 200) (by omega) (by omega)).mono ?_
    rintro _ _ ⟨rfl, rfl⟩
    have hlt := amongV_lt n1 (n := 200) (by omega)
    refine ⟨_, rfl, (wnow_spec h5.wx).mono ?_⟩
    rintro _ _ ⟨rfl, rfl⟩
    refine ⟨_, rfl, ?_⟩
    generalize amongV n1 200 = u at *
    have hw : IntKind.wrap .i64 (1 + (u : Int)) = ((u + 1 : Nat) : Int) := by rw [wrap_id (by omega) (by omega)]; omega
    rw [hw]
    by_cases hbig : M.now > 1099511627476
    · rw [decide_eq_true hbig, IfB_true]
      exact fun H6 hs => ⟨rfl, shutS h5.keep hs⟩
    · rw [decide_eq_false hbig, IfB_false]
      have hlo := ok.lo
      have hmx : M.now + ((u + 1 : Nat) : Int) ≤ maxT := by unfold maxT; omega
      obtain ⟨hst, hnow, hok⟩ := skip_ticks (u + 1) ok hmx
      have hsk : M.skip ((u + 1 : Nat) : Int) = ((ticks M (u + 1)).1, 0, ⟨(ticks M (u + 1)).2.L, M.now + ((u + 1 : Nat) : Int)⟩) := by
        unfold WM.skip
        have : M.may ((u + 1 : Nat) : Int) = true := by unfold WM.may; rw [decide_eq_true (by omega), decide_eq_true (by omega)]; rfl
        rw [this]
        simp only [Bool.true_eq_false, if_false]
        rw [hst]
      refine (skip_spec hsort h5.wx ok _).mono ?_
      rintro _ H6 ⟨⟨s, rfl, a6, cap6, rfl, ho6⟩, F6, w6, s6⟩
      rw [hsk] at w6 ho6 ⊢
      have h6 := h5.stepX w6 s6
      refine ⟨_, _, _, _, rfl, NewW.intro fun q hq => ?_⟩
      have kq : Keep Nil H6 (H6.upd q (.cells ⟨[]⟩ T_int (0, 0))) := (Keep.refl _ _).new hq
      have hQ : Blk (H6.upd q (.cells ⟨[]⟩ T_int (0, 0))) q T_int ⟨[]⟩ := Blk.upd_eq
      generalize H6.upd q (.cells ⟨[]⟩ T_int (0, 0)) = H7 at kq hQ
      have h7 := h6.keepN kq
      have ho7 := ho6.keep kq fun _ _ h => h
      have hoq : Sh.Own H6 H7 (some ⟨q, 0, none⟩) 0 0 1 T_int [] := Sh.Own.start hq hQ
      have hlen6 : (ticks M (u + 1)).1.length ≤ 256 := by have := skip_len_le M ok ((u + 1 : Nat) : Int); rw [hsk] at this; exact this
      -- the ticks, one by one
      generalize hT : ticks M (u + 1) = T at *
      refine LoopI.intro (fun m s H8 => ∃ (j : Nat) (b8 : Option Addr) (cap8 : Nat) (acc : List Int) (N : WM) (F8 : Nat → Prop), s = ((b8, acc.length, cap8), (j : Int), ()) ∧ j ≤ u + 1 ∧ m = u + 1 - j ∧ Tri H H8 x z F6 F8 ⟨T.2.L, M.now + ((u + 1 : Nat) : Int)⟩ N ∧ N.Ok ∧ N.now = M.now + j ∧
          T.1 = acc ++ (ticks N (u + 1 - j)).1 ∧ T.2 = (ticks N (u + 1 - j)).2 ∧ Sh.Own emp H8 a6 T.1.length cap6 1 T_int (iv T.1) ∧ Sh.Own emp H8 b8 acc.length cap8 1 T_int (iv acc) ∧
          (∀ w, a6 = some ⟨w, 0, none⟩ → ¬ F8 w ∧ H w = none) ∧ (∀ w, b8 = some ⟨w, 0, none⟩ → ¬ F8 w ∧ ¬ F6 w ∧ H w = none) ∧ (∀ w, a6 = some ⟨w, 0, none⟩ → b8 ≠ some ⟨w, 0, none⟩)) (u + 1)
        ⟨0, some ⟨q, 0, none⟩, 0, [], M, F2, rfl, Nat.zero_le _, by omega, h7, ok, by simp, by rw [Nat.sub_zero, hT]; simp, by rw [Nat.sub_zero, hT], ho7.toEmp, hoq.toEmp, fun w hw => ⟨fun h2 => ?_, ?_⟩, fun w hw => ⟨fun h2 => ?_, fun h2 => ?_, ?_⟩, fun w hw e => ?_⟩ ?_
      · exact h5.wz.live h2 (ho6.free hw)
      · exact h5.keep.free (ho6.free hw)
      · cases hw; exact h6.wz.live h2 hq
      · cases hw; exact h6.wx.live h2 hq
      · cases hw; exact h6.keep.free hq
      · cases e
        obtain ⟨_, hb⟩ := ho6.live hw
        exact hb.some hq
      rintro m s H8 ⟨j, b8, cap8, acc, N, F8, rfl, hj, rfl, h8, okN, hnN, ht1, ht2, hoL, hoM, hd1, hd2, hd3⟩ g
      unfold law04_WheelSkips_l19
      dsimp only
      rw [hw]
      by_cases hjl : j < u + 1
      · rw [decide_eq_true (by omega), IfB_true]
        obtain ⟨v, hv⟩ : ∃ v, u + 1 - j = v + 1 := ⟨u - j, by omega⟩
        rw [hv] at ht1 ht2
        simp only [ticks] at ht1 ht2
        have hte := tick_eq okN (by rw [hnN]; omega)
        refine (tick_spec hsort h8.wz okN).mono ?_
        rintro _ H9 ⟨⟨s, rfl, a9, cap9, rfl, ho9⟩, F9, w9, s9⟩
        have h9 := h8.stepZ w9 s9
        have e0 : (N.skip 1).2.1 = 0 := by rw [hte]
        have en : (N.skip 1).2.2.now = N.now + 1 := by rw [hte]
        refine ⟨_, _, _, _, rfl, ?_⟩
        rw [e0, show ((0 : Int) != 0) = false from rfl, IfB_false]
        have hoM9 := hoM.keep s9.keep fun w hw => (hd2 w hw).1
        have hoL9 := hoL.keep s9.keep fun w hw => (hd1 w hw).1
        obtain ⟨it, hit, hsz, hby⟩ := row_int.info
        have hal2 : acc.length + (N.skip 1).1.length ≤ 256 := by
          have := congrArg List.length ht1
          simp only [List.length_append] at this; omega
        have f9 : ∀ w, F9 w → F8 w ∨ H8 w = none := s9.new
        refine own_append2 (H0 := emp) (S := fun _ => True) und_sl_int und_sl_int hit hsz hby (by omega) row_int.zero rfl hoM9 ⟨fun _ h => absurd trivial h, fun _ h => absurd rfl h⟩ (new := iv (N.skip 1).1) ho9.reads (iv_plain _) (by omega) fun a10 cap10 H10 _ ho10 hn10 k10 _ => ?_
        refine ⟨_, _, _, rfl, ?_⟩
        rw [wrap_id (by omega) (by omega)]
        have nb9 : ∀ w, b8 = some ⟨w, 0, none⟩ → ¬ F9 w := fun w hw h2 => by
          obtain ⟨_, hb⟩ := hoM.live hw
          exact (f9 w h2).elim (hd2 w hw).1 hb.some
        have h10 : Tri H H10 x z F6 F9 ⟨T.2.L, M.now + ((u + 1 : Nat) : Int)⟩ (N.skip 1).2.2 :=
          { h9 with
            wx := h9.wx.keep k10 fun w hw e => (hd2 w e).2.1 hw
            wz := h9.wz.keep k10 fun w hw e => nb9 w e hw
            keep := h9.keep.then k10 fun w e => .inr (hd2 w e).2.2 }
        refine ⟨u + 1 - (j + 1), by omega, j + 1, a10, cap10, acc ++ (N.skip 1).1, (N.skip 1).2.2, F9, by rw [List.length_append]; simp, by omega, rfl, h10, okN.skip 1, by rw [en, hnN]; omega, ?_, ?_, hoL9.keep k10 (fun w hw e => hd3 w hw e), ?_, fun w hw => ⟨fun h2 => ?_, (hd1 w hw).2⟩, fun w hw => ?_, fun w hw e => ?_⟩
        · rw [show u + 1 - (j + 1) = v by omega, ht1, List.append_assoc]
        · rw [show u + 1 - (j + 1) = v by omega, ht2]
        · rw [List.length_append, iv_append]; exact ho10
        · obtain ⟨_, hb⟩ := hoL.live hw
          exact (f9 w h2).elim (hd1 w hw).1 hb.some
        · rcases hn10 w hw with h1 | h1
          · exact ⟨nb9 w h1, (hd2 w h1).2⟩
          · exact ⟨fun h2 => h9.wz.live h2 h1, fun h2 => h9.wx.live h2 h1, h9.keep.free h1⟩
        · rcases hn10 w e with h1 | h1
          · exact hd3 w hw h1
          · obtain ⟨_, hb⟩ := hoL9.live hw
            exact hb.some h1
      · rw [decide_eq_false (by omega), IfB_false, show ((0 : Int) == 0) = true from rfl, IfB_true]
        have hj0 : u + 1 - j = 0 := by omega
        rw [hj0] at ht1 ht2
        simp only [ticks, List.append_nil] at ht1 ht2
        have hacc : acc = T.1 := by rw [ht1]
        have hNe : N = T.2 := by rw [ht2]
        rw [← hacc] at hoL hlen6 ⊢
        refine (same_ints hoL hoM (by omega)).mono ?_
        rintro _ _ ⟨rfl, rfl⟩
        refine ⟨_, rfl, ?_⟩
        rw [decide_eq_true rfl, IfB_true]
        refine (wnow_spec h8.wx).mono ?_
        rintro _ _ ⟨rfl, rfl⟩
        refine ⟨_, rfl, (wnow_spec h8.wz).mono ?_⟩
        rintro _ _ ⟨rfl, rfl⟩
        refine ⟨_, rfl, ?_⟩
        have e1 : (M.now + ((u + 1 : Nat) : Int) == N.now) = true := by rw [hNe, hnow]; simp
        rw [e1, IfB_true]
        refine (wlen_spec h8.wx).mono ?_
        rintro _ _ ⟨rfl, rfl⟩
        refine ⟨_, rfl, (wlen_spec h8.wz).mono ?_⟩
        rintro _ _ ⟨rfl, rfl⟩
        refine ⟨_, rfl, fun H9 hs => ⟨?_, shutS h8.keep hs⟩⟩
        rw [hNe]; simp
  -- the end of the first loop: the second one
  have second : ∀ (i : Nat) (H4 : Heap) (F G : Nat → Prop) nx, i = min n 60 → Pair HZ H4 x y F G (loopM ⟨[], 0⟩ (l.take i)) (loopM ⟨[], 0⟩ (l.take i)) → ∀ ii : Int, law04_WheelSkips_j0 a n cap n1 (some ⟨x, 0, none⟩) (some ⟨z, 0, none⟩) y ii nx false H4 fun v H1 => ∀ H2, Shut H H1 H2 → v = .bool true ∧ Keep Nil H H2 := by
    intro i H4 F G nx hi h4 ii
    unfold law04_WheelSkips_j0
    rw [IfB_false]
    refine NewW.intro fun y2 hy2 => ?_
    have z4 := zk h4.keep
    have hFF2 : ∀ u, F u → ¬ F2 u := fun u hu h2 => by
      have h1 := h4.fw u hu
      rw [← hZ, withS_in h2] at h1
      exact w2.live h2 h1
    have kHS : Keep Nil H (sansS H4 F2) := ⟨fun u hu hl => by
        have hn : ¬ F2 u := fun h2 => hl (f2H u h2)
        rw [sansS_out hn]; exact (kHZ.trans h4.keep).same u hu hl, fun u hl => by
        have hn : ¬ F2 u := fun h2 => hl (f2H u h2)
        rw [sansS_out hn]; exact (kHZ.trans h4.keep).live u hl⟩
    have hp2 := pair0 (H := sansS H4 F2) z4 (sansS_keep H4 F2) (fun u hu => sansS_in hu) hy2 rfl
    generalize H4.upd y2 (.cells ⟨[.slice none 0 0, .int .i64 0]⟩ T_ref04_Wheel (0, 0)) = H5 at hp2
    have xk : ∀ {Hx}, Keep Nil (sansS H4 F2) Hx → WAt Hx x F (loopM ⟨[], 0⟩ (l.take i)) := fun {Hx} kx => h4.w.same fun u hu => by
      have hl : sansS H4 F2 u ≠ none := by rw [sansS_out (hFF2 u hu)]; exact h4.w.live hu
      rw [kx.same u (fun h => h) hl, sansS_out (hFF2 u hu)]
    refine LoopI.intro (fun m s H6 => ∃ (j : Nat) (F' G' : Nat → Prop), s = ((j : Int), ()) ∧ j ≤ 60 ∧ j ≤ n ∧ m = 60 - j ∧ Pair (sansS H4 F2) H6 z y2 F' G' (loopM ⟨[], 0⟩ (l.take j)) (loopM ⟨[], 0⟩ (l.take j))) 60 ⟨0, _, _, rfl, Nat.zero_le _, Nat.zero_le _, by omega, hp2⟩ ?_
    rintro m s H6 ⟨j, F', G', rfl, hj, hjn, rfl, h6⟩ g
    unfold law04_WheelSkips_l10
    dsimp only
    have done : j = min n 60 → ∀ (ii : Int) nx1 nx2, law04_WheelSkips_j1 a n cap n1 (some ⟨x, 0, none⟩) (some ⟨z, 0, none⟩) y2 ii nx1 nx2 false H6 fun v H1 => ∀ H2, Shut H H1 H2 → v = .bool true ∧ Keep Nil H H2 := by
      intro hje ii nx1 nx2
      have hji : j = i := by omega
      subst hji
      exact last H6 F F' _ nx1 nx2 ii y2 (okL j) ⟨xk h6.keep, h6.w, fun u hu h2 => by
        have h1 := h6.fw u h2
        rw [sansS_out (hFF2 u hu)] at h1
        exact h4.w.live hu h1, fun u hu => kHZ.free (h4.fw u hu), fun u hu => kHS.free (h6.fw u hu), kHS.trans h6.keep⟩
    by_cases hlt : j < n
    · rw [decide_eq_true (by omega), IfB_true]
      by_cases h60 : j < 60
      · rw [decide_eq_true (by omega)]
        unfold law04_WheelSkips_j1
        rw [IfB_true]
        obtain ⟨q, o, e, c0, c1, c2⟩ := (hal.keep (kHS.trans h6.keep)).2 j (by omega)
        refine NilP.intro _ e (InB.intro j rfl hlt ?_)
        rw [elemAt_none]
        refine ⟨_, c0, _, c1, _, c2, (do_spec hsort h6 (okL j) _ _ _).mono ?_⟩
        rintro _ H7 ⟨rfl, F7, G7, h7⟩
        refine ⟨_, rfl, ?_⟩
        rw [wrap_id (by omega) (by omega)]
        refine ⟨60 - (j + 1), by omega, j + 1, F7, G7, by simp, by omega, by omega, rfl, ?_⟩
        rw [List.take_succ_eq_append_getElem (by omega), loopM_snoc]
        exact h7
      · rw [decide_eq_false (by omega)]
        exact done (by omega) _ _ _
    · rw [decide_eq_false (by omega), IfB_false]
      exact done (by omega) _ _ _
  by_cases hlt : i < n
  · rw [decide_eq_true (by omega), IfB_true]
    by_cases h60 : i < 60
    · rw [decide_eq_true (by omega)]
      unfold law04_WheelSkips_j0
      rw [IfB_true]
      obtain ⟨q, o, e, c0, c1, c2⟩ := (halZ h4.keep).2 i (by omega)
      refine NilP.intro _ e (InB.intro i rfl hlt ?_)
      rw [elemAt_none]
      refine ⟨_, c0, _, c1, _, c2, (do_spec hsort h4 (okL i) _ _ _).mono ?_⟩
      rintro _ H7 ⟨rfl, F7, G7, h7⟩
      refine ⟨_, rfl, ?_⟩
      rw [wrap_id (by omega) (by omega)]
      refine ⟨60 - (i + 1), by omega, i + 1, F7, G7, by simp, by omega, by omega, rfl, ?_⟩
      rw [List.take_succ_eq_append_getElem (by omega), loopM_snoc]
      exact h7
    · rw [decide_eq_false (by omega)]
      exact second i H4 F G _ (by omega) h4 _
  · rw [decide_eq_false (by omega), IfB_false]
    exact second i H4 F G _ (by omega) h4 _
end Go.Proofs.Ytdhjglkacnhhcaa
