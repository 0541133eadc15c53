/-
  Law 03: the small play that ends each law; a ring that no call made.
-/
import Derived.Test.YtligjponbhnedaaRing3
set_option maxRecDepth 100000
namespace Go.Proofs.Ytligjponbhnedaa
open Go.Sh

theorem law03_works_spec {H : Heap} : FnW Try.prog f_law03_works ⟨[]⟩ H fun v H' => v = .bool true ∧ Keep Nil H H' := by
  refine law03_works_sh ?_
  unfold law03_works_p
  refine (pool_Make_spec (n := 3) (by omega) (by omega)).mono ?_
  rintro v H1 ⟨k1, x, xl, c, d, f, hx0, hxl0, rfl, hx⟩
  refine ⟨_, _, rfl, ?_⟩
  refine (ring_Make_spec (n := 2) (by omega) (by omega)).mono ?_
  rintro v H2 ⟨k2, b, c', hb0, rfl, hr⟩
  refine ⟨_, _, rfl, ?_⟩
  have h : PR H H2 x xl b (PoolM.make 3) (RingM.make 2) := ⟨k1.trans k2, hx0, hxl0, k1.free hb0, ⟨c, d, f, hx.keep k2 (nil_no _) (nil_no _)⟩, c', hr⟩
  clear hx hr k1 k2
  rw [show (some (⟨x, 0, none⟩ : Addr)).isNone = false from rfl, show (some (⟨b, 0, none⟩ : Addr)).isNone = false from rfl, IfB_false]
  unfold law03_works_j0
  rw [IfB_false]
  have nh : ∀ {G : Heap} {P : PoolM} {M : RingM} {z c}, PR H G x xl b P M → Blk G z T_pool_Handle c → ¬ three x xl b z := fun h hz => h.no hz (by decide) (by decide) (by decide)
  have nu : ∀ {G : Heap} {P : PoolM} {M : RingM} {z c}, PR H G x xl b P M → Blk G z T_uint8 c → ¬ three x xl b z := fun h hz => h.no hz (by decide) (by decide) (by decide)
  have l1 : (PoolM.make 3).lend [] = ((0, 1), 0, ⟨[(1, []), (0, []), (0, [])], [1, 2], 1⟩) := rfl
  have l2 : (⟨[(1, []), (0, []), (0, [])], [1, 2], 1⟩ : PoolM).lend [] = ((1, 2), 0, ⟨[(1, []), (2, []), (0, [])], [2], 2⟩) := rfl
  have l3 : (⟨[(1, []), (2, []), (0, [])], [2], 2⟩ : PoolM).lend [] = ((2, 3), 0, ⟨[(1, []), (2, []), (3, [])], [], 3⟩) := rfl
  refine (pr_Lend h (by decide)).mono ?_
  rintro v H4 ⟨rfl, _, h4⟩
  rw [l1] at h4 ⊢
  refine ⟨_, _, _, rfl, ?_⟩
  refine new_pair fun a5 H7 _ k7 _ hA => ?_
  replace h4 := h4.keepN k7
  refine (pr_Lend h4 (by simp)).mono ?_
  rintro v H8 ⟨rfl, k8, h8⟩
  replace hA := k8.blk hA (nh h4 hA)
  rw [l2] at h8 ⊢
  refine ⟨_, _, _, rfl, ?_⟩
  refine new_pair fun b7 H11 _ k11 _ hB => ?_
  replace h8 := h8.keepN k11
  replace hA := k11.blk hA (nil_no _)
  refine (pr_Lend h8 (by simp)).mono ?_
  rintro v H12 ⟨rfl, k12, h12⟩
  replace hA := k12.blk hA (nh h8 hA)
  replace hB := k12.blk hB (nh h8 hB)
  rw [l3] at h12 ⊢
  refine ⟨_, _, _, rfl, ?_⟩
  refine new_pair fun c9 H15 _ k15 _ hC => ?_
  replace h12 := h12.keepN k15
  replace hA := k15.blk hA (nil_no _)
  replace hB := k15.blk hB (nil_no _)
  refine ⟨_, by rw [hA.cell]; rfl, _, by rw [hA.cell]; rfl, ?_⟩
  have p1 : (RingM.make 2).post (0, 1) = (0, ⟨2, [], [(0, 1)], 0⟩) := rfl
  have p2 : (⟨2, [], [(0, 1)], 0⟩ : RingM).post (1, 2) = (0, ⟨2, [], [(0, 1), (1, 2)], 0⟩) := rfl
  have p3 : (⟨2, [], [(0, 1), (1, 2)], 0⟩ : RingM).post (2, 3) = (4, ⟨2, [], [(0, 1), (1, 2)], 0⟩) := rfl
  refine (pr_Post h12 0 1).mono ?_
  rintro v H16 ⟨rfl, k16, h16⟩
  rw [p1] at h16 ⊢
  replace hA := k16.blk hA (nh h12 hA)
  replace hB := k16.blk hB (nh h12 hB)
  replace hC := k16.blk hC (nh h12 hC)
  refine ⟨_, rfl, _, by rw [hB.cell]; rfl, _, by rw [hB.cell]; rfl, ?_⟩
  refine (pr_Post h16 1 2).mono ?_
  rintro v H17 ⟨rfl, k17, h17⟩
  rw [p2] at h17 ⊢
  replace hA := k17.blk hA (nh h16 hA)
  replace hC := k17.blk hC (nh h16 hC)
  refine ⟨_, rfl, _, by rw [hC.cell]; rfl, _, by rw [hC.cell]; rfl, ?_⟩
  refine (pr_Post h17 2 3).mono ?_
  rintro v H18 ⟨rfl, k18, h18⟩
  rw [p3] at h18 ⊢
  replace hA := k18.blk hA (nh h17 hA)
  refine ⟨_, rfl, ?_⟩
  refine NewW.intro fun u hu => ?_
  have ku : Keep Nil H18 (H18.upd u (.cells ⟨[.int .u8 7]⟩ T_uint8)) := (Keep.refl _ _).new hu
  have hU : Blk (H18.upd u (.cells ⟨[.int .u8 7]⟩ T_uint8)) u T_uint8 ⟨[.int .u8 7]⟩ := Blk.upd_eq
  generalize H18.upd u (.cells ⟨[.int .u8 7]⟩ T_uint8) = H19 at *
  replace h18 := h18.keepN ku
  replace hA := ku.blk hA (nil_no _)
  have hbu : IsBytes H19 (some ⟨u, 0, none⟩) 1 [7] := Reads.blk hU rfl fun j hj => by
    have : j = 0 := by omega
    subst this; rfl
  have no3 := nu h18 hU
  have f1 : fillV ⟨[(1, []), (2, []), (3, [])], [], 3⟩ ⟨2, [], [(0, 1), (1, 2)], 0⟩ [7] = (0, ⟨[(1, [7]), (2, []), (3, [])], [], 3⟩) := rfl
  have d1 : (⟨2, [], [(0, 1), (1, 2)], 0⟩ : RingM).device = ((0, 1), 0, ⟨2, [(0, 1)], [(1, 2)], 0⟩) := rfl
  refine (pr_Fill h18 hbu (fun z hz => by cases hz; exact ⟨fun e => no3 (.inr (.inl e)), fun e => no3 (.inr (.inr e))⟩)).mono ?_
  rintro v H20 ⟨rfl, k20, h20⟩
  rw [f1, d1] at h20
  rw [f1]
  replace hA := k20.blk hA (nh h18 hA)
  refine ⟨_, rfl, _, by rw [hA.cell]; rfl, _, by rw [hA.cell]; rfl, ?_⟩
  have r1 : (⟨[(1, [7]), (2, []), (3, [])], [], 3⟩ : PoolM).read 0 1 = ([7], 0) := rfl
  refine (pr_Read h20 0 1).mono ?_
  rintro v H21 ⟨k21, a, m, cap, rfl, hbr, hur⟩
  rw [r1] at hbr ⊢
  replace h20 := h20.keepN k21
  replace hA := k21.blk hA (nil_no _)
  refine ⟨_, _, _, _, rfl, ?_⟩
  have q1 : (⟨2, [(0, 1)], [(1, 2)], 0⟩ : RingM).reap = ((0, 1), 0, ⟨2, [], [(1, 2)], 1⟩) := rfl
  have q2 : (⟨2, [], [(1, 2)], 1⟩ : RingM).reap = ((0, 0), 30, ⟨2, [], [(1, 2)], 1⟩) := rfl
  have bk : ∀ {G G' : Heap} {P : PoolM} {M : RingM}, PR H G x xl b P M → Keep (three x xl b) G G' → IsBytes G a m [7] → U8 G a → IsBytes G' a m [7] ∧ U8 G' a := fun hG k h1 h2 =>
    ⟨Reads.keep h1 k fun z hz => by
      obtain ⟨c, hc⟩ := h2 z hz
      exact nu hG hc, h2.keep k fun z c hz => nu hG hz⟩
  refine (pr_Reap h20).mono ?_
  rintro v H22 ⟨rfl, k22, h22⟩
  obtain ⟨hb22, hu22⟩ := bk h20 k22 hbr hur
  replace hA := k22.blk hA (nh h20 hA)
  rw [q1] at h22 ⊢
  refine ⟨_, _, _, rfl, ?_⟩
  refine new_pair fun h15 H25 _ k25 _ hP => ?_
  replace h22 := h22.keepN k25
  have hb25 : IsBytes H25 a m [7] := Reads.keep hb22 k25 fun _ _ h => h
  have hu25 := hu22.keep k25 fun _ _ _ h => h
  replace hA := k25.blk hA (nil_no _)
  refine (pr_Reap h22).mono ?_
  rintro v H26 ⟨rfl, k26, h26⟩
  obtain ⟨hb26, hu26⟩ := bk h22 k26 hb25 hu25
  replace hA := k26.blk hA (nh h22 hA)
  replace hP := k26.blk hP (nh h22 hP)
  rw [q2] at h26 ⊢
  refine ⟨_, _, _, rfl, ?_⟩
  refine new_pair fun x17 H29 _ k29 _ _ => ?_
  replace h26 := h26.keepN k29
  have hb29 : IsBytes H29 a m [7] := Reads.keep hb26 k29 fun _ _ h => h
  replace hA := k29.blk hA (nil_no _)
  replace hP := k29.blk hP (nil_no _)
  rw [show ((0 : Int) == 0) = true from rfl, show ((4 : Int) == 4) = true from rfl, IfB_true, IfB_true, IfB_true]
  refine NewW.intro fun w hw => ?_
  have kw : Keep Nil H29 (H29.upd w (.cells ⟨[.int .u8 7]⟩ T_uint8)) := (Keep.refl _ _).new hw
  have hW : Blk (H29.upd w (.cells ⟨[.int .u8 7]⟩ T_uint8)) w T_uint8 ⟨[.int .u8 7]⟩ := Blk.upd_eq
  generalize H29.upd w (.cells ⟨[.int .u8 7]⟩ T_uint8) = H30 at *
  replace hA := kw.blk hA (nil_no _)
  replace hP := kw.blk hP (nil_no _)
  have hbw : IsBytes H30 (some ⟨w, 0, none⟩) 1 [7] := Reads.blk hW rfl fun j hj => by
    have : j = 0 := by omega
    subst this; rfl
  refine (base_SameBytes_spec (Reads.keep hb29 kw fun _ _ h => h) hbw).mono ?_
  rintro v _ ⟨rfl, rfl⟩
  refine ⟨_, rfl, ?_⟩
  rw [show (([7] : List UInt8) == [7]) = true from rfl, IfB_true]
  refine ⟨_, by rw [hP.cell]; rfl, _, by rw [hP.cell]; rfl, _, by rw [hA.cell]; rfl, _, by rw [hA.cell]; rfl, guard_Handle, ?_⟩
  exact ⟨rfl, h26.keep.trans kw⟩

/-- No ring, or one of no slots. -/
def VoidR (H : Heap) (p : Option Addr) : Prop := p = none ∨ ∃ b c, p = some ⟨b, 0, none⟩ ∧ Blk H b T_ring_Ring c ∧ c[192]? = some (.int .i64 0)
theorem VoidR.keep {H H' : Heap} {p : Option Addr} (h : VoidR H p) (k : Keep Nil H H') : VoidR H' p := by
  rcases h with rfl | ⟨b, c, rfl, hb, h0⟩
  · exact .inl rfl
  · exact .inr ⟨b, c, rfl, k.blk hb (nil_no b), h0⟩
theorem voidR_is {H : Heap} {p : Option Addr} (h : VoidR H p) : FnW Try.prog f_ring_Ring_is ⟨[.pointer p]⟩ H fun v H' => v = .bool false ∧ H = H' := by
  rcases h with rfl | ⟨b, c, rfl, hb, h0⟩
  · exact ring_Ring_is_nil_sh ⟨rfl, rfl⟩
  · exact ring_Ring_is_sh b ⟨0, by rw [hb.cell]; exact h0, rfl, rfl⟩
theorem voidR_Post {H : Heap} {p : Option Addr} (h : VoidR H p) (n t : Int) : FnW Try.prog f_ring_Ring_Post ⟨[.pointer p, .agg ⟨[.int .i64 n, .int .i64 t]⟩]⟩ H fun v H' => v = .int .i64 1 ∧ Keep Nil H H' := by
  have hk := fun H' k => voidR_is (h.keep (H' := H') k)
  rcases h with rfl | ⟨b, c, rfl, hb, h0⟩
  · refine ring_Ring_Post_nil_sh n t ?_
    unfold ring_Ring_Post_nil_p
    refine NewW.intro fun m hm => (hk _ ((Keep.refl _ _).new hm)).mono ?_
    rintro v H2 ⟨rfl, rfl⟩
    exact ⟨false, rfl, rfl, (Keep.refl _ _).new hm⟩
  · refine ring_Ring_Post_sh b n t ?_
    unfold ring_Ring_Post_p
    refine NewW.intro fun m hm => (hk _ ((Keep.refl _ _).new hm)).mono ?_
    rintro v H2 ⟨rfl, rfl⟩
    exact ⟨false, rfl, rfl, (Keep.refl _ _).new hm⟩
theorem voidR_device {H : Heap} {p : Option Addr} (h : VoidR H p) : FnW Try.prog f_ring_Ring_device ⟨[.pointer p]⟩ H fun v H' => v = .tuple ⟨[.agg ⟨[.int .i64 0, .int .i64 0]⟩, .int .i64 1]⟩ ∧ Keep Nil H H' := by
  have hk := fun H' k => voidR_is (h.keep (H' := H') k)
  rcases h with rfl | ⟨b, c, rfl, hb, h0⟩
  · refine ring_Ring_device_nil_sh ?_
    unfold ring_Ring_device_nil_p
    refine NewW.intro fun m hm => (hk _ ((Keep.refl _ _).new hm)).mono ?_
    rintro v H2 ⟨rfl, rfl⟩
    refine ⟨false, rfl, ?_⟩
    rw [Bool.not_false, IfB_true]
    exact pair_out Blk.upd_eq rfl fun H' k _ => ⟨rfl, ((Keep.refl Nil H).new hm).then k fun x hx => .inr (by rw [hx]; exact hm)⟩
  · refine ring_Ring_device_sh b ?_
    unfold ring_Ring_device_p
    refine NewW.intro fun m hm => (hk _ ((Keep.refl _ _).new hm)).mono ?_
    rintro v H2 ⟨rfl, rfl⟩
    refine ⟨false, rfl, ?_⟩
    rw [Bool.not_false, IfB_true]
    exact pair_out Blk.upd_eq rfl fun H' k _ => ⟨rfl, ((Keep.refl Nil H).new hm).then k fun x hx => .inr (by rw [hx]; exact hm)⟩
theorem voidR_Reap {H : Heap} {p : Option Addr} (h : VoidR H p) : FnW Try.prog f_ring_Ring_Reap ⟨[.pointer p]⟩ H fun v H' => v = .tuple ⟨[.agg ⟨[.int .i64 0, .int .i64 0]⟩, .int .i64 1]⟩ ∧ Keep Nil H H' := by
  have hk := fun H' k => voidR_is (h.keep (H' := H') k)
  rcases h with rfl | ⟨b, c, rfl, hb, h0⟩
  · refine ring_Ring_Reap_nil_sh ?_
    unfold ring_Ring_Reap_nil_p
    refine NewW.intro fun m hm => (hk _ ((Keep.refl _ _).new hm)).mono ?_
    rintro v H2 ⟨rfl, rfl⟩
    refine ⟨false, rfl, ?_⟩
    rw [Bool.not_false, IfB_true]
    exact pair_out Blk.upd_eq rfl fun H' k _ => ⟨rfl, ((Keep.refl Nil H).new hm).then k fun x hx => .inr (by rw [hx]; exact hm)⟩
  · refine ring_Ring_Reap_sh b ?_
    unfold ring_Ring_Reap_p
    refine NewW.intro fun m hm => (hk _ ((Keep.refl _ _).new hm)).mono ?_
    rintro v H2 ⟨rfl, rfl⟩
    refine ⟨false, rfl, ?_⟩
    rw [Bool.not_false, IfB_true]
    exact pair_out Blk.upd_eq rfl fun H' k _ => ⟨rfl, ((Keep.refl Nil H).new hm).then k fun x hx => .inr (by rw [hx]; exact hm)⟩
theorem voidR_Fill {H : Heap} {p : Option Addr} (h : VoidR H p) (x : Nat) (a : Option Addr) (n cap : Nat) : FnW Try.prog f_ring_Ring_Fill ⟨[.pointer p, .pointer (some ⟨x, 0, none⟩), .slice a n cap]⟩ H fun v H' => v = .int .i64 1 ∧ Keep Nil H H' := by
  have hk := voidR_device h
  rcases h with rfl | ⟨b, c, rfl, hb, h0⟩
  · refine ring_Ring_Fill_nil_sh x a n cap ?_
    unfold ring_Ring_Fill_nil_p
    refine hk.mono ?_
    rintro v H1 ⟨rfl, k1⟩
    exact ⟨_, _, _, rfl, new_pair fun m H4 _ k4 _ _ => ⟨rfl, k1.trans k4⟩⟩
  · refine ring_Ring_Fill_sh b x a n cap ?_
    unfold ring_Ring_Fill_p
    refine hk.mono ?_
    rintro v H1 ⟨rfl, k1⟩
    exact ⟨_, _, _, rfl, new_pair fun m H4 _ k4 _ _ => ⟨rfl, k1.trans k4⟩⟩
theorem voidR_Take {H : Heap} {p : Option Addr} (h : VoidR H p) (x : Nat) : FnW Try.prog f_ring_Ring_Take ⟨[.pointer p, .pointer (some ⟨x, 0, none⟩)]⟩ H fun v H' => v = .tuple ⟨[.slice none 0 0, .int .i64 1]⟩ ∧ Keep Nil H H' := by
  have hk := voidR_device h
  rcases h with rfl | ⟨b, c, rfl, hb, h0⟩
  · refine ring_Ring_Take_nil_sh x ?_
    unfold ring_Ring_Take_nil_p
    refine hk.mono ?_
    rintro v H1 ⟨rfl, k1⟩
    exact ⟨_, _, _, rfl, new_pair fun m H4 _ k4 _ _ => ⟨rfl, k1.trans k4⟩⟩
  · refine ring_Ring_Take_sh b x ?_
    unfold ring_Ring_Take_p
    refine hk.mono ?_
    rintro v H1 ⟨rfl, k1⟩
    exact ⟨_, _, _, rfl, new_pair fun m H4 _ k4 _ _ => ⟨rfl, k1.trans k4⟩⟩
theorem voidR_Slots {H : Heap} {p : Option Addr} (h : VoidR H p) : FnW Try.prog f_ring_Ring_Slots ⟨[.pointer p]⟩ H fun v H' => v = .slice none 0 0 ∧ H = H' := by
  have hk := voidR_is h
  rcases h with rfl | ⟨b, c, rfl, hb, h0⟩
  · refine ring_Ring_Slots_nil_sh (hk.mono ?_)
    rintro v H1 ⟨rfl, rfl⟩
    exact ⟨false, rfl, rfl, rfl⟩
  · refine ring_Ring_Slots_sh b (hk.mono ?_)
    rintro v H1 ⟨rfl, rfl⟩
    exact ⟨false, rfl, rfl, rfl⟩
theorem voidR_Count {H : Heap} {p : Option Addr} (h : VoidR H p) (s : Int) : FnW Try.prog f_ring_Ring_Count ⟨[.pointer p, .int .i64 s]⟩ H fun v H' => v = .int .i64 0 ∧ H = H' := by
  have hk := voidR_is h
  rcases h with rfl | ⟨b, c, rfl, hb, h0⟩
  · refine ring_Ring_Count_nil_sh s (hk.mono ?_)
    rintro v H1 ⟨rfl, rfl⟩
    exact ⟨false, rfl, rfl, rfl⟩
  · refine ring_Ring_Count_sh b s (hk.mono ?_)
    rintro v H1 ⟨rfl, rfl⟩
    exact ⟨false, rfl, rfl, rfl⟩

theorem law03_RingVoid_spec {H : Heap} (n t : Int) (a : Option Addr) (l cap : Nat) :
    FnW Try.prog f_law03_RingVoid ⟨[.agg ⟨[.int .i64 n, .int .i64 t]⟩, .slice a l cap]⟩ H fun v H' => v = .bool true ∧ Keep Nil H H' := by
  refine law03_RingVoid_sh n t a l cap ?_
  unfold law03_RingVoid_p
  refine NewW.intro fun h hh => ?_
  have k1 : Keep Nil H (H.upd h (.cells ⟨[.int .i64 n, .int .i64 t]⟩ T_pool_Handle)) := (Keep.refl _ _).new hh
  have hB : Blk (H.upd h (.cells ⟨[.int .i64 n, .int .i64 t]⟩ T_pool_Handle)) h T_pool_Handle ⟨[.int .i64 n, .int .i64 t]⟩ := Blk.upd_eq
  generalize H.upd h (.cells ⟨[.int .i64 n, .int .i64 t]⟩ T_pool_Handle) = H1 at *
  have pair : ∀ {H' : Heap} {K : Int → Int → Prop}, Keep Nil H1 H' → K n t → ∃ a : Int, H'.cell ⟨h, 0, none⟩ = some (.int .i64 a) ∧ ∃ b : Int, H'.cell ⟨h, 1, none⟩ = some (.int .i64 b) ∧ K a b := fun k hk =>
    ⟨n, by rw [(k.blk hB (nil_no h)).cell]; rfl, t, by rw [(k.blk hB (nil_no h)).cell]; rfl, hk⟩
  refine law03_works_spec.mono ?_
  rintro v H2 ⟨rfl, k2⟩
  refine ⟨true, rfl, ?_⟩
  rw [Bool.not_true, IfB_false]
  refine NewW.intro fun z hz => ?_
  have k3 : Keep Nil H2 (H2.upd z (.cells ⟨zl_T_ring_Ring⟩ T_ring_Ring)) := (Keep.refl _ _).new hz
  have hZ : VoidR (H2.upd z (.cells ⟨zl_T_ring_Ring⟩ T_ring_Ring)) (some ⟨z, 0, none⟩) := .inr ⟨z, _, rfl, Blk.upd_eq, ring_zero 192 (by omega)⟩
  generalize H2.upd z (.cells ⟨zl_T_ring_Ring⟩ T_ring_Ring) = H3 at *
  have no : ∀ H', VoidR H' none := fun _ => .inl rfl
  replace k3 := k2.trans k3
  clear k2 hz H2
  refine (pool_Make_spec (n := 1) (by omega) (by omega)).mono ?_
  rintro v H4 ⟨k, x, xl, c, d, f, hx0, hxl0, rfl, hx⟩
  replace hZ := hZ.keep k
  replace k3 := k3.trans k
  refine ⟨_, _, rfl, ?_⟩
  refine (voidR_Take (no _) x).mono ?_
  rintro v H5 ⟨rfl, k⟩
  replace hZ := hZ.keep k
  replace k3 := k3.trans k
  refine ⟨_, _, _, _, rfl, ?_⟩
  refine (voidR_Take hZ x).mono ?_
  rintro v H6 ⟨rfl, k⟩
  replace hZ := hZ.keep k
  replace k3 := k3.trans k
  refine ⟨_, _, _, _, rfl, ?_⟩
  refine (voidR_Reap (no _)).mono ?_
  rintro v H7 ⟨rfl, k⟩
  replace hZ := hZ.keep k
  replace k3 := k3.trans k
  refine ⟨_, _, _, rfl, ?_⟩
  refine new_pair fun _ H10 _ k _ _ => ?_
  replace hZ := hZ.keep k
  replace k3 := k3.trans k
  refine (voidR_Reap hZ).mono ?_
  rintro v H11 ⟨rfl, k⟩
  replace hZ := hZ.keep k
  replace k3 := k3.trans k
  refine ⟨_, _, _, rfl, ?_⟩
  refine new_pair fun _ H14 _ k _ _ => ?_
  replace hZ := hZ.keep k
  replace k3 := k3.trans k
  have one : ((1 : Int) == 1) = true := rfl
  refine pair k3 ?_
  refine (voidR_Post (no _) n t).mono ?_
  rintro v H15 ⟨rfl, k⟩
  replace hZ := hZ.keep k
  replace k3 := k3.trans k
  refine ⟨_, rfl, ?_⟩
  rw [one, IfB_true]
  refine pair k3 ?_
  refine (voidR_Post hZ n t).mono ?_
  rintro v H16 ⟨rfl, k⟩
  replace hZ := hZ.keep k
  replace k3 := k3.trans k
  refine ⟨_, rfl, ?_⟩
  rw [one, IfB_true]
  refine (voidR_Fill (no _) x a l cap).mono ?_
  rintro v H17 ⟨rfl, k⟩
  replace hZ := hZ.keep k
  replace k3 := k3.trans k
  refine ⟨_, rfl, ?_⟩
  rw [one, IfB_true]
  refine (voidR_Fill hZ x a l cap).mono ?_
  rintro v H18 ⟨rfl, k⟩
  replace hZ := hZ.keep k
  replace k3 := k3.trans k
  refine ⟨_, rfl, ?_⟩
  rw [one, IfB_true, IfB_true, IfB_true, IfB_true, IfB_true]
  refine (voidR_Slots (no _)).mono ?_
  rintro v _ ⟨rfl, rfl⟩
  refine ⟨_, _, _, rfl, (voidR_Slots hZ).mono ?_⟩
  rintro v _ ⟨rfl, rfl⟩
  refine ⟨_, _, _, rfl, (voidR_Count (no _) 0).mono ?_⟩
  rintro v _ ⟨rfl, rfl⟩
  refine ⟨_, rfl, (voidR_Count hZ 0).mono ?_⟩
  rintro v _ ⟨rfl, rfl⟩
  exact ⟨_, rfl, rfl, k1.trans k3⟩

end Go.Proofs.Ytligjponbhnedaa
