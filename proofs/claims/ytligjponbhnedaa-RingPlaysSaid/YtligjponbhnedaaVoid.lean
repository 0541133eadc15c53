/-
  Layer 2: a pool that no call made answers 'nil' to every call, and stays as it is.
-/
import Derived.Test.YtligjponbhnedaaLaw2b
set_option maxRecDepth 100000
namespace Go.Proofs.Ytligjponbhnedaa
open Go.Sh

/-- No pool, or one without buffers. -/
def Void (H : Heap) (p : Option Addr) : Prop := p = none ∨ ∃ b c, p = some ⟨b, 0, none⟩ ∧ Blk H b T_pool_Pool c ∧ c[0]? = some (.slice none 0 0)

theorem nil_no (x : Nat) : ¬ Nil x := fun h => h
theorem Void.keep {H H' : Heap} {p : Option Addr} (h : Void H p) (k : Keep Nil H H') : Void H' p := by
  rcases h with rfl | ⟨b, c, rfl, hb, h0⟩
  · exact .inl rfl
  · exact .inr ⟨b, c, rfl, k.blk hb (nil_no b), h0⟩

theorem void_is {H : Heap} {p : Option Addr} (h : Void H p) : FnW Try.prog f_pool_Pool_is ⟨[.pointer p]⟩ H fun v H' => v = .bool false ∧ H = H' := by
  rcases h with rfl | ⟨b, c, rfl, hb, h0⟩
  · exact pool_Pool_is_nil_sh ⟨rfl, rfl⟩
  · exact pool_Pool_is_sh b ⟨none, 0, 0, by rw [hb.cell]; exact h0, rfl, rfl⟩

theorem void_Free {H : Heap} {p : Option Addr} (h : Void H p) : FnW Try.prog f_pool_Pool_Free ⟨[.pointer p]⟩ H fun v H' => v = .int .i64 0 ∧ H = H' := by
  have hi := void_is h
  rcases h with rfl | ⟨b, c, rfl, hb, h0⟩
  · refine pool_Pool_Free_nil_sh ?_
    unfold pool_Pool_Free_nil_p
    refine hi.mono ?_
    rintro v H1 ⟨rfl, rfl⟩
    exact ⟨false, rfl, rfl, rfl⟩
  · refine pool_Pool_Free_sh b ?_
    unfold pool_Pool_Free_p
    refine hi.mono ?_
    rintro v H1 ⟨rfl, rfl⟩
    exact ⟨false, rfl, rfl, rfl⟩

theorem void_Size {H : Heap} {p : Option Addr} (h : Void H p) : FnW Try.prog f_pool_Pool_Size ⟨[.pointer p]⟩ H fun v H' => v = .int .i64 0 ∧ H = H' := by
  have hi := void_is h
  rcases h with rfl | ⟨b, c, rfl, hb, h0⟩
  · refine pool_Pool_Size_nil_sh ?_
    unfold pool_Pool_Size_nil_p
    refine hi.mono ?_
    rintro v H1 ⟨rfl, rfl⟩
    exact ⟨false, rfl, rfl, rfl⟩
  · refine pool_Pool_Size_sh b ?_
    unfold pool_Pool_Size_p
    refine hi.mono ?_
    rintro v H1 ⟨rfl, rfl⟩
    exact ⟨false, rfl, rfl, rfl⟩

theorem void_Lent {H : Heap} {p : Option Addr} (h : Void H p) : FnW Try.prog f_pool_Pool_Lent ⟨[.pointer p]⟩ H fun v H' => v = .slice none 0 0 ∧ H = H' := by
  have hi := void_Size h
  rcases h with rfl | ⟨b, c, rfl, hb, h0⟩
  · refine pool_Pool_Lent_nil_sh ?_
    unfold pool_Pool_Lent_nil_p
    refine hi.mono ?_
    rintro v H1 ⟨rfl, rfl⟩
    refine ⟨0, rfl, LoopI.intro (fun _ x H1 => x = ((none, 0, 0), (0, ())) ∧ H = H1) 0 ⟨rfl, rfl⟩ ?_⟩
    rintro k x H1 ⟨rfl, rfl⟩ g
    exact ⟨rfl, rfl⟩
  · refine pool_Pool_Lent_sh b ?_
    unfold pool_Pool_Lent_p
    refine hi.mono ?_
    rintro v H1 ⟨rfl, rfl⟩
    refine ⟨0, rfl, LoopI.intro (fun _ x H1 => x = ((none, 0, 0), (0, ())) ∧ H = H1) 0 ⟨rfl, rfl⟩ ?_⟩
    rintro k x H1 ⟨rfl, rfl⟩ g
    exact ⟨rfl, rfl⟩

theorem void_find {H : Heap} {p : Option Addr} (h : Void H p) (n t : Int) : FnW Try.prog f_pool_Pool_find ⟨[.pointer p, .agg ⟨[.int .i64 n, .int .i64 t]⟩]⟩ H fun v H' => v = .tuple ⟨[.pointer none, .int .i64 1]⟩ ∧ Keep Nil H H' := by
  rcases h with rfl | ⟨b, c, rfl, hb, h0⟩
  · refine pool_Pool_find_nil_sh n t ?_
    unfold pool_Pool_find_nil_p
    refine NewW.intro fun m hm => (void_is (.inl rfl)).mono ?_
    rintro v H1 ⟨rfl, rfl⟩
    exact ⟨false, rfl, rfl, (Keep.refl _ _).new hm⟩
  · refine pool_Pool_find_sh b n t ?_
    unfold pool_Pool_find_p
    refine NewW.intro fun m hm => (void_is (.inr ⟨b, c, rfl, hb.upd_ne (hb.ne hm), h0⟩)).mono ?_
    rintro v H1 ⟨rfl, rfl⟩
    exact ⟨false, rfl, rfl, (Keep.refl _ _).new hm⟩

/-- A pair that is handed in lies in a block of its own: what comes behind. -/
theorem pair_in {H : Heap} {x y : Int} {T : TypeId} {K : Nat → Int → Int → Heap → Prop} (h : ∀ m H', H m = none → Keep Nil H H' → Blk H' m T ⟨[.int .i64 x, .int .i64 y]⟩ → K m x y H') :
    NewW H (.cells ⟨[.int .i64 x, .int .i64 y]⟩ T) fun m H1 => ∃ a : Int, H1.cell ⟨m, 0, none⟩ = some (.int .i64 a) ∧ ∃ b : Int, H1.cell ⟨m, 1, none⟩ = some (.int .i64 b) ∧ K m a b H1 := by
  refine NewW.intro fun m hm => ?_
  have hb : Blk (H.upd m (.cells ⟨[.int .i64 x, .int .i64 y]⟩ T)) m T ⟨[.int .i64 x, .int .i64 y]⟩ := Blk.upd_eq
  exact ⟨x, by rw [hb.cell]; rfl, y, by rw [hb.cell]; rfl, h m _ hm ((Keep.refl _ _).new hm) hb⟩

theorem void_Read {H : Heap} {p : Option Addr} (h : Void H p) (n t : Int) : FnW Try.prog f_pool_Pool_Read ⟨[.pointer p, .agg ⟨[.int .i64 n, .int .i64 t]⟩]⟩ H fun v H' => v = .tuple ⟨[.slice none 0 0, .int .i64 1]⟩ ∧ Keep Nil H H' := by
  have hk := fun H' k => void_find (h.keep (H' := H') k) n t
  rcases h with rfl | ⟨b, c, rfl, hb, h0⟩
  · refine pool_Pool_Read_nil_sh n t ?_
    unfold pool_Pool_Read_nil_p
    refine pair_in fun m H1 _ k1 _ => (hk H1 k1).mono ?_
    rintro v H2 ⟨rfl, k2⟩
    exact ⟨_, _, rfl, rfl, k1.trans k2⟩
  · refine pool_Pool_Read_sh b n t ?_
    unfold pool_Pool_Read_p
    refine pair_in fun m H1 _ k1 _ => (hk H1 k1).mono ?_
    rintro v H2 ⟨rfl, k2⟩
    exact ⟨_, _, rfl, rfl, k1.trans k2⟩

theorem void_Write {H : Heap} {p : Option Addr} (h : Void H p) (n t : Int) (a : Option Addr) (m cap : Nat) : FnW Try.prog f_pool_Pool_Write ⟨[.pointer p, .agg ⟨[.int .i64 n, .int .i64 t]⟩, .slice a m cap]⟩ H fun v H' => v = .int .i64 1 ∧ Keep Nil H H' := by
  have hk := fun H' k => void_find (h.keep (H' := H') k) n t
  rcases h with rfl | ⟨b, c, rfl, hb, h0⟩
  · refine pool_Pool_Write_nil_sh n t a m cap ?_
    unfold pool_Pool_Write_nil_p
    refine pair_in fun m H1 _ k1 _ => (hk H1 k1).mono ?_
    rintro v H2 ⟨rfl, k2⟩
    exact ⟨_, _, rfl, rfl, k1.trans k2⟩
  · refine pool_Pool_Write_sh b n t a m cap ?_
    unfold pool_Pool_Write_p
    refine pair_in fun m H1 _ k1 _ => (hk H1 k1).mono ?_
    rintro v H2 ⟨rfl, k2⟩
    exact ⟨_, _, rfl, rfl, k1.trans k2⟩

theorem void_Give {H : Heap} {p : Option Addr} (h : Void H p) (n t : Int) : FnW Try.prog f_pool_Pool_Give ⟨[.pointer p, .agg ⟨[.int .i64 n, .int .i64 t]⟩]⟩ H fun v H' => v = .int .i64 1 ∧ Keep Nil H H' := by
  have hk := fun H' k => void_find (h.keep (H' := H') k) n t
  rcases h with rfl | ⟨b, c, rfl, hb, h0⟩
  · refine pool_Pool_Give_nil_sh n t ?_
    unfold pool_Pool_Give_nil_p
    refine pair_in fun m H1 _ k1 _ => (hk H1 k1).mono ?_
    rintro v H2 ⟨rfl, k2⟩
    exact ⟨_, _, rfl, rfl, k1.trans k2⟩
  · refine pool_Pool_Give_sh b n t ?_
    unfold pool_Pool_Give_p
    refine pair_in fun m H1 _ k1 _ => (hk H1 k1).mono ?_
    rintro v H2 ⟨rfl, k2⟩
    exact ⟨_, _, rfl, rfl, k1.trans k2⟩

theorem void_Lend {H : Heap} {p : Option Addr} (h : Void H p) (a : Option Addr) (n cap : Nat) : FnW Try.prog f_pool_Pool_Lend ⟨[.pointer p, .slice a n cap]⟩ H fun v H' => v = .tuple ⟨[.agg ⟨[.int .i64 0, .int .i64 0]⟩, .int .i64 1]⟩ ∧ Keep Nil H H' := by
  have hk := fun H' k => void_is (h.keep (H' := H') k)
  rcases h with rfl | ⟨b, c, rfl, hb, h0⟩
  · refine pool_Pool_Lend_nil_sh a n cap ?_
    unfold pool_Pool_Lend_nil_p
    refine NewW.intro fun m hm => ?_
    have k1 : Keep Nil H (H.upd m (.cells ⟨[.int .i64 0, .int .i64 0]⟩ T_pool_Handle)) := (Keep.refl _ _).new hm
    have hb1 : Blk (H.upd m (.cells ⟨[.int .i64 0, .int .i64 0]⟩ T_pool_Handle)) m T_pool_Handle ⟨[.int .i64 0, .int .i64 0]⟩ := Blk.upd_eq
    generalize H.upd m (.cells ⟨[.int .i64 0, .int .i64 0]⟩ T_pool_Handle) = H1 at *
    refine (hk H1 k1).mono ?_
    rintro v H2 ⟨rfl, rfl⟩
    refine ⟨false, rfl, ?_⟩
    rw [Bool.not_false, IfB_true]
    exact pair_out hb1 rfl fun H' k _ => ⟨rfl, k1.then k fun x hx => .inr (by rw [hx]; exact hm)⟩
  · refine pool_Pool_Lend_sh b a n cap ?_
    unfold pool_Pool_Lend_p
    refine NewW.intro fun m hm => ?_
    have k1 : Keep Nil H (H.upd m (.cells ⟨[.int .i64 0, .int .i64 0]⟩ T_pool_Handle)) := (Keep.refl _ _).new hm
    have hb1 : Blk (H.upd m (.cells ⟨[.int .i64 0, .int .i64 0]⟩ T_pool_Handle)) m T_pool_Handle ⟨[.int .i64 0, .int .i64 0]⟩ := Blk.upd_eq
    generalize H.upd m (.cells ⟨[.int .i64 0, .int .i64 0]⟩ T_pool_Handle) = H1 at *
    refine (hk H1 k1).mono ?_
    rintro v H2 ⟨rfl, rfl⟩
    refine ⟨false, rfl, ?_⟩
    rw [Bool.not_false, IfB_true]
    exact pair_out hb1 rfl fun H' k _ => ⟨rfl, k1.then k fun x hx => .inr (by rw [hx]; exact hm)⟩

theorem zpool0 : zl_T_pool_Pool[0]? = some (.slice none 0 0) := by kernel_rfl

theorem law02_PoolVoid_spec {H : Heap} (n t : Int) (a : Option Addr) (l cap : Nat) :
    FnW Try.prog f_law02_PoolVoid ⟨[.agg ⟨[.int .i64 n, .int .i64 t]⟩, .slice a l cap]⟩ H fun v H' => v = .bool true ∧ Keep Nil H H' := by
  refine law02_PoolVoid_sh n t a l cap ?_
  unfold law02_PoolVoid_p
  refine NewW.intro fun h hh => ?_
  have k1 : Keep Nil H (H.upd h (.cells ⟨[.int .i64 n, .int .i64 t]⟩ T_pool_Handle)) := (Keep.refl _ _).new hh
  have hB : Blk (H.upd h (.cells ⟨[.int .i64 n, .int .i64 t]⟩ T_pool_Handle)) h T_pool_Handle ⟨[.int .i64 n, .int .i64 t]⟩ := Blk.upd_eq
  generalize H.upd h (.cells ⟨[.int .i64 n, .int .i64 t]⟩ T_pool_Handle) = H1 at *
  -- what is asked of the pair again and again
  have pair : ∀ {H' : Heap} {K : Int → Int → Prop}, Keep Nil H1 H' → K n t → ∃ a : Int, H'.cell ⟨h, 0, none⟩ = some (.int .i64 a) ∧ ∃ b : Int, H'.cell ⟨h, 1, none⟩ = some (.int .i64 b) ∧ K a b := fun k hk =>
    ⟨n, by rw [(k.blk hB (nil_no h)).cell]; rfl, t, by rw [(k.blk hB (nil_no h)).cell]; rfl, hk⟩
  refine law02_works_spec.mono ?_
  rintro v H2 ⟨rfl, k2⟩
  refine ⟨true, rfl, ?_⟩
  rw [Bool.not_true, IfB_false]
  refine NewW.intro fun z hz => ?_
  have k3 : Keep Nil H2 (H2.upd z (.cells ⟨zl_T_pool_Pool⟩ T_pool_Pool)) := (Keep.refl _ _).new hz
  have hZ : Void (H2.upd z (.cells ⟨zl_T_pool_Pool⟩ T_pool_Pool)) (some ⟨z, 0, none⟩) := .inr ⟨z, _, rfl, Blk.upd_eq, zpool0⟩
  generalize H2.upd z (.cells ⟨zl_T_pool_Pool⟩ T_pool_Pool) = H3 at *
  have no : ∀ H', Void H' none := fun _ => .inl rfl
  replace k3 := k2.trans k3
  clear k2 hz H2
  refine (void_Lend (no _) a l cap).mono ?_
  rintro v H4 ⟨rfl, k4⟩
  refine ⟨_, _, _, rfl, ?_⟩
  refine new_pair fun x H7 _ k7 _ _ => ?_
  replace k4 := k4.trans k7
  refine (void_Lend (hZ.keep k4) a l cap).mono ?_
  rintro v H8 ⟨rfl, k8⟩
  refine ⟨_, _, _, rfl, ?_⟩
  refine new_pair fun y H11 _ k11 _ _ => ?_
  replace hZ := hZ.keep (k4.trans (k8.trans k11))
  replace k3 := k3.trans (k4.trans (k8.trans k11))
  clear k4 k7 k8 k11
  refine pair k3 ?_
  refine (void_Read (no _) n t).mono ?_
  rintro v H12 ⟨rfl, k⟩
  replace hZ := hZ.keep k
  replace k3 := k3.trans k
  refine ⟨_, _, _, _, rfl, pair k3 ?_⟩
  refine (void_Read hZ n t).mono ?_
  rintro v H13 ⟨rfl, k⟩
  replace hZ := hZ.keep k
  replace k3 := k3.trans k
  refine ⟨_, _, _, _, rfl, ?_⟩
  have one : ((1 : Int) == 1) = true := rfl
  rw [one, IfB_true, IfB_true, IfB_true, IfB_true]
  refine pair k3 ?_
  refine (void_Write (no _) n t a l cap).mono ?_
  rintro v H14 ⟨rfl, k⟩
  replace hZ := hZ.keep k
  replace k3 := k3.trans k
  refine ⟨_, rfl, ?_⟩
  rw [one, IfB_true]
  refine pair k3 ?_
  refine (void_Write hZ n t a l cap).mono ?_
  rintro v H15 ⟨rfl, k⟩
  replace hZ := hZ.keep k
  replace k3 := k3.trans k
  refine ⟨_, rfl, ?_⟩
  rw [one, IfB_true]
  refine pair k3 ?_
  refine (void_Give (no _) n t).mono ?_
  rintro v H16 ⟨rfl, k⟩
  replace hZ := hZ.keep k
  replace k3 := k3.trans k
  refine ⟨_, rfl, ?_⟩
  rw [one, IfB_true]
  refine pair k3 ?_
  refine (void_Give hZ n t).mono ?_
  rintro v H17 ⟨rfl, k⟩
  replace hZ := hZ.keep k
  replace k3 := k3.trans k
  refine ⟨_, rfl, ?_⟩
  rw [one, IfB_true]
  refine (void_Free (no _)).mono ?_
  rintro v _ ⟨rfl, rfl⟩
  refine ⟨_, rfl, (void_Free hZ).mono ?_⟩
  rintro v _ ⟨rfl, rfl⟩
  refine ⟨_, rfl, (void_Size (no _)).mono ?_⟩
  rintro v _ ⟨rfl, rfl⟩
  refine ⟨_, rfl, (void_Size hZ).mono ?_⟩
  rintro v _ ⟨rfl, rfl⟩
  refine ⟨_, rfl, (void_Lent (no _)).mono ?_⟩
  rintro v _ ⟨rfl, rfl⟩
  refine ⟨_, _, _, rfl, (void_Lent hZ).mono ?_⟩
  rintro v _ ⟨rfl, rfl⟩
  exact ⟨_, _, _, rfl, rfl, k1.trans k3⟩

end Go.Proofs.Ytligjponbhnedaa
