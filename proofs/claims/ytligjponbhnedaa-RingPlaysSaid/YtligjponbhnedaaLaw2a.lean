/-
  The statements' own helpers (bytes, works), and PoolApart's walk.
-/
import Derived.Test.YtligjponbhnedaaPool4
set_option maxRecDepth 100000
namespace Go.Proofs.Ytligjponbhnedaa
open Go.Sh

def lawBytes (bs : List UInt8) : List UInt8 := if bs.length > 1514 then List.replicate 1515 0 else bs.take 60

theorem u8s_replicate (n : Nat) : u8s (List.replicate n 0) = List.replicate n (.int .u8 0) := by simp [u8s]

theorem law02_bytes_spec {H : Heap} {a : Option Addr} {n c : Nat} {bs : List UInt8} (hr : IsBytes H a n bs) (hc : n ≤ c) :
    FnW Try.prog f_law02_bytes ⟨[.slice a n c]⟩ H fun v H' => ∃ a' n' c', v = .slice a' n' c' ∧ Fresh H H' a' n' c' (lawBytes bs) ∧ Keep Nil H H' := by
  refine law02_bytes_sh a n c ?_
  unfold law02_bytes_p
  have hlen := hr.len
  by_cases hl : bs.length > 1514
  · rw [decide_eq_true (by omega), IfB_true]
    obtain ⟨it, hi, hsz, hby⟩ := row_uint8.info
    refine MakeW.intro (l := 1515) (c := 1515) und_sl_uint8 hi row_uint8.zero (by rw [hsz]; rfl) (Nat.le_refl _) (by omega) (by rw [hby]; omega) fun m hm => ?_
    refine ⟨_, _, _, rfl, _, _, _, rfl, ⟨m, [], rfl, ?_, Nat.le_refl _, hm, ?_, rfl⟩, (Keep.refl _ _).new hm⟩
    · unfold lawBytes; rw [if_pos hl]; simp
    · unfold lawBytes
      rw [if_pos hl, u8s_replicate, repL_zero, List.append_nil]
      exact Blk.upd_eq
  · rw [decide_eq_false (by omega), IfB_false]
    have hm : min n 60 ≤ n := Nat.min_le_left _ _
    refine InC.intro (min n 60) (by omega) (by omega) ?_
    have hr' : IsBytes H a (min n 60) (bs.take 60) := by
      have := Reads.take hr hm
      have e : u8s (bs.take 60) = (u8s bs).take (min n 60) := by
        unfold u8s
        rw [List.map_take, hlen]
        apply List.ext_getElem?
        intro i
        simp only [List.getElem?_take, List.getElem?_map]
        by_cases h1 : i < 60
        · by_cases h2 : i < bs.length
          · rw [if_pos h1, if_pos (by omega)]
          · rw [if_pos h1, if_neg (by omega), List.getElem?_eq_none (by omega)]; rfl
        · rw [if_neg h1, if_neg (by omega)]
      unfold IsBytes
      rw [e]; exact this
    refine (base_Bytes_spec hr' (by omega)).mono ?_
    rintro v H' ⟨a', c', rfl, hf, hk⟩
    refine ⟨_, _, _, rfl, _, _, _, rfl, ?_, hk⟩
    unfold lawBytes
    rw [if_neg hl]; exact hf

theorem lawBytes_short {bs : List UInt8} (h : ¬ (lawBytes bs).length > 1514) : (lawBytes bs).length ≤ 1514 := by omega

theorem guard_Handle : Program.eqGuardType Try.prog (Program.depth Try.prog) T_pool_Handle = false := by kernel_rfl

/-- A struct of two numbers in a block of its own. -/
theorem new_pair {H : Heap} {x y : Int} {T : TypeId} {K : Nat → Heap → Prop} (h : ∀ m H', H m = none → Keep Nil H H' → (∀ b, b ≠ m → H' b = H b) → Blk H' m T ⟨[.int .i64 x, .int .i64 y]⟩ → K m H') :
    NewW H (.cells ⟨[.int .i64 0, .int .i64 0]⟩ T) fun m H1 => StCell H1 ⟨m, 0, none⟩ (.int .i64 x) fun H2 => StCell H2 ⟨m, 1, none⟩ (.int .i64 y) fun H3 => K m H3 := by
  refine NewW.intro fun m hm => ?_
  refine pair_set Blk.upd_eq rfl fun H' k o hb => ?_
  refine h m H' hm (((Keep.refl Nil H).new hm).then k fun b hb => .inr (by rw [hb]; exact hm)) (fun b hb => by rw [o b hb, upd_ne hb]) hb

theorem law02_works_spec {H : Heap} : FnW Try.prog f_law02_works ⟨[]⟩ H fun v H' => v = .bool true ∧ Keep Nil H H' := by
  refine law02_works_sh ?_
  unfold law02_works_p
  refine (pool_Make_spec (n := 1) (by omega) (by omega)).mono ?_
  rintro v H1 ⟨k1, b, bl, c, d, f, hb, hbl, rfl, hp⟩
  have hB := hp.blkP
  refine ⟨_, _, rfl, ?_⟩
  simp only [Option.isNone_some, IfB_false]
  unfold law02_works_j0
  simp only [bne_self_eq_false, IfB_false]
  refine NewW.intro fun m1 hm1 => ?_
  have k2 := k1.new (o := .cells ⟨[.int .u8 7]⟩ T_uint8) hm1
  have hp2 := hp.keep ((Keep.refl Nil H1).new (o := .cells ⟨[.int .u8 7]⟩ T_uint8) hm1) (fun h => h) (fun h => h)
  have hb2 : Blk (H1.upd m1 (.cells ⟨[.int .u8 7]⟩ T_uint8)) m1 T_uint8 ⟨[.int .u8 7]⟩ := Blk.upd_eq
  have n1 := (hp.blkP.ne hm1).symm
  have n2 := (hp.blkB.ne hm1).symm
  generalize H1.upd m1 (.cells ⟨[.int .u8 7]⟩ T_uint8) = H2 at *
  have r2 : IsBytes H2 (some ⟨m1, 0, none⟩) 1 [7] := Reads.blk hb2 rfl fun j hj => by obtain rfl : j = 0 := (by omega); rfl
  have M0 : PoolM.make 1 = ⟨[(0, [])], [0], 0⟩ := rfl
  rw [M0] at hp2
  refine (pool_Lend_spec hp2 r2 (fun x hx => by cases hx; exact ⟨n2, n1⟩) (by simp)).mono ?_
  have M1 : (⟨[(0, [])], [0], 0⟩ : PoolM).lend [7] = ((0, 1), 0, ⟨[(1, [7])], [], 1⟩) := rfl
  rw [M1]
  rintro v H3 ⟨k3, rfl, c', d', f', hp3⟩
  have kk3 : Keep Nil H H3 := k2.then k3 fun x hx => .inr (hx.elim (fun e => by rw [e]; exact hb) (fun e => by rw [e]; exact hbl))
  refine ⟨_, _, _, rfl, ?_⟩
  refine new_pair fun mh H4 hmh k4 o4 hbh => ?_
  have hp4 := hp3.keep k4 (fun h => h) (fun h => h)
  have kk4 := kk3.trans k4
  refine ⟨0, by rw [hbh.cell]; rfl, 1, by rw [hbh.cell]; rfl, ?_⟩
  refine (pool_Give_spec hp4 0 1).mono ?_
  have M2 : (⟨[(1, [7])], [], 1⟩ : PoolM).give 0 1 = (0, ⟨[(0, [])], [0], 1⟩) := rfl
  rw [M2]
  rintro v H5 ⟨k5, rfl, c5, d5, hp5⟩
  have nh1 := (hp3.blkP.ne hmh).symm
  have nh2 := (hp3.blkB.ne hmh).symm
  have hbh5 := k5.blk hbh (fun h => h.elim nh1 nh2)
  have kk5 : Keep Nil H H5 := kk4.then k5 fun x hx => .inr (hx.elim (fun e => by rw [e]; exact hb) (fun e => by rw [e]; exact hbl))
  refine ⟨_, rfl, ?_⟩
  refine NewW.intro fun m2 hm2 => ?_
  have k6 := (Keep.refl Nil H5).new (o := .cells ⟨[.int .u8 8]⟩ T_uint8) hm2
  have hp6 := hp5.keep k6 (fun h => h) (fun h => h)
  have hb6 : Blk (H5.upd m2 (.cells ⟨[.int .u8 8]⟩ T_uint8)) m2 T_uint8 ⟨[.int .u8 8]⟩ := Blk.upd_eq
  have hbh6 := k6.blk hbh5 (fun h => h)
  have n3 := (hp5.blkP.ne hm2).symm
  have n4 := (hp5.blkB.ne hm2).symm
  have kk6 := kk5.trans k6
  generalize H5.upd m2 (.cells ⟨[.int .u8 8]⟩ T_uint8) = H6 at *
  have r6 : IsBytes H6 (some ⟨m2, 0, none⟩) 1 [8] := Reads.blk hb6 rfl fun j hj => by obtain rfl : j = 0 := (by omega); rfl
  refine (pool_Lend_spec hp6 r6 (fun x hx => by cases hx; exact ⟨n4, n3⟩) (by simp)).mono ?_
  have M3 : (⟨[(0, [])], [0], 1⟩ : PoolM).lend [8] = ((0, 2), 0, ⟨[(2, [8])], [], 2⟩) := rfl
  rw [M3]
  rintro v H7 ⟨k7, rfl, c7, d7, f7, hp7⟩
  have kk7 : Keep Nil H H7 := kk6.then k7 fun x hx => .inr (hx.elim (fun e => by rw [e]; exact hb) (fun e => by rw [e]; exact hbl))
  have hbh7 := k7.blk hbh6 (fun h => h.elim nh1 nh2)
  refine ⟨_, _, _, rfl, ?_⟩
  refine new_pair fun mk H8 hmk k8 o8 hbk => ?_
  have hp8 := hp7.keep k8 (fun h => h) (fun h => h)
  have kk8 := kk7.trans k8
  have hbh8 := k8.blk hbh7 (fun h => h)
  refine ⟨0, by rw [hbh8.cell]; rfl, 1, by rw [hbh8.cell]; rfl, ?_⟩
  refine (pool_Read_spec hp8 0 1).mono ?_
  have E1 : (⟨[(2, [8])], [], 2⟩ : PoolM).findE 0 1 = 5 := rfl
  rw [E1]
  rintro v H9 ⟨k9, a9, m9, c9, rfl, _, _⟩
  have hp9 := hp8.keep k9 (fun h => h) (fun h => h)
  have hbh9 := k9.blk hbh8 (fun h => h)
  have hbk9 := k9.blk hbk (fun h => h)
  refine ⟨_, _, _, _, rfl, ?_⟩
  refine ⟨0, by rw [hbk9.cell]; rfl, 2, by rw [hbk9.cell]; rfl, ?_⟩
  refine (pool_Read_spec hp9 0 2).mono ?_
  have E2 : (⟨[(2, [8])], [], 2⟩ : PoolM).findE 0 2 = 0 := rfl
  have E3 : (⟨[(2, [8])], [], 2⟩ : PoolM).bytes (0 : Int).toNat = [8] := rfl
  rw [E2, E3]
  rintro v H10 ⟨k10, a10, m10, c10, rfl, hf10, _⟩
  have hbh10 := k10.blk hbh9 (fun h => h)
  have hbk10 := k10.blk hbk9 (fun h => h)
  have kk10 := (kk8.trans k9).trans k10
  have f10 := (hf10 rfl).bytes
  refine ⟨_, _, _, _, rfl, ?_⟩
  refine ⟨0, by rw [hbh10.cell]; rfl, 1, by rw [hbh10.cell]; rfl, guard_Handle, ?_⟩
  simp only [beq_self_eq_true, Bool.and_self, IfB_true]
  refine ⟨0, by rw [hbk10.cell]; rfl, 2, by rw [hbk10.cell]; rfl, guard_Handle, ?_⟩
  simp only [beq_self_eq_true, Bool.and_self, IfB_true]
  refine NewW.intro fun m3 hm3 => ?_
  have k11 := (Keep.refl Nil H10).new (o := .cells ⟨[.int .u8 8]⟩ T_uint8) hm3
  have hb11 : Blk (H10.upd m3 (.cells ⟨[.int .u8 8]⟩ T_uint8)) m3 T_uint8 ⟨[.int .u8 8]⟩ := Blk.upd_eq
  have f11 : IsBytes (H10.upd m3 (.cells ⟨[.int .u8 8]⟩ T_uint8)) a10 m10 [8] := Reads.keep f10 k11 (fun _ _ h => h)
  have kk11 := kk10.trans k11
  generalize H10.upd m3 (.cells ⟨[.int .u8 8]⟩ T_uint8) = H11 at *
  have r11 : IsBytes H11 (some ⟨m3, 0, none⟩) 1 [8] := Reads.blk hb11 rfl fun j hj => by obtain rfl : j = 0 := (by omega); rfl
  refine (base_SameBytes_spec f11 r11).mono ?_
  rintro v _ ⟨rfl, rfl⟩
  refine ⟨_, rfl, ?_⟩
  simp only [beq_self_eq_true, IfB_true]
  exact ⟨trivial, kk11⟩

end Go.Proofs.Ytligjponbhnedaa
