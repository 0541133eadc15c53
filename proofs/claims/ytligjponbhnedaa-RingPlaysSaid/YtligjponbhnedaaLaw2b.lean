/-
  PoolApart: what is written to one buffer changes no other one, nor does what is done to bytes that were handed in, or out.
-/
import Derived.Test.YtligjponbhnedaaLaw2a
set_option maxRecDepth 100000
namespace Go.Proofs.Ytligjponbhnedaa
open Go.Sh

theorem u8s_get {bs : List UInt8} {j : Nat} (h : j < bs.length) : (u8s bs)[j]? = some (.int .u8 (bs[j].toNat : Int)) := by
  simp [u8s, h]

/-- The first byte of a slice of one's own is turned. -/
theorem flip {H0 H : Heap} {a : Option Addr} {n cap : Nat} {bs : List UInt8} (hf : Fresh H0 H a n cap bs) (hn : 0 < n) {z : Int} {K : Heap → Prop}
    (h : ∀ m H', H0 m = none → H m ≠ none → (∀ b, b ≠ m → H' b = H b) → Keep (fun x => x = m) H H' → (∀ T c, T ≠ T_uint8 → Blk H m T c → False) → K H') :
    NilP a fun q => InB 0 n fun i => elemAt q i 1 fun p => ∃ x : Int, H.cell p = some (.int .u8 x) ∧
      NilP a fun q => InB 0 n fun i => elemAt q i 1 fun p => StCell H p (.int .u8 (bitsXor .u8 x z)) K := by
  obtain ⟨m, rest, rfl, rfl, hc, hm, hb, hr⟩ := hf
  refine NilP.intro _ rfl (InB.intro 0 rfl hn ?_)
  rw [elemAt_none]
  have hcell : (⟨u8s bs ++ rest⟩ : Array Value)[0 + 0 * 1]? = some (.int .u8 (bs[0].toNat : Int)) := by
    simp [List.getElem?_append, hn, u8s]
  refine ⟨_, by rw [hb.cell]; exact hcell, NilP.intro _ rfl (InB.intro 0 rfl hn ?_)⟩
  rw [elemAt_none]
  refine StCell.blk hb (by simp; omega) rfl ?_
  refine h m _ hm hb.some (fun b hb' => upd_ne hb') ((Keep.refl (fun x => x = m) H).upd (n := m) (.inl rfl)) fun T c hT hb2 => ?_
  unfold Blk at hb hb2
  rw [hb] at hb2
  cases hb2
  exact hT rfl

theorem law02_PoolApart_spec {H : Heap} {a1 a2 a3 : Option Addr} {n1 n2 n3 c1 c2 c3 : Nat} {A B C : List UInt8} (h1 : IsBytes H a1 n1 A) (h2 : IsBytes H a2 n2 B) (h3 : IsBytes H a3 n3 C) (l1 : n1 ≤ c1) (l2 : n2 ≤ c2) (l3 : n3 ≤ c3) :
    FnW Try.prog f_law02_PoolApart ⟨[.slice a1 n1 c1, .slice a2 n2 c2, .slice a3 n3 c3]⟩ H fun v H' => v = .bool true ∧ Keep Nil H H' := by
  refine law02_PoolApart_sh a1 n1 c1 a2 n2 c2 a3 n3 c3 ?_
  unfold law02_PoolApart_p
  have nil : ∀ x, ¬ Nil x := fun _ h => h
  refine law02_works_spec.mono ?_
  rintro v H1 ⟨rfl, k1⟩
  refine ⟨_, rfl, ?_⟩
  rw [Bool.not_true, IfB_false]
  refine (law02_bytes_spec (Reads.keep h1 k1 (fun _ _ => nil _)) l1).mono ?_
  rintro v H2 ⟨a, n, c, rfl, fa, k2⟩
  have k12 := k1.trans k2
  refine ⟨_, _, _, rfl, ?_⟩
  refine (law02_bytes_spec (Reads.keep h2 k12 (fun _ _ => nil _)) l2).mono ?_
  rintro v H3 ⟨a', n', c', rfl, fb, k3⟩
  have k13 := k12.trans k3
  refine ⟨_, _, _, rfl, ?_⟩
  refine (law02_bytes_spec (Reads.keep h3 k13 (fun _ _ => nil _)) l3).mono ?_
  rintro v H4 ⟨a'', n'', c'', rfl, fc, k4⟩
  have k14 := k13.trans k4
  refine ⟨_, _, _, rfl, ?_⟩
  have ha := Reads.keep fa.bytes (k3.trans k4) (fun _ _ => nil _)
  have hb := Reads.keep fb.bytes k4 (fun _ _ => nil _)
  have hc := fc.bytes
  generalize lawBytes A = A at *
  generalize lawBytes B = B at *
  generalize lawBytes C = C at *
  have la := fa.bytes.len
  have lb := fb.bytes.len
  have lc := fc.bytes.len
  -- blocks of the three
  have ba : ∀ x, a = some x → H4 x.block ≠ none := fun x hx => by
    obtain ⟨m, rest, rfl, _, _, _, hbk, _⟩ := fa
    cases hx
    exact (k3.trans k4).live _ hbk.some
  have bb : ∀ x, a' = some x → H4 x.block ≠ none := fun x hx => by
    obtain ⟨m, rest, rfl, _, _, _, hbk, _⟩ := fb
    cases hx
    exact k4.live _ hbk.some
  have bc : ∀ x, a'' = some x → H4 x.block ≠ none := fun x hx => by
    obtain ⟨m, rest, rfl, _, _, _, hbk, _⟩ := fc
    cases hx
    exact hbk.some
  have j0 : ∀ x : Bool, x = decide (A.length > 1514 ∨ B.length > 1514 ∨ C.length > 1514) → law02_PoolApart_j0 a n c a' n' c' a'' n'' c'' x H4 (fun v H' => v = .bool true ∧ Keep Nil H H') := by
    intro x hx
    subst hx
    unfold law02_PoolApart_j0
    by_cases hl : A.length > 1514 ∨ B.length > 1514 ∨ C.length > 1514
    · rw [decide_eq_true hl]
      exact ⟨rfl, k14⟩
    · rw [decide_eq_false hl, IfB_false]
      refine (pool_Make_spec (n := 3) (by omega) (by omega)).mono ?_
      rintro v H5 ⟨k5, b, bl, cP, dP, f, hbn, hbln, rfl, hp⟩
      refine ⟨_, _, rfl, ?_⟩
      have ha5 := Reads.keep ha k5 (fun _ _ => nil _)
      have hB5 := Reads.keep hb k5 (fun _ _ => nil _)
      refine (base_Bytes_spec ha5 (by omega)).mono ?_
      rintro v H6 ⟨ao, co, rfl, fo, k6⟩
      have hp6 := hp.keep k6 (nil _) (nil _)
      have kk6 := k5.trans k6
      refine ⟨_, _, _, rfl, ?_⟩
      have M0 : PoolM.make 3 = ⟨[(0, []), (0, []), (0, [])], [0, 1, 2], 0⟩ := rfl
      rw [M0] at hp6
      have ownNe : ∀ x, ao = some x → x.block ≠ bl ∧ x.block ≠ b := fun x hx => by
        obtain ⟨m, rest, rfl, _, _, hm, _, _⟩ := fo
        cases hx
        exact ⟨(hp.blkB.ne hm).symm, (hp.blkP.ne hm).symm⟩
      refine (pool_Lend_spec hp6 fo.bytes ownNe (by simp)).mono ?_
      have M1 : (⟨[(0, []), (0, []), (0, [])], [0, 1, 2], 0⟩ : PoolM).lend A = ((0, 1), 0, ⟨[(1, A), (0, []), (0, [])], [1, 2], 1⟩) := by
        unfold PoolM.lend; rw [if_neg (by omega)]; rfl
      rw [M1]
      rintro v H7 ⟨k7, rfl, cP7, dP7, f7, hp7⟩
      have fresh2 : ∀ x, two b bl x → H4 x = none := fun x hx => hx.elim (fun e => by rw [e]; exact hbn) (fun e => by rw [e]; exact hbln)
      have kk7 : Keep Nil H4 H7 := kk6.then k7 fun x hx => .inr (fresh2 x hx)
      refine ⟨_, _, _, rfl, ?_⟩
      refine new_pair fun mh H8 hmh k8 o8 hbh => ?_
      have hp8 := hp7.keep k8 (nil _) (nil _)
      have kk8 := kk7.trans k8
      have nh1 := (hp7.blkP.ne hmh).symm
      have nh2 := (hp7.blkB.ne hmh).symm
      have hmh4 := kk7.free hmh
      have hB8 := Reads.keep hb kk8 (fun _ _ => nil _)
      have notTwo : ∀ y x, H4 x ≠ none → y = x → ¬ two b bl y := fun y x hx e h => by subst e; exact hx (fresh2 y h)
      refine (pool_Lend_spec hp8 hB8 (fun x hx => ⟨fun e => bb x hx (fresh2 _ (.inr e)), fun e => bb x hx (fresh2 _ (.inl e))⟩) (by simp)).mono ?_
      have M2 : (⟨[(1, A), (0, []), (0, [])], [1, 2], 1⟩ : PoolM).lend B = ((1, 2), 0, ⟨[(1, A), (2, B), (0, [])], [2], 2⟩) := by
        unfold PoolM.lend; rw [if_neg (by omega)]; rfl
      rw [M2]
      rintro v H9 ⟨k9, rfl, cP9, dP9, f9, hp9⟩
      have kk9 : Keep Nil H4 H9 := kk8.then k9 fun x hx => .inr (fresh2 x hx)
      have hbh9 := k9.blk hbh (fun h => h.elim nh1 nh2)
      refine ⟨_, _, _, rfl, ?_⟩
      refine new_pair fun mk H10 hmk k10 o10 hbk => ?_
      have hp10 := hp9.keep k10 (nil _) (nil _)
      have kk10 := kk9.trans k10
      have hbh10 := k10.blk hbh9 (nil _)
      have nk1 := (hp9.blkP.ne hmk).symm
      have nk2 := (hp9.blkB.ne hmk).symm
      -- the last stretch, from whatever heap keeps pool and handles
      have j2 : ∀ H', Keep Nil H4 H' → (∃ c d f, PoolAt H' b bl ⟨[(1, A), (2, B), (0, [])], [2], 2⟩ c d f) → Blk H' mh T_pool_Handle ⟨[.int .i64 0, .int .i64 1]⟩ → Blk H' mk T_pool_Handle ⟨[.int .i64 1, .int .i64 2]⟩ →
          law02_PoolApart_j2 a n c a'' n'' c'' (some ⟨b, 0, none⟩) mh mk H' (fun v H' => v = .bool true ∧ Keep Nil H H') := by
        rintro H' kk ⟨cq, dq, fq, hpq⟩ hbh' hbk'
        unfold law02_PoolApart_j2
        refine ⟨1, by rw [hbk'.cell]; rfl, 2, by rw [hbk'.cell]; rfl, ?_⟩
        have hc' := Reads.keep hc kk (fun _ _ => nil _)
        refine (pool_Write_spec hpq 1 2 hc' (fun x hx e => bc x hx (fresh2 _ (.inr e)))).mono ?_
        have MW : (⟨[(1, A), (2, B), (0, [])], [2], 2⟩ : PoolM).write 1 2 C = (0, ⟨[(1, A), (2, C), (0, [])], [2], 2⟩) := by
          unfold PoolM.write
          rw [if_pos (by rfl), if_neg (by omega)]; rfl
        rw [MW]
        rintro v Ha ⟨ka, rfl, da, hpa⟩
        have kka : Keep Nil H4 Ha := kk.then ka fun x hx => .inr (by rw [hx]; exact hbln)
        have hbha := ka.blk hbh' nh2
        have hbka := ka.blk hbk' nk2
        refine ⟨_, rfl, 0, by rw [hbha.cell]; rfl, 1, by rw [hbha.cell]; rfl, ?_⟩
        refine (pool_Read_spec hpa 0 1).mono ?_
        have E1 : (⟨[(1, A), (2, C), (0, [])], [2], 2⟩ : PoolM).findE 0 1 = 0 := rfl
        have E2 : (⟨[(1, A), (2, C), (0, [])], [2], 2⟩ : PoolM).bytes (0 : Int).toNat = A := rfl
        rw [E1, E2]
        rintro v Hb ⟨kb, ay, ny, cy, rfl, fy, _⟩
        have hpb := hpa.keep kb (nil _) (nil _)
        have hbkb := kb.blk hbka (nil _)
        refine ⟨_, _, _, _, rfl, 1, by rw [hbkb.cell]; rfl, 2, by rw [hbkb.cell]; rfl, ?_⟩
        refine (pool_Read_spec hpb 1 2).mono ?_
        have E3 : (⟨[(1, A), (2, C), (0, [])], [2], 2⟩ : PoolM).findE 1 2 = 0 := rfl
        have E4 : (⟨[(1, A), (2, C), (0, [])], [2], 2⟩ : PoolM).bytes (1 : Int).toNat = C := rfl
        rw [E3, E4]
        rintro v Hc ⟨kc, az, nz, cz, rfl, fz, _⟩
        have kkc := (kka.trans kb).trans kc
        refine ⟨_, _, _, _, rfl, ?_⟩
        simp only [beq_self_eq_true, IfB_true]
        refine (base_SameBytes_spec (Reads.keep (fy rfl).bytes kc (fun _ _ => nil _)) (Reads.keep ha kkc (fun _ _ => nil _))).mono ?_
        rintro v _ ⟨rfl, rfl⟩
        refine ⟨_, rfl, ?_⟩
        simp only [beq_self_eq_true, IfB_true]
        refine (base_SameBytes_spec (fz rfl).bytes (Reads.keep hc kkc (fun _ _ => nil _))).mono ?_
        rintro v _ ⟨rfl, rfl⟩
        refine ⟨_, rfl, ?_, k14.trans kkc⟩
        simp
      have j1 : ∀ H', Keep Nil H4 H' → (∃ c d f, PoolAt H' b bl ⟨[(1, A), (2, B), (0, [])], [2], 2⟩ c d f) → Blk H' mh T_pool_Handle ⟨[.int .i64 0, .int .i64 1]⟩ → Blk H' mk T_pool_Handle ⟨[.int .i64 1, .int .i64 2]⟩ →
          law02_PoolApart_j1 a n c a'' n'' c'' (some ⟨b, 0, none⟩) mh mk H' (fun v H' => v = .bool true ∧ Keep Nil H H') := by
        rintro H' kk ⟨cq, dq, fq, hpq⟩ hbh' hbk'
        unfold law02_PoolApart_j1
        refine ⟨0, by rw [hbh'.cell]; rfl, 1, by rw [hbh'.cell]; rfl, ?_⟩
        refine (pool_Read_spec hpq 0 1).mono ?_
        have E1 : (⟨[(1, A), (2, B), (0, [])], [2], 2⟩ : PoolM).findE 0 1 = 0 := rfl
        rw [E1]
        rintro v Ha ⟨ka, ax, nx, cx, rfl, fx, _⟩
        have fx := fx rfl
        have hpa := hpq.keep ka (nil _) (nil _)
        have hbha := ka.blk hbh' (nil _)
        have hbka := ka.blk hbk' (nil _)
        have kka := kk.trans ka
        refine ⟨_, _, _, _, rfl, ?_⟩
        by_cases h0 : 0 < nx
        · rw [decide_eq_true (by omega), IfB_true]
          refine flip fx h0 fun m Hb hm hmn ho km hT => ?_
          have hm4 := kk.free hm
          refine j2 Hb (kka.then km fun x hx => .inr (by rw [hx]; exact hm4)) ⟨_, _, _, hpa.keep km (fun e => hT _ _ (by decide) (e ▸ hpa.blkP)) (fun e => hT _ _ (by decide) (e ▸ hpa.blkB))⟩ ?_ ?_
          · exact hbha.same (ho _ fun e => hT _ _ (by decide) (e ▸ hbha))
          · exact hbka.same (ho _ fun e => hT _ _ (by decide) (e ▸ hbka))
        · rw [decide_eq_false (by omega), IfB_false]
          exact j2 Ha kka ⟨_, _, _, hpa⟩ hbha hbka
      have own10 : Fresh H5 H10 ao n co A := by
        obtain ⟨m, rest, rfl, e1, e2, hm, hbo, hr⟩ := fo
        refine ⟨m, rest, rfl, e1, e2, hm, ?_, hr⟩
        have hmb := ownNe _ rfl
        exact k10.blk (k9.blk (k8.blk (k7.blk hbo (fun h => h.elim hmb.2 hmb.1)) (nil _)) (fun h => h.elim hmb.2 hmb.1)) (nil _)
      by_cases h0 : 0 < n
      · rw [decide_eq_true (by omega), IfB_true]
        refine flip own10 h0 fun m Hb hm hmn ho km hT => ?_
        have hm4 := k5.free hm
        refine j1 Hb (kk10.then km fun x hx => .inr (by rw [hx]; exact hm4)) ⟨_, _, _, hp10.keep km (fun e => hT _ _ (by decide) (e ▸ hp10.blkP)) (fun e => hT _ _ (by decide) (e ▸ hp10.blkB))⟩ ?_ ?_
        · exact hbh10.same (ho _ fun e => hT _ _ (by decide) (e ▸ hbh10))
        · exact hbk.same (ho _ fun e => hT _ _ (by decide) (e ▸ hbk))
      · rw [decide_eq_false (by omega), IfB_false]
        exact j1 H10 kk10 ⟨_, _, _, hp10⟩ hbh10 hbk
  by_cases e1 : A.length > 1514
  · rw [decide_eq_true (by omega), IfB_true]
    exact j0 _ (by rw [decide_eq_true (.inl e1)])
  · rw [decide_eq_false (by omega), IfB_false]
    by_cases e2 : B.length > 1514
    · rw [decide_eq_true (by omega), IfB_true]
      exact j0 _ (by rw [decide_eq_true (.inr (.inl e2))])
    · rw [decide_eq_false (by omega), IfB_false]
      refine j0 _ ?_
      by_cases e3 : C.length > 1514
      · rw [decide_eq_true (by omega), decide_eq_true (.inr (.inr e3))]
      · rw [decide_eq_false (by omega), decide_eq_false (by omega)]

end Go.Proofs.Ytligjponbhnedaa
