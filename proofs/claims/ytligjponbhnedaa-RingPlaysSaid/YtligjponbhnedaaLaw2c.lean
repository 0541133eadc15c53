/-
  Law 02: which handle an act means; one act upon both pools; both pools compared.
-/
import Derived.Test.YtligjponbhnedaaRef2d
set_option maxRecDepth 100000
namespace Go.Proofs.Ytligjponbhnedaa
open Go.Sh

def handleV (M : PoolM) (raw : Bool) (by_ n t : Int) : Int × Int :=
  if raw = true ∨ M.lent.length = 0 then (n, t) else (M.lent[amongV by_ M.lent.length]?).getD (0, 0)

theorem own_prs {H0 H : Heap} {a : Option Addr} {n cap : Nat} {T : TypeId} {l : List (Int × Int)} (h : Own H0 H a n cap 2 T (prs l)) (hn : n = l.length) {i : Nat} (hi : i < l.length) :
    ∃ m, a = some ⟨m, 0, none⟩ ∧ H.cell ⟨m, 0 + i * 2, none⟩ = some (.int .i64 l[i].1) ∧ H.cell ⟨m, 0 + i * 2 + 1, none⟩ = some (.int .i64 l[i].2) := by
  have hr := h.reads
  obtain ⟨hl, hc, h3⟩ := h
  rcases h3 with ⟨_, h4, _⟩ | ⟨m, rest, rfl, _, hb, _⟩
  · omega
  · refine ⟨m, rfl, ?_, ?_⟩
    · rw [hr.cell (j := i * 2) (by omega)]; exact prs_get0 l hi
    · rw [show 0 + i * 2 + 1 = 0 + (i * 2 + 1) by omega, hr.cell (j := i * 2 + 1) (by omega)]; exact prs_get1 l hi

theorem law02_handle_spec {H0 H : Heap} {x xl y yl : Nat} {M N : PoolM} (h : Both H0 H x xl y yl M N) (do_ by_ : Int) (raw : Bool) (n t : Int) (ba : Option Addr) (bn bc : Nat) :
    FnW Try.prog f_law02_handle ⟨[.pointer (some ⟨y, 0, none⟩), .agg ⟨[.int .i64 do_, .int .i64 by_, .bool raw, .int .i64 n, .int .i64 t, .slice ba bn bc]⟩]⟩ H fun v H' =>
      v = .agg ⟨[.int .i64 (handleV N raw by_ n t).1, .int .i64 (handleV N raw by_ n t).2]⟩ ∧ Keep Nil H H' := by
  refine law02_handle_sh y do_ by_ raw n t ba bn bc ?_
  unfold law02_handle_p
  refine NewW.intro fun a ha => ?_
  have k1 : Keep Nil H (H.upd a (.cells ⟨[.int .i64 do_, .int .i64 by_, .bool raw, .int .i64 n, .int .i64 t, .slice ba bn bc]⟩ T_law02_Act)) := (Keep.refl _ _).new ha
  have hA : Blk (H.upd a (.cells ⟨[.int .i64 do_, .int .i64 by_, .bool raw, .int .i64 n, .int .i64 t, .slice ba bn bc]⟩ T_law02_Act)) a T_law02_Act ⟨[.int .i64 do_, .int .i64 by_, .bool raw, .int .i64 n, .int .i64 t, .slice ba bn bc]⟩ := Blk.upd_eq
  generalize H.upd a (.cells ⟨[.int .i64 do_, .int .i64 by_, .bool raw, .int .i64 n, .int .i64 t, .slice ba bn bc]⟩ T_law02_Act) = H1 at *
  refine NewW.intro fun r hr => ?_
  have hr0 := k1.free hr
  have k2 : Keep Nil H1 (H1.upd r (.cells ⟨[.int .i64 0, .int .i64 0]⟩ T_pool_Handle)) := (Keep.refl _ _).new hr
  have hR : Blk (H1.upd r (.cells ⟨[.int .i64 0, .int .i64 0]⟩ T_pool_Handle)) r T_pool_Handle ⟨[.int .i64 0, .int .i64 0]⟩ := Blk.upd_eq
  generalize H1.upd r (.cells ⟨[.int .i64 0, .int .i64 0]⟩ T_pool_Handle) = H2 at *
  have hA2 := k2.blk hA (nil_no _)
  have h2 := h.keepN (k1.trans k2)
  obtain ⟨fa, fc, e, hy⟩ := h2.atY
  refine (ref_Lent_spec hy).mono ?_
  rintro v H3 ⟨k3, l, cap, rfl, ho⟩
  have hA3 := k3.blk hA2 (nil_no _)
  have hR3 := k3.blk hR (nil_no _)
  have k13 : Keep Nil H H3 := (k1.trans k2).trans k3
  have hle : N.lent.length ≤ 256 := Nat.le_trans (N.lentTo_le _) hy.inv.le
  refine ⟨_, _, _, rfl, raw, by rw [hA3.cell]; rfl, ?_⟩
  have j0 : ∀ b : Bool, b = decide (raw = true ∨ N.lent.length = 0) → law02_handle_j0 a r l N.lent.length cap b H3 fun v H' =>
      v = .agg ⟨[.int .i64 (handleV N raw by_ n t).1, .int .i64 (handleV N raw by_ n t).2]⟩ ∧ Keep Nil H H' := by
    intro b hb
    unfold law02_handle_j0
    subst hb
    by_cases hc : raw = true ∨ N.lent.length = 0
    · rw [decide_eq_true hc, IfB_true]
      refine ⟨n, by rw [hA3.cell]; rfl, t, by rw [hA3.cell]; rfl, ?_⟩
      refine pair_out hR3 rfl fun H' k _ => ⟨?_, k13.then k fun z hz => .inr (by rw [hz]; exact hr0)⟩
      unfold handleV
      rw [if_pos hc]
    · rw [decide_eq_false hc, IfB_false]
      refine ⟨by_, by rw [hA3.cell]; rfl, ?_⟩
      refine (base_Among_spec by_ (n := N.lent.length) (by omega) (by omega)).mono ?_
      rintro v _ ⟨rfl, rfl⟩
      have hlt := amongV_lt by_ (n := N.lent.length) (by omega)
      obtain ⟨m, rfl, c0, c1⟩ := own_prs ho rfl hlt
      refine ⟨_, rfl, NilP.intro _ rfl (InB.intro _ rfl hlt ?_)⟩
      refine ⟨_, c0, _, c1, ?_⟩
      refine new_pair fun q H' _ k4 _ hq => ?_
      refine ⟨_, by rw [hq.cell]; rfl, _, by rw [hq.cell]; rfl, ?_⟩
      refine pair_out (k4.blk hR3 (nil_no _)) rfl fun H5 k _ => ⟨?_, (k13.trans k4).then k fun z hz => .inr (by rw [hz]; exact hr0)⟩
      unfold handleV
      rw [if_neg hc, List.getElem?_eq_getElem hlt]
      rfl
  cases raw with
  | true => rw [IfB_true]; exact j0 _ (by simp)
  | false =>
    rw [IfB_false]
    refine j0 _ ?_
    by_cases e : N.lent.length = 0
    · simp [e]
    · rw [decide_eq_false (by simp only [Bool.false_eq_true, false_or]; exact e)]
      simp; intro e'; exact absurd (by simp [e']) e

theorem lent_bytes {M : PoolM} {i : Nat} (hi : i < M.lent.length) : ∃ k : Nat, M.lent[i] = ((k : Int), M.tk k) ∧ k < M.bufs.length ∧ M.findE M.lent[i].1 M.lent[i].2 = 0 := by
  have hm := List.getElem_mem hi
  obtain ⟨k, h1, h2, _⟩ := PoolM.lent_in hm
  exact ⟨k, h1, h2, PoolM.lent_findE hm⟩

theorem law02_same_spec {H0 H : Heap} {x xl y yl : Nat} {M : PoolM} (h : Both H0 H x xl y yl M M) :
    FnW Try.prog f_law02_same ⟨[.pointer (some ⟨x, 0, none⟩), .pointer (some ⟨y, 0, none⟩)]⟩ H fun v H' => v = .bool true ∧ Keep Nil H H' := by
  refine law02_same_sh x y ?_
  unfold law02_same_p
  obtain ⟨c, d, f, hx⟩ := h.atX
  refine (pool_Lent_spec hx).mono ?_
  rintro v H1 ⟨k1, lx, cx, rfl, hox⟩
  refine ⟨_, _, _, rfl, ?_⟩
  have h1 := h.keepN k1
  obtain ⟨fa, fc, e, hy⟩ := h1.atY
  refine (ref_Lent_spec hy).mono ?_
  rintro v H2 ⟨k2, ly, cy, rfl, hoy⟩
  have hy2 := hy.keepN k2
  have hx2 := (hx.keep k1 (nil_no _) (nil_no _)).keep k2 (nil_no _) (nil_no _)
  have hox2 := hox.keep k2 fun _ _ h => h
  have h2 := h1.keepN k2
  have k12 := k1.trans k2
  refine ⟨_, _, _, rfl, [y], live_of (by simp only [List.mem_cons, List.not_mem_nil, or_false]; rintro z rfl; exact hy2.blkP.some), by simp, _, _, _, by rw [hy2.blkP.cell]; rfl, ?_⟩
  have kr : KeptIn [y] H2 H2 := keptIn_of (Keep.refl Nil H2) (by simp only [List.mem_cons, List.not_mem_nil, or_false]; rintro z rfl; exact ⟨nil_no _, hy2.blkP.some⟩)
  refine (pool_Free_spec hx2).mono ?_
  rintro v _ ⟨rfl, rfl⟩
  refine ⟨_, rfl, kr, ?_⟩
  have ne : ∀ z : Int, (z != z) = false := fun z => by simp
  rw [ne, IfB_false]
  refine ⟨by simp, _, _, _, by rw [hy2.blkP.cell]; rfl, ?_⟩
  refine (pool_Size_spec hx2).mono ?_
  rintro v _ ⟨rfl, rfl⟩
  refine ⟨_, rfl, kr, ?_⟩
  rw [ne, ne, IfB_false]
  unfold law02_same_j0
  rw [IfB_false]
  have hle : M.lent.length ≤ 256 := Nat.le_trans (M.lentTo_le _) hx.inv.le
  refine LoopI.intro (fun k s H3 => ∃ i : Nat, s = ((i : Int), ()) ∧ i ≤ M.lent.length ∧ k = M.lent.length - i ∧ Keep Nil H2 H3) M.lent.length ⟨0, rfl, Nat.zero_le _, by omega, Keep.refl _ _⟩ ?_
  rintro k s H3 ⟨i, rfl, hi, rfl, k3⟩ g
  unfold law02_same_l5
  simp only
  by_cases hlt : i < M.lent.length
  · rw [decide_eq_true (by omega), IfB_true]
    have hox3 := hox2.keep k3 fun _ _ h => h
    obtain ⟨mx, rfl, cx0, cx1⟩ := own_prs hox3 rfl hlt
    obtain ⟨q, hq, hql, hfe⟩ := lent_bytes hlt
    refine NilP.intro _ rfl (InB.intro i rfl hlt ⟨_, cx0, _, cx1, ?_⟩)
    have h3 := h2.keepN k3
    refine (both_xRead h3 _ _).mono ?_
    rintro v H4 ⟨k4, a, m, cap, rfl, hb⟩
    have hox4 := hox3.keep k4 fun _ _ h => h
    obtain ⟨mx', e1, cx0, cx1⟩ := own_prs hox4 rfl hlt
    cases e1
    have hoy4 := (hoy.keep k3 fun _ _ h => h).keep k4 fun _ _ h => h
    obtain ⟨my, rfl, cy0, cy1⟩ := own_prs hoy4 rfl hlt
    refine ⟨_, _, _, _, rfl, NilP.intro _ rfl (InB.intro i rfl hlt ⟨_, cx0, NilP.intro _ rfl (InB.intro i rfl hlt ⟨_, cy0, ?_⟩)⟩)⟩
    rw [ne, IfB_false]
    refine NilP.intro _ rfl (InB.intro i rfl hlt ⟨_, cx1, NilP.intro _ rfl (InB.intro i rfl hlt ⟨_, cy1, ?_⟩)⟩)
    have hre : (M.read M.lent[i].1 M.lent[i].2) = (M.bytes q, 0) := by
      unfold PoolM.read
      rw [if_pos hfe, hq]
      simp
    rw [hre] at hb ⊢
    rw [ne, ne, IfB_false, IfB_false]
    have hy4 := (hy2.keepN k3).keepN k4
    obtain ⟨g1, g4, a', n', cap', g2, g3⟩ := hy4.buf hql
    refine ⟨_, _, _, by rw [hy4.blkP.cell]; rfl, NilP.intro _ rfl (InB.intro i rfl hlt ⟨_, cy0, NilP.intro _ rfl (InB.intro q (by rw [hq]) hql ?_)⟩)⟩
    rw [elemAt_none]
    refine ⟨_, _, _, by rw [hy4.blkB.cell]; simpa using g2, ?_⟩
    refine (base_SameBytes_spec hb g3).mono ?_
    rintro v _ ⟨rfl, rfl⟩
    refine ⟨_, rfl, ?_⟩
    have hbe : (M.bytes q == M.bytes q) = true := by simp
    rw [hbe]
    unfold law02_same_j1
    rw [Bool.not_true, IfB_false]
    exact ⟨M.lent.length - (i + 1), by omega, i + 1, by rw [wrap_id (by omega) (by omega)]; simp, by omega, rfl, k3.trans k4⟩
  · rw [decide_eq_false (by omega), IfB_false]
    exact ⟨by first | rfl | trivial, k12.trans k3⟩

theorem lawBytes_le (bs : List UInt8) : (lawBytes bs).length ≤ 1515 := by
  unfold lawBytes
  split
  · simp
  · rw [List.length_take]; omega
theorem count_write (M : PoolM) (n t : Int) (bs : List UInt8) : (M.write n t bs).2.count = M.count := by
  unfold PoolM.write
  split
  · split <;> rfl
  · rfl
theorem count_give (M : PoolM) (n t : Int) : (M.give n t).2.count = M.count := by
  unfold PoolM.give
  split <;> rfl
theorem count_lend (M : PoolM) (bs : List UInt8) : (M.lend bs).2.2.count ≤ M.count + 1 := by
  unfold PoolM.lend
  split
  · simp only; omega
  · split
    · simp only; omega
    · simp only; omega

theorem law02_do_spec {H0 H : Heap} {x xl y yl : Nat} {M : PoolM} (h : Both H0 H x xl y yl M M) (hc : M.count < 2 ^ 60) (do_ by_ : Int) (raw : Bool) (n t : Int) {ba : Option Addr} {bn bc : Nat} {bs : List UInt8} (hb : IsBytes H ba bn bs) (hbc : bn ≤ bc) :
    FnW Try.prog f_law02_do ⟨[.pointer (some ⟨x, 0, none⟩), .pointer (some ⟨y, 0, none⟩), .agg ⟨[.int .i64 do_, .int .i64 by_, .bool raw, .int .i64 n, .int .i64 t, .slice ba bn bc]⟩]⟩ H fun v H' =>
      v = .bool true ∧ ∃ M', Both H0 H' x xl y yl M' M' ∧ M'.count ≤ M.count + 1 := by
  refine law02_do_sh x y do_ by_ raw n t ba bn bc ?_
  unfold law02_do_p
  refine NewW.intro fun a ha => ?_
  have k1 : Keep Nil H (H.upd a (.cells ⟨[.int .i64 do_, .int .i64 by_, .bool raw, .int .i64 n, .int .i64 t, .slice ba bn bc]⟩ T_law02_Act)) := (Keep.refl _ _).new ha
  have hA : Blk (H.upd a (.cells ⟨[.int .i64 do_, .int .i64 by_, .bool raw, .int .i64 n, .int .i64 t, .slice ba bn bc]⟩ T_law02_Act)) a T_law02_Act ⟨[.int .i64 do_, .int .i64 by_, .bool raw, .int .i64 n, .int .i64 t, .slice ba bn bc]⟩ := Blk.upd_eq
  generalize H.upd a (.cells ⟨[.int .i64 do_, .int .i64 by_, .bool raw, .int .i64 n, .int .i64 t, .slice ba bn bc]⟩ T_law02_Act) = H1 at *
  refine ⟨_, _, _, by rw [hA.cell]; rfl, ?_⟩
  refine (law02_bytes_spec (Reads.keep hb k1 fun _ _ h => h) hbc).mono ?_
  rintro v H2 ⟨a2, n2, c2, rfl, hf, k2⟩
  have hu := hf.u8
  have hB := hf.bytes
  have hA2 := k2.blk hA (nil_no _)
  have hl := lawBytes_le bs
  generalize lawBytes bs = bs' at *
  have hBl := hB.len
  refine ⟨_, _, _, rfl, _, by rw [hA2.cell]; rfl, _, by rw [hA2.cell]; rfl, _, by rw [hA2.cell]; rfl, _, by rw [hA2.cell]; rfl, _, by rw [hA2.cell]; rfl, _, _, _, by rw [hA2.cell]; rfl, ?_⟩
  have h2 := h.keepN (k1.trans k2)
  refine (law02_handle_spec h2 do_ by_ raw n t ba bn bc).mono ?_
  rintro v H3 ⟨rfl, k3⟩
  generalize handleV M raw by_ n t = hd
  obtain ⟨hn, ht⟩ := hd
  refine ⟨_, _, rfl, ?_⟩
  simp only
  refine new_pair fun h8 H6 _ k6 _ hH => ?_
  refine ⟨hn, by rw [hH.cell]; rfl, ht, by rw [hH.cell]; rfl, ?_⟩
  refine new_pair fun k9 H9 _ k7 _ hK => ?_
  have k29 := (k3.trans k6).trans k7
  have hA9 := k29.blk hA2 (nil_no _)
  have hH9 := k7.blk hH (nil_no _)
  have h9 := h2.keepN k29
  have hB9 : IsBytes H9 a2 n2 bs' := Reads.keep hB k29 fun _ _ h => h
  have hu9 := hu.keep k29 fun _ _ _ h => h
  clear hA hA2 hH k1 k2 k3 k6 k7 k29 hB hu h2 hf hb ha h
  refine ⟨do_, by rw [hA9.cell]; rfl, ?_⟩
  refine (base_Among_spec do_ (n := 5) (by omega) (by omega)).mono ?_
  rintro v _ ⟨rfl, rfl⟩
  refine ⟨_, rfl, ?_⟩
  generalize ((amongV do_ 5 : Nat) : Int) = w
  have notP : ∀ {T}, ¬ PT T → ∀ {G : Heap} {z c}, Blk G z T c → ¬ pset G z := fun hT _ _ _ hb => Blk.noP hb hT
  have nH : ¬ PT T_pool_Handle := by decide
  have nR : ¬ PT T_ref02_Handle := by decide
  have nU : ¬ PT T_uint8 := by decide
  have ukeep : ∀ {G G' : Heap} {q}, U8 G q → Keep (pset G) G G' → U8 G' q := fun hq k => hq.keep k fun z c hz => notP nU hz
  have bkeep : ∀ {G G' : Heap} {q m} {l : List UInt8}, IsBytes G q m l → U8 G q → Keep (pset G) G G' → IsBytes G' q m l := fun hq hqu k => Reads.keep hq k fun z hz => by
    obtain ⟨c, hc⟩ := hqu z hz
    exact notP nU hc
  have beq : ∀ z : Int, (z == z) = true := fun z => by simp
  by_cases w2 : w = 2
  · subst w2
    rw [show ((2 : Int) == 2) = true from rfl, IfB_true]
    refine ⟨_, by rw [hH9.cell]; rfl, _, by rw [hH9.cell]; rfl, ?_⟩
    refine (both_xRead h9 hn ht).mono ?_
    rintro v H11 ⟨k, p, pm, pc, rfl, hp⟩
    refine ⟨_, _, _, _, rfl, _, by rw [(k.blk hK (nil_no _)).cell]; rfl, _, by rw [(k.blk hK (nil_no _)).cell]; rfl, ?_⟩
    refine (both_yRead (h9.keepN k) hn ht).mono ?_
    rintro v H12 ⟨k', q, qm, qc, rfl, hq⟩
    refine ⟨_, _, _, _, rfl, ?_⟩
    refine (base_SameBytes_spec (Reads.keep hp k' fun _ _ h => h) hq).mono ?_
    rintro v _ ⟨rfl, rfl⟩
    refine ⟨_, rfl, ?_⟩
    rw [show ((M.read hn ht).1 == (M.read hn ht).1) = true by simp, IfB_true, beq]
    exact ⟨rfl, M, (h9.keepN k).keepN k', by omega⟩
  · have e2 : (w == 2) = false := by simpa using w2
    rw [e2, IfB_false]
    by_cases w3 : w = 3
    · subst w3
      rw [show ((3 : Int) == 3) = true from rfl, IfB_true]
      have two : ∀ {S : Nat → Prop} {G : Heap}, Keep S H9 G → ¬ S h8 → ¬ S k9 → KeptIn [h8, k9] H9 G := fun k s1 s2 => keptIn_of k (by
        simp only [List.mem_cons, List.not_mem_nil, or_false]
        rintro z (rfl | rfl)
        · exact ⟨s1, hH9.some⟩
        · exact ⟨s2, hK.some⟩)
      refine ⟨[h8, k9], live_of (by simp only [List.mem_cons, List.not_mem_nil, or_false]; rintro z (rfl | rfl); exact hH9.some; exact hK.some), by simp, _, by rw [hH9.cell]; rfl, _, by rw [hH9.cell]; rfl, by simp, _, by rw [hK.cell]; rfl, _, by rw [hK.cell]; rfl, ?_⟩
      refine (base_Bytes_spec hB9 (by omega)).mono ?_
      rintro v H14 ⟨p, pc, rfl, hf, k⟩
      refine ⟨_, _, _, rfl, two k (nil_no _) (nil_no _), ?_⟩
      refine (both_xWrite (h9.keepN k) hn ht hf.bytes hf.u8).mono ?_
      rintro v H15 ⟨rfl, k', h15⟩
      have hH14 := k.blk hH9 (nil_no _)
      have hK14 := k.blk hK (nil_no _)
      have hu14 := hu9.keep k fun _ _ _ h => h
      have hB14 : IsBytes H14 a2 n2 bs' := Reads.keep hB9 k fun _ _ h => h
      refine ⟨_, rfl, two ((k.mono fun _ h => h.elim).trans k') (notP nH hH14) (notP nR hK14), ?_⟩
      have hB15 := bkeep hB14 hu14 k'
      refine (both_yWrite h15 hn ht hB15).mono ?_
      rintro v H16 ⟨rfl, k'', h16⟩
      have hH15 := k'.blk hH14 (notP nH hH14)
      have hK15 := k'.blk hK14 (notP nR hK14)
      have hH16 := k''.blk hH15 (notP nH hH15)
      have hK16 := k''.blk hK15 (notP nR hK15)
      refine ⟨_, rfl, fun z hz => ?_, by rw [beq], (M.write hn ht bs').2, h16, by rw [count_write]; omega⟩
      simp only [List.mem_cons, List.not_mem_nil, or_false] at hz
      rcases hz with rfl | rfl
      · exact ⟨⟨_, hH9⟩, hH16.trans hH9.symm⟩
      · exact ⟨⟨_, hK⟩, hK16.trans hK.symm⟩
    · have e3 : (w == 3) = false := by simpa using w3
      rw [e3, IfB_false]
      by_cases w4 : w = 4
      · subst w4
        rw [show ((4 : Int) == 4) = true from rfl, IfB_true]
        have one : ∀ {S : Nat → Prop} {G : Heap}, Keep S H9 G → ¬ S k9 → KeptIn [k9] H9 G := fun k s2 => keptIn_of k (by
          simp only [List.mem_cons, List.not_mem_nil, or_false]
          rintro z rfl
          exact ⟨s2, hK.some⟩)
        refine ⟨[k9], live_of (by simp only [List.mem_cons, List.not_mem_nil, or_false]; rintro z rfl; exact hK.some), _, by rw [hH9.cell]; rfl, _, by rw [hH9.cell]; rfl, by simp, _, by rw [hK.cell]; rfl, _, by rw [hK.cell]; rfl, ?_⟩
        refine (both_xGive h9 hn ht).mono ?_
        rintro v H15 ⟨rfl, k', h15⟩
        refine ⟨_, rfl, one k' (notP nR hK), ?_⟩
        refine (both_yGive h15 hn ht).mono ?_
        rintro v H16 ⟨rfl, k'', h16⟩
        have hK15 := k'.blk hK (notP nR hK)
        have hK16 := k''.blk hK15 (notP nR hK15)
        refine ⟨_, rfl, fun z hz => ?_, by rw [beq], (M.give hn ht).2, h16, by rw [count_give]; omega⟩
        simp only [List.mem_cons, List.not_mem_nil, or_false] at hz
        subst hz
        exact ⟨⟨_, hK⟩, hK16.trans hK.symm⟩
      · have e4 : (w == 4) = false := by simpa using w4
        rw [e4, IfB_false]
        refine (base_Bytes_spec hB9 (by omega)).mono ?_
        rintro v H19 ⟨p, pc, rfl, hf, k⟩
        refine ⟨_, _, _, rfl, ?_⟩
        have hu19 := hu9.keep k fun _ _ _ h => h
        have hB19 : IsBytes H19 a2 n2 bs' := Reads.keep hB9 k fun _ _ h => h
        refine (both_xLend (h9.keepN k) hf.bytes hf.u8 (by omega)).mono ?_
        rintro v H20 ⟨rfl, k', h20⟩
        refine ⟨_, _, _, rfl, ?_⟩
        refine new_pair fun p14 H23 _ k23 _ hP => ?_
        have h23 := h20.keepN k23
        have hu23 := (ukeep hu19 k').keep k23 fun _ _ _ h => h
        have hB23 : IsBytes H23 a2 n2 bs' := Reads.keep (bkeep hB19 hu19 k') k23 fun _ _ h => h
        obtain ⟨fa, fc, e, hy⟩ := h23.atY
        refine (both_yLend h23 hB23 (fun q hq _ => hu23.ne hy.blkP (by decide) q hq) (by omega)).mono ?_
        rintro v H24 ⟨rfl, k24, h24⟩
        refine ⟨_, _, _, rfl, ?_⟩
        have hP24 := k24.blk hP (notP nH hP)
        refine new_pair fun q16 H27 _ k27 _ hQ => ?_
        have hP27 := k27.blk hP24 (nil_no _)
        refine ⟨_, by rw [hP27.cell]; rfl, _, by rw [hQ.cell]; rfl, ?_⟩
        rw [beq, IfB_true]
        refine ⟨_, by rw [hP27.cell]; rfl, _, by rw [hQ.cell]; rfl, ?_⟩
        rw [beq, beq, IfB_true]
        exact ⟨rfl, (M.lend bs').2.2, h24.keepN k27, count_lend M bs'⟩

end Go.Proofs.Ytligjponbhnedaa
