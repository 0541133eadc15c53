/-
  Layer 2, the pool: Read, Write, Give, Lend, Free, Size.
-/
import Derived.Test.YtligjponbhnedaaPool1
set_option maxRecDepth 100000
namespace Go.Proofs.Ytligjponbhnedaa
open Go.Sh

theorem findE_intne {M : PoolM} {n t : Int} : (M.findE n t != 0) = decide (M.findE n t ≠ 0) := by
  by_cases h : M.findE n t = 0 <;> simp [h]

theorem PoolAt.buf {H : Heap} {b bl : Nat} {M : PoolM} {c d : Array Value} {f : Nat} (hp : PoolAt H b bl M c d f) {k : Nat} (hk : k < M.bufs.length) (ht : 0 < M.tk k) :
    d[k * 1516]? = some (.int .i64 (M.tk k)) ∧ d[k * 1516 + 1]? = some (.int .i64 (M.bytes k).length) ∧ (∀ j, j < (M.bytes k).length → d[k * 1516 + 2 + j]? = (u8s (M.bytes k))[j]?) ∧ (M.bytes k).length ≤ 1514 := by
  obtain ⟨g1, g2⟩ := hp.bufs _ _ _ (PoolM.tk_get hk)
  obtain ⟨g3, g4⟩ := g2 ht
  exact ⟨g1, g3, g4, (hp.inv.tickets _ _ (PoolM.tk_get hk)).2.2⟩

theorem pool_Read_spec {H : Heap} {b bl : Nat} {M : PoolM} {c d : Array Value} {f : Nat} (hp : PoolAt H b bl M c d f) (n t : Int) :
    FnW Try.prog f_pool_Pool_Read ⟨[.pointer (some ⟨b, 0, none⟩), .agg ⟨[.int .i64 n, .int .i64 t]⟩]⟩ H fun v H' => Keep Nil H H' ∧
      ∃ a m cap, v = .tuple ⟨[.slice a m cap, .int .i64 (M.findE n t)]⟩ ∧ (M.findE n t = 0 → Fresh H H' a m cap (M.bytes n.toNat)) ∧ (M.findE n t ≠ 0 → a = none ∧ m = 0 ∧ cap = 0) := by
  refine pool_Pool_Read_sh b n t ?_
  unfold pool_Pool_Read_p
  refine NewW.intro fun m hm => ?_
  have k1 : Keep Nil H (H.upd m (.cells ⟨[.int .i64 n, .int .i64 t]⟩ T_pool_Handle)) := (Keep.refl _ _).new hm
  have hp1 := hp.keep k1 (fun h => h) (fun h => h)
  have hm1 : Blk (H.upd m (.cells ⟨[.int .i64 n, .int .i64 t]⟩ T_pool_Handle)) m T_pool_Handle ⟨[.int .i64 n, .int .i64 t]⟩ := Blk.upd_eq
  generalize H.upd m (.cells ⟨[.int .i64 n, .int .i64 t]⟩ T_pool_Handle) = H1 at *
  refine ⟨n, by rw [hm1.cell]; rfl, t, by rw [hm1.cell]; rfl, ?_⟩
  refine (pool_find_spec hp1 n t).mono ?_
  rintro v H2 ⟨k2, rfl⟩
  have hp2 := hp1.keep k2 (fun h => h) (fun h => h)
  have k12 := k1.trans k2
  refine ⟨_, _, rfl, ?_⟩
  rw [findE_intne]
  by_cases h0 : M.findE n t = 0
  · rw [h0, decide_eq_false (by simp), if_pos rfl]
    obtain ⟨a1, a2, a3, a4⟩ := PoolM.findE_zero h0
    obtain ⟨g1, g2, g3, g4⟩ := hp2.buf a2 (by omega)
    rw [IfB_false]
    refine NilP.intro _ rfl (NilP.intro _ rfl ?_)
    refine ⟨_, by rw [hp2.blkB.cell, Nat.zero_add]; exact g2, ?_⟩
    refine InC.intro _ rfl g4 ?_
    refine NewW.intro fun p hpn => ?_
    have k3 : Keep Nil H2 (H2.upd p (.cells ⟨[]⟩ T_uint8)) := (Keep.refl _ _).new hpn
    have hp3 := hp2.keep k3 (fun h => h) (fun h => h)
    have hb3 : Blk (H2.upd p (.cells ⟨[]⟩ T_uint8)) p T_uint8 ⟨[]⟩ := Blk.upd_eq
    have kk := k12.trans k3
    have hpn0 := k12.free hpn
    generalize H2.upd p (.cells ⟨[]⟩ T_uint8) = H3 at *
    obtain ⟨it, hi, hsz, hby⟩ := row_uint8.info
    have hr : Reads H3 (some ⟨bl, 0 + n.toNat * 1516 + 2, none⟩) ((M.bytes n.toNat).length * 1) (u8s (M.bytes n.toNat)) :=
      Reads.blk hp3.blkB (by simp) fun j hj => by rw [Nat.zero_add]; exact g3 j (by omega)
    refine AppW.intro (sLen := 0) (sCap := 0) (sz := 1) (by_ := 1) (old := []) und_sl_uint8 und_sl_uint8 hi hsz hby (by omega) row_uint8.zero rfl ?_ hr (.inr ⟨rfl, by omega⟩) ?_ ?_
    · exact Reads.blk hb3 rfl (fun j hj => by omega)
    · intro hl
      have hbs : M.bytes n.toNat = [] := List.eq_nil_of_length_eq_zero (by omega)
      refine ⟨rfl, ⟨[]⟩, T_uint8, hb3, by simp, u8s_plain _, fun H' hb ho => ?_⟩
      rw [hbs] at hb ⊢
      have k4 : Keep (fun b => b = p) H3 H' := ⟨fun b hb' _ => ho b hb', fun b hb' => by
        by_cases e : b = p
        · subst e; exact hb.some
        · rw [ho b e]; exact hb'⟩
      refine ⟨_, _, _, rfl, kk.then k4 (fun b hb' => .inr (by rw [hb']; exact hpn0)), _, _, _, rfl, fun _ => ?_, fun hc => absurd rfl hc⟩
      exact ⟨p, [], rfl, rfl, Nat.le_refl _, hpn0, by simpa [putRow, u8s] using hb, rfl⟩
    · intro hl q cap hq hcap
      refine ⟨_, _, _, rfl, kk.new hq, _, _, _, rfl, fun _ => ?_, fun hc => absurd rfl hc⟩
      exact ⟨q, repL (cap - (M.bytes n.toNat).length) [.int .u8 0], rfl, by omega, hcap, kk.free hq, by simpa using Blk.upd_eq, by simp [repL_zero]⟩
  · rw [decide_eq_true h0]
    exact ⟨k12, _, _, _, rfl, fun hc => absurd hc h0, fun _ => ⟨rfl, rfl, rfl⟩⟩

/-- What may turn where the pool turns. -/
def two (b bl : Nat) : Nat → Prop := fun x => x = b ∨ x = bl

theorem pool_Write_spec {H : Heap} {b bl : Nat} {M : PoolM} {c d : Array Value} {f : Nat} (hp : PoolAt H b bl M c d f) (n t : Int) {a : Option Addr} {m cap : Nat} {bs : List UInt8} (hr : IsBytes H a m bs) (ha : ∀ x, a = some x → x.block ≠ bl) :
    FnW Try.prog f_pool_Pool_Write ⟨[.pointer (some ⟨b, 0, none⟩), .agg ⟨[.int .i64 n, .int .i64 t]⟩, .slice a m cap]⟩ H fun v H' => Keep (fun x => x = bl) H H' ∧ v = .int .i64 (M.write n t bs).1 ∧ ∃ d', PoolAt H' b bl (M.write n t bs).2 c d' f := by
  refine pool_Pool_Write_sh b n t a m cap ?_
  unfold pool_Pool_Write_p
  refine NewW.intro fun p hpn => ?_
  have k1 : Keep Nil H (H.upd p (.cells ⟨[.int .i64 n, .int .i64 t]⟩ T_pool_Handle)) := (Keep.refl _ _).new hpn
  have hp1 := hp.keep k1 (fun h => h) (fun h => h)
  have hm1 : Blk (H.upd p (.cells ⟨[.int .i64 n, .int .i64 t]⟩ T_pool_Handle)) p T_pool_Handle ⟨[.int .i64 n, .int .i64 t]⟩ := Blk.upd_eq
  generalize H.upd p (.cells ⟨[.int .i64 n, .int .i64 t]⟩ T_pool_Handle) = H1 at *
  refine ⟨n, by rw [hm1.cell]; rfl, t, by rw [hm1.cell]; rfl, ?_⟩
  refine (pool_find_spec hp1 n t).mono ?_
  rintro v H2 ⟨k2, rfl⟩
  have hp2 := hp1.keep k2 (fun h => h) (fun h => h)
  have k12 := k1.trans k2
  have hr2 : IsBytes H2 a m bs := Reads.keep hr k12 (fun _ _ h => h)
  have hlen := hr.len
  refine ⟨_, _, rfl, ?_⟩
  rw [findE_intne]
  by_cases h0 : M.findE n t = 0
  · rw [h0, decide_eq_false (by simp), if_pos rfl]
    obtain ⟨a1, a2, a3, a4⟩ := PoolM.findE_zero h0
    by_cases hl : bs.length > 1514
    · have hw : M.write n t bs = (3, M) := by unfold PoolM.write; rw [if_pos h0, if_pos hl]
      rw [hw, hlen, decide_eq_true (by omega)]
      exact ⟨k12.mono (fun _ h => h.elim), rfl, d, hp2⟩
    · have hw : M.write n t bs = (0, ⟨M.bufs.set n.toNat (t, bs), M.free, M.count⟩) := by unfold PoolM.write; rw [if_pos h0, if_neg hl]
      rw [decide_eq_false (by omega), IfB_false, IfB_false]
      have hsz : 0 + n.toNat * 1516 + 1516 ≤ d.size := by rw [hp2.sizeB]; omega
      refine (pool_buffer_fill_spec hp2.blkB hsz hr2 (by omega)).mono ?_
      rintro v H3 ⟨rfl, hb3, ho3⟩
      have k3 : Keep (fun x => x = bl) H2 H3 := ⟨fun x hx _ => ho3 x hx, fun x hx => by
        by_cases e : x = bl
        · subst e; exact hb3.some
        · rw [ho3 x e]; exact hx⟩
      have hinv := PoolM.inv_write hp.inv n t bs
      rw [hw] at hinv ⊢
      refine ⟨rfl, (k12.mono (fun _ h => h.elim)).trans k3, rfl, (putRow d (0 + n.toNat * 1516 + 2) (u8s bs)).setIfInBounds (0 + n.toNat * 1516 + 1) (.int .i64 m), ?_⟩
      have hne := hp.ne
      refine ⟨hinv, hp2.blkP.same (ho3 b hne), hp2.size, by simpa using hp2.l, hp2.first_, hp2.many, hp2.count, hp2.firstLt, hp2.ring, hb3, by simp [putRow_size, hp2.sizeB], ?_⟩
      have hu := u8s_length bs
      have get : ∀ j, ((putRow d (0 + n.toNat * 1516 + 2) (u8s bs)).setIfInBounds (0 + n.toNat * 1516 + 1) (.int .i64 m))[j]? = if j = n.toNat * 1516 + 1 then some (.int .i64 m) else if n.toNat * 1516 + 2 ≤ j ∧ j < n.toNat * 1516 + 2 + bs.length then (u8s bs)[j - (n.toNat * 1516 + 2)]? else d[j]? := by
        intro j
        rw [Array.getElem?_setIfInBounds, putRow_size]
        by_cases e : j = n.toNat * 1516 + 1
        · rw [if_pos (by omega), if_pos e, if_pos (by omega)]
        · rw [if_neg (by omega), if_neg e, putRow_get _ _ _ _ (by rw [hu]; omega), hu]
          simp only [Nat.zero_add]
      obtain ⟨g1, _⟩ := hp2.bufs _ _ _ (PoolM.tk_get a2)
      refine hp2.bufs.set (fun j hj => ?_) (fun i t bs h => (hp.inv.tickets i _ h).2.2) ?_ (fun _ => ⟨?_, fun j hj => ?_⟩)
      · rw [get, if_neg (by omega), if_neg (by omega)]
      · rw [get, if_neg (by omega), if_neg (by omega), g1, a4]
      · rw [get, if_pos rfl, hlen]
      · rw [get, if_neg (by omega), if_pos (by omega)]
        congr 1
        omega
  · rw [decide_eq_true h0]
    have hw : M.write n t bs = (M.findE n t, M) := by unfold PoolM.write; rw [if_neg h0]
    rw [hw]
    exact ⟨k12.mono (fun _ h => h.elim), rfl, d, hp2⟩

theorem pool_Free_spec {H : Heap} {b bl : Nat} {M : PoolM} {c d : Array Value} {f : Nat} (hp : PoolAt H b bl M c d f) :
    FnW Try.prog f_pool_Pool_Free ⟨[.pointer (some ⟨b, 0, none⟩)]⟩ H fun v H' => v = .int .i64 M.free.length ∧ H = H' := by
  refine pool_Pool_Free_sh b ?_
  unfold pool_Pool_Free_p
  refine (pool_is_spec hp.blkP hp.l).mono ?_
  rintro v _ ⟨rfl, rfl⟩
  exact ⟨_, rfl, _, by rw [hp.blkP.cell]; exact hp.many, rfl, rfl⟩

theorem pool_Size_spec {H : Heap} {b bl : Nat} {M : PoolM} {c d : Array Value} {f : Nat} (hp : PoolAt H b bl M c d f) :
    FnW Try.prog f_pool_Pool_Size ⟨[.pointer (some ⟨b, 0, none⟩)]⟩ H fun v H' => v = .int .i64 M.bufs.length ∧ H = H' := by
  refine pool_Pool_Size_sh b ?_
  unfold pool_Pool_Size_p
  refine (pool_is_spec hp.blkP hp.l).mono ?_
  rintro v _ ⟨rfl, rfl⟩
  exact ⟨_, rfl, _, _, _, by rw [hp.blkP.cell]; exact hp.l, rfl, rfl⟩

theorem tmod_nat (a : Nat) : Int.tmod (a : Int) 256 = ((a % 256 : Nat) : Int) := by
  rw [Int.tmod_eq_emod_of_nonneg (by omega)]; omega

theorem pool_Give_spec {H : Heap} {b bl : Nat} {M : PoolM} {c d : Array Value} {f : Nat} (hp : PoolAt H b bl M c d f) (n t : Int) :
    FnW Try.prog f_pool_Pool_Give ⟨[.pointer (some ⟨b, 0, none⟩), .agg ⟨[.int .i64 n, .int .i64 t]⟩]⟩ H fun v H' => Keep (two b bl) H H' ∧ v = .int .i64 (M.give n t).1 ∧ ∃ c' d', PoolAt H' b bl (M.give n t).2 c' d' f := by
  refine pool_Pool_Give_sh b n t ?_
  unfold pool_Pool_Give_p
  refine NewW.intro fun p hpn => ?_
  have k1 : Keep Nil H (H.upd p (.cells ⟨[.int .i64 n, .int .i64 t]⟩ T_pool_Handle)) := (Keep.refl _ _).new hpn
  have hp1 := hp.keep k1 (fun h => h) (fun h => h)
  have hm1 : Blk (H.upd p (.cells ⟨[.int .i64 n, .int .i64 t]⟩ T_pool_Handle)) p T_pool_Handle ⟨[.int .i64 n, .int .i64 t]⟩ := Blk.upd_eq
  have hpb : p ≠ b := (hp.blkP.ne hpn).symm
  have hpbl : p ≠ bl := (hp.blkB.ne hpn).symm
  generalize H.upd p (.cells ⟨[.int .i64 n, .int .i64 t]⟩ T_pool_Handle) = H1 at *
  refine ⟨n, by rw [hm1.cell]; rfl, t, by rw [hm1.cell]; rfl, ?_⟩
  refine (pool_find_spec hp1 n t).mono ?_
  rintro v H2 ⟨k2, rfl⟩
  have hp2 := hp1.keep k2 (fun h => h) (fun h => h)
  have hm2 := k2.blk hm1 (fun h => h)
  have k12 := k1.trans k2
  refine ⟨_, _, rfl, ?_⟩
  rw [findE_intne]
  by_cases h0 : M.findE n t = 0
  · rw [h0, decide_eq_false (by simp), if_pos rfl]
    obtain ⟨a1, a2, a3, a4⟩ := PoolM.findE_zero h0
    have hw : M.give n t = (0, ⟨M.bufs.set n.toNat (0, []), M.free ++ [n], M.count⟩) := by unfold PoolM.give; rw [if_pos h0]
    have hfl := hp.inv.free_lt a2 (by omega)
    have hle := hp.inv.le
    have hne := hp.ne
    have hfirst := hp.firstLt
    have hszd : 0 + n.toNat * 1516 < d.size := by rw [hp2.sizeB]; omega
    rw [IfB_false]
    refine NilP.intro _ rfl ?_
    refine StCell.blk hp2.blkB hszd rfl ?_
    have k3 : Keep (two b bl) H (H2.upd bl (.cells (d.setIfInBounds (0 + n.toNat * 1516) (.int .i64 0)) T_pool_buffer (0, 0))) := (k12.mono (fun _ h => h.elim)).upd (.inl (.inr rfl))
    have hP3 : Blk (H2.upd bl (.cells (d.setIfInBounds (0 + n.toNat * 1516) (.int .i64 0)) T_pool_buffer (0, 0))) b T_pool_Pool c := hp2.blkP.upd_ne hne
    have hB3 : Blk (H2.upd bl (.cells (d.setIfInBounds (0 + n.toNat * 1516) (.int .i64 0)) T_pool_buffer (0, 0))) bl T_pool_buffer (d.setIfInBounds (0 + n.toNat * 1516) (.int .i64 0)) := Blk.upd_eq
    have hm3 := hm2.upd_ne (o := .cells (d.setIfInBounds (0 + n.toNat * 1516) (.int .i64 0)) T_pool_buffer (0, 0)) hpbl
    generalize H2.upd bl (.cells (d.setIfInBounds (0 + n.toNat * 1516) (.int .i64 0)) T_pool_buffer (0, 0)) = H3 at *
    refine ⟨_, by rw [hP3.cell]; exact hp2.first_, _, by rw [hP3.cell]; exact hp2.many, by omega, n, by rw [hm3.cell]; rfl, ?_⟩
    have hsum : IntKind.wrap .i64 ((f : Int) + (M.free.length : Int)) = ((f + M.free.length : Nat) : Int) := by rw [wrap_id (by omega) (by omega)]; omega
    rw [hsum, tmod_nat]
    refine InB.intro _ rfl (Nat.mod_lt _ (by omega)) ?_
    have hsz : c.size = 260 := hp2.size
    have hmod : (f + M.free.length) % 256 < 256 := Nat.mod_lt _ (by omega)
    refine StCell.blk hP3 (by rw [hsz]; omega) rfl ?_
    refine ⟨M.free.length, by rw [Blk.upd_eq.cell, Array.getElem?_setIfInBounds_ne (by omega)]; exact hp2.many, ?_⟩
    refine StCell.blk Blk.upd_eq (by simp [hsz]) rfl ?_
    have hinv := PoolM.inv_give hp.inv n t
    rw [hw] at hinv ⊢
    refine ⟨(k3.upd (.inl (.inl rfl))).upd (.inl (.inl rfl)), rfl, _, _, ⟨hinv, Blk.upd_eq, by simp [hsz], ?_, ?_, ?_, ?_, hp2.firstLt, ?_, (hB3.upd_ne hne.symm).upd_ne hne.symm, by simp [hp2.sizeB], ?_⟩⟩
    · rw [Array.getElem?_setIfInBounds_ne (by omega), Array.getElem?_setIfInBounds_ne (by omega)]
      simpa using hp2.l
    · rw [Array.getElem?_setIfInBounds_ne (by omega), Array.getElem?_setIfInBounds_ne (by omega)]
      exact hp2.first_
    · rw [Array.getElem?_setIfInBounds_self_of_lt (by simp [hsz])]
      rw [wrap_id (by omega) (by omega)]
      simp
    · rw [Array.getElem?_setIfInBounds_ne (by omega), Array.getElem?_setIfInBounds_ne (by omega)]
      exact hp2.count
    · intro i k hk
      have hmi : (f + i) % 256 < 256 := Nat.mod_lt _ (by omega)
      rw [Array.getElem?_setIfInBounds_ne (by omega)]
      rw [List.getElem?_append] at hk
      split at hk
      · rename_i hi
        rw [Array.getElem?_setIfInBounds_ne (by omega)]
        exact hp2.ring i k hk
      · rename_i hi
        have hi' : i = M.free.length := by
          rcases Nat.lt_or_ge (i - M.free.length) 1 with h | h
          · omega
          · rw [List.getElem?_eq_none (by simpa using h)] at hk; cases hk
        subst hi'
        simp at hk
        subst hk
        have he : 1 + (f + M.free.length) % 256 * 1 = 1 + (f + M.free.length) % 256 := by omega
        rw [he, Array.getElem?_setIfInBounds_self_of_lt (by rw [hsz]; omega)]
    · refine hp2.bufs.set (fun j hj => ?_) (fun i t bs h => (hp.inv.tickets i _ h).2.2) ?_ (fun h => by omega)
      · rw [Array.getElem?_setIfInBounds_ne (by omega)]
      · rw [Nat.zero_add, Array.getElem?_setIfInBounds_self_of_lt (by omega)]
  · rw [decide_eq_true h0]
    have hw : M.give n t = (M.findE n t, M) := by unfold PoolM.give; rw [if_neg h0]
    rw [hw]
    exact ⟨k12.mono (fun _ h => h.elim), rfl, c, d, hp2⟩

end Go.Proofs.Ytligjponbhnedaa
