/-
  Layer 2, the pool: Lend, Lent, Make.
-/
import Derived.Test.YtligjponbhnedaaPool2
set_option maxRecDepth 100000
namespace Go.Proofs.Ytligjponbhnedaa
open Go.Sh

/-- Two cells written into a block of two. -/
theorem pair_set {H : Heap} {m : Nat} {T : TypeId} {c : Array Value} (hb : Blk H m T c) (hc : c.size = 2) {a b : Int} {K : Heap → Prop}
    (h : ∀ H', Keep (fun x => x = m) H H' → (∀ x, x ≠ m → H' x = H x) → Blk H' m T ⟨[.int .i64 a, .int .i64 b]⟩ → K H') :
    StCell H ⟨m, 0, none⟩ (.int .i64 a) fun H3 => StCell H3 ⟨m, 1, none⟩ (.int .i64 b) K := by
  refine StCell.blk hb (by omega) rfl ?_
  refine StCell.blk Blk.upd_eq (by simp [hc]) rfl ?_
  refine h _ (((Keep.refl (fun x => x = m) H).upd (n := m) (.inl rfl)).upd (n := m) (.inl rfl)) (fun x hx => by rw [upd_ne hx, upd_ne hx]) ?_
  have : ((c.setIfInBounds 0 (.int .i64 a)).setIfInBounds 1 (.int .i64 b)) = ⟨[.int .i64 a, .int .i64 b]⟩ := by
    clear h hb
    obtain ⟨l⟩ := c
    rcases l with _ | ⟨x, _ | ⟨y, _ | ⟨z, l⟩⟩⟩ <;> simp at hc ⊢
  rw [this]
  exact Blk.upd_eq

theorem pair_out {H : Heap} {m : Nat} {T : TypeId} {c : Array Value} (hb : Blk H m T c) (hc : c.size = 2) {a b : Int} {K : Int → Int → Heap → Prop}
    (h : ∀ H', Keep (fun x => x = m) H H' → (∀ x, x ≠ m → H' x = H x) → K a b H') :
    StCell H ⟨m, 0, none⟩ (.int .i64 a) fun H3 => StCell H3 ⟨m, 1, none⟩ (.int .i64 b) fun H4 =>
      ∃ r0 : Int, H4.cell ⟨m, 0, none⟩ = some (.int .i64 r0) ∧ ∃ r1 : Int, H4.cell ⟨m, 1, none⟩ = some (.int .i64 r1) ∧ K r0 r1 H4 :=
  pair_set hb hc fun H' k o hb' => ⟨a, by rw [hb'.cell]; rfl, b, by rw [hb'.cell]; rfl, h H' k o⟩

theorem pool_Lend_spec {H : Heap} {b bl : Nat} {M : PoolM} {c d : Array Value} {f : Nat} (hp : PoolAt H b bl M c d f) {a : Option Addr} {m cap : Nat} {bs : List UInt8} (hr : IsBytes H a m bs) (ha : ∀ x, a = some x → x.block ≠ bl ∧ x.block ≠ b) (hcount : M.count < 2 ^ 62) :
    FnW Try.prog f_pool_Pool_Lend ⟨[.pointer (some ⟨b, 0, none⟩), .slice a m cap]⟩ H fun v H' => Keep (two b bl) H H' ∧
      v = .tuple ⟨[.agg ⟨[.int .i64 (M.lend bs).1.1, .int .i64 (M.lend bs).1.2]⟩, .int .i64 (M.lend bs).2.1]⟩ ∧ ∃ c' d' f', PoolAt H' b bl (M.lend bs).2.2 c' d' f' := by
  refine pool_Pool_Lend_sh b a m cap ?_
  unfold pool_Pool_Lend_p
  refine NewW.intro fun p hpn => ?_
  have k1 : Keep Nil H (H.upd p (.cells ⟨[.int .i64 0, .int .i64 0]⟩ T_pool_Handle)) := (Keep.refl _ _).new hpn
  have hp1 := hp.keep k1 (fun h => h) (fun h => h)
  have hm1 : Blk (H.upd p (.cells ⟨[.int .i64 0, .int .i64 0]⟩ T_pool_Handle)) p T_pool_Handle ⟨[.int .i64 0, .int .i64 0]⟩ := Blk.upd_eq
  have hpb : p ≠ b := (hp.blkP.ne hpn).symm
  have hpbl : p ≠ bl := (hp.blkB.ne hpn).symm
  have hr1 : IsBytes (H.upd p (.cells ⟨[.int .i64 0, .int .i64 0]⟩ T_pool_Handle)) a m bs := Reads.keep hr k1 (fun _ _ h => h)
  generalize H.upd p (.cells ⟨[.int .i64 0, .int .i64 0]⟩ T_pool_Handle) = H1 at *
  refine (pool_is_spec hp1.blkP hp1.l).mono ?_
  rintro v _ ⟨rfl, rfl⟩
  refine ⟨_, rfl, ?_⟩
  have hlen := hr.len
  rw [Bool.not_true, IfB_false]
  -- a result that changes nothing
  have out : ∀ (H2 : Heap) (x y e : Int) (M' : PoolM) (c' d' : Array Value) (f' : Nat), (M.lend bs) = ((x, y), e, M') → Keep (two b bl) H H2 → PoolAt H2 b bl M' c' d' f' → Blk H2 p T_pool_Handle ⟨[.int .i64 0, .int .i64 0]⟩ →
      StCell H2 ⟨p, 0, none⟩ (.int .i64 x) fun H3 => StCell H3 ⟨p, 1, none⟩ (.int .i64 y) fun H4 =>
      ∃ r0 : Int, H4.cell ⟨p, 0, none⟩ = some (.int .i64 r0) ∧ ∃ r1 : Int, H4.cell ⟨p, 1, none⟩ = some (.int .i64 r1) ∧
        (Keep (two b bl) H H4 ∧ Value.tuple ⟨[.agg ⟨[.int .i64 r0, .int .i64 r1]⟩, .int .i64 e]⟩ = .tuple ⟨[.agg ⟨[.int .i64 (M.lend bs).1.1, .int .i64 (M.lend bs).1.2]⟩, .int .i64 (M.lend bs).2.1]⟩ ∧ ∃ c' d' f', PoolAt H4 b bl (M.lend bs).2.2 c' d' f') := by
    intro H2 x y e M' c' d' f' hM k hP hb2
    refine pair_out hb2 rfl (a := x) (b := y) (K := fun r0 r1 H4 => Keep (two b bl) H H4 ∧ Value.tuple ⟨[.agg ⟨[.int .i64 r0, .int .i64 r1]⟩, .int .i64 e]⟩ = .tuple ⟨[.agg ⟨[.int .i64 (M.lend bs).1.1, .int .i64 (M.lend bs).1.2]⟩, .int .i64 (M.lend bs).2.1]⟩ ∧ ∃ c' d' f', PoolAt H4 b bl (M.lend bs).2.2 c' d' f') fun H4 k4 _ => ?_
    rw [hM]
    refine ⟨k.then k4 (fun z hz => .inr (by rw [hz]; exact hpn)), rfl, c', d', f', hP.keep k4 (fun e => hpb e.symm) (fun e => hpbl e.symm)⟩
  by_cases hl : bs.length > 1514
  · rw [decide_eq_true (by omega), IfB_true]
    exact out H1 0 0 3 M c d f (by unfold PoolM.lend; rw [if_pos hl]) (k1.mono (fun _ h => h.elim)) hp1 hm1
  · rw [decide_eq_false (by omega), IfB_false]
    refine ⟨_, by rw [hp1.blkP.cell]; exact hp1.many, ?_⟩
    cases hf : M.free with
    | nil =>
      exact out H1 0 0 4 M c d f (by unfold PoolM.lend; rw [if_neg hl, hf]) (k1.mono (fun _ h => h.elim)) hp1 hm1
    | cons k fr =>
      have hM : M.lend bs = ((k, M.count + 1), 0, ⟨M.bufs.set k.toNat (M.count + 1, bs), fr, M.count + 1⟩) := by unfold PoolM.lend; rw [if_neg hl, hf]
      have hinv := PoolM.inv_lend hp.inv bs
      rw [hM] at hinv
      have hk := hp.inv.freeIn k (by rw [hf]; simp)
      have hkl : k.toNat < M.bufs.length := by omega
      have hkk : k = (k.toNat : Int) := by omega
      have hle := hp.inv.le
      have hfle := hp.inv.free_le
      have hfirst := hp.firstLt
      have hne := hp.ne
      have hcp := hp.inv.countPos
      have hflen : M.free.length = fr.length + 1 := by rw [hf]; simp
      have hb0 : ((((k :: fr).length : Nat) : Int) == 0) = false := by simp only [List.length_cons]; exact beq_false_of_ne (by omega)
      rw [hb0, IfB_false]
      have hsz : c.size = 260 := hp1.size
      have hring0 := hp1.ring 0 k (by rw [hf]; rfl)
      rw [Nat.add_zero, Nat.mod_eq_of_lt hfirst] at hring0
      refine ⟨_, by rw [hp1.blkP.cell]; exact hp1.first_, InB.intro f rfl hfirst ?_⟩
      refine ⟨k, by rw [hp1.blkP.cell, Nat.mul_one]; exact hring0, f, by rw [hp1.blkP.cell]; exact hp1.first_, by omega, ?_⟩
      have w1 : IntKind.wrap .i64 ((f : Int) + 1) = ((f + 1 : Nat) : Int) := by rw [wrap_id (by omega) (by omega)]; omega
      rw [w1, tmod_nat]
      refine StCell.blk hp1.blkP (by omega) rfl ?_
      refine ⟨M.free.length, by rw [Blk.upd_eq.cell, Array.getElem?_setIfInBounds_ne (by omega)]; exact hp1.many, ?_⟩
      have w2 : IntKind.wrap .i64 ((M.free.length : Int) - 1) = ((fr.length : Nat) : Int) := by rw [wrap_id (by omega) (by omega)]; omega
      rw [w2]
      refine StCell.blk Blk.upd_eq (by simp [hsz]) rfl ?_
      refine ⟨M.count, by rw [Blk.upd_eq.cell, Array.getElem?_setIfInBounds_ne (by omega), Array.getElem?_setIfInBounds_ne (by omega)]; exact hp1.count, ?_⟩
      have w3 : IntKind.wrap .i64 (M.count + 1) = M.count + 1 := wrap_id (by omega) (by omega)
      rw [w3]
      refine StCell.blk Blk.upd_eq (by simp [hsz]) rfl ?_
      -- the pool's block is done
      have get : ∀ j, (((c.setIfInBounds 257 (.int .i64 ((f + 1) % 256 : Nat))).setIfInBounds 258 (.int .i64 (fr.length : Nat))).setIfInBounds 259 (.int .i64 (M.count + 1)))[j]? =
          if j = 257 then some (.int .i64 ((f + 1) % 256 : Nat)) else if j = 258 then some (.int .i64 (fr.length : Nat)) else if j = 259 then some (.int .i64 (M.count + 1)) else c[j]? := by
        intro j
        simp only [Array.getElem?_setIfInBounds, Array.size_setIfInBounds, hsz]
        by_cases h1 : j = 257
        · subst h1; simp
        · by_cases h2 : j = 258
          · subst h2; simp
          · by_cases h3 : j = 259
            · subst h3; simp
            · rw [if_neg h1, if_neg h2, if_neg h3, if_neg (by omega), if_neg (by omega), if_neg (by omega)]
      have hsz' : (((c.setIfInBounds 257 (.int .i64 ((f + 1) % 256 : Nat))).setIfInBounds 258 (.int .i64 (fr.length : Nat))).setIfInBounds 259 (.int .i64 (M.count + 1))).size = 260 := by simp [hsz]
      generalize hcc : (((c.setIfInBounds 257 (.int .i64 ((f + 1) % 256 : Nat))).setIfInBounds 258 (.int .i64 (fr.length : Nat))).setIfInBounds 259 (.int .i64 (M.count + 1))) = c' at get hsz'
      have k4 : Keep (two b bl) H (((H1.upd b (.cells (c.setIfInBounds 257 (.int .i64 ((f + 1) % 256 : Nat))) T_pool_Pool (0, 0))).upd b (.cells ((c.setIfInBounds 257 (.int .i64 ((f + 1) % 256 : Nat))).setIfInBounds 258 (.int .i64 (fr.length : Nat))) T_pool_Pool (0, 0))).upd b (.cells c' T_pool_Pool (0, 0))) :=
        ((((k1.mono (fun _ h => h.elim)).upd (.inl (.inl rfl))).upd (.inl (.inl rfl))).upd (.inl (.inl rfl)))
      have hB4 := ((hp1.blkB.upd_ne (o := .cells (c.setIfInBounds 257 (.int .i64 ((f + 1) % 256 : Nat))) T_pool_Pool (0, 0)) hne.symm).upd_ne (o := .cells ((c.setIfInBounds 257 (.int .i64 ((f + 1) % 256 : Nat))).setIfInBounds 258 (.int .i64 (fr.length : Nat))) T_pool_Pool (0, 0)) hne.symm).upd_ne (o := .cells c' T_pool_Pool (0, 0)) hne.symm
      have hm4 := ((hm1.upd_ne (o := .cells (c.setIfInBounds 257 (.int .i64 ((f + 1) % 256 : Nat))) T_pool_Pool (0, 0)) hpb).upd_ne (o := .cells ((c.setIfInBounds 257 (.int .i64 ((f + 1) % 256 : Nat))).setIfInBounds 258 (.int .i64 (fr.length : Nat))) T_pool_Pool (0, 0)) hpb).upd_ne (o := .cells c' T_pool_Pool (0, 0)) hpb
      have hP4 : Blk (((H1.upd b (.cells (c.setIfInBounds 257 (.int .i64 ((f + 1) % 256 : Nat))) T_pool_Pool (0, 0))).upd b (.cells ((c.setIfInBounds 257 (.int .i64 ((f + 1) % 256 : Nat))).setIfInBounds 258 (.int .i64 (fr.length : Nat))) T_pool_Pool (0, 0))).upd b (.cells c' T_pool_Pool (0, 0))) b T_pool_Pool c' := Blk.upd_eq
      generalize (((H1.upd b (.cells (c.setIfInBounds 257 (.int .i64 ((f + 1) % 256 : Nat))) T_pool_Pool (0, 0))).upd b (.cells ((c.setIfInBounds 257 (.int .i64 ((f + 1) % 256 : Nat))).setIfInBounds 258 (.int .i64 (fr.length : Nat))) T_pool_Pool (0, 0))).upd b (.cells c' T_pool_Pool (0, 0))) = H4 at *
      have hL4 : H4.cell ⟨b, 0, none⟩ = some (.slice (some ⟨bl, 0, none⟩) M.bufs.length M.bufs.length) := by rw [hP4.cell, get, if_neg (by omega), if_neg (by omega), if_neg (by omega)]; exact hp1.l
      refine ⟨_, _, _, hL4, _, by rw [hP4.cell, get, if_neg (by omega), if_neg (by omega), if_pos rfl], ?_⟩
      refine NilP.intro _ rfl (InB.intro k.toNat hkk hkl ?_)
      have hsz4 : 0 + k.toNat * 1516 < d.size := by rw [hp1.sizeB]; omega
      rw [elemAt_none]
      refine StCell.blk hB4 hsz4 rfl ?_
      have hP5 := hP4.upd_ne (o := .cells (d.setIfInBounds (0 + k.toNat * 1516) (.int .i64 (M.count + 1))) T_pool_buffer (0, 0)) hne
      have hB5 : Blk (H4.upd bl (.cells (d.setIfInBounds (0 + k.toNat * 1516) (.int .i64 (M.count + 1))) T_pool_buffer (0, 0))) bl T_pool_buffer (d.setIfInBounds (0 + k.toNat * 1516) (.int .i64 (M.count + 1))) := Blk.upd_eq
      have hm5 := hm4.upd_ne (o := .cells (d.setIfInBounds (0 + k.toNat * 1516) (.int .i64 (M.count + 1))) T_pool_buffer (0, 0)) hpbl
      have k5 : Keep (two b bl) H (H4.upd bl (.cells (d.setIfInBounds (0 + k.toNat * 1516) (.int .i64 (M.count + 1))) T_pool_buffer (0, 0))) := k4.upd (.inl (.inr rfl))
      have hr5 : IsBytes (H4.upd bl (.cells (d.setIfInBounds (0 + k.toNat * 1516) (.int .i64 (M.count + 1))) T_pool_buffer (0, 0))) a m bs :=
        Reads.keep hr k5 (fun x hx h => h.elim (ha x hx).2 (ha x hx).1)
      generalize (H4.upd bl (.cells (d.setIfInBounds (0 + k.toNat * 1516) (.int .i64 (M.count + 1))) T_pool_buffer (0, 0))) = H5 at *
      refine ⟨_, _, _, by rw [hP5.cell, get, if_neg (by omega), if_neg (by omega), if_neg (by omega)]; exact hp1.l, ?_⟩
      refine NilP.intro _ rfl (InB.intro k.toNat hkk hkl ?_)
      rw [elemAt_none]
      have hsz5 : 0 + k.toNat * 1516 + 1516 ≤ (d.setIfInBounds (0 + k.toNat * 1516) (.int .i64 (M.count + 1))).size := by simp only [Array.size_setIfInBounds]; rw [hp1.sizeB]; omega
      refine (pool_buffer_fill_spec hB5 hsz5 hr5 (by omega)).mono ?_
      rintro v H6 ⟨rfl, hB6, ho6⟩
      have k56 : Keep (fun x => x = bl) H5 H6 := ⟨fun x hx _ => ho6 x hx, fun x hx => by
        by_cases e : x = bl
        · subst e; exact hB6.some
        · rw [ho6 x e]; exact hx⟩
      have k6 : Keep (two b bl) H H6 := k5.trans (k56.mono (fun _ h => .inr h))
      have hP6 := hP5.same (ho6 b hne)
      have hm6 := hm5.same (ho6 p hpbl)
      refine ⟨rfl, _, by rw [hP6.cell, get, if_neg (by omega), if_neg (by omega), if_pos rfl], ?_⟩
      refine out H6 k (M.count + 1) 0 _ c' _ ((f + 1) % 256) hM k6 ⟨hinv, hP6, hsz', ?_, ?_, ?_, ?_, Nat.mod_lt _ (by omega), ?_, hB6, by simp [putRow_size, hp1.sizeB], ?_⟩ hm6
      · rw [get, if_neg (by omega), if_neg (by omega), if_neg (by omega)]; simpa using hp1.l
      · rw [get, if_pos rfl]
      · rw [get, if_neg (by omega), if_pos rfl]
      · rw [get, if_neg (by omega), if_neg (by omega), if_pos rfl]
      · intro i x hx
        have hmi : ((f + 1) % 256 + i) % 256 < 256 := Nat.mod_lt _ (by omega)
        rw [get, if_neg (by omega), if_neg (by omega), if_neg (by omega)]
        have := hp1.ring (i + 1) x (by rw [hf]; simpa using hx)
        have he : ((f + 1) % 256 + i) % 256 = (f + (i + 1)) % 256 := by omega
        rw [he]; exact this
      · have hu := u8s_length bs
        have hds : d.size = M.bufs.length * 1516 := hp1.sizeB
        have get2 : ∀ j, ((putRow (d.setIfInBounds (0 + k.toNat * 1516) (.int .i64 (M.count + 1))) (0 + k.toNat * 1516 + 2) (u8s bs)).setIfInBounds (0 + k.toNat * 1516 + 1) (.int .i64 m))[j]? =
            if j = k.toNat * 1516 + 1 then some (.int .i64 m) else if k.toNat * 1516 + 2 ≤ j ∧ j < k.toNat * 1516 + 2 + bs.length then (u8s bs)[j - (k.toNat * 1516 + 2)]? else if j = k.toNat * 1516 then some (.int .i64 (M.count + 1)) else d[j]? := by
          intro j
          rw [Array.getElem?_setIfInBounds, putRow_size]
          simp only [Array.size_setIfInBounds, Nat.zero_add]
          by_cases e : j = k.toNat * 1516 + 1
          · rw [if_pos (by omega), if_pos e, if_pos (by omega)]
          · rw [if_neg (by omega), if_neg e, putRow_get _ _ _ _ (by rw [hu]; simp only [Array.size_setIfInBounds]; omega), hu]
            split
            · rfl
            · rw [Array.getElem?_setIfInBounds]
              by_cases e2 : j = k.toNat * 1516
              · rw [if_pos (by omega), if_pos e2, if_pos (by omega)]
              · rw [if_neg (by omega), if_neg e2]
        refine hp1.bufs.set (fun j hj => ?_) (fun i t bs h => (hp.inv.tickets i _ h).2.2) ?_ (fun _ => ⟨?_, fun j hj => ?_⟩)
        · rw [get2, if_neg (by omega), if_neg (by omega), if_neg (by omega)]
        · rw [get2, if_neg (by omega), if_neg (by omega), if_pos rfl]
        · rw [get2, if_pos rfl, hlen]
        · rw [get2, if_neg (by omega), if_pos (by omega)]
          congr 1
          omega

end Go.Proofs.Ytligjponbhnedaa
