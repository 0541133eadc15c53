/-
  The verifier's pool: Write, Give, Lend, Lent, Make.
-/
import Derived.Test.YtligjponbhnedaaRef2a
set_option maxRecDepth 100000
namespace Go.Proofs.Ytligjponbhnedaa
open Go.Sh

theorem keptIn_of {S : Nat → Prop} {H H' : Heap} {bs : List Nat} (k : Keep S H H') (h : ∀ b ∈ bs, ¬ S b ∧ H b ≠ none) : KeptIn bs H H' := fun b hb => by
  obtain ⟨h1, h2⟩ := h b hb
  refine ⟨?_, k.same b h1 h2⟩
  cases e : H b with
  | none => exact absurd e h2
  | some o => exact ⟨o, rfl⟩
theorem live_of {H : Heap} {bs : List Nat} (h : ∀ b ∈ bs, H b ≠ none) : ∀ b ∈ bs, ∃ o, H b = some o := fun b hb => by
  have := h b hb
  cases e : H b with
  | none => exact absurd e this
  | some o => exact ⟨o, rfl⟩

/-- A slice of plain values may lie in a cell. -/
theorem plain_slice (a : Option Addr) (n c : Nat) : plainC (.slice a n c) = true := rfl

theorem ref_Write_spec {H0 H : Heap} {b bl : Nat} {M : PoolM} {fa : Option Addr} {fc : Nat} {d : Array Value} (hp : RAt H0 H b bl M fa fc d) (n t : Int) {a : Option Addr} {m cap : Nat} {bs : List UInt8} (hr : IsBytes H a m bs) :
    FnW Try.prog f_ref02_Pool_Write ⟨[.pointer (some ⟨b, 0, none⟩), .agg ⟨[.int .i64 n, .int .i64 t]⟩, .slice a m cap]⟩ H fun v H' => Keep (rset b bl fa) H H' ∧ v = .int .i64 (M.write n t bs).1 ∧ ∃ d', RAt H0 H' b bl (M.write n t bs).2 fa fc d' := by
  refine ref02_Pool_Write_sh b n t a m cap ?_
  unfold ref02_Pool_Write_p
  have hinv := PoolM.inv_write hp.inv n t bs
  refine pair_in fun h H1 _ k1 hB => (ref_find_spec (hp.keepN k1) n t).mono ?_
  rintro v H2 ⟨k2, rfl⟩
  have k12 := k1.trans k2
  have hB2 := k2.blk hB (nil_no h)
  have hp2 := hp.keepN k12
  have hr2 := Reads.keep hr k12 fun _ _ h => h
  have up : ∀ {S H'}, Keep Nil H H' → Keep S H H' := fun k => k.mono fun _ h => h.elim
  refine ⟨_, rfl, ?_⟩
  have hlen := hr.len
  unfold PoolM.write at hinv ⊢
  rw [findE_intne]
  by_cases h0 : M.findE n t = 0
  · rw [if_pos h0] at hinv ⊢
    rw [h0, decide_eq_false (by simp), IfB_false]
    obtain ⟨a1, a2, a3, a4⟩ := PoolM.findE_zero h0
    by_cases h1 : bs.length > 1514
    · rw [if_pos h1, decide_eq_true (by omega), IfB_true]
      exact ⟨up k12, rfl, d, hp2⟩
    · rw [if_neg h1] at hinv ⊢
      rw [decide_eq_false (by omega), IfB_false]
      refine ⟨[b, h], live_of (by simp only [List.mem_cons, List.not_mem_nil, or_false]; rintro x (rfl | rfl); exact hp2.blkP.some; exact hB2.some), by simp, _, _, _, by rw [hp2.blkP.cell]; rfl, by simp, n, by rw [hB2.cell]; rfl, ?_⟩
      refine copy_bytes hr2 (by omega) fun x a' cap' H4 ho k => ?_
      refine ⟨_, _, _, rfl, keptIn_of k (by simp only [List.mem_cons, List.not_mem_nil, or_false]; rintro x (rfl | rfl); exact ⟨nil_no _, hp2.blkP.some⟩; exact ⟨nil_no _, hB2.some⟩), NilP.intro _ rfl (InB.intro n.toNat (by omega) a2 ?_)⟩
      rw [elemAt_none]
      have hp4 := hp2.keepN k
      have hsz := hp4.sizeB
      refine StCell.blk hp4.blkB (by first | omega | (simp only; omega)) rfl ?_
      have k4 : Keep Nil H H4 := k12.trans k
      have k5 : Keep (fun x => x = bl) H4 (H4.upd bl (.cells (d.setIfInBounds (0 + n.toNat * 2 + 1) (.slice a' m cap')) T_ref02_Buf (0, 0))) := (Keep.refl _ _).upd (.inl rfl)
      have hbl : Blk (H4.upd bl (.cells (d.setIfInBounds (0 + n.toNat * 2 + 1) (.slice a' m cap')) T_ref02_Buf (0, 0))) bl T_ref02_Buf (d.setIfInBounds (0 + n.toNat * 2 + 1) (.slice a' m cap')) := Blk.upd_eq
      generalize (H4.upd bl (.cells (d.setIfInBounds (0 + n.toNat * 2 + 1) (.slice a' m cap')) T_ref02_Buf (0, 0))) = H5 at *
      have nb : ∀ x T c, T ≠ T_ref02_Buf → Blk H4 x T c → ¬ x = bl := fun x T c hT hx e => by
        subst e
        exact hT (Blk.type hx hp4.blkB)
      refine ⟨fun x hx => ?_, ?_, rfl, d.setIfInBounds (0 + n.toNat * 2 + 1) (.slice a' m cap'), ?_⟩
      · have h3 := keptIn_of (bs := [b, h]) ((k.mono (S' := fun x => x = bl) fun _ h => h.elim).trans k5) (by
          simp only [List.mem_cons, List.not_mem_nil, or_false]
          rintro x (rfl | rfl)
          · exact ⟨nb _ _ _ (by decide) hp4.blkP, hp2.blkP.some⟩
          · exact ⟨nb _ _ _ (by decide) (k.blk hB2 (nil_no _)), hB2.some⟩)
        exact h3 x hx
      · exact (k4.mono fun _ h => h.elim).then k5 fun x hx => .inl (.inr (.inl hx))
      · have hget := PoolM.tk_get a2
        have hb4 := hp4.bufs.keep k5 (fun x c hx => nb x _ c (by decide) hx)
        exact
          { inv := hinv
            newP := hp.newP
            newL := hp.newL
            blkP := by
              have := k5.blk hp4.blkP (nb _ _ _ (by decide) hp4.blkP)
              simpa using this
            free := hp4.free.keep k5 fun x hx => by
              obtain ⟨c, hc⟩ := hp4.free.live hx
              exact nb _ _ c (by decide) hc
            blkB := hbl
            sizeB := by simpa using hsz
            bufs := by
              refine hb4.set (k := n.toNat) (t := t) (a := a') (n := m) (cap := cap') ?_ ?_ ?_ ?_
              · rw [Array.getElem?_setIfInBounds_ne (by omega)]
                have := (hp4.bufs _ _ _ hget).1
                rw [a4] at this
                exact this
              · rw [Nat.zero_add, Array.getElem?_setIfInBounds_self_of_lt (by omega)]
              · refine (ho.mono (Keep.none (S := Nil))).keep k5 fun x hx => ?_
                obtain ⟨c, hc⟩ := ho.live hx
                exact nb _ _ c (by decide) hc
              · intro j _ h2
                rw [Array.getElem?_setIfInBounds_ne (by omega)] }
  · rw [if_neg h0] at hinv ⊢
    rw [decide_eq_true (by simpa using h0), IfB_true]
    exact ⟨up k12, rfl, d, hp2⟩

theorem ref_Give_spec {H0 H : Heap} {b bl : Nat} {M : PoolM} {fa : Option Addr} {fc : Nat} {d : Array Value} (k0 : Keep Nil H0 H) (hp : RAt H0 H b bl M fa fc d) (n t : Int) :
    FnW Try.prog f_ref02_Pool_Give ⟨[.pointer (some ⟨b, 0, none⟩), .agg ⟨[.int .i64 n, .int .i64 t]⟩]⟩ H fun v H' => Keep (rset b bl fa) H H' ∧ v = .int .i64 (M.give n t).1 ∧ ∃ fa' fc' d', RAt H0 H' b bl (M.give n t).2 fa' fc' d' := by
  refine ref02_Pool_Give_sh b n t ?_
  unfold ref02_Pool_Give_p
  have hinv := PoolM.inv_give hp.inv n t
  refine pair_in fun h H1 _ k1 hB => (ref_find_spec (hp.keepN k1) n t).mono ?_
  rintro v H2 ⟨k2, rfl⟩
  have k12 := k1.trans k2
  have hB2 := k2.blk hB (nil_no h)
  have hp2 := hp.keepN k12
  refine ⟨_, rfl, ?_⟩
  unfold PoolM.give at hinv ⊢
  rw [findE_intne]
  by_cases h0 : M.findE n t = 0
  · rw [if_pos h0] at hinv ⊢
    rw [h0, decide_eq_false (by simp), IfB_false]
    obtain ⟨a1, a2, a3, a4⟩ := PoolM.findE_zero h0
    refine ⟨_, _, _, by rw [hp2.blkP.cell]; rfl, n, by rw [hB2.cell]; rfl, NilP.intro _ rfl (InB.intro n.toNat (by omega) a2 ?_)⟩
    rw [elemAt_none]
    have hsz := hp2.sizeB
    refine StCell.blk hp2.blkB (by first | omega | (simp only; omega)) rfl ?_
    refine StCell.blk Blk.upd_eq (by simp; omega) rfl ?_
    have nb : ∀ x T c, T ≠ T_ref02_Buf → Blk H2 x T c → ¬ x = bl := fun x T c hT hx e => by
      subst e
      exact hT (Blk.type hx hp2.blkB)
    have e1 : ∀ x, x ≠ bl → ((H2.upd bl (.cells (d.setIfInBounds (0 + n.toNat * 2) (.int .i64 0)) T_ref02_Buf (0, 0))).upd bl (.cells ((d.setIfInBounds (0 + n.toNat * 2) (.int .i64 0)).setIfInBounds (0 + n.toNat * 2 + 1) (.slice none 0 0)) T_ref02_Buf (0, 0))) x = H2 x := fun x hx => by rw [upd_ne hx, upd_ne hx]
    have k4 : Keep (fun x => x = bl) H2 ((H2.upd bl (.cells (d.setIfInBounds (0 + n.toNat * 2) (.int .i64 0)) T_ref02_Buf (0, 0))).upd bl (.cells ((d.setIfInBounds (0 + n.toNat * 2) (.int .i64 0)).setIfInBounds (0 + n.toNat * 2 + 1) (.slice none 0 0)) T_ref02_Buf (0, 0))) := ((Keep.refl (fun x => x = bl) H2).upd (.inl rfl)).upd (.inl rfl)
    have hbl : Blk ((H2.upd bl (.cells (d.setIfInBounds (0 + n.toNat * 2) (.int .i64 0)) T_ref02_Buf (0, 0))).upd bl (.cells ((d.setIfInBounds (0 + n.toNat * 2) (.int .i64 0)).setIfInBounds (0 + n.toNat * 2 + 1) (.slice none 0 0)) T_ref02_Buf (0, 0))) bl T_ref02_Buf ((d.setIfInBounds (0 + n.toNat * 2) (.int .i64 0)).setIfInBounds (0 + n.toNat * 2 + 1) (.slice none 0 0)) := Blk.upd_eq
    clear e1
    generalize ((H2.upd bl (.cells (d.setIfInBounds (0 + n.toNat * 2) (.int .i64 0)) T_ref02_Buf (0, 0))).upd bl (.cells ((d.setIfInBounds (0 + n.toNat * 2) (.int .i64 0)).setIfInBounds (0 + n.toNat * 2 + 1) (.slice none 0 0)) T_ref02_Buf (0, 0))) = H4 at *
    have hP4 := k4.blk hp2.blkP (nb _ _ _ (by decide) hp2.blkP)
    have hB4 := k4.blk hB2 (nb _ _ _ (by decide) hB2)
    have hF4 := hp2.free.keep k4 fun x hx => by
      obtain ⟨c, hc⟩ := hp2.free.live hx
      exact nb _ _ c (by decide) hc
    have hb4 := hp2.bufs.keep k4 (fun x c hx => nb x _ c (by decide) hx)
    have k04 : Keep Nil H0 H4 := (k0.trans k12).then k4 fun x hx => .inr (by rw [hx]; exact hp.newL)
    refine ⟨_, _, _, by rw [hP4.cell]; rfl, n, by rw [hB4.cell]; rfl, ?_⟩
    have hle := hp2.inv.free_le
    have hle2 := hp2.inv.le
    refine own_push und_sl_int row_int (by omega) (by omega) hF4 k04 rfl (by simp [plainC]) (by omega) fun x a' cap' H6 ho k6 k06 => ?_
    refine ⟨_, _, _, rfl, ?_⟩
    have nf : ∀ y T c, T ≠ T_int → Blk H4 y T c → ¬ fa = some ⟨y, 0, none⟩ := fun y T c hT hy e => by
      obtain ⟨c', hc⟩ := hF4.live e
      exact hT (Blk.type hy hc)
    have hP6 := k6.blk hP4 (nf _ _ _ (by decide) hP4)
    have hL6 := k6.blk hbl (nf _ _ _ (by decide) hbl)
    have hb6 := hb4.keep k6 (fun x c hx => nf x _ c (by decide) hx)
    refine StCell.blk hP6 (by simp) rfl ?_
    have k7 : Keep (fun x => x = b) H6 (H6.upd b (.cells ((⟨[.slice (some ⟨bl, 0, none⟩) M.bufs.length M.bufs.length, .slice fa M.free.length fc, .int .i64 M.count]⟩ : Array Value).setIfInBounds 1 (.slice a' (M.free.length + 1) cap')) T_ref02_Pool (0, 0))) := (Keep.refl _ _).upd (.inl rfl)
    have hP7 : Blk (H6.upd b (.cells ((⟨[.slice (some ⟨bl, 0, none⟩) M.bufs.length M.bufs.length, .slice fa M.free.length fc, .int .i64 M.count]⟩ : Array Value).setIfInBounds 1 (.slice a' (M.free.length + 1) cap')) T_ref02_Pool (0, 0))) b T_ref02_Pool ⟨[.slice (some ⟨bl, 0, none⟩) M.bufs.length M.bufs.length, .slice a' (M.free.length + 1) cap', .int .i64 M.count]⟩ := Blk.upd_eq
    generalize (H6.upd b (.cells ((⟨[.slice (some ⟨bl, 0, none⟩) M.bufs.length M.bufs.length, .slice fa M.free.length fc, .int .i64 M.count]⟩ : Array Value).setIfInBounds 1 (.slice a' (M.free.length + 1) cap')) T_ref02_Pool (0, 0))) = H7 at *
    have np : ∀ y T c, T ≠ T_ref02_Pool → Blk H6 y T c → ¬ y = b := fun y T c hT hy e => by
      subst e
      exact hT (Blk.type hy hP6)
    refine ⟨?_, rfl, a', cap', (d.setIfInBounds (0 + n.toNat * 2) (.int .i64 0)).setIfInBounds (0 + n.toNat * 2 + 1) (.slice none 0 0), ?_⟩
    · exact ((((k12.mono (S' := rset b bl fa) fun _ h => h.elim).then k4 fun x hx => .inl (.inr (.inl hx))).then k6 fun x hx => .inl (.inr (.inr hx))).then k7 fun x hx => .inl (.inl hx))
    · exact
        { inv := hinv
          newP := hp.newP
          newL := hp.newL
          blkP := by simpa using hP7
          free := by
            have h1 := ho.keep k7 fun x hx => by
              obtain ⟨c, hc⟩ := ho.live hx
              exact np _ _ c (by decide) hc
            simpa [i64s] using h1
          blkB := k7.blk hL6 (np _ _ _ (by decide) hL6)
          sizeB := by simpa using hsz
          bufs := by
            refine RBufs.set (hb6.keep k7 fun x c hx => np x _ c (by decide) hx) (k := n.toNat) (t := 0) (bs := []) (a := none) (n := 0) (cap := 0) ?_ ?_ ?_ ?_
            · rw [Array.getElem?_setIfInBounds_ne (by omega), Nat.zero_add, Array.getElem?_setIfInBounds_self_of_lt (by omega)]
            · rw [Nat.zero_add, Array.getElem?_setIfInBounds_self_of_lt (by simp; omega)]
            · exact Own.nil
            · intro j h1 h2
              rw [Array.getElem?_setIfInBounds_ne (by omega), Array.getElem?_setIfInBounds_ne (by omega)] }
  · rw [if_neg h0] at hinv ⊢
    rw [decide_eq_true (by simpa using h0), IfB_true]
    exact ⟨k12.mono fun _ h => h.elim, rfl, fa, fc, d, hp2⟩

end Go.Proofs.Ytligjponbhnedaa
