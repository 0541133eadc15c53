/-
  The verifier's pool: Lend, Lent.
-/
import Derived.Test.YtligjponbhnedaaRef2b
set_option maxRecDepth 100000
namespace Go.Proofs.Ytligjponbhnedaa
open Go.Sh

theorem reads_keep0 {S : Nat → Prop} {H H' : Heap} {base : Option Addr} {k : Nat} {xs : List Value} (h : Reads H base k xs) (hk : Keep S H H') (hs : ∀ a, base = some a → 0 < k → ¬ S a.block) : Reads H' base k xs := by
  cases base with
  | none => exact h
  | some a =>
    refine ⟨h.1, fun h0 => ?_⟩
    obtain ⟨hsp, c, T, fr, hb, hc⟩ := h.2 h0
    exact ⟨hsp, c, T, fr, by rw [hk.same _ (hs a rfl h0) (by rw [hb]; simp)]; exact hb, hc⟩

theorem ref_Lend_spec {H0 H : Heap} {b bl : Nat} {M : PoolM} {fa : Option Addr} {fc : Nat} {d : Array Value} (k0 : Keep Nil H0 H) (hp : RAt H0 H b bl M fa fc d) {a : Option Addr} {m cap : Nat} {bs : List UInt8} (hr : IsBytes H a m bs)
    (ha : ∀ x, a = some x → 0 < m → x.block ≠ b) (hcount : M.count < 2 ^ 62) :
    FnW Try.prog f_ref02_Pool_Lend ⟨[.pointer (some ⟨b, 0, none⟩), .slice a m cap]⟩ H fun v H' => Keep (rset b bl fa) H H' ∧
      v = .tuple ⟨[.agg ⟨[.int .i64 (M.lend bs).1.1, .int .i64 (M.lend bs).1.2]⟩, .int .i64 (M.lend bs).2.1]⟩ ∧ ∃ fa' fc' d', RAt H0 H' b bl (M.lend bs).2.2 fa' fc' d' := by
  refine ref02_Pool_Lend_sh b a m cap ?_
  unfold ref02_Pool_Lend_p
  have hinv := PoolM.inv_lend hp.inv bs
  refine NewW.intro fun p hpn => ?_
  have k1 : Keep Nil H (H.upd p (.cells ⟨[.int .i64 0, .int .i64 0]⟩ T_ref02_Handle)) := (Keep.refl _ _).new hpn
  have hp1 := hp.keepN k1
  have hm1 : Blk (H.upd p (.cells ⟨[.int .i64 0, .int .i64 0]⟩ T_ref02_Handle)) p T_ref02_Handle ⟨[.int .i64 0, .int .i64 0]⟩ := Blk.upd_eq
  have hr1 : IsBytes (H.upd p (.cells ⟨[.int .i64 0, .int .i64 0]⟩ T_ref02_Handle)) a m bs := Reads.keep hr k1 (fun _ _ h => h)
  generalize H.upd p (.cells ⟨[.int .i64 0, .int .i64 0]⟩ T_ref02_Handle) = H1 at *
  have hlen := hr.len
  have out : ∀ (H2 : Heap) (x y e : Int) (M' : PoolM) (fa' : Option Addr) (fc' : Nat) (d' : Array Value), (M.lend bs) = ((x, y), e, M') → Keep (rset b bl fa) H H2 → RAt H0 H2 b bl M' fa' fc' d' → Blk H2 p T_ref02_Handle ⟨[.int .i64 0, .int .i64 0]⟩ →
      StCell H2 ⟨p, 0, none⟩ (.int .i64 x) fun H3 => StCell H3 ⟨p, 1, none⟩ (.int .i64 y) fun H4 =>
      ∃ r0 : Int, H4.cell ⟨p, 0, none⟩ = some (.int .i64 r0) ∧ ∃ r1 : Int, H4.cell ⟨p, 1, none⟩ = some (.int .i64 r1) ∧
        (Keep (rset b bl fa) H H4 ∧ Value.tuple ⟨[.agg ⟨[.int .i64 r0, .int .i64 r1]⟩, .int .i64 e]⟩ = .tuple ⟨[.agg ⟨[.int .i64 (M.lend bs).1.1, .int .i64 (M.lend bs).1.2]⟩, .int .i64 (M.lend bs).2.1]⟩ ∧ ∃ fa' fc' d', RAt H0 H4 b bl (M.lend bs).2.2 fa' fc' d') := by
    intro H2 x y e M' fa' fc' d' hM k hP hb2
    refine pair_out hb2 rfl (a := x) (b := y) (K := fun r0 r1 H4 => Keep (rset b bl fa) H H4 ∧ Value.tuple ⟨[.agg ⟨[.int .i64 r0, .int .i64 r1]⟩, .int .i64 e]⟩ = .tuple ⟨[.agg ⟨[.int .i64 (M.lend bs).1.1, .int .i64 (M.lend bs).1.2]⟩, .int .i64 (M.lend bs).2.1]⟩ ∧ ∃ fa' fc' d', RAt H0 H4 b bl (M.lend bs).2.2 fa' fc' d') fun H4 k4 _ => ?_
    rw [hM]
    refine ⟨k.then k4 (fun z hz => .inr (by rw [hz]; exact hpn)), rfl, fa', fc', d', hP.keep k4 fun z T c hT hz e => ?_⟩
    subst e
    have := Blk.type hb2 hz
    subst this
    revert hT; decide
  by_cases hl : bs.length > 1514
  · rw [decide_eq_true (by omega), IfB_true]
    exact out H1 0 0 3 M fa fc d (by unfold PoolM.lend; rw [if_pos hl]) (k1.mono fun _ h => h.elim) hp1 hm1
  rw [decide_eq_false (by omega), IfB_false]
  refine ⟨_, _, _, by rw [hp1.blkP.cell]; rfl, ?_⟩
  cases hf : M.free with
  | nil =>
    rw [show (((([] : List Int).length : Nat) : Int) == 0) = true from rfl, IfB_true]
    exact out H1 0 0 4 M fa fc d (by unfold PoolM.lend; rw [if_neg hl, hf]) (k1.mono fun _ h => h.elim) hp1 hm1
  | cons k fr =>
    have hM : M.lend bs = ((k, M.count + 1), 0, ⟨M.bufs.set k.toNat (M.count + 1, bs), fr, M.count + 1⟩) := by unfold PoolM.lend; rw [if_neg hl, hf]
    have hne : ((((k :: fr).length : Nat) : Int) == 0) = false := by simp; omega
    rw [hne, IfB_false]
    have hfree := hp1.free
    rw [hf] at hfree
    obtain ⟨f1, f2, f3⟩ := hfree
    rcases f3 with ⟨_, f4, _⟩ | ⟨mf, rest, f4, f5, f6, f7⟩
    · simp at f4
    have hki := hp.inv.freeIn k (by rw [hf]; simp)
    have hkl : k.toNat < M.bufs.length := by omega
    have hcp := hp.inv.countPos
    have hle := hp.inv.le
    have hfle := hp.inv.free_le
    rw [hf] at hfle
    subst f4
    refine ⟨_, _, _, by rw [hp1.blkP.cell, hf]; rfl, NilP.intro _ rfl (InB.intro 0 rfl (by simp) ?_)⟩
    rw [elemAt_none]
    refine ⟨k, by rw [f6.cell]; rfl, ?_⟩
    refine NewW.intro fun q hq => ?_
    have k2 : Keep Nil H1 (H1.upd q (.cells ⟨[]⟩ T_int)) := (Keep.refl _ _).new hq
    have hq1 : Blk (H1.upd q (.cells ⟨[]⟩ T_int)) q T_int ⟨[]⟩ := Blk.upd_eq
    have hq0 : H0 q = none := k0.free (k1.free hq)
    generalize H1.upd q (.cells ⟨[]⟩ T_int) = H6 at *
    have hp6 := hp1.keepN k2
    have f66 := k2.blk f6 (nil_no _)
    refine ⟨_, _, _, by rw [hp6.blkP.cell, hf]; rfl, InC.intro 1 rfl (by simp) ?_⟩
    obtain ⟨it, hi, hsz, hby⟩ := row_int.info
    have k06 : Keep Nil H0 H6 := (k0.trans k1).trans k2
    simp only [List.length_cons] at *
    have hrest : Reads H6 (if fc = 1 then some ⟨mf, 0, none⟩ else Option.map (fun a => Addr.add a (1 * 1)) (some ⟨mf, 0, none⟩)) ((fr.length + 1 - 1) * 1) (i64s fr) := by
      rw [Nat.add_sub_cancel, Nat.mul_one fr.length]
      by_cases hfc : fc = 1
      · have : fr = [] := List.eq_nil_of_length_eq_zero (by omega)
        subst this
        rw [if_pos hfc]
        exact ⟨rfl, fun h => absurd h (by simp)⟩
      · rw [if_neg hfc]
        change Reads H6 (some (Addr.add ⟨mf, 0, none⟩ (1 * 1))) fr.length (i64s fr)
        rw [add_of_spot rfl]
        refine Reads.blk f66 (by simp) fun j hj => ?_
        simp only [i64s, List.map_cons, List.cons_append, List.getElem?_toArray]
        rw [show 0 + 1 * 1 + j = j + 1 by omega, List.getElem?_cons_succ, List.getElem?_append_left (by simpa using hj)]
    refine own_append (H0 := H0) (S := Nil) (sz := 1) und_sl_int und_sl_int hi hsz hby (by omega) row_int.zero rfl (Own.start hq0 hq1) k06 hrest (by simp [i64s, plainC]) (by omega) fun a' cap' H7 ho k7 k07 => ?_
    rw [Nat.zero_add, Nat.add_sub_cancel] at *
    simp only [List.nil_append] at ho
    refine ⟨_, _, _, rfl, ?_⟩
    have k67 : Keep Nil H1 H7 := k2.then k7 fun x hx => .inr (by cases hx; exact hq)
    have hp7 := hp1.keepN k67
    have hr7 := Reads.keep hr1 k67 fun _ _ h => h
    have hm7 := k67.blk hm1 (nil_no _)
    refine StCell.blk hp7.blkP (by simp) rfl ?_
    refine ⟨M.count, by rw [Blk.upd_eq.cell]; rfl, ?_⟩
    rw [wrap_id (by omega) (by omega)]
    refine StCell.blk Blk.upd_eq (by simp) rfl ?_
    have k9 : Keep (fun x => x = b) H7 ((H7.upd b (.cells ((⟨[.slice (some ⟨bl, 0, none⟩) M.bufs.length M.bufs.length, .slice (some ⟨mf, 0, none⟩) M.free.length fc, .int .i64 M.count]⟩ : Array Value).setIfInBounds 1 (.slice a' fr.length cap')) T_ref02_Pool (0, 0))).upd b
      (.cells (((⟨[.slice (some ⟨bl, 0, none⟩) M.bufs.length M.bufs.length, .slice (some ⟨mf, 0, none⟩) M.free.length fc, .int .i64 M.count]⟩ : Array Value).setIfInBounds 1 (.slice a' fr.length cap')).setIfInBounds 2 (.int .i64 (M.count + 1))) T_ref02_Pool (0, 0))) := ((Keep.refl (fun x => x = b) H7).upd (.inl rfl)).upd (.inl rfl)
    have hP9 : Blk ((H7.upd b (.cells ((⟨[.slice (some ⟨bl, 0, none⟩) M.bufs.length M.bufs.length, .slice (some ⟨mf, 0, none⟩) M.free.length fc, .int .i64 M.count]⟩ : Array Value).setIfInBounds 1 (.slice a' fr.length cap')) T_ref02_Pool (0, 0))).upd b
      (.cells (((⟨[.slice (some ⟨bl, 0, none⟩) M.bufs.length M.bufs.length, .slice (some ⟨mf, 0, none⟩) M.free.length fc, .int .i64 M.count]⟩ : Array Value).setIfInBounds 1 (.slice a' fr.length cap')).setIfInBounds 2 (.int .i64 (M.count + 1))) T_ref02_Pool (0, 0))) b T_ref02_Pool ⟨[.slice (some ⟨bl, 0, none⟩) M.bufs.length M.bufs.length, .slice a' fr.length cap', .int .i64 (M.count + 1)]⟩ := Blk.upd_eq
    generalize ((H7.upd b (.cells ((⟨[.slice (some ⟨bl, 0, none⟩) M.bufs.length M.bufs.length, .slice (some ⟨mf, 0, none⟩) M.free.length fc, .int .i64 M.count]⟩ : Array Value).setIfInBounds 1 (.slice a' fr.length cap')) T_ref02_Pool (0, 0))).upd b
      (.cells (((⟨[.slice (some ⟨bl, 0, none⟩) M.bufs.length M.bufs.length, .slice (some ⟨mf, 0, none⟩) M.free.length fc, .int .i64 M.count]⟩ : Array Value).setIfInBounds 1 (.slice a' fr.length cap')).setIfInBounds 2 (.int .i64 (M.count + 1))) T_ref02_Pool (0, 0))) = H9 at *
    have np : ∀ y T c, T ≠ T_ref02_Pool → Blk H7 y T c → ¬ y = b := fun y T c hT hy e => by
      subst e
      exact hT (Blk.type hy hp7.blkP)
    have hL9 := k9.blk hp7.blkB (np _ _ _ (by decide) hp7.blkB)
    have hb9 := hp7.bufs.keep k9 (fun x c hx => np x _ c (by decide) hx)
    have ho9 := ho.keep k9 fun x hx => by
      obtain ⟨c, hc⟩ := ho.live hx
      exact np _ _ c (by decide) hc
    have hm9 := k9.blk hm7 (np _ _ _ (by decide) hm7)
    have hr9 := reads_keep0 hr7 k9 fun x hx h0 => ha x hx h0
    refine ⟨[b], live_of (by simp only [List.mem_cons, List.not_mem_nil, or_false]; rintro x rfl; exact hP9.some), by simp, _, _, _, by rw [hP9.cell]; rfl, by simp, _, by rw [hP9.cell]; rfl, ?_⟩
    refine copy_bytes hr9 (by omega) fun x a2 cap2 H11 ho2 k11 => ?_
    refine ⟨_, _, _, rfl, keptIn_of k11 (by simp only [List.mem_cons, List.not_mem_nil, or_false]; rintro x rfl; exact ⟨nil_no _, hP9.some⟩), NilP.intro _ rfl (InB.intro k.toNat (by omega) hkl ?_)⟩
    rw [elemAt_none]
    have hL11 := k11.blk hL9 (nil_no _)
    have hP11 := k11.blk hP9 (nil_no _)
    have hm11 := k11.blk hm9 (nil_no _)
    have hb11 := hb9.keep k11 fun _ _ _ h => h
    have ho11 := ho9.keep k11 fun _ _ h => h
    have hsb := hp.sizeB
    refine StCell.blk hL11 (by first | omega | (simp only; omega)) rfl ?_
    refine StCell.blk Blk.upd_eq (by simp; omega) rfl ?_
    have k13 : Keep (fun x => x = bl) H11 ((H11.upd bl (.cells (d.setIfInBounds (0 + k.toNat * 2) (.int .i64 (M.count + 1))) T_ref02_Buf (0, 0))).upd bl (.cells ((d.setIfInBounds (0 + k.toNat * 2) (.int .i64 (M.count + 1))).setIfInBounds (0 + k.toNat * 2 + 1) (.slice a2 m cap2)) T_ref02_Buf (0, 0))) := ((Keep.refl (fun x => x = bl) H11).upd (.inl rfl)).upd (.inl rfl)
    have hL13 : Blk ((H11.upd bl (.cells (d.setIfInBounds (0 + k.toNat * 2) (.int .i64 (M.count + 1))) T_ref02_Buf (0, 0))).upd bl (.cells ((d.setIfInBounds (0 + k.toNat * 2) (.int .i64 (M.count + 1))).setIfInBounds (0 + k.toNat * 2 + 1) (.slice a2 m cap2)) T_ref02_Buf (0, 0))) bl T_ref02_Buf ((d.setIfInBounds (0 + k.toNat * 2) (.int .i64 (M.count + 1))).setIfInBounds (0 + k.toNat * 2 + 1) (.slice a2 m cap2)) := Blk.upd_eq
    generalize ((H11.upd bl (.cells (d.setIfInBounds (0 + k.toNat * 2) (.int .i64 (M.count + 1))) T_ref02_Buf (0, 0))).upd bl (.cells ((d.setIfInBounds (0 + k.toNat * 2) (.int .i64 (M.count + 1))).setIfInBounds (0 + k.toNat * 2 + 1) (.slice a2 m cap2)) T_ref02_Buf (0, 0))) = H13 at *
    have nb : ∀ x T c, T ≠ T_ref02_Buf → Blk H11 x T c → ¬ x = bl := fun x T c hT hx e => by
      subst e
      exact hT (Blk.type hx hL11)
    have hP13 := k13.blk hP11 (nb _ _ _ (by decide) hP11)
    refine ⟨keptIn_of ((k11.mono (S' := fun x => x = bl) fun _ h => h.elim).trans k13) (by simp only [List.mem_cons, List.not_mem_nil, or_false]; rintro x rfl; exact ⟨nb _ _ _ (by decide) hP11, hP9.some⟩), M.count + 1, by rw [hP13.cell]; rfl, ?_⟩
    rw [hM] at hinv
    refine out H13 k (M.count + 1) 0 ⟨M.bufs.set k.toNat (M.count + 1, bs), fr, M.count + 1⟩ a' cap' ((d.setIfInBounds (0 + k.toNat * 2) (.int .i64 (M.count + 1))).setIfInBounds (0 + k.toNat * 2 + 1) (.slice a2 m cap2)) hM ?_ ?_ (k13.blk hm11 (nb _ _ _ (by decide) hm11))
    · exact ((((k1.trans k67).mono (S' := rset b bl (some ⟨mf, 0, none⟩)) fun _ h => h.elim).then k9 fun x hx => .inl (.inl hx)).trans (k11.mono fun _ h => h.elim)).then k13 fun x hx => .inl (.inr (.inl hx))
    · exact
        { inv := hinv
          newP := hp.newP
          newL := hp.newL
          blkP := by simpa using hP13
          free := ho11.keep k13 fun x hx => by
            obtain ⟨c, hc⟩ := ho11.live hx
            exact nb _ _ c (by decide) hc
          blkB := hL13
          sizeB := by simpa using hsb
          bufs := by
            refine RBufs.set (hb11.keep k13 fun x c hx => nb x _ c (by decide) hx) (k := k.toNat) (t := M.count + 1) (a := a2) (n := m) (cap := cap2) ?_ ?_ ?_ ?_
            · rw [Array.getElem?_setIfInBounds_ne (by omega), Nat.zero_add, Array.getElem?_setIfInBounds_self_of_lt (by omega)]
            · rw [Nat.zero_add, Array.getElem?_setIfInBounds_self_of_lt (by simp; omega)]
            · refine (ho2.mono (Keep.none (S := Nil))).keep k13 fun x hx => ?_
              obtain ⟨c, hc⟩ := ho2.live hx
              exact nb _ _ c (by decide) hc
            · intro j h1 h2
              rw [Array.getElem?_setIfInBounds_ne (by omega), Array.getElem?_setIfInBounds_ne (by omega)] }

theorem ref_Lent_spec {H0 H : Heap} {b bl : Nat} {M : PoolM} {fa : Option Addr} {fc : Nat} {d : Array Value} (hp : RAt H0 H b bl M fa fc d) :
    FnW Try.prog f_ref02_Pool_Lent ⟨[.pointer (some ⟨b, 0, none⟩)]⟩ H fun v H' => Keep Nil H H' ∧ ∃ a cap, v = .slice a M.lent.length cap ∧ Own H H' a M.lent.length cap 2 T_ref02_Handle (prs M.lent) := by
  refine ref02_Pool_Lent_sh b ?_
  unfold ref02_Pool_Lent_p
  have hle := hp.inv.le
  refine NewW.intro fun p hpn => ?_
  have kp : Keep Nil H (H.upd p (.cells ⟨[]⟩ T_ref02_Handle)) := (Keep.refl _ _).new hpn
  have hpb : Blk (H.upd p (.cells ⟨[]⟩ T_ref02_Handle)) p T_ref02_Handle ⟨[]⟩ := Blk.upd_eq
  generalize H.upd p (.cells ⟨[]⟩ T_ref02_Handle) = Hp at *
  refine LoopI.intro (fun k x H1 => ∃ (i : Nat) (a : Option Addr) (cap : Nat), x = ((a, (M.lentTo i).length, cap), ((i : Int), ())) ∧ i ≤ M.bufs.length ∧ k = M.bufs.length - i ∧ Keep Nil H H1 ∧ Own H H1 a (M.lentTo i).length cap 2 T_ref02_Handle (prs (M.lentTo i))) M.bufs.length
    ⟨0, some ⟨p, 0, none⟩, 0, rfl, Nat.zero_le _, by omega, kp, Own.start hpn hpb⟩ ?_
  rintro k x H1 ⟨i, a, cap, rfl, hi, rfl, k1, ho⟩ g
  unfold ref02_Pool_Lent_l3
  have hp1 := hp.keepN k1
  simp only
  refine ⟨_, _, _, by rw [hp1.blkP.cell]; rfl, ?_⟩
  by_cases hlt : i < M.bufs.length
  · rw [decide_eq_true (by omega), IfB_true]
    refine ⟨_, _, _, by rw [hp1.blkP.cell]; rfl, NilP.intro _ rfl (InB.intro i rfl hlt ?_)⟩
    obtain ⟨g1, _⟩ := hp1.bufs _ _ _ (PoolM.tk_get hlt)
    refine ⟨M.tk i, by rw [hp1.blkB.cell, Nat.zero_add]; exact g1, ?_⟩
    have hle2 := M.lentTo_le i
    have hs := M.lentTo_succ i
    by_cases ht : M.tk i > 0
    · rw [decide_eq_true ht, IfB_true]
      rw [if_pos ht] at hs
      refine ⟨_, _, _, by rw [hp1.blkP.cell]; rfl, NilP.intro _ rfl (InB.intro i rfl hlt ?_)⟩
      refine ⟨M.tk i, by rw [hp1.blkB.cell, Nat.zero_add]; exact g1, ?_⟩
      refine own_push und_sl_RHandle row_RHandle (by omega) (by omega) ho k1 rfl (by simp [plainC]) (by omega) fun m a' cap' H' ho' _ k' => ?_
      refine ⟨_, _, _, rfl, ?_⟩
      unfold ref02_Pool_Lent_j0
      refine ⟨M.bufs.length - (i + 1), by omega, i + 1, a', cap', ?_, by omega, rfl, k', ?_⟩
      · rw [hs, wrap_id (by omega) (by omega)]
        simp
      · rw [hs, prs_append]
        simpa [prs] using ho'
    · rw [decide_eq_false ht, IfB_false]
      rw [if_neg ht] at hs
      unfold ref02_Pool_Lent_j0
      refine ⟨M.bufs.length - (i + 1), by omega, i + 1, a, cap, ?_, by omega, rfl, k1, ?_⟩
      · rw [hs, wrap_id (by omega) (by omega)]
        simp
      · rw [hs]; exact ho
  · rw [decide_eq_false (by omega), IfB_false]
    have he : i = M.bufs.length := by omega
    subst he
    exact ⟨k1, a, cap, rfl, ho⟩

end Go.Proofs.Ytligjponbhnedaa
