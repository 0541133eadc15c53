/-
  The verifier's ring: work.
-/
import Derived.Test.YtligjponbhnedaaRef3b
set_option maxRecDepth 100000
namespace Go.Proofs.Ytligjponbhnedaa
open Go.Sh

theorem ref3_work_spec {H0 H : Heap} {b : Nat} {M : RingM} {pa da : Option Addr} {pc dc : Nat} (k0 : Keep Nil H0 H) (h : QAt H0 H b M pa pc da dc) (hc : M.reaped < 2 ^ 60) :
    FnW Try.prog f_ref03_Ring_work ⟨[.pointer (some ⟨b, 0, none⟩)]⟩ H fun v H' => v = .tuple ⟨[.agg ⟨[.int .i64 M.device.1.1, .int .i64 M.device.1.2]⟩, .bool (decide (M.device.2.1 = 0))]⟩ ∧ Keep (fun z => z = b) H H' ∧ ∃ pa' pc' da' dc', QAt H0 H' b M.device.2.2 pa' pc' da' dc' := by
  refine ref03_Ring_work_sh b ?_
  unfold ref03_Ring_work_p
  refine NewW.intro fun m hm => ?_
  have k1 : Keep Nil H (H.upd m (.cells ⟨[.int .i64 0, .int .i64 0]⟩ T_ref02_Handle)) := (Keep.refl _ _).new hm
  have hm1 : Blk (H.upd m (.cells ⟨[.int .i64 0, .int .i64 0]⟩ T_ref02_Handle)) m T_ref02_Handle ⟨[.int .i64 0, .int .i64 0]⟩ := Blk.upd_eq
  have hmb : m ≠ b := (h.blk.ne hm).symm
  have np : ∀ z, pa = some ⟨z, 0, none⟩ → ¬ z = m := fun z hz => by
    obtain ⟨c, hc⟩ := h.posted.live hz
    exact hc.ne hm
  have nd : ∀ z, da = some ⟨z, 0, none⟩ → ¬ z = m := fun z hz => by
    obtain ⟨c, hc⟩ := h.done.live hz
    exact hc.ne hm
  generalize H.upd m (.cells ⟨[.int .i64 0, .int .i64 0]⟩ T_ref02_Handle) = H1 at *
  replace h := h.keepN k1
  replace k0 := k0.trans k1
  have hfit := h.fits
  have hle := h.le
  have up : ∀ {S : Nat → Prop} {G G' : Heap}, Keep Nil G G' → Keep S G G' := fun k => k.mono fun _ h => h.elim
  refine ⟨_, _, _, by rw [h.blk.cell]; rfl, ?_⟩
  by_cases hd : M.posted = []
  · have hM : M.device = ((0, 0), 30, M) := by unfold RingM.device; rw [hd]
    have hz : ((M.posted.length : Int) == 0) = true := by rw [hd]; rfl
    rw [hz, IfB_true]
    refine pair_out hm1 rfl fun H' k _ => ?_
    rw [hM]
    exact ⟨by simp, (up k1).then k fun x hx => .inr (by rw [hx]; exact hm), pa, pc, da, dc, { h with blk := k.blk h.blk (fun e => hmb e.symm), posted := h.posted.keep k np, done := h.done.keep k nd }⟩
  · obtain ⟨w, r, hdw⟩ := List.exists_cons_of_ne_nil hd
    have hM : M.device = (w, 0, { M with posted := r, done := M.done ++ [w] }) := by unfold RingM.device; rw [hdw]
    have hlen : M.posted.length = r.length + 1 := by rw [hdw]; rfl
    have hz : ((M.posted.length : Int) == 0) = false := by rw [hlen]; simp; omega
    have hD := h.posted
    rw [hlen, hdw] at hD
    have hB := h.blk
    rw [hlen] at hB
    rw [hz, IfB_false]
    obtain ⟨u, rfl, c0, c1⟩ := own_head hD
    refine ⟨_, _, _, by rw [hB.cell]; rfl, NilP.intro _ rfl (InB.intro 0 rfl (by omega) ?_)⟩
    rw [elemAt_none]
    refine ⟨_, c0, _, c1, ?_⟩
    refine new_pair fun h4 H6 hh40 k6 _ hh => ?_
    refine NewW.intro fun e he => ?_
    have ke : Keep Nil H6 (H6.upd e (.cells ⟨[]⟩ T_ref02_Handle)) := (Keep.refl _ _).new he
    have hE : Blk (H6.upd e (.cells ⟨[]⟩ T_ref02_Handle)) e T_ref02_Handle ⟨[]⟩ := Blk.upd_eq
    generalize H6.upd e (.cells ⟨[]⟩ T_ref02_Handle) = H7 at *
    have hB7 := (k6.trans ke).blk hB (nil_no _)
    have hD7 := (hD.keep k6 fun _ _ h => h).keep ke fun _ _ h => h
    refine ⟨_, _, _, by rw [hB7.cell]; rfl, InC.intro 1 rfl (by omega) ?_⟩
    refine copy_prs he hE ke (rest_reads hD7) (by omega) fun a' c' H8 ho8 _ k68 => ?_
    rw [Nat.add_sub_cancel] at *
    refine ⟨_, _, _, rfl, ?_⟩
    have k18 := k6.trans k68
    have h8 := h.keepN k18
    have hB8 := k18.blk hB (nil_no _)
    have hm8 := k18.blk hm1 (nil_no _)
    have hh8 := k68.blk hh (nil_no _)
    have h4b : h4 ≠ b := fun e => by subst e; exact absurd (Blk.type hh8 hB8) (by decide)
    refine StCell.blk hB8 (by simp) rfl ?_
    obtain ⟨c9, hc9⟩ : ∃ c9 : Array Value, c9 = ⟨[.int .i64 M.N, .slice a' r.length c', .slice da M.done.length dc, .int .i64 ((M.reaped + (M.done.length + (r.length + 1)) : Nat) : Int), .int .i64 ((M.reaped + M.done.length : Nat) : Int), .int .i64 (M.reaped : Nat)]⟩ := ⟨_, rfl⟩
    have hb9 : Blk (H8.upd b (.cells ((⟨[.int .i64 M.N, .slice (some ⟨u, 0, none⟩) (r.length + 1) pc, .slice da M.done.length dc, .int .i64 ((M.reaped + (M.done.length + (r.length + 1)) : Nat) : Int), .int .i64 ((M.reaped + M.done.length : Nat) : Int), .int .i64 (M.reaped : Nat)]⟩ : Array Value).setIfInBounds 1 (.slice a' r.length c')) T_ref03_Ring (0, 0))) b T_ref03_Ring c9 := by
      rw [hc9]; exact Blk.upd_eq
    have k89 : Keep (fun z => z = b) H8 (H8.upd b (.cells ((⟨[.int .i64 M.N, .slice (some ⟨u, 0, none⟩) (r.length + 1) pc, .slice da M.done.length dc, .int .i64 ((M.reaped + (M.done.length + (r.length + 1)) : Nat) : Int), .int .i64 ((M.reaped + M.done.length : Nat) : Int), .int .i64 (M.reaped : Nat)]⟩ : Array Value).setIfInBounds 1 (.slice a' r.length c')) T_ref03_Ring (0, 0))) :=
      (Keep.refl (fun z => z = b) H8).upd (.inl rfl)
    generalize (H8.upd b (.cells ((⟨[.int .i64 M.N, .slice (some ⟨u, 0, none⟩) (r.length + 1) pc, .slice da M.done.length dc, .int .i64 ((M.reaped + (M.done.length + (r.length + 1)) : Nat) : Int), .int .i64 ((M.reaped + M.done.length : Nat) : Int), .int .i64 (M.reaped : Nat)]⟩ : Array Value).setIfInBounds 1 (.slice a' r.length c')) T_ref03_Ring (0, 0))) = H9 at *
    have nb : ∀ {G0 : Heap} {a : Option Addr} {n c : Nat} {xs : List Value}, Own G0 H8 a n c 2 T_ref02_Handle xs → ∀ z, a = some ⟨z, 0, none⟩ → ¬ z = b := fun ho z hz e => by
      obtain ⟨c, hc⟩ := ho.live hz
      subst e
      exact absurd (Blk.type hc hB8) (by decide)
    have hh9 := k89.blk hh8 h4b
    have hm9 := k89.blk hm8 hmb
    have hd9 := h8.done.keep k89 (nb h8.done)
    have ho9 : Own H6 H9 a' r.length c' 2 T_ref02_Handle (prs r) := ho8.keep k89 (nb ho8)
    have k09 : Keep Nil H0 H9 := (k0.trans k18).then k89 fun z hz => .inr (by rw [hz]; exact h.newP)
    have cell9 : ∀ {o : Nat} {v : Value}, c9[o]? = some v → H9.cell ⟨b, o, none⟩ = some v := fun hv => by rw [hb9.cell]; exact hv
    refine ⟨[h4], live_of (by simp only [List.mem_cons, List.not_mem_nil, or_false]; rintro z rfl; exact hh9.some), da, M.done.length, dc, cell9 (by rw [hc9]; rfl), by simp, w.1, by rw [hh9.cell]; rfl, w.2, by rw [hh9.cell]; rfl, ?_⟩
    refine NewW.intro fun e2 he2 => ?_
    have ke2 : Keep Nil H9 (H9.upd e2 (.cells ⟨[]⟩ T_ref02_Handle)) := (Keep.refl _ _).new he2
    have hE2 : Blk (H9.upd e2 (.cells ⟨[]⟩ T_ref02_Handle)) e2 T_ref02_Handle ⟨[]⟩ := Blk.upd_eq
    generalize H9.upd e2 (.cells ⟨[]⟩ T_ref02_Handle) = H10 at *
    refine NewW.intro fun q hq => ?_
    have kq : Keep Nil H10 (H10.upd q (.cells ⟨[.int .i64 w.1, .int .i64 w.2]⟩ T_ref02_Handle)) := (Keep.refl _ _).new hq
    have hQ : Blk (H10.upd q (.cells ⟨[.int .i64 w.1, .int .i64 w.2]⟩ T_ref02_Handle)) q T_ref02_Handle ⟨[.int .i64 w.1, .int .i64 w.2]⟩ := Blk.upd_eq
    have hqe : q ≠ e2 := (hE2.ne hq).symm
    generalize H10.upd q (.cells ⟨[.int .i64 w.1, .int .i64 w.2]⟩ T_ref02_Handle) = H11 at *
    have k911 := ke2.trans kq
    refine copy_prs he2 (kq.blk hE2 (nil_no _)) k911 (hd9.keep k911 fun _ _ h => h).reads (by omega) fun a1 cc1 H12 ho12 k12 k912 => ?_
    have hQ12 := k12.blk hQ hqe
    refine ⟨_, _, _, rfl, keptIn_of k912 (by simp only [List.mem_cons, List.not_mem_nil, or_false]; rintro z rfl; exact ⟨nil_no _, hh9.some⟩), ?_⟩
    refine push_pair hQ12 k912 ho12 (by omega) fun a2 cc2 H13 ho13 _ k913 => ?_
    have hb13 := k913.blk hb9 (nil_no _)
    have hh13 := k913.blk hh9 (nil_no _)
    have hm13 := k913.blk hm9 (nil_no _)
    refine ⟨_, _, _, rfl, keptIn_of k913 (by simp only [List.mem_cons, List.not_mem_nil, or_false]; rintro z rfl; exact ⟨nil_no _, hh9.some⟩), ?_⟩
    subst hc9
    refine StCell.blk hb13 (by simp) rfl ⟨fun z hz => ?_, ((M.reaped + M.done.length : Nat) : Int), by rw [Blk.upd_eq.cell]; rfl, ?_⟩
    · simp only [List.mem_cons, List.not_mem_nil, or_false] at hz
      subst hz
      exact ⟨⟨_, hh9⟩, (hh13.upd_ne h4b).trans hh9.symm⟩
    have e1 : IntKind.wrap .i64 (((M.reaped + M.done.length : Nat) : Int) + 1) = ((M.reaped + (M.done.length + 1) : Nat) : Int) := by
      rw [wrap_id (by omega) (by omega)]; omega
    rw [e1]
    refine StCell.blk Blk.upd_eq (by simp) rfl ?_
    obtain ⟨o1, ho1⟩ : ∃ o, o = Obj.cells ((⟨[.int .i64 M.N, .slice a' r.length c', .slice da M.done.length dc, .int .i64 ((M.reaped + (M.done.length + (r.length + 1)) : Nat) : Int), .int .i64 ((M.reaped + M.done.length : Nat) : Int), .int .i64 (M.reaped : Nat)]⟩ : Array Value).setIfInBounds 2 (.slice a2 (M.done.length + 1) cc2)) T_ref03_Ring (0, 0) := ⟨_, rfl⟩
    rw [← ho1]
    have hb15 : Blk ((H13.upd b o1).upd b (.cells (((⟨[.int .i64 M.N, .slice a' r.length c', .slice da M.done.length dc, .int .i64 ((M.reaped + (M.done.length + (r.length + 1)) : Nat) : Int), .int .i64 ((M.reaped + M.done.length : Nat) : Int), .int .i64 (M.reaped : Nat)]⟩ : Array Value).setIfInBounds 2 (.slice a2 (M.done.length + 1) cc2)).setIfInBounds 4 (.int .i64 ((M.reaped + (M.done.length + 1) : Nat) : Int))) T_ref03_Ring (0, 0))) b T_ref03_Ring
      ⟨[.int .i64 M.N, .slice a' r.length c', .slice a2 (M.done.length + 1) cc2, .int .i64 ((M.reaped + (M.done.length + (r.length + 1)) : Nat) : Int), .int .i64 ((M.reaped + (M.done.length + 1) : Nat) : Int), .int .i64 (M.reaped : Nat)]⟩ := Blk.upd_eq
    have k1315 : Keep (fun z => z = b) H13 ((H13.upd b o1).upd b (.cells (((⟨[.int .i64 M.N, .slice a' r.length c', .slice da M.done.length dc, .int .i64 ((M.reaped + (M.done.length + (r.length + 1)) : Nat) : Int), .int .i64 ((M.reaped + M.done.length : Nat) : Int), .int .i64 (M.reaped : Nat)]⟩ : Array Value).setIfInBounds 2 (.slice a2 (M.done.length + 1) cc2)).setIfInBounds 4 (.int .i64 ((M.reaped + (M.done.length + 1) : Nat) : Int))) T_ref03_Ring (0, 0))) :=
      ((Keep.refl (fun z => z = b) H13).upd (.inl rfl)).upd (.inl rfl)
    generalize ((H13.upd b o1).upd b (.cells (((⟨[.int .i64 M.N, .slice a' r.length c', .slice da M.done.length dc, .int .i64 ((M.reaped + (M.done.length + (r.length + 1)) : Nat) : Int), .int .i64 ((M.reaped + M.done.length : Nat) : Int), .int .i64 (M.reaped : Nat)]⟩ : Array Value).setIfInBounds 2 (.slice a2 (M.done.length + 1) cc2)).setIfInBounds 4 (.int .i64 ((M.reaped + (M.done.length + 1) : Nat) : Int))) T_ref03_Ring (0, 0))) = H15 at *
    have nb13 : ∀ {G0 : Heap} {a : Option Addr} {n c : Nat} {xs : List Value}, Own G0 H13 a n c 2 T_ref02_Handle xs → ∀ z, a = some ⟨z, 0, none⟩ → ¬ z = b := fun ho z hz e => by
      obtain ⟨c, hc⟩ := ho.live hz
      subst e
      exact absurd (Blk.type hc hb13) (by decide)
    have hh15 := k1315.blk hh13 h4b
    have hm15 := k1315.blk hm13 hmb
    have hp13 : Own H6 H13 a' r.length c' 2 T_ref02_Handle (prs r) := ho9.keep k913 fun _ _ h => h
    have hm6 := k6.blk hm1 (nil_no _)
    refine ⟨w.1, by rw [hh15.cell]; rfl, w.2, by rw [hh15.cell]; rfl, ?_⟩
    refine pair_out hm15 rfl fun H' k _ => ?_
    rw [hM]
    refine ⟨by simp, ((((up (S := fun z => z = b) (k1.trans k18)).trans k89).trans (up k913)).trans k1315).then k fun x hx => .inr (by rw [hx]; exact hm), a', c', a2, cc2, ?_⟩
    have el : (M.done ++ [w]).length = M.done.length + 1 := by simp
    exact
      { newP := h.newP
        blk := by
          have := k.blk hb15 (fun e => hmb e.symm)
          simp only [el]
          rw [show M.reaped + (M.done.length + 1 + r.length) = M.reaped + (M.done.length + (r.length + 1)) by omega]
          exact this
        posted := ((hp13.mono (k0.trans k6)).keep k1315 (nb13 hp13)).keep k fun z hz e => by
          have := hp13.free hz
          rw [e] at this
          exact hm6.some this
        done := by
          simp only [el]
          exact ((ho13.mono k09).keep k1315 (nb13 ho13)).keep k fun z hz e => by
            have := ho13.free hz
            rw [e] at this
            exact hm9.some this
        pos := h.pos
        le := hle
        fits := by simp only [el]; omega }

end Go.Proofs.Ytligjponbhnedaa
