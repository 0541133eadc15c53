/-
  The verifier's ring: work, Reap.
-/
import Derived.Test.YtligjponbhnedaaRef3a
import Derived.Test.YtligjponbhnedaaLaw2c
set_option maxRecDepth 100000
namespace Go.Proofs.Ytligjponbhnedaa
open Go.Sh

theorem rest_reads {H0 H : Heap} {a : Option Addr} {cap : Nat} {T : TypeId} {w : Int × Int} {r : List (Int × Int)} (h : Own H0 H a (r.length + 1) cap 2 T (prs (w :: r))) :
    Reads H (if cap = 1 then a else Option.map (fun a => Addr.add a (1 * 2)) a) ((r.length + 1 - 1) * 2) (prs r) := by
  have hr := h.reads
  have hp : prs (w :: r) = [.int .i64 w.1, .int .i64 w.2] ++ prs r := by simp [prs]
  have hl := prs_length r
  obtain ⟨_, hc, h3⟩ := h
  rw [Nat.add_sub_cancel]
  rcases h3 with ⟨_, h4, _⟩ | ⟨m, rest, rfl, _, hb, _⟩
  · omega
  · by_cases e : cap = 1
    · rw [if_pos e]
      have : r = [] := List.eq_nil_of_length_eq_zero (by omega)
      subst this
      exact ⟨rfl, fun h => absurd h (by simp)⟩
    · rw [if_neg e]
      change Reads H (some (Addr.add ⟨m, 0, none⟩ (1 * 2))) (r.length * 2) (prs r)
      rw [add_of_spot rfl]
      refine Reads.blk hb hl fun j hj => ?_
      rw [hp]
      simp only [List.getElem?_toArray]
      rw [show 0 + 1 * 2 + j = j + 2 by omega]
      simp only [List.cons_append, List.nil_append, List.getElem?_cons_succ]
      rw [List.getElem?_append_left (by omega)]

theorem own_head {H0 H : Heap} {a : Option Addr} {cap : Nat} {T : TypeId} {w : Int × Int} {r : List (Int × Int)} (h : Own H0 H a (r.length + 1) cap 2 T (prs (w :: r))) :
    ∃ m, a = some ⟨m, 0, none⟩ ∧ H.cell ⟨m, 0 + 0 * 2, none⟩ = some (.int .i64 w.1) ∧ H.cell ⟨m, 0 + 0 * 2 + 1, none⟩ = some (.int .i64 w.2) := by
  obtain ⟨m, h1, h2, h3⟩ := own_prs h (i := 0) rfl (by simp)
  exact ⟨m, h1, h2, h3⟩

theorem ref3_Reap_spec {H0 H : Heap} {b : Nat} {M : RingM} {pa da : Option Addr} {pc dc : Nat} (k0 : Keep Nil H0 H) (h : QAt H0 H b M pa pc da dc) (hc : M.reaped < 2 ^ 60) :
    FnW Try.prog f_ref03_Ring_Reap ⟨[.pointer (some ⟨b, 0, none⟩)]⟩ H fun v H' => v = .tuple ⟨[.agg ⟨[.int .i64 M.reap.1.1, .int .i64 M.reap.1.2]⟩, .int .i64 M.reap.2.1]⟩ ∧ Keep (fun z => z = b) H H' ∧ ∃ pa' pc' da' dc', QAt H0 H' b M.reap.2.2 pa' pc' da' dc' := by
  refine ref03_Ring_Reap_sh b ?_
  unfold ref03_Ring_Reap_p
  refine NewW.intro fun m hm => ?_
  have k1 : Keep Nil H (H.upd m (.cells ⟨[.int .i64 0, .int .i64 0]⟩ T_ref02_Handle)) := (Keep.refl _ _).new hm
  have hm1 : Blk (H.upd m (.cells ⟨[.int .i64 0, .int .i64 0]⟩ T_ref02_Handle)) m T_ref02_Handle ⟨[.int .i64 0, .int .i64 0]⟩ := Blk.upd_eq
  have hmb : m ≠ b := (h.blk.ne hm).symm
  have np : ∀ z, pa = some ⟨z, 0, none⟩ → ¬ z = m := fun z hz => by
    obtain ⟨c, hc⟩ := h.posted.live hz
    exact hc.ne hm
  have nd : ∀ z, da = some ⟨z, 0, none⟩ → ¬ z = m := fun z hz => by
    obtain ⟨c, hc⟩ := h.done.live hz
    exact hc.ne hm
  generalize H.upd m (.cells ⟨[.int .i64 0, .int .i64 0]⟩ T_ref02_Handle) = H1 at *
  replace h := h.keepN k1
  replace k0 := k0.trans k1
  have hfit := h.fits
  have hle := h.le
  have up : ∀ {S : Nat → Prop} {G G' : Heap}, Keep Nil G G' → Keep S G G' := fun k => k.mono fun _ h => h.elim
  refine ⟨_, _, _, by rw [h.blk.cell]; rfl, ?_⟩
  by_cases hd : M.done = []
  · have hM : M.reap = ((0, 0), 30, M) := by unfold RingM.reap; rw [hd]
    have hz : ((M.done.length : Int) == 0) = true := by rw [hd]; rfl
    rw [hz, IfB_true]
    refine pair_out hm1 rfl fun H' k _ => ?_
    rw [hM]
    exact ⟨rfl, (up k1).then k fun x hx => .inr (by rw [hx]; exact hm), pa, pc, da, dc, { h with blk := k.blk h.blk (fun e => hmb e.symm), posted := h.posted.keep k np, done := h.done.keep k nd }⟩
  · obtain ⟨w, r, hdw⟩ := List.exists_cons_of_ne_nil hd
    have hM : M.reap = (w, 0, { M with done := r, reaped := M.reaped + 1 }) := by unfold RingM.reap; rw [hdw]
    have hlen : M.done.length = r.length + 1 := by rw [hdw]; rfl
    have hz : ((M.done.length : Int) == 0) = false := by rw [hlen]; simp; omega
    have hD := h.done
    rw [hlen, hdw] at hD
    have hB := h.blk
    rw [hlen] at hB
    rw [hz, IfB_false]
    obtain ⟨u, rfl, c0, c1⟩ := own_head hD
    refine ⟨_, _, _, by rw [hB.cell]; rfl, NilP.intro _ rfl (InB.intro 0 rfl (by omega) ?_)⟩
    rw [elemAt_none]
    refine ⟨_, c0, _, c1, ?_⟩
    refine new_pair fun h4 H6 hh40 k6 _ hh => ?_
    refine NewW.intro fun e he => ?_
    have ke : Keep Nil H6 (H6.upd e (.cells ⟨[]⟩ T_ref02_Handle)) := (Keep.refl _ _).new he
    have hE : Blk (H6.upd e (.cells ⟨[]⟩ T_ref02_Handle)) e T_ref02_Handle ⟨[]⟩ := Blk.upd_eq
    generalize H6.upd e (.cells ⟨[]⟩ T_ref02_Handle) = H7 at *
    have hB7 := (k6.trans ke).blk hB (nil_no _)
    have hD7 := (hD.keep k6 fun _ _ h => h).keep ke fun _ _ h => h
    refine ⟨_, _, _, by rw [hB7.cell]; rfl, InC.intro 1 rfl (by omega) ?_⟩
    refine copy_prs he hE ke (rest_reads hD7) (by omega) fun a' c' H8 ho8 _ k68 => ?_
    rw [Nat.add_sub_cancel] at *
    refine ⟨_, _, _, rfl, ?_⟩
    have k18 := k6.trans k68
    have h8 := h.keepN k18
    have hB8 := k18.blk hB (nil_no _)
    have hm8 := k18.blk hm1 (nil_no _)
    have hh8 := k68.blk hh (nil_no _)
    have h4b : h4 ≠ b := fun e => by subst e; exact absurd (Blk.type hh8 hB8) (by decide)
    refine StCell.blk hB8 (by simp) rfl ⟨((M.reaped : Nat) : Int), by rw [Blk.upd_eq.cell]; rfl, ?_⟩
    have e1 : IntKind.wrap .i64 (((M.reaped : Nat) : Int) + 1) = ((M.reaped + 1 : Nat) : Int) := by
      rw [wrap_id (by omega) (by omega)]; simp
    rw [e1]
    refine StCell.blk Blk.upd_eq (by simp) rfl ?_
    obtain ⟨o1, ho1⟩ : ∃ o, o = Obj.cells ((⟨[.int .i64 M.N, .slice pa M.posted.length pc, .slice (some ⟨u, 0, none⟩) (r.length + 1) dc, .int .i64 ((M.reaped + (r.length + 1 + M.posted.length) : Nat) : Int), .int .i64 ((M.reaped + (r.length + 1) : Nat) : Int), .int .i64 (M.reaped : Nat)]⟩ : Array Value).setIfInBounds 2 (.slice a' r.length c')) T_ref03_Ring (0, 0) := ⟨_, rfl⟩
    rw [← ho1]
    have hb10 : Blk ((H8.upd b o1).upd b (.cells (((⟨[.int .i64 M.N, .slice pa M.posted.length pc, .slice (some ⟨u, 0, none⟩) (r.length + 1) dc, .int .i64 ((M.reaped + (r.length + 1 + M.posted.length) : Nat) : Int), .int .i64 ((M.reaped + (r.length + 1) : Nat) : Int), .int .i64 (M.reaped : Nat)]⟩ : Array Value).setIfInBounds 2 (.slice a' r.length c')).setIfInBounds 5 (.int .i64 ((M.reaped + 1 : Nat) : Int))) T_ref03_Ring (0, 0))) b T_ref03_Ring
      ⟨[.int .i64 M.N, .slice pa M.posted.length pc, .slice a' r.length c', .int .i64 ((M.reaped + (r.length + 1 + M.posted.length) : Nat) : Int), .int .i64 ((M.reaped + (r.length + 1) : Nat) : Int), .int .i64 ((M.reaped + 1 : Nat) : Int)]⟩ := Blk.upd_eq
    have k810 : Keep (fun z => z = b) H8 ((H8.upd b o1).upd b (.cells (((⟨[.int .i64 M.N, .slice pa M.posted.length pc, .slice (some ⟨u, 0, none⟩) (r.length + 1) dc, .int .i64 ((M.reaped + (r.length + 1 + M.posted.length) : Nat) : Int), .int .i64 ((M.reaped + (r.length + 1) : Nat) : Int), .int .i64 (M.reaped : Nat)]⟩ : Array Value).setIfInBounds 2 (.slice a' r.length c')).setIfInBounds 5 (.int .i64 ((M.reaped + 1 : Nat) : Int))) T_ref03_Ring (0, 0))) :=
      ((Keep.refl (fun z => z = b) H8).upd (.inl rfl)).upd (.inl rfl)
    generalize ((H8.upd b o1).upd b (.cells (((⟨[.int .i64 M.N, .slice pa M.posted.length pc, .slice (some ⟨u, 0, none⟩) (r.length + 1) dc, .int .i64 ((M.reaped + (r.length + 1 + M.posted.length) : Nat) : Int), .int .i64 ((M.reaped + (r.length + 1) : Nat) : Int), .int .i64 (M.reaped : Nat)]⟩ : Array Value).setIfInBounds 2 (.slice a' r.length c')).setIfInBounds 5 (.int .i64 ((M.reaped + 1 : Nat) : Int))) T_ref03_Ring (0, 0))) = H10 at *
    have hh10 := k810.blk hh8 h4b
    have hm10 := k810.blk hm8 hmb
    have nb : ∀ {a : Option Addr} {n c : Nat} {xs : List Value}, Own H0 H8 a n c 2 T_ref02_Handle xs → ∀ z, a = some ⟨z, 0, none⟩ → ¬ z = b := fun ho z hz e => by
      obtain ⟨c, hc⟩ := ho.live hz
      subst e
      exact absurd (Blk.type hc hB8) (by decide)
    have ho0 : Own H0 H8 a' r.length c' 2 T_ref02_Handle (prs r) := ho8.mono (k0.trans k6)
    refine ⟨w.1, by rw [hh10.cell]; rfl, w.2, by rw [hh10.cell]; rfl, ?_⟩
    refine pair_out hm10 rfl fun H' k _ => ?_
    rw [hM]
    refine ⟨rfl, ((up (k1.trans k18)).trans k810).then k fun x hx => .inr (by rw [hx]; exact hm), pa, pc, a', c', ?_⟩
    exact
      { newP := h.newP
        blk := by
          have := k.blk hb10 (fun e => hmb e.symm)
          simp only
          rw [show M.reaped + 1 + (r.length + M.posted.length) = M.reaped + (r.length + 1 + M.posted.length) by omega, show M.reaped + 1 + r.length = M.reaped + (r.length + 1) by omega]
          exact this
        posted := (h8.posted.keep k810 (nb h8.posted)).keep k np
        done := (ho0.keep k810 (nb ho0)).keep k fun z hz e => by
          have := ho8.free hz
          rw [e] at this
          exact (k6.blk hm1 (nil_no _)).some this
        pos := h.pos
        le := hle
        fits := by simp only; omega }

end Go.Proofs.Ytligjponbhnedaa
