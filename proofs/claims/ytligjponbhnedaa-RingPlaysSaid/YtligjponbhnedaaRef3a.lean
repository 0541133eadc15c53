/-
  Layer 3's other ring, that of the verifier: Make, Post, work, Reap.
-/
import Derived.Test.YtligjponbhnedaaRing3
set_option maxRecDepth 100000
namespace Go.Proofs.Ytligjponbhnedaa
open Go.Sh

structure QAt (H0 H : Heap) (b : Nat) (M : RingM) (pa : Option Addr) (pc : Nat) (da : Option Addr) (dc : Nat) : Prop where
  newP : H0 b = none
  blk : Blk H b T_ref03_Ring ⟨[.int .i64 M.N, .slice pa M.posted.length pc, .slice da M.done.length dc, .int .i64 ((M.reaped + (M.done.length + M.posted.length) : Nat) : Int), .int .i64 ((M.reaped + M.done.length : Nat) : Int), .int .i64 (M.reaped : Nat)]⟩
  posted : Own H0 H pa M.posted.length pc 2 T_ref02_Handle (prs M.posted)
  done : Own H0 H da M.done.length dc 2 T_ref02_Handle (prs M.done)
  pos : 1 ≤ M.N
  le : M.N ≤ 64
  fits : M.done.length + M.posted.length ≤ M.N

theorem QAt.keep {S : Nat → Prop} {H0 H H' : Heap} {b : Nat} {M : RingM} {pa da : Option Addr} {pc dc : Nat} (h : QAt H0 H b M pa pc da dc) (k : Keep S H H') (hs : ∀ z T c, T = T_ref03_Ring ∨ T = T_ref02_Handle → Blk H z T c → ¬ S z) : QAt H0 H' b M pa pc da dc :=
  { h with
    blk := k.blk h.blk (hs _ _ _ (.inl rfl) h.blk)
    posted := h.posted.keep k fun z hz => by
      obtain ⟨c, hc⟩ := h.posted.live hz
      exact hs _ _ _ (.inr rfl) hc
    done := h.done.keep k fun z hz => by
      obtain ⟨c, hc⟩ := h.done.live hz
      exact hs _ _ _ (.inr rfl) hc }
theorem QAt.keepN {H0 H H' : Heap} {b : Nat} {M : RingM} {pa da : Option Addr} {pc dc : Nat} (h : QAt H0 H b M pa pc da dc) (k : Keep Nil H H') : QAt H0 H' b M pa pc da dc := h.keep k fun _ _ _ _ _ x => x

theorem ref3_Make_no {H : Heap} {n : Int} (h : n < 1 ∨ 64 < n) : FnW Try.prog f_ref03_Make ⟨[.int .i64 n]⟩ H fun v H' => v = .tuple ⟨[.pointer none, .int .i64 2]⟩ ∧ H = H' := by
  refine ref03_Make_sh n ?_
  unfold ref03_Make_p
  by_cases h1 : n < 1
  · rw [decide_eq_true h1]
    exact ⟨rfl, rfl⟩
  · rw [decide_eq_false h1]
    have h2 : n > 64 := by omega
    rw [decide_eq_true h2]
    exact ⟨rfl, rfl⟩
theorem ref3_Make_spec {H : Heap} {n : Nat} (h1 : 1 ≤ n) (h2 : n ≤ 64) : FnW Try.prog f_ref03_Make ⟨[.int .i64 n]⟩ H fun v H' => Keep Nil H H' ∧ ∃ b, v = .tuple ⟨[.pointer (some ⟨b, 0, none⟩), .int .i64 0]⟩ ∧ QAt H H' b (RingM.make n) none 0 none 0 := by
  refine ref03_Make_sh n ?_
  unfold ref03_Make_p
  rw [decide_eq_false (by omega), decide_eq_false (by omega), IfB_false]
  unfold ref03_Make_j0
  rw [IfB_false]
  refine NewW.intro fun b hb => ⟨(Keep.refl _ _).new hb, b, rfl, ?_⟩
  exact ⟨hb, Blk.upd_eq, Own.nil, Own.nil, h1, h2, by simp [RingM.make]⟩

/-- append([]T{}, l...), l a list of pairs; the block of the empty row is there already. -/
theorem copy_prs {H0 H : Heap} {m : Nat} {xb : Option Addr} {k xc : Nat} {l : List (Int × Int)} {K : Value → Heap → Prop} (hm0 : H0 m = none) (hm : Blk H m T_ref02_Handle ⟨[]⟩) (k0 : Keep Nil H0 H) (hr : Reads H xb (k * 2) (prs l)) (hk : k ≤ 1000)
    (h : ∀ a' cap' H', Own H0 H' a' k cap' 2 T_ref02_Handle (prs l) → Keep (fun z => z = m) H H' → Keep Nil H0 H' → K (.slice a' k cap') H') :
    AppW Try.prog #[T_sl_pointsmanref02_Handle, T_sl_pointsmanref02_Handle] T_sl_pointsmanref02_Handle [.slice (some ⟨m, 0, none⟩) 0 0, .slice xb k xc] H K := by
  obtain ⟨it, hi, hsz, hby⟩ := row_RHandle.info
  refine own_append (H0 := H0) (S := Nil) (sz := 2) (new := prs l) und_sl_RHandle und_sl_RHandle hi hsz hby (by omega) row_RHandle.zero rfl (Own.start hm0 hm) k0 hr ?_ (by omega) ?_
  · intro v hv
    simp only [prs, List.mem_flatMap] at hv
    obtain ⟨p, _, hp⟩ := hv
    simp only [List.mem_cons, List.not_mem_nil, or_false] at hp
    rcases hp with rfl | rfl <;> rfl
  · intro a' cap' H' ho k1 k2
    rw [Nat.zero_add] at *
    exact h a' cap' H' (by simpa using ho) (k1.mono fun z hz => by cases hz; rfl) k2

/-- append(l, h), h a pair in a block of its own. -/
theorem push_pair {H0 H : Heap} {q : Nat} {a : Option Addr} {k cap : Nat} {l : List (Int × Int)} {n t : Int} {T : TypeId} {K : Value → Heap → Prop} (hq : Blk H q T ⟨[.int .i64 n, .int .i64 t]⟩) (k0 : Keep Nil H0 H) (ho : Own H0 H a k cap 2 T_ref02_Handle (prs l)) (hk : k ≤ 1000)
    (h : ∀ a' cap' H', Own H0 H' a' (k + 1) cap' 2 T_ref02_Handle (prs (l ++ [(n, t)])) → Keep (fun z => a = some ⟨z, 0, none⟩) H H' → Keep Nil H0 H' → K (.slice a' (k + 1) cap') H') :
    AppW Try.prog #[T_sl_pointsmanref02_Handle, T_sl_pointsmanref02_Handle] T_sl_pointsmanref02_Handle [.slice a k cap, .slice (some ⟨q, 0, none⟩) 1 1] H K := by
  obtain ⟨it, hi, hsz, hby⟩ := row_RHandle.info
  refine own_append (H0 := H0) (S := Nil) (sz := 2) (new := [.int .i64 n, .int .i64 t]) und_sl_RHandle und_sl_RHandle hi hsz hby (by omega) row_RHandle.zero rfl ho k0 (Reads.blk hq rfl fun j hj => by simp) (by simp [plainC]) (by omega) ?_
  intro a' cap' H' ho' k1 k2
  exact h a' cap' H' (by rw [prs_append]; simpa [prs] using ho') k1 k2

theorem ref3_Post_spec {H0 H : Heap} {b : Nat} {M : RingM} {pa da : Option Addr} {pc dc : Nat} (k0 : Keep Nil H0 H) (h : QAt H0 H b M pa pc da dc) (hc : M.reaped < 2 ^ 60) (n t : Int) :
    FnW Try.prog f_ref03_Ring_Post ⟨[.pointer (some ⟨b, 0, none⟩), .agg ⟨[.int .i64 n, .int .i64 t]⟩]⟩ H fun v H' => v = .int .i64 (M.post (n, t)).1 ∧ Keep (fun z => z = b) H H' ∧ ∃ pa' pc' da' dc', QAt H0 H' b (M.post (n, t)).2 pa' pc' da' dc' := by
  refine ref03_Ring_Post_sh b n t ?_
  unfold ref03_Ring_Post_p
  refine NewW.intro fun m hm => ?_
  have k1 : Keep Nil H (H.upd m (.cells ⟨[.int .i64 n, .int .i64 t]⟩ T_ref02_Handle)) := (Keep.refl _ _).new hm
  have hm1 : Blk (H.upd m (.cells ⟨[.int .i64 n, .int .i64 t]⟩ T_ref02_Handle)) m T_ref02_Handle ⟨[.int .i64 n, .int .i64 t]⟩ := Blk.upd_eq
  generalize H.upd m (.cells ⟨[.int .i64 n, .int .i64 t]⟩ T_ref02_Handle) = H1 at *
  replace h := h.keepN k1
  replace k0 := k0.trans k1
  have hfit := h.fits
  have hle := h.le
  have up : ∀ {S : Nat → Prop} {G G' : Heap}, Keep Nil G G' → Keep S G G' := fun k => k.mono fun _ h => h.elim
  refine ⟨_, _, _, by rw [h.blk.cell]; rfl, _, _, _, by rw [h.blk.cell]; rfl, _, by rw [h.blk.cell]; rfl, ?_⟩
  rw [wrap_id (by omega) (by omega)]
  unfold RingM.post
  by_cases hW : M.done.length + M.posted.length = M.N
  · rw [show (((M.posted.length : Int) + (M.done.length : Int)) == (M.N : Int)) = true by simp; omega, IfB_true, if_pos hW]
    exact ⟨rfl, up k1, pa, pc, da, dc, h⟩
  · rw [show (((M.posted.length : Int) + (M.done.length : Int)) == (M.N : Int)) = false by simp; omega, IfB_false, if_neg hW]
    refine ⟨[m], live_of (by simp only [List.mem_cons, List.not_mem_nil, or_false]; rintro z rfl; exact hm1.some), _, _, _, by rw [h.blk.cell]; rfl, by simp, n, by rw [hm1.cell]; rfl, t, by rw [hm1.cell]; rfl, ?_⟩
    refine NewW.intro fun e he => ?_
    have ke : Keep Nil H1 (H1.upd e (.cells ⟨[]⟩ T_ref02_Handle)) := (Keep.refl _ _).new he
    have hE : Blk (H1.upd e (.cells ⟨[]⟩ T_ref02_Handle)) e T_ref02_Handle ⟨[]⟩ := Blk.upd_eq
    have he0 := k0.free he
    generalize H1.upd e (.cells ⟨[]⟩ T_ref02_Handle) = H2 at *
    refine NewW.intro fun q hq => ?_
    have kq : Keep Nil H2 (H2.upd q (.cells ⟨[.int .i64 n, .int .i64 t]⟩ T_ref02_Handle)) := (Keep.refl _ _).new hq
    have hQ : Blk (H2.upd q (.cells ⟨[.int .i64 n, .int .i64 t]⟩ T_ref02_Handle)) q T_ref02_Handle ⟨[.int .i64 n, .int .i64 t]⟩ := Blk.upd_eq
    have hqe : q ≠ e := (hE.ne hq).symm
    have hqm : m ≠ e := hm1.ne he
    generalize H2.upd q (.cells ⟨[.int .i64 n, .int .i64 t]⟩ T_ref02_Handle) = H3 at *
    have k13 := ke.trans kq
    have h3 := h.keepN k13
    refine copy_prs he (kq.blk hE (nil_no _)) k13 h3.posted.reads (by omega) fun a1 c1 H4 ho4 k4 k14 => ?_
    have hQ4 := k4.blk hQ hqe
    refine ⟨_, _, _, rfl, keptIn_of k14 (by simp only [List.mem_cons, List.not_mem_nil, or_false]; rintro z rfl; exact ⟨nil_no _, hm1.some⟩), ?_⟩
    refine push_pair hQ4 k14 ho4 (by omega) fun a2 c2 H5 ho5 _ k15 => ?_
    have h5 := h.keepN k15
    have hm5 := k15.blk hm1 (nil_no _)
    refine ⟨_, _, _, rfl, keptIn_of k15 (by simp only [List.mem_cons, List.not_mem_nil, or_false]; rintro z rfl; exact ⟨nil_no _, hm1.some⟩), ?_⟩
    refine StCell.blk h5.blk (by simp) rfl ?_
    have hmb : m ≠ b := fun e => by
      have := Blk.type hm1 (e ▸ h.blk : Blk H1 m T_ref03_Ring _)
      exact absurd this (by decide)
    refine ⟨fun z hz => ?_, ((M.reaped + (M.done.length + M.posted.length) : Nat) : Int), by rw [Blk.upd_eq.cell]; rfl, ?_⟩
    · simp only [List.mem_cons, List.not_mem_nil, or_false] at hz
      subst hz
      exact ⟨⟨_, hm1⟩, (hm5.upd_ne hmb).trans hm1.symm⟩
    · refine StCell.blk Blk.upd_eq (by simp) rfl ⟨rfl, ?_, ?_⟩
      · exact ((up (S := fun z => z = b) (k1.trans k15)).upd (.inl rfl)).upd (.inl rfl)
      · have np : ∀ z T c, T ≠ T_ref03_Ring → Blk H5 z T c → z ≠ b := fun z T c hT hz e => by
          subst e
          exact hT (Blk.type hz h5.blk)
        have own2 : ∀ {a : Option Addr} {k c : Nat} {xs : List Value} {o1 o2 : Obj}, Own H0 H5 a k c 2 T_ref02_Handle xs → Own H0 ((H5.upd b o1).upd b o2) a k c 2 T_ref02_Handle xs := fun ho =>
          ho.keep (S := fun z => z = b) (((Keep.refl (fun z => z = b) H5).upd (.inl rfl)).upd (.inl rfl)) fun z hz => by
            obtain ⟨c, hc⟩ := ho.live hz
            exact np z _ c (by decide) hc
        refine ⟨a2, c2, da, dc, ⟨h.newP, ?_, ?_, own2 h5.done, h.pos, hle, by simp only [List.length_append, List.length_cons, List.length_nil]; omega⟩⟩
        · have e1 : IntKind.wrap .i64 (((M.reaped + (M.done.length + M.posted.length) : Nat) : Int) + 1) = ((M.reaped + (M.done.length + (M.posted ++ [(n, t)]).length) : Nat) : Int) := by
            rw [wrap_id (by omega) (by omega)]
            simp only [List.length_append, List.length_cons, List.length_nil]
            omega
          have e2 : (M.posted ++ [(n, t)]).length = M.posted.length + 1 := by simp
          rw [e1]
          simp only [e2]
          exact Blk.upd_eq
        · simp only [List.length_append, List.length_cons, List.length_nil]
          exact own2 (ho5.mono k0)

end Go.Proofs.Ytligjponbhnedaa
