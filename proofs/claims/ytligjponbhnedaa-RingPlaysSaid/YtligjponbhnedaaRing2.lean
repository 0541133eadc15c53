/-
  Layer 3, the ring: Post, device, Reap.
-/
import Derived.Test.YtligjponbhnedaaRing1
set_option maxRecDepth 100000
namespace Go.Proofs.Ytligjponbhnedaa
open Go.Sh

theorem ring_Post_spec {H : Heap} {b : Nat} {M : RingM} {c : Array Value} (h : RingAt H b M c) (n t : Int) :
    FnW Try.prog f_ring_Ring_Post ⟨[.pointer (some ⟨b, 0, none⟩), .agg ⟨[.int .i64 n, .int .i64 t]⟩]⟩ H fun v H' => v = .int .i64 (M.post (n, t)).1 ∧ Keep (fun x => x = b) H H' ∧ ∃ c', RingAt H' b (M.post (n, t)).2 c' := by
  refine ring_Ring_Post_sh b n t ?_
  unfold ring_Ring_Post_p
  refine NewW.intro fun m hm => ?_
  have k1 : Keep Nil H (H.upd m (.cells ⟨[.int .i64 n, .int .i64 t]⟩ T_pool_Handle)) := (Keep.refl _ _).new hm
  have hm1 : Blk (H.upd m (.cells ⟨[.int .i64 n, .int .i64 t]⟩ T_pool_Handle)) m T_pool_Handle ⟨[.int .i64 n, .int .i64 t]⟩ := Blk.upd_eq
  have hmb : m ≠ b := (h.blk.ne hm).symm
  generalize H.upd m (.cells ⟨[.int .i64 n, .int .i64 t]⟩ T_pool_Handle) = H1 at *
  replace h := h.keep k1 (nil_no _)
  refine (ring_is_spec h).mono ?_
  rintro v _ ⟨rfl, rfl⟩
  refine ⟨_, rfl, ?_⟩
  rw [Bool.not_true, IfB_false]
  have hpos := h.pos
  have hle := h.le
  have hfit := h.fits
  have hs := h.size
  have hp64 := h.pos_lt (M.reaped + (M.done.length + M.posted.length))
  have up : ∀ {S : Nat → Prop} {G : Heap}, Keep Nil H G → Keep S H G := fun k => k.mono fun _ h => h.elim
  by_cases hW : M.done.length + M.posted.length = M.N
  · have e0 : (M.reaped + (M.done.length + M.posted.length)) % M.N = (M.reaped + 0) % M.N := by rw [hW]; simp
    have hst := h.slot 0 (by omega)
    rw [← e0] at hst
    have hne : M.st 0 ≠ 0 := by
      unfold RingM.st
      split
      · omega
      · rw [if_pos (by omega)]; omega
    refine (ring_turn_spec (f := 0) (t := 1) h.blk hs (by omega) (by omega) h.post hp64 hst (by omega) (by omega) (by omega) h.c0 h.c1 (by omega) (by omega) (by omega) (by omega) h.n (by omega)).mono ?_
    rintro v H2 (⟨_, rfl, rfl⟩ | ⟨e, _⟩)
    · refine ⟨_, _, rfl, ?_⟩
      rw [Bool.not_false, IfB_true]
      unfold RingM.post
      rw [if_pos hW]
      exact ⟨rfl, up k1, c, h⟩
    · exact absurd e hne
  · have hst := h.slot (M.done.length + M.posted.length) (by omega)
    have hs0 : M.st (M.done.length + M.posted.length) = 0 := by
      unfold RingM.st
      rw [if_neg (by omega), if_neg (by omega)]
    rw [hs0] at hst
    refine (ring_turn_spec (f := 0) (t := 1) h.blk hs (by omega) (by omega) h.post hp64 hst (by omega) (by omega) (by omega) h.c0 h.c1 (by omega) (by omega) (by omega) (by omega) h.n (by omega)).mono ?_
    rintro v H2 (⟨e, _⟩ | ⟨_, rfl, k2, hb2⟩)
    · exact absurd rfl e
    · refine ⟨_, _, rfl, ?_⟩
      rw [Bool.not_true, IfB_false]
      have hm2 := k2.blk hm1 hmb
      have hpe : (M.reaped + (M.done.length + (M.posted ++ [(n, t)]).length)) % M.N = ((M.reaped + (M.done.length + M.posted.length)) % M.N + 1) % M.N := by
        rw [Nat.mod_add_mod]; simp only [List.length_append, List.length_cons, List.length_nil]; congr 1
      generalize hp : (M.reaped + (M.done.length + M.posted.length)) % M.N = p at *
      refine ⟨n, by rw [hm2.cell]; rfl, t, by rw [hm2.cell]; rfl, NilP.intro _ rfl ?_⟩
      refine StCell.blk hb2 (by rw [turnC_size, hs]; simp only; omega) rfl (StCell.blk Blk.upd_eq (by simp [turnC_size]; omega) rfl ?_)
      unfold RingM.post
      rw [if_neg hW]
      refine ⟨rfl, ((up k1).trans k2 |>.upd (.inl rfl)).upd (.inl rfl), (((turnC c 193 p 0 1 (M.N - (M.done.length + M.posted.length) : Nat) (M.posted.length : Nat) ((p + 1) % M.N)).setIfInBounds (0 + p * 3 + 1) (.int .i64 n)).setIfInBounds (0 + p * 3 + 2) (.int .i64 t)), ?_⟩
      have hT := @turnC_slot c hs 193 p 0 1 (M.N - (M.done.length + M.posted.length) : Nat) (M.posted.length : Nat) ((p + 1) % M.N) (by omega)
      have hTh := @turnC_hand c 193 p 0 1 (M.N - (M.done.length + M.posted.length) : Nat) (M.posted.length : Nat) ((p + 1) % M.N) (by omega)
      have hsz : (turnC c 193 p 0 1 (M.N - (M.done.length + M.posted.length) : Nat) (M.posted.length : Nat) ((p + 1) % M.N)).size = 199 := by rw [turnC_size, hs]
      have hhi : ∀ i, 192 ≤ i → (((turnC c 193 p 0 1 (M.N - (M.done.length + M.posted.length) : Nat) (M.posted.length : Nat) ((p + 1) % M.N)).setIfInBounds (0 + p * 3 + 1) (.int .i64 n)).setIfInBounds (0 + p * 3 + 2) (.int .i64 t))[i]? = (turnC c 193 p 0 1 (M.N - (M.done.length + M.posted.length) : Nat) (M.posted.length : Nat) ((p + 1) % M.N))[i]? := fun i hi => by rw [set_ne (by omega), set_ne (by omega)]
      exact
        { blk := Blk.upd_eq
          size := by simp [turnC_size, hs]
          pos := hpos
          le := hle
          fits := by simp only [List.length_append, List.length_cons, List.length_nil]; omega
          n := by rw [hhi _ (by omega)]; unfold turnC; rw [set_ne (by omega), set_ne (by omega), set_ne (by omega), set_ne (by omega)]; exact h.n
          post := by
            simp only
            rw [hhi _ (by omega), hpe]; unfold turnC; rw [set_eq rfl (by simp; omega)]
          work := by rw [hhi _ (by omega)]; unfold turnC; rw [set_ne (by omega), set_ne (by omega), set_ne (by omega), set_ne (by omega)]; exact h.work
          reap := by rw [hhi _ (by omega)]; unfold turnC; rw [set_ne (by omega), set_ne (by omega), set_ne (by omega), set_ne (by omega)]; exact h.reap
          c0 := by
            rw [hhi _ (by omega)]; unfold turnC; rw [set_ne (by omega), set_ne (by omega), set_eq (by omega) (by simp; omega)]
            simp only [List.length_append, List.length_cons, List.length_nil]
            congr 2; omega
          c1 := by
            rw [hhi _ (by omega)]; unfold turnC; rw [set_ne (by omega), set_eq (by omega) (by simp; omega)]
            simp
          c2 := by rw [hhi _ (by omega)]; unfold turnC; rw [set_ne (by omega), set_ne (by omega), set_ne (by omega), set_ne (by omega)]; exact h.c2
          slot := fun j hj => by
            simp only at hj ⊢
            have hq := h.pos_lt (M.reaped + j)
            rw [set_ne (by omega), set_ne (by omega), hT _ hq]
            by_cases e : j = M.done.length + M.posted.length
            · subst e
              rw [if_pos hp]
              unfold RingM.st
              rw [if_neg (by simp only; omega), if_pos (by simp only [List.length_append, List.length_cons, List.length_nil]; omega)]
              rfl
            · rw [if_neg (fun e' => e (mod_inj hj (by omega) (e'.trans hp.symm))), h.slot j hj]
              unfold RingM.st
              simp only [List.length_append, List.length_cons, List.length_nil]
              congr 2
              by_cases e1 : j < M.done.length
              · rw [if_pos e1, if_pos e1]
              · rw [if_neg e1, if_neg e1]
                by_cases e2 : j < M.done.length + M.posted.length
                · rw [if_pos e2, if_pos (by omega)]
                · rw [if_neg e2, if_neg (by omega)]
          hand := fun j hj => by
            have hwin : RingM.win { N := M.N, done := M.done, posted := M.posted ++ [(n, t)], reaped := M.reaped } = M.win ++ [(n, t)] := by simp [RingM.win]
            simp only [hwin] at hj ⊢
            have hwl : M.win.length = M.done.length + M.posted.length := by simp [RingM.win]
            have hq := h.pos_lt (M.reaped + j)
            simp only [List.length_append, List.length_cons, List.length_nil] at hj
            by_cases e : j = M.done.length + M.posted.length
            · subst e
              rw [hp, set_ne (by omega), set_eq (by omega) (by rw [hsz]; omega), set_eq (by omega) (by simp [hsz]; omega)]
              rw [List.getElem_append_right (by omega)]
              simp [hwl]
            · have hne : (M.reaped + j) % M.N ≠ p := fun e' => e (mod_inj (by omega) (by omega) (e'.trans hp.symm))
              rw [set_ne (by omega), set_ne (by omega), set_ne (by omega), set_ne (by omega), (hTh _ hq).1, (hTh _ hq).2, List.getElem_append_left (by omega)]
              exact h.hand j (by omega)
          ints := fun q hq => by
            simp only at hq
            by_cases e : q = p
            · subst e
              exact ⟨n, t, by rw [set_ne (by omega), set_eq (by omega) (by rw [hsz]; omega)], by rw [set_eq (by omega) (by simp [hsz]; omega)]⟩
            · obtain ⟨u, w, hu, hw⟩ := h.ints q hq
              exact ⟨u, w, by rw [set_ne (by omega), set_ne (by omega), (hTh _ (by omega)).1]; exact hu, by rw [set_ne (by omega), set_ne (by omega), (hTh _ (by omega)).2]; exact hw⟩ }

theorem ring_device_spec {H : Heap} {b : Nat} {M : RingM} {c : Array Value} (h : RingAt H b M c) :
    FnW Try.prog f_ring_Ring_device ⟨[.pointer (some ⟨b, 0, none⟩)]⟩ H fun v H' => v = .tuple ⟨[.agg ⟨[.int .i64 M.device.1.1, .int .i64 M.device.1.2]⟩, .int .i64 M.device.2.1]⟩ ∧ Keep (fun x => x = b) H H' ∧ ∃ c', RingAt H' b M.device.2.2 c' := by
  refine ring_Ring_device_sh b ?_
  unfold ring_Ring_device_p
  refine NewW.intro fun m hm => ?_
  have k1 : Keep Nil H (H.upd m (.cells ⟨[.int .i64 0, .int .i64 0]⟩ T_pool_Handle)) := (Keep.refl _ _).new hm
  have hm1 : Blk (H.upd m (.cells ⟨[.int .i64 0, .int .i64 0]⟩ T_pool_Handle)) m T_pool_Handle ⟨[.int .i64 0, .int .i64 0]⟩ := Blk.upd_eq
  have hmb : m ≠ b := (h.blk.ne hm).symm
  generalize H.upd m (.cells ⟨[.int .i64 0, .int .i64 0]⟩ T_pool_Handle) = H1 at *
  replace h := h.keep k1 (nil_no _)
  refine (ring_is_spec h).mono ?_
  rintro v _ ⟨rfl, rfl⟩
  refine ⟨_, rfl, ?_⟩
  rw [Bool.not_true, IfB_false]
  have hpos := h.pos
  have hle := h.le
  have hfit := h.fits
  have hs := h.size
  have hp64 := h.pos_lt (M.reaped + M.done.length)
  have up : ∀ {S : Nat → Prop} {G : Heap}, Keep Nil H G → Keep S H G := fun k => k.mono fun _ h => h.elim
  cases hpo : M.posted with
  | nil =>
    have hst : ∃ s : Int, s ≠ 1 ∧ c[((M.reaped + M.done.length) % M.N) * 3]? = some (.int .i64 s) := by
      by_cases e : M.done.length = M.N
      · refine ⟨M.st 0, ?_, ?_⟩
        · unfold RingM.st
          rw [if_pos (by omega)]; omega
        · have := h.slot 0 (by omega)
          rw [show (M.reaped + M.done.length) % M.N = (M.reaped + 0) % M.N by rw [e]; simp]
          exact this
      · refine ⟨M.st M.done.length, ?_, h.slot _ (by omega)⟩
        unfold RingM.st
        rw [if_neg (by omega), hpo, if_neg (by simp)]; omega
    obtain ⟨s, hne, hst⟩ := hst
    refine (ring_turn_spec (f := 1) (t := 2) h.blk hs (by omega) (by omega) h.work hp64 hst (by omega) (by omega) (by omega) h.c1 h.c2 (by omega) (by omega) (by omega) (by omega) h.n (by omega)).mono ?_
    rintro v H2 (⟨_, rfl, rfl⟩ | ⟨e, _⟩)
    · refine ⟨_, _, rfl, ?_⟩
      rw [Bool.not_false, IfB_true]
      have hM : M.device = ((0, 0), 30, M) := by unfold RingM.device; rw [hpo]
      refine pair_out hm1 rfl fun H' k _ => ?_
      rw [hM]
      exact ⟨rfl, (up k1).then k fun x hx => .inr (by rw [hx]; exact hm), c, h.keep k fun e => hmb e.symm⟩
    · exact absurd e hne
  | cons w r =>
    have hM : M.device = (w, 0, { M with posted := r, done := M.done ++ [w] }) := by unfold RingM.device; rw [hpo]
    have hlen : M.posted.length = r.length + 1 := by rw [hpo]; rfl
    have hst := h.slot M.done.length (by omega)
    have hs1 : M.st M.done.length = 1 := by
      unfold RingM.st
      rw [if_neg (by omega), if_pos (by omega)]
    rw [hs1] at hst
    have hwl : M.win.length = M.done.length + M.posted.length := by simp [RingM.win]
    have hhd := h.hand M.done.length (by omega)
    have hwd : M.win[M.done.length]'(by omega) = w := by simp [RingM.win, hpo]
    rw [hwd] at hhd
    refine (ring_turn_spec (f := 1) (t := 2) h.blk hs (by omega) (by omega) h.work hp64 hst (by omega) (by omega) (by omega) h.c1 h.c2 (by omega) (by omega) (by omega) (by omega) h.n (by omega)).mono ?_
    rintro v H2 (⟨e, _⟩ | ⟨_, rfl, k2, hb2⟩)
    · exact absurd rfl e
    · refine ⟨_, _, rfl, ?_⟩
      rw [Bool.not_true, IfB_false]
      have hm2 := k2.blk hm1 hmb
      have hpe : (M.reaped + (M.done ++ [w]).length) % M.N = ((M.reaped + M.done.length) % M.N + 1) % M.N := by
        rw [Nat.mod_add_mod]; simp only [List.length_append, List.length_cons, List.length_nil]; congr 1
      generalize hp : (M.reaped + M.done.length) % M.N = p at *
      have hT := @turnC_slot c hs 194 p 1 2 (M.posted.length : Nat) (M.done.length : Nat) ((p + 1) % M.N) (by omega)
      have hTh := @turnC_hand c 194 p 1 2 (M.posted.length : Nat) (M.done.length : Nat) ((p + 1) % M.N) (by omega)
      have hsz : (turnC c 194 p 1 2 (M.posted.length : Nat) (M.done.length : Nat) ((p + 1) % M.N)).size = 199 := by rw [turnC_size, hs]
      refine NilP.intro _ rfl ⟨w.1, by rw [hb2.cell, Nat.zero_add, (hTh p hp64).1]; exact hhd.1, w.2, by rw [hb2.cell, Nat.zero_add, (hTh p hp64).2]; exact hhd.2, ?_⟩
      refine pair_out hm2 rfl fun H' k _ => ?_
      rw [hM]
      refine ⟨rfl, ((up k1).trans k2).then k fun x hx => .inr (by rw [hx]; exact hm), turnC c 194 p 1 2 (M.posted.length : Nat) (M.done.length : Nat) ((p + 1) % M.N), ?_⟩
      have hb3 := k.blk hb2 fun e => hmb e.symm
      have hwin : RingM.win { N := M.N, done := M.done ++ [w], posted := r, reaped := M.reaped } = M.win := by simp [RingM.win, hpo]
      exact
        { blk := hb3
          size := hsz
          pos := hpos
          le := hle
          fits := by simp only [List.length_append, List.length_cons, List.length_nil]; omega
          n := by unfold turnC; rw [set_ne (by omega), set_ne (by omega), set_ne (by omega), set_ne (by omega)]; exact h.n
          post := by
            unfold turnC; rw [set_ne (by omega), set_ne (by omega), set_ne (by omega), set_ne (by omega), h.post]
            simp only [List.length_append, List.length_cons, List.length_nil]
            rw [hlen, show M.done.length + (r.length + 1) = M.done.length + (0 + 1) + r.length by omega]
          work := by
            simp only
            rw [hpe]; unfold turnC; rw [set_eq rfl (by simp; omega)]
          reap := by unfold turnC; rw [set_ne (by omega), set_ne (by omega), set_ne (by omega), set_ne (by omega)]; exact h.reap
          c0 := by
            unfold turnC; rw [set_ne (by omega), set_ne (by omega), set_ne (by omega), set_ne (by omega), h.c0]
            simp only [List.length_append, List.length_cons, List.length_nil]
            rw [hlen, show M.done.length + (r.length + 1) = M.done.length + (0 + 1) + r.length by omega]
          c1 := by
            unfold turnC; rw [set_ne (by omega), set_ne (by omega), set_eq (by omega) (by simp; omega), hlen]
            simp
          c2 := by
            unfold turnC; rw [set_ne (by omega), set_eq (by omega) (by simp; omega)]
            simp
          slot := fun j hj => by
            simp only at hj ⊢
            have hq := h.pos_lt (M.reaped + j)
            rw [hT _ hq]
            by_cases e : j = M.done.length
            · subst e
              rw [if_pos hp]
              unfold RingM.st
              rw [if_pos (by simp)]
              rfl
            · rw [if_neg (fun e' => e (mod_inj hj (by omega) (e'.trans hp.symm))), h.slot j hj]
              unfold RingM.st
              simp only [List.length_append, List.length_cons, List.length_nil, hlen]
              congr 2
              by_cases e1 : j < M.done.length
              · rw [if_pos e1, if_pos (by omega)]
              · have e3 : ¬ j < M.done.length + (0 + 1) := by omega
                rw [if_neg e1, if_neg e3]
                by_cases e2 : j < M.done.length + (r.length + 1)
                · rw [if_pos e2, if_pos (by omega)]
                · rw [if_neg e2, if_neg (by omega)]
          hand := fun j hj => by
            simp only [hwin] at hj ⊢
            have hq := h.pos_lt (M.reaped + j)
            rw [(hTh _ hq).1, (hTh _ hq).2]
            exact h.hand j hj
          ints := fun q hq => by
            simp only at hq
            obtain ⟨u, w, hu, hw⟩ := h.ints q hq
            exact ⟨u, w, by rw [(hTh _ (by omega)).1]; exact hu, by rw [(hTh _ (by omega)).2]; exact hw⟩ }

theorem ring_Reap_spec {H : Heap} {b : Nat} {M : RingM} {c : Array Value} (h : RingAt H b M c) :
    FnW Try.prog f_ring_Ring_Reap ⟨[.pointer (some ⟨b, 0, none⟩)]⟩ H fun v H' => v = .tuple ⟨[.agg ⟨[.int .i64 M.reap.1.1, .int .i64 M.reap.1.2]⟩, .int .i64 M.reap.2.1]⟩ ∧ Keep (fun x => x = b) H H' ∧ ∃ c', RingAt H' b M.reap.2.2 c' := by
  refine ring_Ring_Reap_sh b ?_
  unfold ring_Ring_Reap_p
  refine NewW.intro fun m hm => ?_
  have k1 : Keep Nil H (H.upd m (.cells ⟨[.int .i64 0, .int .i64 0]⟩ T_pool_Handle)) := (Keep.refl _ _).new hm
  have hm1 : Blk (H.upd m (.cells ⟨[.int .i64 0, .int .i64 0]⟩ T_pool_Handle)) m T_pool_Handle ⟨[.int .i64 0, .int .i64 0]⟩ := Blk.upd_eq
  have hmb : m ≠ b := (h.blk.ne hm).symm
  generalize H.upd m (.cells ⟨[.int .i64 0, .int .i64 0]⟩ T_pool_Handle) = H1 at *
  replace h := h.keep k1 (nil_no _)
  refine (ring_is_spec h).mono ?_
  rintro v _ ⟨rfl, rfl⟩
  refine ⟨_, rfl, ?_⟩
  rw [Bool.not_true, IfB_false]
  have hpos := h.pos
  have hle := h.le
  have hfit := h.fits
  have hs := h.size
  have hp64 := h.pos_lt (M.reaped + 0)
  have hst := h.slot 0 (by omega)
  have up : ∀ {S : Nat → Prop} {G : Heap}, Keep Nil H G → Keep S H G := fun k => k.mono fun _ h => h.elim
  cases hdo : M.done with
  | nil =>
    have hne : M.st 0 ≠ 2 := by
      unfold RingM.st
      rw [if_neg (by rw [hdo]; simp)]
      split <;> omega
    refine (ring_turn_spec (f := 2) (t := 0) h.blk hs (by omega) (by omega) h.reap hp64 hst (by omega) (by omega) (by omega) h.c2 h.c0 (by omega) (by omega) (by omega) (by omega) h.n (by omega)).mono ?_
    rintro v H2 (⟨_, rfl, rfl⟩ | ⟨e, _⟩)
    · refine ⟨_, _, rfl, ?_⟩
      rw [Bool.not_false, IfB_true]
      have hM : M.reap = ((0, 0), 30, M) := by unfold RingM.reap; rw [hdo]
      refine pair_out hm1 rfl fun H' k _ => ?_
      rw [hM]
      exact ⟨rfl, (up k1).then k fun x hx => .inr (by rw [hx]; exact hm), c, h.keep k fun e => hmb e.symm⟩
    · exact absurd e hne
  | cons w r =>
    have hM : M.reap = (w, 0, { M with done := r, reaped := M.reaped + 1 }) := by unfold RingM.reap; rw [hdo]
    have hlen : M.done.length = r.length + 1 := by rw [hdo]; rfl
    have hs2 : M.st 0 = 2 := by
      unfold RingM.st
      rw [if_pos (by omega)]
    rw [hs2] at hst
    have hwl : M.win.length = M.done.length + M.posted.length := by simp [RingM.win]
    have hhd := h.hand 0 (by omega)
    have hwd : M.win[0]'(by omega) = w := by simp [RingM.win, hdo]
    rw [hwd] at hhd
    refine (ring_turn_spec (f := 2) (t := 0) h.blk hs (by omega) (by omega) h.reap hp64 hst (by omega) (by omega) (by omega) h.c2 h.c0 (by omega) (by omega) (by omega) (by omega) h.n (by omega)).mono ?_
    rintro v H2 (⟨e, _⟩ | ⟨_, rfl, k2, hb2⟩)
    · exact absurd rfl e
    · refine ⟨_, _, rfl, ?_⟩
      rw [Bool.not_true, IfB_false]
      have hm2 := k2.blk hm1 hmb
      have hpe : (M.reaped + 1 + 0) % M.N = ((M.reaped + 0) % M.N + 1) % M.N := by
        rw [Nat.mod_add_mod]
      have hpN : (M.reaped + M.N) % M.N = (M.reaped + 0) % M.N := by simp
      generalize hp : (M.reaped + 0) % M.N = p at *
      have hT := @turnC_slot c hs 195 p 2 0 (M.done.length : Nat) (M.N - (M.done.length + M.posted.length) : Nat) ((p + 1) % M.N) (by omega)
      have hTh := @turnC_hand c 195 p 2 0 (M.done.length : Nat) (M.N - (M.done.length + M.posted.length) : Nat) ((p + 1) % M.N) (by omega)
      have hsz : (turnC c 195 p 2 0 (M.done.length : Nat) (M.N - (M.done.length + M.posted.length) : Nat) ((p + 1) % M.N)).size = 199 := by rw [turnC_size, hs]
      refine NilP.intro _ rfl ⟨w.1, by rw [hb2.cell, Nat.zero_add, (hTh p hp64).1]; exact hhd.1, w.2, by rw [hb2.cell, Nat.zero_add, (hTh p hp64).2]; exact hhd.2, ?_⟩
      refine pair_out hm2 rfl fun H' k _ => ?_
      rw [hM]
      refine ⟨rfl, ((up k1).trans k2).then k fun x hx => .inr (by rw [hx]; exact hm), turnC c 195 p 2 0 (M.done.length : Nat) (M.N - (M.done.length + M.posted.length) : Nat) ((p + 1) % M.N), ?_⟩
      have hb3 := k.blk hb2 fun e => hmb e.symm
      have hwin : M.win = w :: RingM.win { N := M.N, done := r, posted := M.posted, reaped := M.reaped + 1 } := by simp [RingM.win, hdo]
      have off : ∀ j, (M.reaped + 1 + j) % M.N = (M.reaped + (j + 1)) % M.N := fun j => by congr 1; omega
      exact
        { blk := hb3
          size := hsz
          pos := hpos
          le := hle
          fits := by simp only; omega
          n := by unfold turnC; rw [set_ne (by omega), set_ne (by omega), set_ne (by omega), set_ne (by omega)]; exact h.n
          post := by
            unfold turnC; rw [set_ne (by omega), set_ne (by omega), set_ne (by omega), set_ne (by omega), h.post]
            simp only
            rw [hlen, show M.reaped + (r.length + 1 + M.posted.length) = M.reaped + 1 + (r.length + M.posted.length) by omega]
          work := by
            unfold turnC; rw [set_ne (by omega), set_ne (by omega), set_ne (by omega), set_ne (by omega), h.work]
            simp only
            rw [hlen, show M.reaped + (r.length + 1) = M.reaped + 1 + r.length by omega]
          reap := by
            simp only
            rw [hpe]; unfold turnC; rw [set_eq rfl (by simp; omega)]
          c0 := by
            unfold turnC; rw [set_ne (by omega), set_eq (by omega) (by simp; omega)]
            simp only
            congr 2; omega
          c1 := by unfold turnC; rw [set_ne (by omega), set_ne (by omega), set_ne (by omega), set_ne (by omega)]; exact h.c1
          c2 := by
            unfold turnC; rw [set_ne (by omega), set_ne (by omega), set_eq (by omega) (by simp; omega), hlen]
            simp
          slot := fun j hj => by
            simp only at hj ⊢
            rw [off]
            have hq := h.pos_lt (M.reaped + (j + 1))
            rw [hT _ hq]
            by_cases e : j + 1 = M.N
            · rw [if_pos (by rw [e]; exact hpN)]
              unfold RingM.st
              rw [if_neg (by simp only; omega), if_neg (by simp only; omega)]
              rfl
            · rw [if_neg (fun e' => by have := mod_inj (r := M.reaped) (by omega) (by omega) (e'.trans hp.symm); omega), h.slot (j + 1) (by omega)]
              unfold RingM.st
              simp only [hlen]
              congr 2
              by_cases e1 : j < r.length
              · rw [if_pos (by omega), if_pos e1]
              · rw [if_neg (by omega), if_neg e1]
                by_cases e2 : j < r.length + M.posted.length
                · rw [if_pos (by omega), if_pos e2]
                · rw [if_neg (by omega), if_neg e2]
          hand := fun j hj => by
            have hl : M.win.length = (RingM.win { N := M.N, done := r, posted := M.posted, reaped := M.reaped + 1 }).length + 1 := by rw [hwin]; rfl
            simp only at hj ⊢
            rw [off]
            have hq := h.pos_lt (M.reaped + (j + 1))
            rw [(hTh _ hq).1, (hTh _ hq).2]
            have := h.hand (j + 1) (by omega)
            simp only [hwin, List.getElem_cons_succ] at this
            exact this
          ints := fun q hq => by
            simp only at hq
            obtain ⟨u, w, hu, hw⟩ := h.ints q hq
            exact ⟨u, w, by rw [(hTh _ (by omega)).1]; exact hu, by rw [(hTh _ (by omega)).2]; exact hw⟩ }

end Go.Proofs.Ytligjponbhnedaa
