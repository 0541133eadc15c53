/-
  Layer 3: Fill, Take, Slots, Count; a ring with a pool; a ring that no call made.
-/
import Derived.Test.YtligjponbhnedaaRing2
import Derived.Test.YtligjponbhnedaaRef2d
set_option maxRecDepth 100000
namespace Go.Proofs.Ytligjponbhnedaa
open Go.Sh

theorem ring_Fill_gen {H : Heap} {b x : Nat} {M : RingM} {c : Array Value} (h : RingAt H b M c) (a : Option Addr) (n cap : Nat) {R : Value → Heap → Prop}
    (hno : M.device.2.1 ≠ 0 → ∀ H', Keep (fun z => z = b) H H' → (∃ c', RingAt H' b M.device.2.2 c') → R (.int .i64 M.device.2.1) H')
    (hok : M.device.2.1 = 0 → ∀ H', Keep (fun z => z = b) H H' → (∃ c', RingAt H' b M.device.2.2 c') →
      FnW Try.prog f_pool_Pool_Write ⟨[.pointer (some ⟨x, 0, none⟩), .agg ⟨[.int .i64 M.device.1.1, .int .i64 M.device.1.2]⟩, .slice a n cap]⟩ H' fun v H'' => ∃ e : Int, v = .int .i64 e ∧ R (.int .i64 e) H'') :
    FnW Try.prog f_ring_Ring_Fill ⟨[.pointer (some ⟨b, 0, none⟩), .pointer (some ⟨x, 0, none⟩), .slice a n cap]⟩ H R := by
  refine ring_Ring_Fill_sh b x a n cap ?_
  unfold ring_Ring_Fill_p
  refine (ring_device_spec h).mono ?_
  rintro v H1 ⟨rfl, k1, c1, h1⟩
  refine ⟨_, _, _, rfl, ?_⟩
  refine new_pair fun m H4 _ k4 _ hm => ?_
  have k14 : Keep (fun z => z = b) H H4 := k1.trans (k4.mono fun _ h => h.elim)
  have h4 : ∃ c', RingAt H4 b M.device.2.2 c' := ⟨c1, h1.keep k4 (nil_no _)⟩
  by_cases e : M.device.2.1 = 0
  · rw [show (M.device.2.1 != 0) = false by simpa using e, IfB_false]
    exact ⟨_, by rw [hm.cell]; rfl, _, by rw [hm.cell]; rfl, hok e H4 k14 h4⟩
  · rw [show (M.device.2.1 != 0) = true by simpa using e, IfB_true]
    exact hno e H4 k14 h4

theorem ring_Take_gen {H : Heap} {b x : Nat} {M : RingM} {c : Array Value} (h : RingAt H b M c) {R : Value → Heap → Prop}
    (hno : M.device.2.1 ≠ 0 → ∀ H', Keep (fun z => z = b) H H' → (∃ c', RingAt H' b M.device.2.2 c') → R (.tuple ⟨[.slice none 0 0, .int .i64 M.device.2.1]⟩) H')
    (hok : M.device.2.1 = 0 → ∀ H', Keep (fun z => z = b) H H' → (∃ c', RingAt H' b M.device.2.2 c') →
      FnW Try.prog f_pool_Pool_Read ⟨[.pointer (some ⟨x, 0, none⟩), .agg ⟨[.int .i64 M.device.1.1, .int .i64 M.device.1.2]⟩]⟩ H' fun v H'' => ∃ (a : Option Addr) (n cap : Nat), ∃ e : Int, v = .tuple ⟨[.slice a n cap, .int .i64 e]⟩ ∧ R (.tuple ⟨[.slice a n cap, .int .i64 e]⟩) H'') :
    FnW Try.prog f_ring_Ring_Take ⟨[.pointer (some ⟨b, 0, none⟩), .pointer (some ⟨x, 0, none⟩)]⟩ H R := by
  refine ring_Ring_Take_sh b x ?_
  unfold ring_Ring_Take_p
  refine (ring_device_spec h).mono ?_
  rintro v H1 ⟨rfl, k1, c1, h1⟩
  refine ⟨_, _, _, rfl, ?_⟩
  refine new_pair fun m H4 _ k4 _ hm => ?_
  have k14 : Keep (fun z => z = b) H H4 := k1.trans (k4.mono fun _ h => h.elim)
  have h4 : ∃ c', RingAt H4 b M.device.2.2 c' := ⟨c1, h1.keep k4 (nil_no _)⟩
  by_cases e : M.device.2.1 = 0
  · rw [show (M.device.2.1 != 0) = false by simpa using e, IfB_false]
    exact ⟨_, by rw [hm.cell]; rfl, _, by rw [hm.cell]; rfl, hok e H4 k14 h4⟩
  · rw [show (M.device.2.1 != 0) = true by simpa using e, IfB_true]
    exact hno e H4 k14 h4

theorem ring_Count_spec {H : Heap} {b : Nat} {M : RingM} {c : Array Value} (h : RingAt H b M c) (s : Nat) (hs : s < 3) :
    FnW Try.prog f_ring_Ring_Count ⟨[.pointer (some ⟨b, 0, none⟩), .int .i64 s]⟩ H fun v H' => v = .int .i64 (if s = 0 then M.N - (M.done.length + M.posted.length) else if s = 1 then M.posted.length else M.done.length : Nat) ∧ H = H' := by
  refine ring_Ring_Count_sh b s ?_
  unfold ring_Ring_Count_p
  refine (ring_is_spec h).mono ?_
  rintro v _ ⟨rfl, rfl⟩
  refine ⟨_, rfl, ?_⟩
  rw [Bool.not_true, IfB_false, decide_eq_false (by omega), IfB_false, decide_eq_false (by omega)]
  unfold ring_Ring_Count_j0
  rw [IfB_false]
  refine InB.intro s rfl hs ?_
  by_cases e0 : s = 0
  · subst e0; exact ⟨_, by rw [h.blk.cell]; exact h.c0, rfl, rfl⟩
  · by_cases e1 : s = 1
    · subst e1; exact ⟨_, by rw [h.blk.cell]; exact h.c1, rfl, rfl⟩
    · have e2 : s = 2 := by omega
      subst e2; exact ⟨_, by rw [h.blk.cell]; exact h.c2, rfl, rfl⟩

/-- The states of the slots, in the slots' order. -/
def stAt (c : Array Value) (p : Nat) : Int := match c[p * 3]? with
  | some (.int _ s) => s
  | _ => 0
def stList (c : Array Value) (n : Nat) : List Int := (List.range n).map (stAt c)
theorem RingAt.stAt {H : Heap} {b : Nat} {M : RingM} {c : Array Value} (h : RingAt H b M c) (p : Nat) (hp : p < M.N) : ∃ j, j < M.N ∧ p = (M.reaped + j) % M.N ∧ c[p * 3]? = some (.int .i64 (M.st j)) ∧ stAt c p = M.st j := by
  have hpos := h.pos
  obtain ⟨j, hj, e⟩ : ∃ j, j < M.N ∧ p = (M.reaped + j) % M.N := by
    refine ⟨(p + (M.N - M.reaped % M.N)) % M.N, Nat.mod_lt _ hpos, ?_⟩
    have hr := Nat.mod_lt M.reaped hpos
    rw [Nat.add_mod_mod, ← Nat.mod_add_mod, show M.reaped % M.N + (p + (M.N - M.reaped % M.N)) = p + M.N by omega, Nat.add_mod_right, Nat.mod_eq_of_lt hp]
  have hs := h.slot j hj
  rw [← e] at hs
  refine ⟨j, hj, e, hs, ?_⟩
  unfold Go.Proofs.Ytligjponbhnedaa.stAt
  rw [hs]

theorem ring_Slots_spec {H : Heap} {b : Nat} {M : RingM} {c : Array Value} (h : RingAt H b M c) :
    FnW Try.prog f_ring_Ring_Slots ⟨[.pointer (some ⟨b, 0, none⟩)]⟩ H fun v H' => Keep Nil H H' ∧ ∃ a cap, v = .slice a M.N cap ∧ Own H H' a M.N cap 1 T_int (i64s (stList c M.N)) := by
  refine ring_Ring_Slots_sh b ?_
  unfold ring_Ring_Slots_p
  refine (ring_is_spec h).mono ?_
  rintro v _ ⟨rfl, rfl⟩
  refine ⟨_, rfl, ?_⟩
  rw [Bool.not_true, IfB_false]
  have hle := h.le
  refine ⟨M.N, by rw [h.blk.cell]; exact h.n, InC.intro M.N rfl hle ?_⟩
  refine LoopI.intro (fun k x H1 => ∃ (i : Nat) (a : Option Addr) (cap : Nat), x = ((a, i, cap), ((i : Int), ())) ∧ i ≤ M.N ∧ k = M.N - i ∧ Keep Nil H H1 ∧ Own H H1 a i cap 1 T_int (i64s (stList c i))) M.N
    ⟨0, none, 0, rfl, Nat.zero_le _, by omega, Keep.refl _ _, Own.nil⟩ ?_
  rintro k x H1 ⟨i, a, cap, rfl, hi, rfl, k1, ho⟩ g
  unfold ring_Ring_Slots_l5
  have h1 := h.keep k1 (nil_no _)
  simp only
  by_cases hlt : i < M.N
  · rw [decide_eq_true (by omega), IfB_true]
    obtain ⟨j, hj, e, hc, hst⟩ := h1.stAt i hlt
    obtain ⟨u, w, hu, hw⟩ := h1.ints i hlt
    refine InB.intro i rfl hlt ⟨M.st j, by rw [h1.blk.cell, Nat.zero_add]; exact hc, u, by rw [h1.blk.cell, Nat.zero_add]; exact hu, w, by rw [h1.blk.cell, Nat.zero_add]; exact hw, ?_⟩
    refine NewW.intro fun s hs => ?_
    refine StCell.blk Blk.upd_eq (by simp) rfl (StCell.blk Blk.upd_eq (by simp) rfl (StCell.blk Blk.upd_eq (by simp) rfl ?_))
    refine ⟨M.st j, by rw [Blk.upd_eq.cell]; rfl, ?_⟩
    have k6 : Keep Nil H1 ((((H1.upd s (.cells ⟨[.int .i64 0, .int .i64 0, .int .i64 0]⟩ T_ring_slot)).upd s (.cells ((⟨[.int .i64 0, .int .i64 0, .int .i64 0]⟩ : Array Value).setIfInBounds 0 (.int .i64 (M.st j))) T_ring_slot (0, 0))).upd s
      (.cells (((⟨[.int .i64 0, .int .i64 0, .int .i64 0]⟩ : Array Value).setIfInBounds 0 (.int .i64 (M.st j))).setIfInBounds 1 (.int .i64 u)) T_ring_slot (0, 0))).upd s
      (.cells ((((⟨[.int .i64 0, .int .i64 0, .int .i64 0]⟩ : Array Value).setIfInBounds 0 (.int .i64 (M.st j))).setIfInBounds 1 (.int .i64 u)).setIfInBounds 2 (.int .i64 w)) T_ring_slot (0, 0))) :=
      ((((Keep.refl Nil H1).new hs).upd (.inr hs)).upd (.inr hs)).upd (.inr hs)
    refine own_push und_sl_int row_int (by omega) (by omega) (ho.keep k6 fun _ _ h => h) (k1.trans k6) rfl (by simp [plainC]) (by omega) fun m a' cap' H' ho' _ k' => ?_
    refine ⟨_, _, _, rfl, M.N - (i + 1), by omega, i + 1, a', cap', ?_, by omega, rfl, k', ?_⟩
    · rw [wrap_id (by omega) (by omega)]; simp
    · have : stList c (i + 1) = stList c i ++ [M.st j] := by
        unfold stList
        rw [List.range_succ, List.map_append]
        simp [hst]
      rw [this]
      simpa [i64s] using ho'
  · rw [decide_eq_false (by omega), IfB_false]
    obtain rfl : i = M.N := by omega
    exact ⟨k1, a, cap, rfl, ho⟩

/-- A pool and a ring; H0: the heap at first. -/
structure PR (H0 H : Heap) (x xl b : Nat) (P : PoolM) (M : RingM) : Prop where
  keep : Keep Nil H0 H
  newX : H0 x = none
  newL : H0 xl = none
  newR : H0 b = none
  atX : ∃ c d f, PoolAt H x xl P c d f
  atR : ∃ c, RingAt H b M c

def three (x xl b : Nat) : Nat → Prop := fun z => z = x ∨ z = xl ∨ z = b
theorem PR.no {H0 H : Heap} {x xl b : Nat} {P : PoolM} {M : RingM} (h : PR H0 H x xl b P M) {z : Nat} {T : TypeId} {c : Array Value} (hz : Blk H z T c) (h1 : T ≠ T_pool_Pool) (h2 : T ≠ T_pool_buffer) (h3 : T ≠ T_ring_Ring) : ¬ three x xl b z := by
  obtain ⟨_, _, _, hx⟩ := h.atX
  obtain ⟨_, hr⟩ := h.atR
  rintro (rfl | rfl | rfl)
  · exact h1 (Blk.type hz hx.blkP)
  · exact h2 (Blk.type hz hx.blkB)
  · exact h3 (Blk.type hz hr.blk)
theorem PR.keepN {H0 H H' : Heap} {x xl b : Nat} {P : PoolM} {M : RingM} (h : PR H0 H x xl b P M) (k : Keep Nil H H') : PR H0 H' x xl b P M := by
  obtain ⟨c, d, f, hx⟩ := h.atX
  obtain ⟨e, hr⟩ := h.atR
  exact ⟨h.keep.trans k, h.newX, h.newL, h.newR, ⟨c, d, f, hx.keep k (nil_no _) (nil_no _)⟩, e, hr.keep k (nil_no _)⟩
theorem PR.stepX {H0 H H' : Heap} {x xl b : Nat} {P P' : PoolM} {M : RingM} {c' d' : Array Value} {f' : Nat} (h : PR H0 H x xl b P M) (k : Keep (two x xl) H H') (hx' : PoolAt H' x xl P' c' d' f') : Keep (three x xl b) H H' ∧ PR H0 H' x xl b P' M := by
  obtain ⟨c, d, f, hx⟩ := h.atX
  obtain ⟨e, hr⟩ := h.atR
  have no : ¬ two x xl b := by
    rintro (rfl | rfl)
    · exact absurd (Blk.type hr.blk hx.blkP) (by decide)
    · exact absurd (Blk.type hr.blk hx.blkB) (by decide)
  refine ⟨k.mono fun z hz => hz.elim .inl fun h => .inr (.inl h), ⟨h.keep.then k ?_, h.newX, h.newL, h.newR, ⟨c', d', f', hx'⟩, e, hr.keep k no⟩⟩
  rintro z (rfl | rfl)
  · exact .inr h.newX
  · exact .inr h.newL
theorem PR.stepR {H0 H H' : Heap} {x xl b : Nat} {P : PoolM} {M M' : RingM} (h : PR H0 H x xl b P M) (k : Keep (fun z => z = b) H H') (hr' : ∃ c', RingAt H' b M' c') : Keep (three x xl b) H H' ∧ PR H0 H' x xl b P M' := by
  obtain ⟨c, d, f, hx⟩ := h.atX
  obtain ⟨e, hr⟩ := h.atR
  have n1 : ¬ x = b := fun e => by subst e; exact absurd (Blk.type hr.blk hx.blkP) (by decide)
  have n2 : ¬ xl = b := fun e => by subst e; exact absurd (Blk.type hr.blk hx.blkB) (by decide)
  exact ⟨k.mono fun z hz => .inr (.inr hz), ⟨h.keep.then k fun z hz => .inr (by rw [hz]; exact h.newR), h.newX, h.newL, h.newR, ⟨c, d, f, hx.keep k n1 n2⟩, hr'⟩⟩

theorem pr_Post {H0 H : Heap} {x xl b : Nat} {P : PoolM} {M : RingM} (h : PR H0 H x xl b P M) (n t : Int) :
    FnW Try.prog f_ring_Ring_Post ⟨[.pointer (some ⟨b, 0, none⟩), .agg ⟨[.int .i64 n, .int .i64 t]⟩]⟩ H fun v H' => v = .int .i64 (M.post (n, t)).1 ∧ Keep (three x xl b) H H' ∧ PR H0 H' x xl b P (M.post (n, t)).2 := by
  obtain ⟨c, hr⟩ := h.atR
  refine (ring_Post_spec hr n t).mono ?_
  rintro v H' ⟨rfl, k, hr'⟩
  exact ⟨rfl, h.stepR k hr'⟩
theorem pr_Reap {H0 H : Heap} {x xl b : Nat} {P : PoolM} {M : RingM} (h : PR H0 H x xl b P M) :
    FnW Try.prog f_ring_Ring_Reap ⟨[.pointer (some ⟨b, 0, none⟩)]⟩ H fun v H' => v = .tuple ⟨[.agg ⟨[.int .i64 M.reap.1.1, .int .i64 M.reap.1.2]⟩, .int .i64 M.reap.2.1]⟩ ∧ Keep (three x xl b) H H' ∧ PR H0 H' x xl b P M.reap.2.2 := by
  obtain ⟨c, hr⟩ := h.atR
  refine (ring_Reap_spec hr).mono ?_
  rintro v H' ⟨rfl, k, hr'⟩
  exact ⟨rfl, h.stepR k hr'⟩
theorem pr_Lend {H0 H : Heap} {x xl b : Nat} {P : PoolM} {M : RingM} (h : PR H0 H x xl b P M) (hc : P.count < 2 ^ 62) :
    FnW Try.prog f_pool_Pool_Lend ⟨[.pointer (some ⟨x, 0, none⟩), .slice none 0 0]⟩ H fun v H' => v = .tuple ⟨[.agg ⟨[.int .i64 (P.lend []).1.1, .int .i64 (P.lend []).1.2]⟩, .int .i64 (P.lend []).2.1]⟩ ∧ Keep (three x xl b) H H' ∧ PR H0 H' x xl b (P.lend []).2.2 M := by
  obtain ⟨c, d, f, hx⟩ := h.atX
  refine (pool_Lend_spec hx (bs := []) Reads.nil (fun _ h => by cases h) hc).mono ?_
  rintro v H' ⟨k, rfl, c', d', f', hx'⟩
  exact ⟨rfl, h.stepX k hx'⟩
theorem pr_Read {H0 H : Heap} {x xl b : Nat} {P : PoolM} {M : RingM} (h : PR H0 H x xl b P M) (n t : Int) :
    FnW Try.prog f_pool_Pool_Read ⟨[.pointer (some ⟨x, 0, none⟩), .agg ⟨[.int .i64 n, .int .i64 t]⟩]⟩ H fun v H' => Keep Nil H H' ∧ ∃ a m cap, v = .tuple ⟨[.slice a m cap, .int .i64 (P.read n t).2]⟩ ∧ IsBytes H' a m (P.read n t).1 ∧ U8 H' a := by
  obtain ⟨c, d, f, hx⟩ := h.atX
  refine (pool_Read_spec hx n t).mono ?_
  rintro v H' ⟨k, a, m, cap, rfl, h1, h2⟩
  refine ⟨k, a, m, cap, ?_, ?_⟩
  · unfold PoolM.read
    by_cases h0 : P.findE n t = 0
    · rw [if_pos h0, h0]
    · rw [if_neg h0]
  · unfold PoolM.read
    by_cases h0 : P.findE n t = 0
    · rw [if_pos h0]; exact ⟨(h1 h0).bytes, (h1 h0).u8⟩
    · rw [if_neg h0]
      obtain ⟨rfl, rfl, rfl⟩ := h2 h0
      exact ⟨Reads.nil, U8.nil⟩

def fillV (P : PoolM) (M : RingM) (bs : List UInt8) : Int × PoolM := if M.device.2.1 = 0 then P.write M.device.1.1 M.device.1.2 bs else (M.device.2.1, P)
theorem pr_Fill {H0 H : Heap} {x xl b : Nat} {P : PoolM} {M : RingM} (h : PR H0 H x xl b P M) {a : Option Addr} {n cap : Nat} {bs : List UInt8} (hb : IsBytes H a n bs) (ha : ∀ z, a = some z → z.block ≠ xl ∧ z.block ≠ b) :
    FnW Try.prog f_ring_Ring_Fill ⟨[.pointer (some ⟨b, 0, none⟩), .pointer (some ⟨x, 0, none⟩), .slice a n cap]⟩ H fun v H' => v = .int .i64 (fillV P M bs).1 ∧ Keep (three x xl b) H H' ∧ PR H0 H' x xl b (fillV P M bs).2 M.device.2.2 := by
  obtain ⟨c, hr⟩ := h.atR
  refine ring_Fill_gen hr a n cap (fun e H' k hr' => ?_) (fun e H' k hr' => ?_)
  · unfold fillV
    rw [if_neg e]
    exact ⟨rfl, h.stepR k hr'⟩
  · obtain ⟨k3, h'⟩ := h.stepR k hr'
    obtain ⟨c', d', f', hx'⟩ := h'.atX
    have hb' : IsBytes H' a n bs := Reads.keep hb k fun z hz => (ha z hz).2
    refine (pool_Write_spec hx' _ _ hb' fun z hz => (ha z hz).1).mono ?_
    rintro v H'' ⟨k2, rfl, d2, hx2⟩
    unfold fillV
    rw [if_pos e]
    obtain ⟨k4, h''⟩ := h'.stepX (k2.mono fun z hz => .inr hz) hx2
    exact ⟨_, rfl, rfl, k3.trans k4, h''⟩

end Go.Proofs.Ytligjponbhnedaa
