/-
  Layer 4: the document's wheel over the heap.
-/
import Derived.Test.YtdhjglkacnhhcaaWh4
set_option linter.all false
set_option maxRecDepth 100000
namespace Go.Proofs.Ytdhjglkacnhhcaa
open Go.Sh Go.Wheel

structure RRep (H : Heap) (b : Nat) (L : List Ent) (now : Int) (a : Option Addr) (cap : Nat) : Prop where
  up : Up L
  len : L.length ≤ 256
  pos : ∀ e ∈ L, 0 ≤ e.2 ∧ e.2 ≤ maxT
  blk : Blk H b T_ref04_Wheel ⟨[.slice a L.length cap, .int .i64 now]⟩
  row : Sh.Own emp H a L.length cap 2 T_ref04_Timer (prs L)
def Gt (b : Nat) (a : Option Addr) (x : Nat) : Prop := x = b ∨ a = some ⟨x, 0, none⟩

section
variable {H H' : Heap} {b : Nat} {L : List Ent} {now : Int} {a : Option Addr} {cap : Nat}
theorem RRep.live (h : RRep H b L now a cap) {x : Nat} (hx : Gt b a x) : H x ≠ none := by
  rcases hx with rfl | ha
  · exact h.blk.some
  · obtain ⟨_, hb⟩ := h.row.live ha; exact hb.some
theorem RRep.keep (h : RRep H b L now a cap) {S : Nat → Prop} (k : Keep S H H') (hs : ∀ x, Gt b a x → ¬ S x) : RRep H' b L now a cap :=
  { h with blk := k.blk h.blk (hs _ (.inl rfl)), row := h.row.keep k fun x hx => hs _ (.inr hx) }
theorem RRep.shut {Hs : Heap} (h : RRep H b L now a cap) (hs : Shut Hs H H') : RRep H' b L now a cap := { h with blk := shutB h.blk hs, row := shutO h.row hs }
theorem RRep.ne_row (h : RRep H b L now a cap) {x : Nat} (hx : a = some ⟨x, 0, none⟩) : x ≠ b := fun e => by
  subst e
  obtain ⟨cc, hb⟩ := h.row.live hx
  have h1 := h.blk
  unfold Blk at h1 hb
  rw [h1] at hb
  simp only [Option.some.injEq, Obj.cells.injEq] at hb
  exact absurd hb.2.1 (by decide)
theorem RRep.head (h : RRep H b L now a cap) : H.cell ⟨b, 0, none⟩ = some (.slice a L.length cap) := by rw [h.blk.cell]; rfl
theorem RRep.time (h : RRep H b L now a cap) : H.cell ⟨b, 1, none⟩ = some (.int .i64 now) := by rw [h.blk.cell]; rfl
/-- A member of the row. -/
theorem RRep.pair (h : RRep H b L now a cap) {i : Nat} (hi : i < L.length) : ∃ m, a = some ⟨m, 0, none⟩ ∧ H.cell ⟨m, 0 + i * 2, none⟩ = some (.int .i64 L[i].1) ∧ H.cell ⟨m, 0 + i * 2 + 1, none⟩ = some (.int .i64 L[i].2) := by
  obtain ⟨m, rfl⟩ := h.row.addr (by omega)
  obtain ⟨c0, c1⟩ := own_pair h.row hi
  exact ⟨m, rfl, c0, c1⟩

theorem dueL_idx {k : Int} : ∀ {L : List Ent} {i : Nat} (hi : i < L.length), (∀ j (h : j < L.length), j < i → L[j].1 ≠ k) → L[i].1 = k → dueL k L = some L[i].2
  | [], i, hi, _, _ => by simp at hi
  | e :: L, 0, hi, _, he => by unfold dueL; rw [if_pos (by simpa using he)]; rfl
  | e :: L, i + 1, hi, hno, he => by
    unfold dueL
    have := hno 0 (by simp) (by omega)
    rw [if_neg (by simpa using this)]
    have h2 := dueL_idx (L := L) (i := i) (by simpa using hi) (fun j h hj => by have := hno (j + 1) (by simpa using h) (by omega); simpa using this) (by simpa using he)
    simpa using h2
theorem rdue_spec (h : RRep H b L now a cap) (k : Int) : FnW Try.prog f_ref04_Wheel_Due ⟨[.pointer (some ⟨b, 0, none⟩), .int .i64 k]⟩ H fun v H' => v = .tuple ⟨[.int .i64 ((dueL k L).getD 0), .bool (dueL k L).isSome]⟩ ∧ H = H' := by
  refine ref04_Wheel_Due_sh b k ?_
  unfold ref04_Wheel_Due_p
  have hl := h.len
  refine LoopI.intro (fun m s H3 => ∃ i : Nat, s = ((i : Int), ()) ∧ i ≤ L.length ∧ m = L.length - i ∧ H = H3 ∧ ∀ j (h : j < L.length), j < i → L[j].1 ≠ k) L.length ⟨0, rfl, Nat.zero_le _, by omega, rfl, fun j _ h => by omega⟩ ?_
  rintro m s _ ⟨i, rfl, hi, rfl, rfl, hno⟩ g
  unfold ref04_Wheel_Due_l2
  dsimp only
  refine ⟨_, _, _, h.head, ?_⟩
  by_cases hlt : i < L.length
  · rw [decide_eq_true (by omega), IfB_true]
    obtain ⟨m, rfl, c0, c1⟩ := h.pair hlt
    refine ⟨_, _, _, h.head, NilP.intro _ rfl (InB.intro i rfl hlt ?_)⟩
    rw [elemAt_none]
    refine ⟨_, c0, ?_⟩
    by_cases he : L[i].1 = k
    · rw [show (L[i].1 == k) = true by simp [he], IfB_true]
      refine ⟨_, _, _, h.head, NilP.intro _ rfl (InB.intro i rfl hlt ?_)⟩
      rw [elemAt_none]
      refine ⟨_, c1, fun H2 hs => ⟨?_, shutE hs⟩⟩
      rw [dueL_idx hlt hno he]; rfl
    · rw [show (L[i].1 == k) = false by simp [he], IfB_false, wrap_id (by omega) (by omega)]
      refine ⟨L.length - (i + 1), by omega, i + 1, by simp, by omega, rfl, rfl, fun j hj hji => ?_⟩
      by_cases e : j = i
      · subst e; exact he
      · exact hno j hj (by omega)
  · rw [decide_eq_false (by omega), IfB_false]
    refine fun H2 hs => ⟨?_, shutE hs⟩
    have : dueL k L = none := due_none.2 fun e he => by
      obtain ⟨j, hj, rfl⟩ := List.mem_iff_getElem.1 he
      exact hno j hj (by omega)
    rw [this]; rfl

theorem rnext_spec (h : RRep H b L now a cap) : FnW Try.prog f_ref04_Wheel_Next ⟨[.pointer (some ⟨b, 0, none⟩)]⟩ H fun v H' => v = .tuple ⟨[.int .i64 ((minL L).getD 0), .bool (minL L).isSome]⟩ ∧ H = H' := by
  refine ref04_Wheel_Next_sh b ?_
  unfold ref04_Wheel_Next_p
  have hl := h.len
  refine LoopI.intro (fun m s H3 => ∃ i : Nat, s = (s.1, (i : Int), ()) ∧ i ≤ L.length ∧ m = L.length - i ∧ H = H3 ∧ s.1 = (minL (L.take i)).getD (-1)) L.length ⟨0, rfl, Nat.zero_le _, by omega, rfl, rfl⟩ ?_
  rintro m ⟨best, i', _⟩ _ ⟨i, hs, hi, rfl, rfl, hb⟩ g
  simp only [Prod.mk.injEq, true_and, and_true] at hs hb
  subst hs
  unfold ref04_Wheel_Next_l3
  dsimp only
  refine ⟨_, _, _, h.head, ?_⟩
  have hpos : ∀ {i : Nat} {m : Int}, minL (L.take i) = some m → 0 ≤ m := by
    intro i m hm
    obtain ⟨e, he, rfl⟩ := min_mem hm
    exact (h.pos e (List.mem_of_mem_take he)).1
  by_cases hlt : i < L.length
  · rw [decide_eq_true (by omega), IfB_true]
    obtain ⟨m, rfl, c0, c1⟩ := h.pair hlt
    have hp := (h.pos _ (List.getElem_mem hlt)).1
    have e1 : L.take (i + 1) = L.take i ++ [L[i]] := List.take_succ_eq_append_getElem hlt
    have e2 : minL (L.take (i + 1)) = minL (L[i] :: L.take i) := by
      rw [e1]; exact min_perm List.perm_append_comm
    unfold ref04_Wheel_Next_j0 ref04_Wheel_Next_j1
    have nx : ∀ best' : Int, minL (L.take (i + 1)) = some best' → (fun x H' => ∃ k', k' < L.length - i ∧ ∃ i : Nat, x = (x.1, (i : Int), ()) ∧ i ≤ L.length ∧ k' = L.length - i ∧ H = H' ∧ x.1 = (minL (L.take i)).getD (-1)) ((best', ((IntKind.wrap .i64 ((i : Int) + 1)), ())) : Int × Int × Unit) H := by
      intro best' hb'
      refine ⟨L.length - (i + 1), by omega, i + 1, ?_, by omega, rfl, rfl, by simp only; rw [hb']; rfl⟩
      simp only [wrap_id (n := (i : Int) + 1) (by omega) (by omega)]
      simp
    cases hm : minL (L.take i) with
    | none =>
      rw [hm] at hb
      have hb : best = -1 := hb
      subst hb
      rw [show decide ((-1 : Int) < 0) = true from rfl, IfB_true, IfB_true]
      refine ⟨_, _, _, h.head, NilP.intro _ rfl (InB.intro i rfl hlt ?_)⟩
      rw [elemAt_none]
      refine ⟨_, c1, nx _ ?_⟩
      rw [e2]; unfold minL; rw [hm]
    | some m0 =>
      rw [hm] at hb
      have hb : best = m0 := hb
      subst hb
      have := hpos hm
      rw [decide_eq_false (by omega), IfB_false]
      refine ⟨_, _, _, h.head, NilP.intro _ rfl (InB.intro i rfl hlt ?_)⟩
      rw [elemAt_none]
      refine ⟨_, c1, ?_⟩
      have e3 : minL (L.take (i + 1)) = some (min L[i].2 best) := by rw [e2]; unfold minL; rw [hm]
      by_cases hlt2 : L[i].2 < best
      · rw [decide_eq_true hlt2, IfB_true]
        refine ⟨_, _, _, h.head, NilP.intro _ rfl (InB.intro i rfl hlt ?_)⟩
        rw [elemAt_none]
        refine ⟨_, c1, nx _ ?_⟩
        rw [e3]; congr 1; omega
      · rw [decide_eq_false hlt2, IfB_false]
        refine nx _ ?_
        rw [e3]; congr 1; omega
  · rw [decide_eq_false (by omega), IfB_false]
    have hie : i = L.length := by omega
    subst hie
    rw [List.take_length] at hb
    refine fun H2 hs => ⟨?_, shutE hs⟩
    cases hm : minL L with
    | none =>
      rw [hm] at hb
      have hb : best = -1 := hb
      subst hb; rfl
    | some m0 =>
      rw [hm] at hb
      have hb : best = m0 := hb
      subst hb
      have := hpos (i := L.length) (m := best) (by rw [List.take_length]; exact hm)
      rw [show max 0 best = best by omega, decide_eq_true (by omega)]; rfl

/-- Those without a key, in a row of their own. -/
theorem rwo_spec (h : RRep H b L now a cap) (k : Int) : FnW Try.prog f_ref04_Wheel_without ⟨[.pointer (some ⟨b, 0, none⟩), .int .i64 k]⟩ H fun v H' => Keep Nil H H' ∧ ∃ a' cap', v = .slice a' (wo L k).length cap' ∧ Sh.Own H H' a' (wo L k).length cap' 2 T_ref04_Timer (prs (wo L k)) := by
  refine ref04_Wheel_without_sh b k ?_
  unfold ref04_Wheel_without_p
  have hl := h.len
  refine NewW.intro fun w hw => ?_
  have k1 : Keep Nil H (H.upd w (.cells ⟨[]⟩ T_ref04_Timer (0, 0))) := (Keep.refl _ _).new hw
  refine LoopI.intro (fun m s H3 => ∃ (i : Nat) (a' : Option Addr) (cap' : Nat), s = ((a', (wo (L.take i) k).length, cap'), (i : Int), ()) ∧ i ≤ L.length ∧ m = L.length - i ∧ Keep Nil H H3 ∧ Sh.Own H H3 a' (wo (L.take i) k).length cap' 2 T_ref04_Timer (prs (wo (L.take i) k))) L.length
    ⟨0, some ⟨w, 0, none⟩, 0, rfl, Nat.zero_le _, by omega, k1, Sh.Own.start hw Blk.upd_eq⟩ ?_
  rintro m s H3 ⟨i, a', cap', rfl, hi, rfl, kp, ho⟩ g
  unfold ref04_Wheel_without_l3
  dsimp only
  have h3 := h.keep kp fun _ _ h => h
  refine ⟨_, _, _, h3.head, ?_⟩
  by_cases hlt : i < L.length
  · rw [decide_eq_true (by omega), IfB_true]
    obtain ⟨m, rfl, c0, c1⟩ := h3.pair hlt
    refine ⟨_, _, _, h3.head, NilP.intro _ rfl (InB.intro i rfl hlt ?_)⟩
    rw [elemAt_none]
    refine ⟨_, c0, ?_⟩
    have e1 : L.take (i + 1) = L.take i ++ [L[i]] := List.take_succ_eq_append_getElem hlt
    unfold ref04_Wheel_without_j0
    by_cases he : L[i].1 = k
    · rw [show (L[i].1 != k) = false by simp [he], IfB_false, wrap_id (by omega) (by omega)]
      have e2 : wo (L.take (i + 1)) k = wo (L.take i) k := by rw [e1]; unfold wo; rw [List.filter_append, List.filter_cons_of_neg (by simpa using he)]; simp
      exact ⟨L.length - (i + 1), by omega, i + 1, a', cap', by rw [e2]; simp, by omega, rfl, kp, by rw [e2]; exact ho⟩
    · rw [show (L[i].1 != k) = true by simp [he], IfB_true]
      have e2 : wo (L.take (i + 1)) k = wo (L.take i) k ++ [L[i]] := by rw [e1]; unfold wo; rw [List.filter_append, List.filter_cons_of_pos (by simpa using he)]; simp
      refine ⟨_, _, _, h3.head, NilP.intro _ rfl (InB.intro i rfl hlt ?_)⟩
      rw [elemAt_none]
      refine ⟨_, c0, _, c1, NewW.intro fun v hv => ?_⟩
      have kv : Keep Nil H3 (H3.upd v (.cells ⟨[.int .i64 L[i].1, .int .i64 L[i].2]⟩ T_ref04_Timer (0, 0))) := (Keep.refl _ _).new hv
      have hV : Blk (H3.upd v (.cells ⟨[.int .i64 L[i].1, .int .i64 L[i].2]⟩ T_ref04_Timer (0, 0))) v T_ref04_Timer ⟨[.int .i64 L[i].1, .int .i64 L[i].2]⟩ := Blk.upd_eq
      generalize H3.upd v (.cells ⟨[.int .i64 L[i].1, .int .i64 L[i].2]⟩ T_ref04_Timer (0, 0)) = H4 at kv hV
      obtain ⟨it, hit, hsz, hby⟩ := row_rtimer.info
      have hwl : (wo (L.take i) k).length ≤ 256 := by
        have := len_wo_le (L.take i) k
        rw [List.length_take] at this; omega
      refine own_append2 (H0 := H) (S := Nil) und_sl_rtimer und_sl_rtimer hit hsz hby (by omega) row_rtimer.zero rfl (ho.keep kv fun _ _ h => h) (kp.trans kv) (new := [.int .i64 L[i].1, .int .i64 L[i].2]) (Reads.blk hV rfl fun j hj => by rw [Nat.zero_add]; simp)
        (by intro v hv; simp only [List.mem_cons, List.not_mem_nil, or_false] at hv; rcases hv with rfl | rfl <;> rfl) (by omega) fun a2 cap2 H5 _ ho5 _ _ kk5 => ?_
      refine ⟨_, _, _, rfl, ?_⟩
      rw [wrap_id (by omega) (by omega)]
      refine ⟨L.length - (i + 1), by omega, i + 1, a2, cap2, by rw [e2]; simp, by omega, rfl, kk5, ?_⟩
      rw [e2, prs_append, List.length_append]
      exact ho5
  · rw [decide_eq_false (by omega), IfB_false]
    have hie : i = L.length := by omega
    subst hie
    rw [List.take_length] at *
    exact fun H2 hs => ⟨shutS kp hs, a', cap', rfl, shutO ho hs⟩

/-- What is due at a time is taken; its keys. -/
theorem rat_spec (h : RRep H b L now a cap) (t : Int) : FnW Try.prog f_ref04_Wheel_at ⟨[.pointer (some ⟨b, 0, none⟩), .int .i64 t]⟩ H fun v H' => Keep (fun x => x = b) H H' ∧ (∃ a' cap', v = .slice a' (keysAt L t).length cap' ∧ Sh.Own H H' a' (keysAt L t).length cap' 1 T_int (iv (keysAt L t))) ∧
      ∃ a2 cap2, RRep H' b (restAt L t) now a2 cap2 ∧ ∀ x, a2 = some ⟨x, 0, none⟩ → H x = none := by
  refine ref04_Wheel_at_sh b t ?_
  unfold ref04_Wheel_at_p
  have hl := h.len
  refine NewW.intro fun w hw => ?_
  have k1 : Keep Nil H (H.upd w (.cells ⟨[]⟩ T_int (0, 0))) := (Keep.refl _ _).new hw
  refine NewW.intro fun u hu => ?_
  have k2 : Keep Nil (H.upd w (.cells ⟨[]⟩ T_int (0, 0))) ((H.upd w (.cells ⟨[]⟩ T_int (0, 0))).upd u (.cells ⟨[]⟩ T_ref04_Timer (0, 0))) := (Keep.refl _ _).new hu
  have hwu : w ≠ u := fun e => by subst e; rw [upd_eq] at hu; cases hu
  refine LoopI.intro (fun m s H3 => ∃ (i : Nat) (a1 : Option Addr) (cap1 : Nat) (a2 : Option Addr) (cap2 : Nat), s = ((a1, (keysAt (L.take i) t).length, cap1), (a2, (restAt (L.take i) t).length, cap2), (i : Int), ()) ∧ i ≤ L.length ∧ m = L.length - i ∧ Keep Nil H H3 ∧
      Sh.Own H H3 a1 (keysAt (L.take i) t).length cap1 1 T_int (iv (keysAt (L.take i) t)) ∧ Sh.Own H H3 a2 (restAt (L.take i) t).length cap2 2 T_ref04_Timer (prs (restAt (L.take i) t))) L.length
    ⟨0, some ⟨w, 0, none⟩, 0, some ⟨u, 0, none⟩, 0, rfl, Nat.zero_le _, by omega, k1.trans k2, (Sh.Own.start hw (Blk.upd_ne Blk.upd_eq hwu)), Sh.Own.start (k1.free hu) Blk.upd_eq⟩ ?_
  rintro m s H3 ⟨i, a1, cap1, a2, cap2, rfl, hi, rfl, kp, ho1, ho2⟩ g
  unfold ref04_Wheel_at_l3
  dsimp only
  have h3 := h.keep kp fun _ _ h => h
  have h12 : ∀ x, a1 = some ⟨x, 0, none⟩ → a2 ≠ some ⟨x, 0, none⟩ := fun x hx hy => by
    obtain ⟨_, e1⟩ := ho1.live hx
    obtain ⟨_, e2⟩ := ho2.live hy
    unfold Blk at e1 e2
    rw [e1] at e2
    simp only [Option.some.injEq, Obj.cells.injEq] at e2
    exact absurd e2.2.1 (by decide)
  have hk1 : (keysAt (L.take i) t).length ≤ 256 := by
    unfold keysAt
    rw [List.length_map]
    have := List.length_filter_le (fun e : Ent => decide (e.2 = t)) (L.take i)
    rw [List.length_take] at this; omega
  have hk2 : (restAt (L.take i) t).length ≤ 256 := by
    unfold restAt
    have := List.length_filter_le (fun e : Ent => decide (e.2 ≠ t)) (L.take i)
    rw [List.length_take] at this; omega
  refine ⟨_, _, _, h3.head, ?_⟩
  by_cases hlt : i < L.length
  · rw [decide_eq_true (by omega), IfB_true]
    obtain ⟨m, ham, c0, c1⟩ := h3.pair hlt
    refine ⟨_, _, _, h3.head, NilP.intro _ ham (InB.intro i rfl hlt ?_)⟩
    rw [elemAt_none]
    refine ⟨_, c1, ?_⟩
    have e1 : L.take (i + 1) = L.take i ++ [L[i]] := List.take_succ_eq_append_getElem hlt
    unfold ref04_Wheel_at_j0
    by_cases he : L[i].2 = t
    · rw [show (L[i].2 == t) = true by simp [he], IfB_true]
      have e2 : keysAt (L.take (i + 1)) t = keysAt (L.take i) t ++ [L[i].1] := by rw [e1]; unfold keysAt; rw [List.filter_append, List.filter_cons_of_pos (by simpa using he), List.map_append]; simp
      have e3 : restAt (L.take (i + 1)) t = restAt (L.take i) t := by rw [e1]; unfold restAt; rw [List.filter_append, List.filter_cons_of_neg (by simpa using he)]; simp
      refine ⟨_, _, _, h3.head, NilP.intro _ ham (InB.intro i rfl hlt ?_)⟩
      rw [elemAt_none]
      refine ⟨_, c0, NewW.intro fun v hv => ?_⟩
      have kv : Keep Nil H3 (H3.upd v (.cells ⟨[.int .i64 L[i].1]⟩ T_int (0, 0))) := (Keep.refl _ _).new hv
      have hV : Blk (H3.upd v (.cells ⟨[.int .i64 L[i].1]⟩ T_int (0, 0))) v T_int ⟨[.int .i64 L[i].1]⟩ := Blk.upd_eq
      generalize H3.upd v (.cells ⟨[.int .i64 L[i].1]⟩ T_int (0, 0)) = H4 at kv hV
      obtain ⟨it, hit, hsz, hby⟩ := row_int.info
      refine own_append2 (H0 := H) (S := Nil) und_sl_int und_sl_int hit hsz hby (by omega) row_int.zero rfl (ho1.keep kv fun _ _ h => h) (kp.trans kv) (new := [.int .i64 L[i].1]) (Reads.blk hV rfl fun j hj => by rw [Nat.zero_add]; simp)
        (by intro v hv; simp only [List.mem_singleton] at hv; subst hv; rfl) (by omega) fun a3 cap3 H5 _ ho5 hn5 k5 kk5 => ?_
      refine ⟨_, _, _, rfl, ?_⟩
      rw [wrap_id (by omega) (by omega)]
      refine ⟨L.length - (i + 1), by omega, i + 1, a3, cap3, a2, cap2, by rw [e2, e3]; simp, by omega, rfl, kk5, ?_, ?_⟩
      · rw [e2, iv_append, List.length_append]; exact ho5
      · rw [e3]; exact (ho2.keep kv fun _ _ h => h).keep k5 fun x hx hy => h12 x hy hx
    · rw [show (L[i].2 == t) = false by simp [he], IfB_false]
      have e2 : keysAt (L.take (i + 1)) t = keysAt (L.take i) t := by rw [e1]; unfold keysAt; rw [List.filter_append, List.filter_cons_of_neg (by simpa using he)]; simp
      have e3 : restAt (L.take (i + 1)) t = restAt (L.take i) t ++ [L[i]] := by rw [e1]; unfold restAt; rw [List.filter_append, List.filter_cons_of_pos (by simpa using he)]; simp
      refine ⟨_, _, _, h3.head, NilP.intro _ ham (InB.intro i rfl hlt ?_)⟩
      rw [elemAt_none]
      refine ⟨_, c0, _, c1, NewW.intro fun v hv => ?_⟩
      have kv : Keep Nil H3 (H3.upd v (.cells ⟨[.int .i64 L[i].1, .int .i64 L[i].2]⟩ T_ref04_Timer (0, 0))) := (Keep.refl _ _).new hv
      have hV : Blk (H3.upd v (.cells ⟨[.int .i64 L[i].1, .int .i64 L[i].2]⟩ T_ref04_Timer (0, 0))) v T_ref04_Timer ⟨[.int .i64 L[i].1, .int .i64 L[i].2]⟩ := Blk.upd_eq
      generalize H3.upd v (.cells ⟨[.int .i64 L[i].1, .int .i64 L[i].2]⟩ T_ref04_Timer (0, 0)) = H4 at kv hV
      obtain ⟨it, hit, hsz, hby⟩ := row_rtimer.info
      refine own_append2 (H0 := H) (S := Nil) und_sl_rtimer und_sl_rtimer hit hsz hby (by omega) row_rtimer.zero rfl (ho2.keep kv fun _ _ h => h) (kp.trans kv) (new := [.int .i64 L[i].1, .int .i64 L[i].2]) (Reads.blk hV rfl fun j hj => by rw [Nat.zero_add]; simp)
        (by intro v hv; simp only [List.mem_cons, List.not_mem_nil, or_false] at hv; rcases hv with rfl | rfl <;> rfl) (by omega) fun a3 cap3 H5 _ ho5 _ k5 kk5 => ?_
      refine ⟨_, _, _, rfl, ?_⟩
      rw [wrap_id (by omega) (by omega)]
      refine ⟨L.length - (i + 1), by omega, i + 1, a1, cap1, a3, cap3, by rw [e2, e3]; simp, by omega, rfl, kk5, ?_, ?_⟩
      · rw [e2]; exact (ho1.keep kv fun _ _ h => h).keep k5 fun x hx hy => h12 x hx hy
      · rw [e3, prs_append, List.length_append]; exact ho5
  · rw [decide_eq_false (by omega), IfB_false]
    have hie : i = L.length := by omega
    subst hie
    rw [List.take_length] at *
    have hb1 : ∀ x, a1 = some ⟨x, 0, none⟩ → x ≠ b := fun x hx e => by subst e; exact h.blk.some (ho1.free hx)
    have hb2 : ∀ x, a2 = some ⟨x, 0, none⟩ → x ≠ b := fun x hx e => by subst e; exact h.blk.some (ho2.free hx)
    refine StCell.blk h3.blk (by simp) rfl ?_
    have k5 : Keep (fun x => x = b) H3 (H3.upd b (.cells ((⟨[.slice a L.length cap, .int .i64 now]⟩ : Array Value).setIfInBounds 0 (.slice a2 (restAt L t).length cap2)) T_ref04_Wheel (0, 0))) := (Keep.refl _ _).upd (.inl rfl)
    have hB5 : Blk (H3.upd b (.cells ((⟨[.slice a L.length cap, .int .i64 now]⟩ : Array Value).setIfInBounds 0 (.slice a2 (restAt L t).length cap2)) T_ref04_Wheel (0, 0))) b T_ref04_Wheel ⟨[.slice a2 (restAt L t).length cap2, .int .i64 now]⟩ := Blk.upd_eq
    generalize H3.upd b (.cells ((⟨[.slice a L.length cap, .int .i64 now]⟩ : Array Value).setIfInBounds 0 (.slice a2 (restAt L t).length cap2)) T_ref04_Wheel (0, 0)) = H5 at k5 hB5
    have kk : Keep (fun x => x = b) H H5 := (kp.mono fun _ h => h.elim).trans k5
    refine fun H2 hs => ⟨shutS kk hs, ⟨a1, cap1, rfl, shutO (ho1.keep k5 hb1) hs⟩, a2, cap2, ?_, fun x hx => ho2.free hx⟩
    have hR : RRep H5 b (restAt L t) now a2 cap2 := ⟨up_filter h.up _, Nat.le_trans (List.length_filter_le _ _) hl, fun e he => h.pos e (List.mem_filter.1 he).1, hB5, (ho2.keep k5 hb2).toEmp⟩
    exact hR.shut hs
end
end Go.Proofs.Ytdhjglkacnhhcaa
