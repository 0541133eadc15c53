/-
  Layer 4: an act to both wheels; that they are alike; the example.
-/
import Derived.Test.YtdhjglkacnhhcaaWh8
set_option linter.all false
set_option maxRecDepth 100000
namespace Go.Proofs.Ytdhjglkacnhhcaa
open Go.Sh Go.Wheel

/-- A wheel of the program's and one of the document's, apart. -/
structure Pair (H0 H : Heap) (x y : Nat) (F G : Nat → Prop) (M N : WM) : Prop where
  w : WAt H x F M
  r : RAt H y G N
  ap : ∀ z, F z → ¬ G z
  fw : ∀ z, F z → H0 z = none
  fr : ∀ z, G z → H0 z = none
  keep : Keep Nil H0 H
section
variable {H0 H H' : Heap} {x y : Nat} {F G F' G' : Nat → Prop} {M N M' N' : WM}
theorem Pair.keepN (h : Pair H0 H x y F G M N) (k : Keep Nil H H') : Pair H0 H' x y F G M N :=
  { h with w := h.w.keep k fun _ _ h => h, r := h.r.keep k fun _ _ h => h, keep := h.keep.trans k }
theorem Pair.stepW (h : Pair H0 H x y F G M N) (w : WAt H' x F' M') (s : Stp F H H' F') : Pair H0 H' x y F' G M' N :=
  ⟨w, h.r.keep s.keep fun z hz hf => h.ap z hf hz, fun z hz hg => by
    rcases s.new z hz with h1 | h1
    · exact h.ap z h1 hg
    · exact h.r.live hg h1, fun z hz => by
    rcases s.new z hz with h1 | h1
    · exact h.fw z h1
    · exact h.keep.free h1, h.fr, h.keep.then s.keep fun z hz => .inr (h.fw z hz)⟩
theorem Pair.stepR (h : Pair H0 H x y F G M N) (r : RAt H' y G' N') (s : Stp G H H' G') : Pair H0 H' x y F G' M N' :=
  ⟨h.w.keep s.keep fun z hz hf => h.ap z hz hf, r, fun z hz hg => by
    rcases s.new z hg with h1 | h1
    · exact h.ap z hz h1
    · exact h.w.live hz h1, h.fw, fun z hz => by
    rcases s.new z hz with h1 | h1
    · exact h.fr z h1
    · exact h.keep.free h1, h.keep.then s.keep fun z hz => .inr (h.fr z hz)⟩
theorem Pair.shut {Hs : Heap} (h : Pair H0 H x y F G M N) (k : Keep Nil H0 Hs) (hs : Shut Hs H H') : Pair H0 H' x y F G M N := by
  obtain ⟨c, mb, es, ck, R, hw, rfl⟩ := h.w
  obtain ⟨a, cap, hr, rfl⟩ := h.r
  refine ⟨⟨c, mb, es, ck, R, hw.shut hs, rfl⟩, ⟨a, cap, hr.shut hs, rfl⟩, h.ap, h.fw, h.fr, ⟨fun b hb ha => ?_, fun b ha => ?_⟩⟩
  · rcases hs b with e | ⟨e, _, _⟩
    · rw [e]; exact h.keep.same b hb ha
    · exact absurd e (k.live b ha)
  · rcases hs b with e | ⟨e, _, _⟩
    · rw [e]; exact h.keep.live b ha
    · exact absurd e (k.live b ha)
theorem Nums.keep {H1 : Heap} {v : Value} {ks : List Int} {S : Nat → Prop} (h : Nums H1 H v ks) (k : Keep S H H') (hs : ∀ z, H1 z = none → ¬ S z) : Nums H1 H' v ks := by
  obtain ⟨a, cap, rfl, ho⟩ := h
  exact ⟨a, cap, rfl, ho.keep k fun z hz => hs z (ho.free hz)⟩
theorem kept_of {S : Nat → Prop} {q : Nat} {T : TypeId} {c : Array Value} (k : Keep S H H') (h : Blk H q T c) (hs : ¬ S q) : KeptIn [q] H H' := fun z hz => by
  simp only [List.mem_singleton] at hz
  subst hz
  exact ⟨⟨_, h⟩, k.same _ hs h.some⟩
theorem cell_keep (k : Keep Nil H H') {a : Addr} {v : Value} (h : H.cell a = some v) : H'.cell a = some v := by
  unfold Heap.cell at *
  have : H a.block ≠ none := fun e => by rw [e] at h; cases h
  rw [k.same _ (fun h => h) this]; exact h

theorem do_spec (hsort : SortOk) (h : Pair H0 H x y F G M M) (ok : M.Ok) (d k n : Int) :
    FnW Try.prog f_law04_do ⟨[.pointer (some ⟨x, 0, none⟩), .pointer (some ⟨y, 0, none⟩), .agg ⟨[.int .i64 d, .int .i64 k, .int .i64 n]⟩]⟩ H fun v H' => v = .bool true ∧ ∃ F' G', Pair H0 H' x y F' G' (actM M d k n) (actM M d k n) := by
  refine law04_do_sh x y d k n ?_
  unfold law04_do_p
  have hk0 := h.keep
  refine NewW.intro fun q hq => ?_
  have kq : Keep Nil H (H.upd q (.cells ⟨[.int .i64 d, .int .i64 k, .int .i64 n]⟩ T_law04_Act (0, 0))) := (Keep.refl _ _).new hq
  have hQ : Blk (H.upd q (.cells ⟨[.int .i64 d, .int .i64 k, .int .i64 n]⟩ T_law04_Act (0, 0))) q T_law04_Act ⟨[.int .i64 d, .int .i64 k, .int .i64 n]⟩ := Blk.upd_eq
  generalize H.upd q (.cells ⟨[.int .i64 d, .int .i64 k, .int .i64 n]⟩ T_law04_Act (0, 0)) = H1 at kq hQ
  have h1 := h.keepN kq
  have hqF : ¬ F q := fun e => h.w.live e hq
  have hqG : ¬ G q := fun e => h.r.live e hq
  have c0 : ∀ {Hx : Heap}, Blk Hx q T_law04_Act ⟨[.int .i64 d, .int .i64 k, .int .i64 n]⟩ → Hx.cell ⟨q, 0, none⟩ = some (.int .i64 d) := fun h => by rw [h.cell]; rfl
  have c1 : ∀ {Hx : Heap}, Blk Hx q T_law04_Act ⟨[.int .i64 d, .int .i64 k, .int .i64 n]⟩ → Hx.cell ⟨q, 1, none⟩ = some (.int .i64 k) := fun h => by rw [h.cell]; rfl
  have c2 : ∀ {Hx : Heap}, Blk Hx q T_law04_Act ⟨[.int .i64 d, .int .i64 k, .int .i64 n]⟩ → Hx.cell ⟨q, 2, none⟩ = some (.int .i64 n) := fun h => by rw [h.cell]; rfl
  refine ⟨d, c0 hQ, (among_spec d (n := 7) (by omega) (by omega)).mono ?_⟩
  rintro _ _ ⟨rfl, rfl⟩
  refine ⟨_, rfl, ?_⟩
  have hlt := amongV_lt d (n := 7) (by omega)
  have fin : ∀ {H3 : Heap} {F3 G3 : Nat → Prop} {M3 : WM} {w : Bool}, w = true → Pair H0 H3 x y F3 G3 M3 M3 → M3 = actM M d k n → ∀ H2, Shut H H3 H2 → (Value.bool w = .bool true ∧ ∃ F' G', Pair H0 H2 x y F' G' (actM M d k n) (actM M d k n)) := by
    intro H3 F3 G3 M3 w hw hp hm H2 hs
    subst hw hm
    exact ⟨rfl, _, _, hp.shut hk0 hs⟩
  have hb : q ∈ [q] := List.mem_singleton.2 rfl
  have hbs : ∀ z ∈ [q], ∃ o, H1 z = some o := fun z hz => by simp only [List.mem_singleton] at hz; subst hz; exact ⟨_, hQ⟩
  have hact : actM M d k n = actR M k n (amongV d 7) := rfl
  generalize amongV d 7 = r at hlt hact
  by_cases e3 : r = 3
  · subst e3
    rw [show (((3 : Nat) : Int) == 3) = true from rfl, IfB_true]
    refine ⟨[q], hbs, k, c1 hQ, hb, k, c1 hQ, (wstop_spec h1.w k).mono ?_⟩
    rintro _ H3 ⟨rfl, F3, w3, s3⟩
    have h3 := h1.stepW w3 s3
    refine ⟨_, rfl, kept_of s3.keep hQ hqF, (rstop_spec h3.r k).mono ?_⟩
    rintro _ H4 ⟨rfl, G4, r4, s4⟩
    exact ⟨_, rfl, fin (by simp) (h3.stepR r4 s4) hact.symm⟩
  · rw [beqI_ne (a := ((r : Nat) : Int)) (b := 3) (by omega), IfB_false]
    have tick : (r = 4 ∨ r = 5) → law04_do_j0 x y q (r : Int) true H1 fun v H3 => ∀ H2, Shut H H3 H2 → v = .bool true ∧ ∃ F' G', Pair H0 H2 x y F' G' (actM M d k n) (actM M d k n) := by
      intro hr
      unfold law04_do_j0
      rw [IfB_true]
      refine (tick_spec hsort h1.w ok).mono ?_
      rintro _ H3 ⟨⟨s, rfl, hn3⟩, F3, w3, s3⟩
      have h3 := h1.stepW w3 s3
      obtain ⟨a, cap, rfl, ho⟩ := hn3
      refine ⟨_, _, _, _, rfl, (rtick_spec h3.r ok).mono ?_⟩
      rintro _ H4 ⟨⟨s', rfl, a', cap', rfl, ho'⟩, G4, r4, s4⟩
      have h4 := h3.stepR r4 s4
      have ho4 := ho.keep s4.keep fun z hz hg => h1.r.live hg (ho.free hz)
      refine ⟨_, _, _, _, rfl, (same_ints ho4 ho' (by have := skip_len_le M ok 1; omega)).mono ?_⟩
      rintro _ _ ⟨rfl, rfl⟩
      refine ⟨_, rfl, ?_⟩
      rw [decide_eq_true rfl, IfB_true]
      refine fin (by simp) h4 ?_
      rcases hr with rfl | rfl <;> exact hact.symm
    by_cases e4 : r = 4
    · subst e4
      rw [show (((4 : Nat) : Int) == 4) = true from rfl, IfB_true]
      exact tick (.inl rfl)
    · rw [beqI_ne (a := ((r : Nat) : Int)) (b := 4) (by omega), IfB_false]
      by_cases e5 : r = 5
      · subst e5
        rw [show (((5 : Nat) : Int) == 5) = true from rfl]
        exact tick (.inr rfl)
      · rw [beqI_ne (a := ((r : Nat) : Int)) (b := 5) (by omega)]
        unfold law04_do_j0
        rw [IfB_false]
        by_cases e6 : r = 6
        · subst e6
          rw [show (((6 : Nat) : Int) == 6) = true from rfl, IfB_true]
          refine ⟨n, c2 hQ, (skip_spec hsort h1.w ok n).mono ?_⟩
          rintro _ H3 ⟨⟨s, rfl, hn3⟩, F3, w3, s3⟩
          have h3 := h1.stepW w3 s3
          obtain ⟨a, cap, rfl, ho⟩ := hn3
          refine ⟨_, _, _, _, rfl, n, c2 (s3.keep.blk hQ hqF), (rskip_spec h3.r ok n).mono ?_⟩
          rintro _ H4 ⟨⟨s', rfl, a', cap', rfl, ho'⟩, G4, r4, s4⟩
          have h4 := h3.stepR r4 s4
          have ho4 := ho.keep s4.keep fun z hz hg => h1.r.live hg (ho.free hz)
          refine ⟨_, _, _, _, rfl, (same_ints ho4 ho' (by have := skip_len_le M ok n; omega)).mono ?_⟩
          rintro _ _ ⟨rfl, rfl⟩
          refine ⟨_, rfl, ?_⟩
          rw [decide_eq_true rfl, IfB_true]
          exact fin (by simp) h4 hact.symm
        · rw [beqI_ne (a := ((r : Nat) : Int)) (b := 6) (by omega), IfB_false]
          refine ⟨[q], hbs, k, c1 hQ, n, c2 hQ, hb, k, c1 hQ, hb, n, c2 hQ, (wset_spec h1.w ok k n).mono ?_⟩
          rintro _ H3 ⟨rfl, F3, w3, s3⟩
          have h3 := h1.stepW w3 s3
          refine ⟨_, rfl, kept_of s3.keep hQ hqF, (rset_spec h3.r ok k n).mono ?_⟩
          rintro _ H4 ⟨rfl, G4, r4, s4⟩
          refine ⟨_, rfl, fin (by simp) (h3.stepR r4 s4) ?_⟩
          rw [hact]
          unfold actR
          split <;> first | omega | rfl

theorem same_spec (h : Pair H0 H x y F G M M) (ok : M.Ok) : FnW Try.prog f_law04_same ⟨[.pointer (some ⟨x, 0, none⟩), .pointer (some ⟨y, 0, none⟩)]⟩ H fun v H' => v = .bool true ∧ Keep Nil H H' := by
  refine law04_same_sh x y ?_
  unfold law04_same_p
  have hl := ok.len
  refine (wnext_spec h.w).mono ?_
  rintro _ H1 ⟨rfl, k1⟩
  have h1 := h.keepN k1
  refine ⟨_, _, rfl, ?_⟩
  obtain ⟨a, cap, hr, rfl⟩ := h1.r
  refine (rnext_spec hr).mono ?_
  rintro _ _ ⟨rfl, rfl⟩
  refine ⟨_, _, rfl, [y], fun z hz => by simp only [List.mem_singleton] at hz; subst hz; exact ⟨_, hr.blk⟩, List.mem_singleton.2 rfl, M.now, hr.time, (wnow_spec h1.w).mono ?_⟩
  rintro _ _ ⟨rfl, rfl⟩
  refine ⟨_, rfl, kept_of (Keep.refl Nil _) hr.blk (fun h => h), ?_⟩
  rw [show (M.now != M.now) = false by simp, IfB_false]
  refine ⟨List.mem_singleton.2 rfl, _, _, _, hr.head, (wlen_spec h1.w).mono ?_⟩
  rintro _ _ ⟨rfl, rfl⟩
  refine ⟨_, rfl, kept_of (Keep.refl Nil _) hr.blk (fun h => h), ?_⟩
  rw [show (((M.L.length : Nat) : Int) != ((M.L.length : Nat) : Int)) = false by simp, IfB_false, show (((minL M.L).getD 0) != ((minL M.L).getD 0)) = false by simp, IfB_false]
  unfold law04_same_j0
  rw [show (!((minL M.L).isSome == (minL M.L).isSome)) = false by simp, IfB_false]
  refine LoopI.intro (fun m s H3 => ∃ i : Nat, s = ((i : Int), ()) ∧ i ≤ M.L.length ∧ m = M.L.length - i ∧ H1 = H3) M.L.length ⟨0, rfl, Nat.zero_le _, by omega, rfl⟩ ?_
  rintro m s _ ⟨i, rfl, hi, rfl, rfl⟩ g
  unfold law04_same_l6
  dsimp only
  refine ⟨_, _, _, hr.head, ?_⟩
  by_cases hlt : i < M.L.length
  · rw [decide_eq_true (by omega), IfB_true]
    obtain ⟨m, rfl, c0, c1⟩ := hr.pair hlt
    refine ⟨_, _, _, hr.head, NilP.intro _ rfl (InB.intro i rfl hlt ?_)⟩
    rw [elemAt_none]
    refine ⟨_, c0, (wdue_spec h1.w _).mono ?_⟩
    rintro _ _ ⟨rfl, rfl⟩
    have hd : dueL (M.L[i]).1 M.L = some (M.L[i]).2 := due_of ok.up (List.getElem_mem hlt)
    rw [hd]
    refine ⟨_, _, rfl, _, _, _, hr.head, NilP.intro _ rfl (InB.intro i rfl hlt ?_)⟩
    rw [elemAt_none]
    refine ⟨_, c1, ?_⟩
    unfold law04_same_j1
    rw [show (((some (M.L[i]).2).getD 0) != (M.L[i]).2) = false by simp, IfB_false, show (!((some (M.L[i]).2).isSome)) = false from rfl, IfB_false, wrap_id (by omega) (by omega)]
    exact ⟨M.L.length - (i + 1), by omega, i + 1, by simp, by omega, rfl, rfl⟩
  · rw [decide_eq_false (by omega), IfB_false]
    exact fun H2 hs => ⟨rfl, shutS k1 hs⟩

theorem works_spec (hsort : SortOk) : FnW Try.prog f_law04_works ⟨[]⟩ H fun v H' => v = .bool true ∧ Keep Nil H H' := by
  refine law04_works_sh ?_
  unfold law04_works_p
  refine new_spec.mono ?_
  rintro _ H1 ⟨b, F1, rfl, w1, k1, f1⟩
  refine ⟨_, rfl, ?_⟩
  rw [show (some (⟨b, 0, none⟩ : Addr)).isNone = false from rfl, IfB_false]
  have fr : ∀ {F F' : Nat → Prop} {Ha Hb : Heap}, (∀ z, F z → H z = none) → Keep Nil H Ha → Stp F Ha Hb F' → (∀ z, F' z → H z = none) ∧ Keep Nil H Hb := fun hf hk s =>
    ⟨fun z hz => (s.new z hz).elim (hf z) fun h => hk.free h, hk.then s.keep fun z hz => .inr (hf z hz)⟩
  refine (wset_spec w1 ok0 7 2).mono ?_
  rintro _ H2 ⟨rfl, F2, w2, s2⟩
  have e2 : WM.set ⟨[], 0⟩ 7 2 = (0, ⟨[(7, 2)], 0⟩) := rfl
  rw [e2] at w2 ⊢
  obtain ⟨f2, k2⟩ := fr f1 k1 s2
  have ok2 : (⟨[(7, 2)], 0⟩ : WM).Ok := by have := ok0.set 7 2; rw [e2] at this; exact this
  refine ⟨_, rfl, (wset_spec w2 ok2 3 2).mono ?_⟩
  rintro _ H3 ⟨rfl, F3, w3, s3⟩
  have e3 : WM.set ⟨[(7, 2)], 0⟩ 3 2 = (0, ⟨[(3, 2), (7, 2)], 0⟩) := rfl
  rw [e3] at w3 ⊢
  obtain ⟨f3, k3⟩ := fr f2 k2 s3
  have ok3 : (⟨[(3, 2), (7, 2)], 0⟩ : WM).Ok := by have := ok2.set 3 2; rw [e3] at this; exact this
  refine ⟨_, rfl, (tick_spec hsort w3 ok3).mono ?_⟩
  rintro _ H4 ⟨⟨s, rfl, a4, cap4, rfl, ho4⟩, F4, w4, s4⟩
  have e4 : WM.skip ⟨[(3, 2), (7, 2)], 0⟩ 1 = ([], 0, ⟨[(3, 2), (7, 2)], 1⟩) := rfl
  rw [e4] at w4 ho4 ⊢
  obtain ⟨f4, k4⟩ := fr f3 k3 s4
  have ok4 : (⟨[(3, 2), (7, 2)], 1⟩ : WM).Ok := by have := ok3.skip 1; rw [e4] at this; exact this
  refine ⟨_, _, _, _, rfl, (tick_spec hsort w4 ok4).mono ?_⟩
  rintro _ H5 ⟨⟨s, rfl, a5, cap5, rfl, ho5⟩, F5, w5, s5⟩
  have e5 : WM.skip ⟨[(3, 2), (7, 2)], 1⟩ 1 = ([3, 7], 0, ⟨[], 2⟩) := rfl
  rw [e5] at w5 ho5 ⊢
  obtain ⟨f5, k5⟩ := fr f4 k4 s5
  refine ⟨_, _, _, _, rfl, ?_⟩
  rw [show ((((([] : List Int).length : Nat) : Int)) == 0) = true from rfl, IfB_true, show ((0 : Int) == 0) = true from rfl, IfB_true]
  refine NewW.intro fun q hq => ?_
  have kq : Keep Nil H5 (H5.upd q (.cells ⟨[.int .i64 3, .int .i64 7]⟩ T_int (0, 0))) := (Keep.refl _ _).new hq
  have hQ : Blk (H5.upd q (.cells ⟨[.int .i64 3, .int .i64 7]⟩ T_int (0, 0))) q T_int ⟨[.int .i64 3, .int .i64 7]⟩ := Blk.upd_eq
  generalize H5.upd q (.cells ⟨[.int .i64 3, .int .i64 7]⟩ T_int (0, 0)) = H6 at kq hQ
  have hoQ : Sh.Own H5 H6 (some ⟨q, 0, none⟩) 2 2 1 T_int (iv [3, 7]) := Sh.Own.row hq hQ rfl
  have w6 := w5.keep kq fun _ _ h => h
  refine (same_ints (l := [3, 7]) (l' := [3, 7]) (ho5.keep kq fun _ _ h => h) hoQ (by simp)).mono ?_
  rintro _ _ ⟨rfl, rfl⟩
  refine ⟨_, rfl, ?_⟩
  rw [decide_eq_true rfl, IfB_true, IfB_true]
  refine (wnow_spec w6).mono ?_
  rintro _ _ ⟨rfl, rfl⟩
  exact ⟨_, rfl, fun H2 hs => ⟨rfl, shutS (k5.trans kq) hs⟩⟩
end
end Go.Proofs.Ytdhjglkacnhhcaa
