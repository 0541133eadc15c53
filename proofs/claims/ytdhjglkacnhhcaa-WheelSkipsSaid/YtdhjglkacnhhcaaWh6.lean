/-
  Layer 4: wheels are made, and go on.
-/
import Derived.Test.YtdhjglkacnhhcaaWh5
set_option linter.all false
set_option maxRecDepth 100000
namespace Go.Proofs.Ytdhjglkacnhhcaa
open Go.Sh Go.Wheel

theorem zl_wheel : zl_T_wheel_Wheel = List.replicate 64 (.slice none 0 0) ++ [.map none, .int .i64 0, .bool false] := by kernel_rfl
/-- What sorts. -/
def SortOk : Prop := ∀ {H1 H0 : Heap} {a : Option Addr} {cap : Nat} {zs : List Int}, zs.length ≤ 1000 → Sh.Own H0 H1 a zs.length cap 1 T_int (iv zs) →
      FnW Try.prog f_slices_Sortasl_int_int ⟨[.slice a zs.length cap]⟩ H1 fun v H' => v = .tuple ⟨[]⟩ ∧ Keep (fun x => a = some ⟨x, 0, none⟩) H1 H' ∧ ∃ ys : List Int, ys.Perm zs ∧ ys.Pairwise (· ≤ ·) ∧ Sh.Own H0 H' a zs.length cap 1 T_int (iv ys)

/-- A wheel of the program's, all of it in F. -/
def WAt (H : Heap) (b : Nat) (F : Nat → Prop) (M : WM) : Prop := ∃ c mb es ck R, WRep H b M.L M.now c mb es ck R ∧ F = Ft b mb R
/-- A wheel of the document's. -/
def RAt (H : Heap) (b : Nat) (F : Nat → Prop) (M : WM) : Prop := ∃ a cap, RRep H b M.L M.now a cap ∧ F = Gt b a
structure Stp (F : Nat → Prop) (H H' : Heap) (F' : Nat → Prop) : Prop where
  keep : Keep F H H'
  new : ∀ x, F' x → F x ∨ H x = none
section
variable {H H' : Heap} {b : Nat} {F : Nat → Prop} {M : WM}
theorem WAt.live (h : WAt H b F M) {x : Nat} (hx : F x) : H x ≠ none := by
  obtain ⟨c, mb, es, ck, R, h, rfl⟩ := h; exact h.live hx
theorem WAt.keep (h : WAt H b F M) {S : Nat → Prop} (k : Keep S H H') (hs : ∀ x, F x → ¬ S x) : WAt H' b F M := by
  obtain ⟨c, mb, es, ck, R, h, rfl⟩ := h; exact ⟨c, mb, es, ck, R, h.keep k hs, rfl⟩
theorem RAt.live (h : RAt H b F M) {x : Nat} (hx : F x) : H x ≠ none := by
  obtain ⟨a, cap, h, rfl⟩ := h; exact h.live hx
theorem RAt.keep (h : RAt H b F M) {S : Nat → Prop} (k : Keep S H H') (hs : ∀ x, F x → ¬ S x) : RAt H' b F M := by
  obtain ⟨a, cap, h, rfl⟩ := h; exact ⟨a, cap, h.keep k hs, rfl⟩

theorem new_spec : FnW Try.prog f_wheel_New ⟨[]⟩ H fun v H' => ∃ b F, v = .pointer (some ⟨b, 0, none⟩) ∧ WAt H' b F ⟨[], 0⟩ ∧ Keep Nil H H' ∧ ∀ x, F x → H x = none := by
  refine wheel_New_sh ?_
  unfold wheel_New_p
  refine (SemW.bind _ _ _ _).2 ?_
  intro mb hmb
  show NewW (H.upd mb (.map #[] 0)) _ _
  have k1 : Keep Nil H (H.upd mb (.map #[] 0)) := (Keep.refl _ _).new hmb
  have hM : MapAt (H.upd mb (.map #[] 0)) mb [] 0 := upd_eq
  generalize H.upd mb (.map #[] 0) = H1 at k1 hM
  refine NewW.intro fun b hb => ?_
  have hcs : setL (setL zl_T_wheel_Wheel 64 [.map (some mb)]) 66 [.bool true] = List.replicate 64 (.slice none 0 0) ++ [.map (some mb), .int .i64 0, .bool true] := by
    rw [zl_wheel]; rfl
  rw [hcs]
  have k2 : Keep Nil H1 (H1.upd b (.cells ⟨List.replicate 64 (.slice none 0 0) ++ [.map (some mb), .int .i64 0, .bool true]⟩ T_wheel_Wheel (0, 0))) := (Keep.refl _ _).new hb
  have hB : Blk (H1.upd b (.cells ⟨List.replicate 64 (.slice none 0 0) ++ [.map (some mb), .int .i64 0, .bool true]⟩ T_wheel_Wheel (0, 0))) b T_wheel_Wheel ⟨List.replicate 64 (.slice none 0 0) ++ [.map (some mb), .int .i64 0, .bool true]⟩ := Blk.upd_eq
  generalize H1.upd b (.cells ⟨List.replicate 64 (.slice none 0 0) ++ [.map (some mb), .int .i64 0, .bool true]⟩ T_wheel_Wheel (0, 0)) = H2 at k2 hB
  have hM2 := hM.keep k2 fun h => h
  have hR : WRep H2 b [] 0 ⟨List.replicate 64 (.slice none 0 0) ++ [.map (some mb), .int .i64 0, .bool true]⟩ mb [] 0 (fun _ => ⟨none, 0, []⟩) :=
    { up := List.Pairwise.nil, len := by simp, pos := (fun e h => by cases h), blk := hB, size := rfl, due := rfl, now := rfl, made := rfl, map := hM2, born := (fun e h => by cases h), uniq := (fun e h => by cases h), perm := List.Perm.refl _,
      cell := fun i hi => by
        rw [List.getElem?_toArray, List.getElem?_append_left (by simpa using hi), List.getElem?_replicate, if_pos hi]; rfl
      row := (fun i hi => Sh.Own.nil), spoke := (fun i hi => List.Perm.refl _), apart := (fun i j _ _ x h => by cases h) }
  refine fun H3 hs => ⟨b, _, rfl, ⟨_, mb, [], 0, _, hR.shut hs, rfl⟩, shutS (k1.trans k2) hs, fun x hx => ?_⟩
  rcases hx with rfl | rfl | ⟨i, hi, hx⟩
  · exact k1.free hb
  · exact hmb
  · cases hx

theorem WRep.setNow {L : List Ent} {now now' : Int} {c : Array Value} {mb ck : Nat} {es : List Kv} {R : Nat → Rw} (h : WRep H b L now c mb es ck R) (hb : Blk H' b T_wheel_Wheel (c.setIfInBounds 65 (.int .i64 now'))) (k : Keep (fun x => x = b) H H') :
    WRep H' b L now' (c.setIfInBounds 65 (.int .i64 now')) mb es ck R :=
  { h with
    blk := hb
    size := by simp [h.size]
    due := by rw [Array.getElem?_setIfInBounds_ne (by omega)]; exact h.due
    now := by rw [Array.getElem?_setIfInBounds_self_of_lt (by rw [h.size]; omega)]
    made := by rw [Array.getElem?_setIfInBounds_ne (by omega)]; exact h.made
    map := h.map.keep k fun e => h.ne_mb e.symm
    cell := fun i hi => by rw [Array.getElem?_setIfInBounds_ne (by omega)]; exact h.cell i hi
    row := fun i hi => (h.row i hi).keep k fun x hx e => (h.ne_row hi hx).1 e }
theorem ok_all {M : WM} (h : M.Ok) : ∀ e ∈ M.L, 0 ≤ e.2 ∧ e.2 ≤ maxT := fun e he => by
  have := h.all e he; have := h.lo; omega

theorem keys_rest (L : List Ent) (t : Int) : (keysAt L t).length + (restAt L t).length = L.length := by
  unfold keysAt restAt
  rw [List.length_map]
  induction L with
  | nil => rfl
  | cons x L ih =>
    by_cases e : x.2 = t
    · rw [List.filter_cons_of_pos (by simpa using e), List.filter_cons_of_neg (by simpa using e)]
      simp only [List.length_cons]; omega
    · rw [List.filter_cons_of_neg (by simpa using e), List.filter_cons_of_pos (by simpa using e)]
      simp only [List.length_cons]; omega
/-- A row of numbers of the call's own. -/
def Nums (H H' : Heap) (v : Value) (ks : List Int) : Prop := ∃ a cap, v = .slice a ks.length cap ∧ Sh.Own H H' a ks.length cap 1 T_int (iv ks)

theorem tick_spec (hsort : SortOk) (h : WAt H b F M) (ok : M.Ok) : FnW Try.prog f_wheel_Wheel_Tick ⟨[.pointer (some ⟨b, 0, none⟩)]⟩ H fun v H' => (∃ s, v = .tuple ⟨[s, .int .i64 (M.skip 1).2.1]⟩ ∧ Nums H H' s (M.skip 1).1) ∧ ∃ F', WAt H' b F' (M.skip 1).2.2 ∧ Stp F H H' F' := by
  obtain ⟨c, mb, es, ck, R, h, rfl⟩ := h
  refine wheel_Wheel_Tick_sh b ?_
  unfold wheel_Wheel_Tick_p
  refine (may_spec h ok.lo ok.hi 1).mono ?_
  rintro _ _ ⟨rfl, rfl⟩
  refine ⟨_, rfl, ?_⟩
  have hmay : M.may 1 = mayB M.now 1 := rfl
  unfold WM.skip
  rw [hmay]
  cases hm : mayB M.now 1 with
  | false =>
    simp only [Bool.false_eq_true, if_false]
    rw [show ((2 : Int) != 0) = true from rfl, IfB_true]
    exact fun H2 hs => ⟨⟨_, rfl, none, 0, rfl, shutO Sh.Own.nil hs⟩, _, ⟨c, mb, es, ck, R, h.shut hs, rfl⟩, shutS (Keep.refl _ _) hs, fun x hx => .inl hx⟩
  | true =>
    simp only [if_true]
    rw [show ((0 : Int) != 0) = false from rfl, IfB_false]
    have hlo := ok.lo
    have hmm : M.now + 1 ≤ maxT := by unfold mayB at hm; simp only [Bool.and_eq_true, decide_eq_true_eq] at hm; omega
    refine ⟨M.now, by rw [h.blk.cell]; exact h.now, ?_⟩
    unfold maxT at hmm
    rw [wrap_id (by omega) (by omega)]
    refine StCell.blk h.blk (by rw [h.size]; omega) rfl ?_
    have k1 : Keep (fun x => x = b) H (H.upd b (.cells (c.setIfInBounds 65 (.int .i64 (M.now + 1))) T_wheel_Wheel (0, 0))) := (Keep.refl _ _).upd (.inl rfl)
    have hB : Blk (H.upd b (.cells (c.setIfInBounds 65 (.int .i64 (M.now + 1))) T_wheel_Wheel (0, 0))) b T_wheel_Wheel (c.setIfInBounds 65 (.int .i64 (M.now + 1))) := Blk.upd_eq
    generalize H.upd b (.cells (c.setIfInBounds 65 (.int .i64 (M.now + 1))) T_wheel_Wheel (0, 0)) = H1 at k1 hB
    have h1 := h.setNow hB k1
    refine (take_spec hsort h1 (by omega) fun e he => by have := (ok.all e he).1; omega).mono ?_
    rintro _ H2 ⟨k2, ⟨a, cap, rfl, ho⟩, c2, es2, R2, hW, hft⟩
    refine ⟨_, _, _, rfl, ?_⟩
    have hst := skip_tick (L := M.L) (now := M.now) (f := 257) (by have := ok.len; omega) (fun e he => (ok.all e he).1)
    simp only [hst]
    have kk : Keep (Ft b mb R) H H2 := (k1.mono fun x hx => .inl hx).trans k2
    have ho' : Sh.Own H H2 a (keysAt M.L (M.now + 1)).length cap 1 T_int (iv (keysAt M.L (M.now + 1))) := ho.mono k1
    exact fun H3 hs => ⟨⟨_, rfl, a, cap, rfl, shutO ho' hs⟩, _, ⟨c2, mb, es2, ck, R2, hW.shut hs, rfl⟩, shutS kk hs, fun x hx => .inl (by rw [← hft]; exact hx)⟩

theorem skip_spec (hsort : SortOk) (h : WAt H b F M) (ok : M.Ok) (n : Int) : FnW Try.prog f_wheel_Wheel_Skip ⟨[.pointer (some ⟨b, 0, none⟩), .int .i64 n]⟩ H fun v H' => (∃ s, v = .tuple ⟨[s, .int .i64 (M.skip n).2.1]⟩ ∧ Nums H H' s (M.skip n).1) ∧ ∃ F', WAt H' b F' (M.skip n).2.2 ∧ Stp F H H' F' := by
  obtain ⟨c, mb, es, ck, R, h, rfl⟩ := h
  refine wheel_Wheel_Skip_sh b n ?_
  unfold wheel_Wheel_Skip_p
  refine (may_spec h ok.lo ok.hi n).mono ?_
  rintro _ _ ⟨rfl, rfl⟩
  refine ⟨_, rfl, ?_⟩
  have hmay : M.may n = mayB M.now n := rfl
  unfold WM.skip
  rw [hmay]
  cases hm : mayB M.now n with
  | false =>
    simp only [Bool.false_eq_true, if_false]
    rw [show ((2 : Int) != 0) = true from rfl, IfB_true]
    exact fun H2 hs => ⟨⟨_, rfl, none, 0, rfl, shutO Sh.Own.nil hs⟩, _, ⟨c, mb, es, ck, R, h.shut hs, rfl⟩, shutS (Keep.refl _ _) hs, fun x hx => .inl hx⟩
  | true =>
    simp only [if_true]
    rw [show ((0 : Int) != 0) = false from rfl, IfB_false]
    have hlo := ok.lo
    have hmm : 1 ≤ n ∧ n ≤ maxT - M.now := by unfold mayB at hm; simpa only [Bool.and_eq_true, decide_eq_true_eq] using hm
    refine ⟨M.now, by rw [h.blk.cell]; exact h.now, ?_⟩
    unfold maxT at hmm
    have hwr : IntKind.wrap .i64 (M.now + n) = M.now + n := wrap_id (by omega) (by omega)
    generalize hE : M.now + n = E at *
    refine LoopI.intro (fun m s H3 => ∃ (f : Nat) (a : Option Addr) (cap : Nat) (acc : List Int) (Lc : List Ent) (nc : Int) (c1 : Array Value) (es1 : List Kv) (R1 : Nat → Rw), s = ((a, acc.length, cap), ()) ∧ WRep H3 b Lc nc c1 mb es1 ck R1 ∧ Ft b mb R1 = Ft b mb R ∧
        Keep (Ft b mb R) H H3 ∧ Sh.Own H H3 a acc.length cap 1 T_int (iv acc) ∧ Lc.length < f ∧ m = Lc.length ∧ acc.length + Lc.length ≤ 256 ∧ (∀ e ∈ Lc, nc < e.2) ∧ skipL 257 M.L E = (acc ++ (skipL f Lc E).1, (skipL f Lc E).2)) M.L.length
      ⟨257, none, 0, [], M.L, M.now, c, es, R, rfl, h, rfl, Keep.refl _ _, Sh.Own.nil, by have := ok.len; omega, rfl, by have := ok.len; simpa using this, fun e he => (ok.all e he).1, rfl⟩ ?_
    rintro m s H3 ⟨f, a, cap, acc, Lc, nc, c1, es1, R1, rfl, h3, hft, kp, ho, hlf, rfl, hal, hall, hsk⟩ g
    unfold wheel_Wheel_Skip_l6
    dsimp only
    refine (next_spec h3).mono ?_
    rintro _ H4 ⟨rfl, k4⟩
    refine ⟨_, _, rfl, ?_⟩
    have h4 := h3.keep k4 fun _ _ h => h
    have ho4 := ho.keep k4 fun _ _ h => h
    have kp4 := kp.trans (k4.mono fun _ h => h.elim)
    obtain ⟨f, rfl⟩ : ∃ g, f = g + 1 := ⟨f - 1, by omega⟩
    have hapart : ∀ x, a = some ⟨x, 0, none⟩ → ¬ Ft b mb R x := fun x hx hf => h.live hf (ho.free hx)
    have stop : ∀ t : Int, skipL (f + 1) Lc E = ([], Lc) → wheel_Wheel_Skip_j0 b M.now n a acc.length cap t (fun x' H' => ∃ k', k' < Lc.length ∧ ∃ (f : Nat) (a : Option Addr) (cap : Nat) (acc : List Int) (Lc : List Ent) (nc : Int) (c1 : Array Value) (es1 : List Kv) (R1 : Nat → Rw), x' = ((a, acc.length, cap), ()) ∧ WRep H' b Lc nc c1 mb es1 ck R1 ∧ Ft b mb R1 = Ft b mb R ∧
        Keep (Ft b mb R) H H' ∧ Sh.Own H H' a acc.length cap 1 T_int (iv acc) ∧ Lc.length < f ∧ k' = Lc.length ∧ acc.length + Lc.length ≤ 256 ∧ (∀ e ∈ Lc, nc < e.2) ∧ skipL 257 M.L E = (acc ++ (skipL f Lc E).1, (skipL f Lc E).2)) true H4
        fun v H1 => ∀ H2, Shut H H1 H2 → (∃ s, v = .tuple ⟨[s, .int .i64 0]⟩ ∧ Nums H H2 s (skipL 257 M.L E).1) ∧ ∃ F', WAt H2 b F' ⟨(skipL 257 M.L E).2, E⟩ ∧ Stp (Ft b mb R) H H2 F' := by
      intro t hst
      unfold wheel_Wheel_Skip_j0
      rw [IfB_true, hE, hwr]
      refine StCell.blk h4.blk (by rw [h4.size]; omega) rfl ?_
      have k5 : Keep (fun x => x = b) H4 (H4.upd b (.cells (c1.setIfInBounds 65 (.int .i64 E)) T_wheel_Wheel (0, 0))) := (Keep.refl _ _).upd (.inl rfl)
      have hB : Blk (H4.upd b (.cells (c1.setIfInBounds 65 (.int .i64 E)) T_wheel_Wheel (0, 0))) b T_wheel_Wheel (c1.setIfInBounds 65 (.int .i64 E)) := Blk.upd_eq
      generalize H4.upd b (.cells (c1.setIfInBounds 65 (.int .i64 E)) T_wheel_Wheel (0, 0)) = H5 at k5 hB
      have h5 := h4.setNow hB k5
      have ho5 := ho4.keep k5 fun x hx e => hapart x hx (.inl e)
      have kp5 := kp4.trans (k5.mono fun x hx => .inl hx)
      rw [hsk, hst]
      simp only [List.append_nil]
      exact fun H2 hs => ⟨⟨_, rfl, a, cap, rfl, shutO ho5 hs⟩, _, ⟨_, mb, es1, ck, R1, h5.shut hs, rfl⟩, shutS kp5 hs, fun x hx => .inl (by rw [← hft]; exact hx)⟩
    cases hmn : minL Lc with
    | none =>
      rw [show ((none : Option Int).isSome) = false from rfl, Bool.not_false, IfB_true]
      refine stop _ ?_
      simp only [skipL, hmn]
    | some t =>
      rw [show ((some t : Option Int).isSome) = true from rfl, Bool.not_true, IfB_false]
      show wheel_Wheel_Skip_j0 b M.now n a acc.length cap t _ (decide (t > _)) H4 _
      rw [hE, hwr]
      by_cases hgt : t > E
      · rw [decide_eq_true hgt]
        refine stop _ ?_
        simp only [skipL, hmn]
        rw [if_pos (by omega)]
      · rw [decide_eq_false hgt]
        unfold wheel_Wheel_Skip_j0
        rw [IfB_false]
        have htp : 0 ≤ t := by
          obtain ⟨e, he, rfl⟩ := min_mem hmn
          exact (h3.pos e he).1
        refine StCell.blk h4.blk (by rw [h4.size]; omega) rfl ?_
        have k5 : Keep (fun x => x = b) H4 (H4.upd b (.cells (c1.setIfInBounds 65 (.int .i64 t)) T_wheel_Wheel (0, 0))) := (Keep.refl _ _).upd (.inl rfl)
        have hB : Blk (H4.upd b (.cells (c1.setIfInBounds 65 (.int .i64 t)) T_wheel_Wheel (0, 0))) b T_wheel_Wheel (c1.setIfInBounds 65 (.int .i64 t)) := Blk.upd_eq
        generalize H4.upd b (.cells (c1.setIfInBounds 65 (.int .i64 t)) T_wheel_Wheel (0, 0)) = H5 at k5 hB
        have h5 := h4.setNow hB k5
        have ho5 := ho4.keep k5 fun x hx e => hapart x hx (.inl e)
        have kp5 := kp4.trans (k5.mono fun x hx => .inl hx)
        refine (take_spec hsort h5 htp fun e he => min_le hmn e he).mono ?_
        rintro _ H6 ⟨k6, ⟨a2, cap2, rfl, ho2⟩, c2, es2, R2, hW, hft2⟩
        refine ⟨_, _, _, rfl, ?_⟩
        have ho6 := ho5.keep k6 fun x hx hf => hapart x hx (by rw [← hft]; exact hf)
        have kp6 : Keep (Ft b mb R) H H6 := kp5.trans (by rw [← hft]; exact k6)
        obtain ⟨it, hit, hsz, hby⟩ := row_int.info
        have hkr := keys_rest Lc t
        have hlen := h.len
        refine own_append2 (H0 := H) (S := Ft b mb R) und_sl_int und_sl_int hit hsz hby (by omega) row_int.zero rfl ho6 kp6 (new := iv (keysAt Lc t)) ho2.reads (iv_plain _) (by omega) fun a' cap' H7 _ ho7 hnew7 k7 kk7 => ?_
        refine ⟨_, _, _, rfl, ?_⟩
        have h7 := hW.keep k7 fun x hx e => hapart x e (by rw [← hft, ← hft2]; exact hx)
        refine ⟨(restAt Lc t).length, rest_lt hmn, f, a', cap', acc ++ keysAt Lc t, restAt Lc t, t, c2, es2, R2, by rw [List.length_append], h7, hft2.trans hft, kk7, ?_, by have := rest_lt hmn; omega, rfl, by rw [List.length_append]; omega, fun e he => ?_, ?_⟩
        · rw [List.length_append, iv_append]; exact ho7
        · have h1 := List.mem_filter.1 he
          have h2 := min_le hmn e h1.1
          have h3 := of_decide_eq_true h1.2
          omega
        · rw [hsk]
          simp only [skipL, hmn]
          rw [if_neg (by omega), List.append_assoc]
end
end Go.Proofs.Ytdhjglkacnhhcaa
