/-
  Layer 4: the document's wheel goes on; small helpers.
-/
import Derived.Test.YtdhjglkacnhhcaaWh6
set_option linter.all false
set_option maxRecDepth 100000
namespace Go.Proofs.Ytdhjglkacnhhcaa
open Go.Sh Go.Wheel

/-- A number below n that x stands for. -/
def amongV (x : Int) (n : Nat) : Nat := ((x % 18446744073709551616) % n).toNat
theorem amongV_lt (x : Int) {n : Nat} (h : 0 < n) : amongV x n < n := by
  unfold amongV
  have h1 := Int.emod_nonneg (x % 18446744073709551616) (b := (n : Int)) (by omega)
  have h2 := Int.emod_lt_of_pos (x % 18446744073709551616) (b := (n : Int)) (by omega)
  omega

section
variable {H H' : Heap} {b : Nat} {F : Nat → Prop} {M : WM}
theorem among_spec (x : Int) {n : Nat} (h0 : 0 < n) (h1 : n < 2 ^ 62) : FnW Try.prog f_base_Among ⟨[.int .i64 x, .int .i64 n]⟩ H fun v H' => v = .int .i64 (amongV x n) ∧ H = H' := by
  refine base_Among_sh x n ?_
  unfold base_Among_p
  rw [decide_eq_false (by omega), IfB_false]
  have hw : IntKind.wrap .u64 (n : Int) = n := by
    change (n : Int) % 18446744073709551616 = n
    omega
  have hx : IntKind.wrap .u64 x = x % 18446744073709551616 := rfl
  have h3 := Int.emod_nonneg x (b := 18446744073709551616) (by omega)
  have h4 : Int.tmod (x % 18446744073709551616) n = (amongV x n : Nat) := by
    rw [Int.tmod_eq_emod_of_nonneg h3]
    unfold amongV
    have := Int.emod_nonneg (x % 18446744073709551616) (b := (n : Int)) (by omega)
    omega
  have h5 := amongV_lt x h0
  refine ⟨by rw [hw]; omega, ?_⟩
  rw [hw, hx, h4, wrap_id (by omega) (by omega)]
  exact fun H2 hs => ⟨rfl, shutE hs⟩

theorem same_ints {a a' : Option Addr} {c c' : Nat} {l l' : List Int} {H1 H2 : Heap} (h : Sh.Own H1 H a l.length c 1 T_int (iv l)) (h' : Sh.Own H2 H a' l'.length c' 1 T_int (iv l')) (hl : l.length ≤ 1000000) :
    FnW Try.prog f_base_SameInts ⟨[.slice a l.length c, .slice a' l'.length c']⟩ H fun v H' => v = .bool (decide (l = l')) ∧ H = H' := by
  refine base_SameInts_sh a l.length c a' l'.length c' ?_
  unfold base_SameInts_p
  by_cases e : l.length = l'.length
  · rw [show (((l.length : Nat) : Int) != ((l'.length : Nat) : Int)) = false by simp [e], IfB_false]
    refine LoopI.intro (fun m s H3 => ∃ i : Nat, s = ((i : Int), ()) ∧ i ≤ l.length ∧ m = l.length - i ∧ H = H3 ∧ l.take i = l'.take i) l.length ⟨0, rfl, Nat.zero_le _, by omega, rfl, rfl⟩ ?_
    rintro m s _ ⟨i, rfl, hi, rfl, rfl, ht⟩ g
    unfold base_SameInts_l4
    dsimp only
    by_cases hlt : i < l.length
    · rw [decide_eq_true (by omega), IfB_true]
      have get : ∀ {a : Option Addr} {c : Nat} {l : List Int} {H1 : Heap}, Sh.Own H1 H a l.length c 1 T_int (iv l) → i < l.length → ∀ hi : i < l.length, ∃ m, a = some ⟨m, 0, none⟩ ∧ H.cell ⟨m, 0 + i * 1, none⟩ = some (.int .i64 l[i]) := by
        intro a c l H1 h _ hi
        obtain ⟨m, rfl⟩ := h.addr (by omega)
        refine ⟨m, rfl, ?_⟩
        have := h.reads.cell (j := i) (by omega)
        rw [Nat.mul_one]
        rw [this]
        simp [iv, hi]
      obtain ⟨m, hm, hc⟩ := get h hlt hlt
      obtain ⟨m', hm', hc'⟩ := get h' (by omega) (by omega)
      refine NilP.intro _ hm (InB.intro i rfl hlt ?_)
      rw [elemAt_none]
      refine ⟨_, hc, NilP.intro _ hm' (InB.intro i rfl (by omega) ?_)⟩
      rw [elemAt_none]
      refine ⟨_, hc', ?_⟩
      by_cases he : l[i] = l'[i]'(by omega)
      · rw [show (l[i] != l'[i]'(by omega)) = false by simp [he], IfB_false, wrap_id (by omega) (by omega)]
        refine ⟨l.length - (i + 1), by omega, i + 1, by simp, by omega, rfl, rfl, ?_⟩
        rw [List.take_succ_eq_append_getElem hlt, List.take_succ_eq_append_getElem (by omega), ht, he]
      · rw [show (l[i] != l'[i]'(by omega)) = true by simp [he], IfB_true]
        refine fun H2 hs => ⟨?_, shutE hs⟩
        rw [decide_eq_false]
        intro hll
        subst hll; exact he rfl
    · rw [decide_eq_false (by omega), IfB_false]
      refine fun H2 hs => ⟨?_, shutE hs⟩
      rw [decide_eq_true]
      have : i = l.length := by omega
      subst this
      rw [List.take_length, e, List.take_length] at ht
      exact ht
  · rw [show (((l.length : Nat) : Int) != ((l'.length : Nat) : Int)) = true by simp; omega, IfB_true]
    refine fun H2 hs => ⟨?_, shutE hs⟩
    rw [decide_eq_false]
    intro hll; subst hll; exact e rfl

theorem has_int {a : Option Addr} {c : Nat} {l : List Int} {H1 : Heap} (h : Sh.Own H1 H a l.length c 1 T_int (iv l)) (hl : l.length ≤ 1000000) (n : Int) :
    FnW Try.prog f_base_HasInt ⟨[.slice a l.length c, .int .i64 n]⟩ H fun v H' => v = .bool (decide (n ∈ l)) ∧ H = H' := by
  refine base_HasInt_sh a l.length c n ?_
  unfold base_HasInt_p
  refine LoopI.intro (fun m s H3 => ∃ i : Nat, s = ((i : Int), ()) ∧ i ≤ l.length ∧ m = l.length - i ∧ H = H3 ∧ n ∉ l.take i) l.length ⟨0, rfl, Nat.zero_le _, by omega, rfl, by simp⟩ ?_
  rintro m s _ ⟨i, rfl, hi, rfl, rfl, ht⟩ g
  unfold base_HasInt_l2
  dsimp only
  by_cases hlt : i < l.length
  · rw [decide_eq_true (by omega), IfB_true]
    obtain ⟨m, rfl⟩ := h.addr (by omega)
    have hc := h.reads.cell (j := i) (by omega)
    refine NilP.intro _ rfl (InB.intro i rfl hlt ?_)
    rw [elemAt_none, Nat.mul_one]
    refine ⟨l[i], by rw [hc]; simp [iv, hlt], ?_⟩
    by_cases he : l[i] = n
    · rw [show (l[i] == n) = true by simp [he], IfB_true]
      refine fun H2 hs => ⟨?_, shutE hs⟩
      rw [decide_eq_true]
      rw [← he]; exact List.getElem_mem hlt
    · rw [show (l[i] == n) = false by simp [he], IfB_false, wrap_id (by omega) (by omega)]
      refine ⟨l.length - (i + 1), by omega, i + 1, by simp, by omega, rfl, rfl, ?_⟩
      rw [List.take_succ_eq_append_getElem hlt, List.mem_append]
      rintro (h | h)
      · exact ht h
      · simp only [List.mem_singleton] at h; exact he h.symm
  · rw [decide_eq_false (by omega), IfB_false]
    refine fun H2 hs => ⟨?_, shutE hs⟩
    rw [decide_eq_false]
    have : i = l.length := by omega
    subst this
    rw [List.take_length] at ht
    exact ht

/-! ### The document's wheel -/
theorem rstop_spec (h : RAt H b F M) (k : Int) : FnW Try.prog f_ref04_Wheel_Stop ⟨[.pointer (some ⟨b, 0, none⟩), .int .i64 k]⟩ H fun v H' => v = .int .i64 (M.stop k).1 ∧ ∃ F', RAt H' b F' (M.stop k).2 ∧ Stp F H H' F' := by
  obtain ⟨a, cap, h, rfl⟩ := h
  refine ref04_Wheel_Stop_sh b k ?_
  unfold ref04_Wheel_Stop_p
  refine (rdue_spec h k).mono ?_
  rintro _ _ ⟨rfl, rfl⟩
  refine ⟨_, _, rfl, ?_⟩
  unfold WM.stop
  cases hd : dueL k M.L with
  | none =>
    rw [show ((none : Option Int).isSome) = false from rfl, Bool.not_false, IfB_true]
    simp only [if_true]
    exact fun H2 hs => ⟨by simp, _, ⟨a, cap, h.shut hs, rfl⟩, shutS (Keep.refl _ _) hs, fun x hx => .inl hx⟩
  | some t =>
    rw [show ((some t : Option Int).isSome) = true from rfl, Bool.not_true, IfB_false]
    simp only [reduceCtorEq, if_false]
    refine (rwo_spec h k).mono ?_
    rintro _ H1 ⟨k1, a1, cap1, rfl, ho1⟩
    refine ⟨_, _, _, rfl, ?_⟩
    have h1 := h.keep k1 fun _ _ h => h
    have hb1 : ∀ x, a1 = some ⟨x, 0, none⟩ → x ≠ b := fun x hx e => by subst e; exact h.blk.some (ho1.free hx)
    refine StCell.blk h1.blk (by simp) rfl ?_
    have k5 : Keep (fun x => x = b) H1 (H1.upd b (.cells ((⟨[.slice a M.L.length cap, .int .i64 M.now]⟩ : Array Value).setIfInBounds 0 (.slice a1 (wo M.L k).length cap1)) T_ref04_Wheel (0, 0))) := (Keep.refl _ _).upd (.inl rfl)
    have hB5 : Blk (H1.upd b (.cells ((⟨[.slice a M.L.length cap, .int .i64 M.now]⟩ : Array Value).setIfInBounds 0 (.slice a1 (wo M.L k).length cap1)) T_ref04_Wheel (0, 0))) b T_ref04_Wheel ⟨[.slice a1 (wo M.L k).length cap1, .int .i64 M.now]⟩ := Blk.upd_eq
    generalize H1.upd b (.cells ((⟨[.slice a M.L.length cap, .int .i64 M.now]⟩ : Array Value).setIfInBounds 0 (.slice a1 (wo M.L k).length cap1)) T_ref04_Wheel (0, 0)) = H5 at k5 hB5
    have hR : RRep H5 b (wo M.L k) M.now a1 cap1 := ⟨up_wo h.up _, Nat.le_trans (len_wo_le _ _) h.len, fun e he => h.pos e (mem_wo.1 he).1, hB5, (ho1.keep k5 hb1).toEmp⟩
    have kk : Keep (Gt b a) H H5 := (k1.mono fun _ h => h.elim).trans (k5.mono fun x hx => .inl hx)
    refine fun H2 hs => ⟨by simp, _, ⟨a1, cap1, hR.shut hs, rfl⟩, shutS kk hs, fun x hx => ?_⟩
    rcases hx with rfl | hx
    · exact .inl (.inl rfl)
    · exact .inr (ho1.free hx)

theorem rskip_spec (h : RAt H b F M) (ok : M.Ok) (n : Int) : FnW Try.prog f_ref04_Wheel_Skip ⟨[.pointer (some ⟨b, 0, none⟩), .int .i64 n]⟩ H fun v H' => (∃ s, v = .tuple ⟨[s, .int .i64 (M.skip n).2.1]⟩ ∧ Nums H H' s (M.skip n).1) ∧ ∃ F', RAt H' b F' (M.skip n).2.2 ∧ Stp F H H' F' := by
  obtain ⟨a0, cap0, h, rfl⟩ := h
  refine ref04_Wheel_Skip_sh b n ?_
  unfold ref04_Wheel_Skip_p
  have hlo := ok.lo
  have hhi := ok.hi
  unfold maxT at hhi
  have no : M.may n = false → ref04_Wheel_Skip_j0 b n true H fun v H1 => ∀ H2, Shut H H1 H2 → (∃ s, v = .tuple ⟨[s, .int .i64 (M.skip n).2.1]⟩ ∧ Nums H H2 s (M.skip n).1) ∧ ∃ F', RAt H2 b F' (M.skip n).2.2 ∧ Stp (Gt b a0) H H2 F' := by
    intro hm
    unfold ref04_Wheel_Skip_j0 WM.skip
    rw [IfB_true, hm]
    simp only [if_true]
    exact fun H2 hs => ⟨⟨_, rfl, none, 0, rfl, shutO Sh.Own.nil hs⟩, _, ⟨a0, cap0, h.shut hs, rfl⟩, shutS (Keep.refl _ _) hs, fun x hx => .inl hx⟩
  by_cases h1 : n < 1
  · rw [decide_eq_true h1, IfB_true]
    refine no ?_
    unfold WM.may; rw [decide_eq_false (by omega)]; rfl
  · rw [decide_eq_false h1, IfB_false]
    refine ⟨M.now, h.time, ?_⟩
    rw [wrap_id (by omega) (by omega)]
    by_cases h2 : n > 1099511627776 - M.now
    · rw [decide_eq_true h2]
      refine no ?_
      unfold WM.may maxT; rw [decide_eq_false (p := n ≤ _) (by omega), Bool.and_false]
    · rw [decide_eq_false h2]
      have hm : M.may n = true := by unfold WM.may maxT; rw [decide_eq_true (by omega), decide_eq_true (by omega)]; rfl
      unfold ref04_Wheel_Skip_j0 WM.skip
      rw [IfB_false, hm]
      simp only [Bool.true_eq_false, if_false]
      refine ⟨M.now, h.time, NewW.intro fun w hw => ?_⟩
      have k1 : Keep Nil H (H.upd w (.cells ⟨[]⟩ T_int (0, 0))) := (Keep.refl _ _).new hw
      have hW : Blk (H.upd w (.cells ⟨[]⟩ T_int (0, 0))) w T_int ⟨[]⟩ := Blk.upd_eq
      generalize H.upd w (.cells ⟨[]⟩ T_int (0, 0)) = H1 at k1 hW
      have hwr : IntKind.wrap .i64 (M.now + n) = M.now + n := wrap_id (by omega) (by omega)
      generalize hE : M.now + n = E at *
      refine LoopI.intro (fun m s H3 => ∃ (i f : Nat) (a : Option Addr) (cap : Nat) (acc : List Int) (Lc : List Ent) (a1 : Option Addr) (cap1 : Nat), s = ((a, acc.length, cap), (i : Int), ()) ∧ RRep H3 b Lc M.now a1 cap1 ∧ (∀ x, Gt b a1 x → Gt b a0 x ∨ H x = none) ∧
          Keep (Gt b a0) H H3 ∧ Sh.Own H H3 a acc.length cap 1 T_int (iv acc) ∧ Lc.length < f ∧ m = Lc.length ∧ acc.length + Lc.length ≤ 256 ∧ i + Lc.length ≤ 256 ∧ (∀ x, a = some ⟨x, 0, none⟩ → a1 ≠ some ⟨x, 0, none⟩) ∧ skipL 257 M.L E = (acc ++ (skipL f Lc E).1, (skipL f Lc E).2)) M.L.length
        ⟨0, 257, some ⟨w, 0, none⟩, 0, [], M.L, a0, cap0, rfl, h.keep k1 (fun _ _ h => h), (fun x hx => .inl hx), k1.mono (fun _ h => h.elim), Sh.Own.start hw hW, by have := ok.len; omega, rfl, by have := ok.len; simpa using this, by have := ok.len; omega, ?_, rfl⟩ ?_
      · intro x hx e
        cases hx
        obtain ⟨_, hb⟩ := h.row.live e
        exact hb.some hw
      rintro m s H3 ⟨i, f, a, cap, acc, Lc, a1, cap1, rfl, h3, hft, kp, ho, hlf, rfl, hal, hil, hap, hsk⟩ g
      unfold ref04_Wheel_Skip_l6
      dsimp only
      rw [decide_eq_true (by omega), IfB_true]
      refine (rnext_spec h3).mono ?_
      rintro _ _ ⟨rfl, rfl⟩
      refine ⟨_, _, rfl, ?_⟩
      obtain ⟨f, rfl⟩ : ∃ g, f = g + 1 := ⟨f - 1, by omega⟩
      have hab : ∀ x, a = some ⟨x, 0, none⟩ → x ≠ b := fun x hx e => by subst e; exact h.blk.some (ho.free hx)
      have stop : ∀ (t : Int) (R : Value → Heap → Prop) (nx), R = (fun v H1 => ∀ H2, Shut H H1 H2 → (∃ s, v = .tuple ⟨[s, .int .i64 0]⟩ ∧ Nums H H2 s (skipL 257 M.L E).1) ∧ ∃ F', RAt H2 b F' ⟨(skipL 257 M.L E).2, E⟩ ∧ Stp (Gt b a0) H H2 F') → skipL (f + 1) Lc E = ([], Lc) → ref04_Wheel_Skip_j1 b M.now n a acc.length cap i t nx true H3 R := by
        intro t R nx hR hst
        subst hR
        unfold ref04_Wheel_Skip_j1 ref04_Wheel_Skip_j2
        rw [IfB_true, hE, hwr]
        refine StCell.blk h3.blk (by simp) rfl ?_
        have k5 : Keep (fun x => x = b) H3 (H3.upd b (.cells ((⟨[.slice a1 Lc.length cap1, .int .i64 M.now]⟩ : Array Value).setIfInBounds 1 (.int .i64 E)) T_ref04_Wheel (0, 0))) := (Keep.refl _ _).upd (.inl rfl)
        have hB : Blk (H3.upd b (.cells ((⟨[.slice a1 Lc.length cap1, .int .i64 M.now]⟩ : Array Value).setIfInBounds 1 (.int .i64 E)) T_ref04_Wheel (0, 0))) b T_ref04_Wheel ⟨[.slice a1 Lc.length cap1, .int .i64 E]⟩ := Blk.upd_eq
        generalize H3.upd b (.cells ((⟨[.slice a1 Lc.length cap1, .int .i64 M.now]⟩ : Array Value).setIfInBounds 1 (.int .i64 E)) T_ref04_Wheel (0, 0)) = H5 at k5 hB
        have h5 : RRep H5 b Lc E a1 cap1 := { h3 with blk := hB, row := h3.row.keep k5 fun x hx e => h3.ne_row hx e }
        have ho5 := ho.keep k5 hab
        have kp5 := kp.trans (k5.mono fun x hx => .inl hx)
        rw [hsk, hst]
        simp only [List.append_nil]
        exact fun H2 hs => ⟨⟨_, rfl, a, cap, rfl, shutO ho5 hs⟩, _, ⟨_, _, h5.shut hs, rfl⟩, shutS kp5 hs, hft⟩
      cases hmn : minL Lc with
      | none =>
        rw [show ((none : Option Int).isSome) = false from rfl, Bool.not_false, IfB_true]
        refine stop _ _ _ rfl ?_
        simp only [skipL, hmn]
      | some t =>
        rw [show ((some t : Option Int).isSome) = true from rfl, Bool.not_true, IfB_false]
        show ref04_Wheel_Skip_j1 b M.now n a acc.length cap i t _ (decide (t > _)) H3 _
        rw [hE, hwr]
        by_cases hgt : t > E
        · rw [decide_eq_true hgt]
          refine stop _ _ _ rfl ?_
          simp only [skipL, hmn]
          rw [if_pos (by omega)]
        · rw [decide_eq_false hgt]
          unfold ref04_Wheel_Skip_j1
          rw [IfB_false]
          refine (rat_spec h3 t).mono ?_
          rintro _ H6 ⟨k6, ⟨a2, cap2, rfl, ho2⟩, a3, cap3, hR, hn3⟩
          refine ⟨_, _, _, rfl, ?_⟩
          have ho6 := ho.keep k6 hab
          have kp6 : Keep (Gt b a0) H H6 := kp.trans (k6.mono fun x hx => .inl hx)
          obtain ⟨it, hit, hsz, hby⟩ := row_int.info
          have hkr := keys_rest Lc t
          refine own_append2 (H0 := H) (S := Gt b a0) und_sl_int und_sl_int hit hsz hby (by omega) row_int.zero rfl ho6 kp6 (new := iv (keysAt Lc t)) ho2.reads (iv_plain _) (by omega) fun a' cap' H7 _ ho7 hnew7 k7 kk7 => ?_
          refine ⟨_, _, _, rfl, ?_⟩
          have ha3 : ∀ x, a = some ⟨x, 0, none⟩ → a3 ≠ some ⟨x, 0, none⟩ := fun x hx e => by
            obtain ⟨_, hb⟩ := ho.live hx
            exact hb.some (hn3 x e)
          have h7 := hR.keep k7 fun x hx e => by
            rcases hx with rfl | hx
            · exact hab _ e rfl
            · exact ha3 x e hx
          rw [wrap_id (by omega) (by omega)]
          have hrl := rest_lt hmn
          refine ⟨(restAt Lc t).length, hrl, i + 1, f, a', cap', acc ++ keysAt Lc t, restAt Lc t, a3, cap3, by rw [List.length_append]; simp, h7, fun x hx => ?_, kk7, ?_, by omega, rfl, by rw [List.length_append]; omega, by omega, fun x hx e => ?_, ?_⟩
          · rcases hx with rfl | hx
            · exact .inl (.inl rfl)
            · exact .inr (kp.free (hn3 x hx))
          · rw [List.length_append, iv_append]; exact ho7
          · rcases hnew7 x hx with h8 | h8
            · exact ha3 x h8 e
            · obtain ⟨_, hb⟩ := hR.row.live e
              exact hb.some h8
          · rw [hsk]
            simp only [skipL, hmn]
            rw [if_neg (by omega), List.append_assoc]
theorem rtick_spec (h : RAt H b F M) (ok : M.Ok) : FnW Try.prog f_ref04_Wheel_Tick ⟨[.pointer (some ⟨b, 0, none⟩)]⟩ H fun v H' => (∃ s, v = .tuple ⟨[s, .int .i64 (M.skip 1).2.1]⟩ ∧ Nums H H' s (M.skip 1).1) ∧ ∃ F', RAt H' b F' (M.skip 1).2.2 ∧ Stp F H H' F' := by
  refine ref04_Wheel_Tick_sh b ?_
  unfold ref04_Wheel_Tick_p
  refine (rskip_spec h ok 1).mono ?_
  rintro _ H1 ⟨⟨s, rfl, a, cap, rfl, ho⟩, F', ⟨a1, cap1, hR, rfl⟩, hst⟩
  refine ⟨_, _, _, _, rfl, ?_⟩
  exact fun H2 hs => ⟨⟨_, rfl, a, cap, rfl, shutO ho hs⟩, _, ⟨a1, cap1, hR.shut hs, rfl⟩, shutS hst.keep hs, hst.new⟩
end
end Go.Proofs.Ytdhjglkacnhhcaa
