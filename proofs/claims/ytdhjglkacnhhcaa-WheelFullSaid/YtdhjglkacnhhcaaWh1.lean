/-
  Layer 4 over the heap: the wheel that the program keeps, and what it answers of itself.
-/
import Derived.Test.YtdhjglkacnhhcaaIts
import Derived.Test.YtdhjglkacnhhcaaWm
import Derived.Test.YtdhjglkacnhhcaaShM
import Derived.Test.YtdhjglkacnhhcaaSh15
set_option linter.all false
set_option maxRecDepth 100000
namespace Go.Sh

theorem shutB {H0 H H2 : Heap} {b : Nat} {T : TypeId} {c : Array Value} (h : Blk H b T c) (hs : Shut H0 H H2) : Blk H2 b T c := by
  rcases hs b with e | ⟨_, e, _⟩
  · exact h.same e
  · unfold Blk at h; rw [h] at e; cases e
theorem shutS {S : Nat → Prop} {H0 H H2 : Heap} (k : Keep S H0 H) (hs : Shut H0 H H2) : Keep S H0 H2 :=
  ⟨fun b hb ha => by
    rcases hs b with e | ⟨e, _, _⟩
    · rw [e]; exact k.same b hb ha
    · exact absurd e ha, fun b ha => by
    rcases hs b with e | ⟨e, _, _⟩
    · rw [e]; exact k.live b ha
    · exact absurd e ha⟩
theorem shutE {H H2 : Heap} (hs : Shut H H H2) : H = H2 := Heap.ext fun b => by
  rcases hs b with e | ⟨e1, e2, _⟩
  · exact e.symm
  · rw [e1] at e2; cases e2
theorem shutO {H0 Hs H H2 : Heap} {a : Option Addr} {n cap sz : Nat} {T : TypeId} {xs : List Value} (h : Sh.Own H0 H a n cap sz T xs) (hs : Shut Hs H H2) : Sh.Own H0 H2 a n cap sz T xs := by
  obtain ⟨h1, h2, h3⟩ := h
  refine ⟨h1, h2, ?_⟩
  rcases h3 with h3 | ⟨m, rest, e, h0, hb, hr⟩
  · exact .inl h3
  · exact .inr ⟨m, rest, e, h0, shutB hb hs, hr⟩
theorem shutM {H0 H H2 : Heap} {b : Nat} {es : List Kv} {ck : Nat} (h : MapAt H b es ck) (hs : Shut H0 H H2) : MapAt H2 b es ck := by
  rcases hs b with e | ⟨_, e, _⟩
  · exact h.same e
  · unfold MapAt at h; rw [h] at e; cases e
theorem LoopI.intro {T : Type} {x0 : T} {H : Heap} {body : T → Heap → (T → Heap → Prop) → Prop} (I : Nat → T → Heap → Prop) (k : Nat) (h0 : I k x0 H)
    (h : ∀ k x H, I k x H → body x H fun x' H' => ∃ k', k' < k ∧ I k' x' H') : LoopI T x0 H body := ⟨I, k, h0, h⟩
theorem beqI_ne {a b : Int} (h : a ≠ b) : (a == b) = false := by simp [h]
theorem addr_map (m k : Nat) : Option.map (fun a => Addr.add a k) (some (⟨m, 0, none⟩ : Addr)) = some ⟨m, 0 + k, none⟩ := by rw [Option.map_some, add_of_spot rfl]
def emp : Heap := ⟨fun _ => none, 0, fun _ _ => rfl⟩
theorem Own.toEmp {H0 H : Heap} {a : Option Addr} {n cap sz : Nat} {T : TypeId} {xs : List Value} (h : Sh.Own H0 H a n cap sz T xs) : Sh.Own emp H a n cap sz T xs := by
  obtain ⟨h1, h2, h3⟩ := h
  refine ⟨h1, h2, ?_⟩
  rcases h3 with h3 | ⟨m, rest, e, h0, hb, hr⟩
  · exact .inl h3
  · exact .inr ⟨m, rest, e, rfl, hb, hr⟩
end Go.Sh

namespace Go.Proofs.Ytdhjglkacnhhcaa
open Go.Sh Go.Wheel

theorem und_int : Try.prog.underlying T_int = some (.int .i64) := by kernel_rfl
theorem und_sl_int : Try.prog.underlying T_sl_int = some (.slice T_int) := by kernel_rfl
theorem und_sl_timer : Try.prog.underlying T_sl_wheel_timer = some (.slice T_wheel_timer) := by kernel_rfl
theorem und_sl_rtimer : Try.prog.underlying T_sl_pointsmanref04_Timer = some (.slice T_ref04_Timer) := by kernel_rfl
/-- A type's row: its zero, its size in cells and in bytes. -/
structure Row (t : TypeId) (z : List Value) (sz by_ : Nat) : Prop where
  info : ∃ i, Try.prog.info? t = some i ∧ i.size = sz ∧ i.bytes = by_
  zero : zeroL Try.prog t = some z
  len : z.length = sz
theorem Row.mk' {t : TypeId} {z : List Value} {sz by_ : Nat} (h : (Try.prog.info? t).map (fun i => (i.size, i.bytes)) = some (sz, by_)) (hz : zeroL Try.prog t = some z) (hl : z.length = sz) : Row t z sz by_ := by
  cases hi : Try.prog.info? t with
  | none => rw [hi] at h; cases h
  | some i =>
    rw [hi] at h
    simp only [Option.map_some, Option.some.injEq, Prod.mk.injEq] at h
    exact ⟨⟨i, hi, h.1, h.2⟩, hz, hl⟩
theorem row_int : Row T_int [.int .i64 0] 1 8 := Row.mk' (by kernel_rfl) (by kernel_rfl) rfl
theorem row_timer : Row T_wheel_timer [.int .i64 0, .int .i64 0] 2 16 := Row.mk' (by kernel_rfl) (by kernel_rfl) rfl
theorem row_rtimer : Row T_ref04_Timer [.int .i64 0, .int .i64 0] 2 16 := Row.mk' (by kernel_rfl) (by kernel_rfl) rfl
theorem mapTy : MapTy Try.prog T_mapaint_int T_int T_int := by
  refine ⟨by kernel_rfl, by kernel_rfl, ?_⟩
  have h : (Try.prog.info? T_int).bind (·.zero) = some (.int .i64 0) := by kernel_rfl
  cases hi : Try.prog.info? T_int with
  | none => rw [hi] at h; cases h
  | some i => rw [hi] at h; exact ⟨i, rfl, h⟩

/-- Pairs, cell behind cell; numbers, cell behind cell. -/
def prs (l : List Ent) : List Value := l.flatMap fun p => [.int .i64 p.1, .int .i64 p.2]
theorem prs_append (a b : List Ent) : prs (a ++ b) = prs a ++ prs b := by simp [prs]
theorem prs_length (l : List Ent) : (prs l).length = l.length * 2 := by
  induction l with
  | nil => rfl
  | cons x xs ih => simp only [prs, List.flatMap_cons] at *; simp [ih]; omega
theorem prs_get0 (l : List Ent) {i : Nat} (h : i < l.length) : (prs l)[i * 2]? = some (.int .i64 l[i].1) := by
  induction l generalizing i with
  | nil => simp at h
  | cons x xs ih =>
    cases i with
    | zero => rfl
    | succ i =>
      simp only [List.length_cons] at h
      have := ih (i := i) (by omega)
      rw [show (i + 1) * 2 = i * 2 + 2 by omega]
      simpa [prs] using this
theorem prs_get1 (l : List Ent) {i : Nat} (h : i < l.length) : (prs l)[i * 2 + 1]? = some (.int .i64 l[i].2) := by
  induction l generalizing i with
  | nil => simp at h
  | cons x xs ih =>
    cases i with
    | zero => rfl
    | succ i =>
      simp only [List.length_cons] at h
      have := ih (i := i) (by omega)
      rw [show (i + 1) * 2 + 1 = i * 2 + 1 + 2 by omega]
      simpa [prs] using this
theorem prs_plain (l : List Ent) : ∀ v ∈ prs l, plainC v = true := by
  intro v hv
  simp only [prs, List.mem_flatMap] at hv
  obtain ⟨p, _, hv⟩ := hv
  simp only [List.mem_cons, List.not_mem_nil, or_false] at hv
  rcases hv with rfl | rfl <;> rfl
def iv (l : List Int) : List Value := l.map fun x => .int .i64 x
@[simp] theorem iv_length (l : List Int) : (iv l).length = l.length := by simp [iv]
theorem iv_plain (l : List Int) : ∀ v ∈ iv l, plainC v = true := by
  intro v hv
  simp only [iv, List.mem_map] at hv
  obtain ⟨x, _, rfl⟩ := hv
  rfl
theorem iv_append (a b : List Int) : iv (a ++ b) = iv a ++ iv b := by simp [iv]
theorem own_pair {H0 H : Heap} {m n cap : Nat} {T : TypeId} {l : List Ent} (h : Sh.Own H0 H (some ⟨m, 0, none⟩) n cap 2 T (prs l)) {i : Nat} (hi : i < l.length) :
    H.cell ⟨m, 0 + i * 2, none⟩ = some (.int .i64 l[i].1) ∧ H.cell ⟨m, 0 + i * 2 + 1, none⟩ = some (.int .i64 l[i].2) := by
  have hl := h.len
  rw [prs_length] at hl
  have hr := h.reads
  have h1 := hr.cell (j := i * 2) (by omega)
  have h2 := hr.cell (j := i * 2 + 1) (by omega)
  rw [prs_get0 l hi] at h1
  rw [prs_get1 l hi] at h2
  exact ⟨h1, by rw [Nat.add_assoc]; exact h2⟩

/-! ### The wheel -/
structure Rw where
  a : Option Addr
  cap : Nat
  xs : List Ent
structure WRep (H : Heap) (b : Nat) (L : List Ent) (now : Int) (c : Array Value) (mb : Nat) (es : List Kv) (ck : Nat) (R : Nat → Rw) : Prop where
  up : Up L
  len : L.length ≤ 256
  pos : ∀ e ∈ L, 0 ≤ e.2 ∧ e.2 ≤ maxT
  blk : Blk H b T_wheel_Wheel c
  size : c.size = 67
  due : c[64]? = some (.map (some mb))
  now : c[65]? = some (.int .i64 now)
  made : c[66]? = some (.bool true)
  map : MapAt H mb es ck
  born : ∀ e ∈ es, e.2.2 < ck
  uniq : ∀ e ∈ es, ∀ f ∈ es, e.2.2 = f.2.2 → e = f
  perm : (es.map fun e => (e.1, e.2.1)).Perm L
  cell : ∀ i, i < 64 → c[i]? = some (.slice (R i).a (R i).xs.length (R i).cap)
  row : ∀ i, i < 64 → Sh.Own emp H (R i).a (R i).xs.length (R i).cap 2 T_wheel_timer (prs (R i).xs)
  spoke : ∀ i : Nat, i < 64 → (R i).xs.Perm (L.filter fun e => decide (e.2 % 64 = i))
  apart : ∀ i j, i < 64 → j < 64 → ∀ x, (R i).a = some ⟨x, 0, none⟩ → (R j).a = some ⟨x, 0, none⟩ → i = j
/-- What belongs to it. -/
def Ft (b mb : Nat) (R : Nat → Rw) (x : Nat) : Prop := x = b ∨ x = mb ∨ ∃ i, i < 64 ∧ (R i).a = some ⟨x, 0, none⟩

section
variable {H H' : Heap} {b mb ck : Nat} {L : List Ent} {now : Int} {c : Array Value} {es : List Kv} {R : Nat → Rw}
theorem WRep.live (h : WRep H b L now c mb es ck R) {x : Nat} (hx : Ft b mb R x) : H x ≠ none := by
  rcases hx with rfl | rfl | ⟨i, hi, ha⟩
  · exact h.blk.some
  · exact h.map.some
  · obtain ⟨_, hb⟩ := (h.row i hi).live ha; exact hb.some
theorem WRep.keep (h : WRep H b L now c mb es ck R) {S : Nat → Prop} (k : Keep S H H') (hs : ∀ x, Ft b mb R x → ¬ S x) : WRep H' b L now c mb es ck R :=
  { h with
    blk := k.blk h.blk (hs _ (.inl rfl))
    map := h.map.keep k (hs _ (.inr (.inl rfl)))
    row := fun i hi => (h.row i hi).keep k fun x hx => hs _ (.inr (.inr ⟨i, hi, hx⟩)) }
theorem WRep.shut {Hs : Heap} (h : WRep H b L now c mb es ck R) (hs : Shut Hs H H') : WRep H' b L now c mb es ck R :=
  { h with blk := shutB h.blk hs, map := shutM h.map hs, row := fun i hi => shutO (h.row i hi) hs }
theorem WRep.ne_mb (h : WRep H b L now c mb es ck R) : b ≠ mb := fun e => by
  subst e
  have h1 := h.blk
  have h2 := h.map
  unfold Blk at h1
  unfold MapAt at h2
  rw [h1] at h2; cases h2
theorem WRep.ne_row (h : WRep H b L now c mb es ck R) {i : Nat} (hi : i < 64) {x : Nat} (hx : (R i).a = some ⟨x, 0, none⟩) : x ≠ b ∧ x ≠ mb := by
  obtain ⟨cc, hb⟩ := (h.row i hi).live hx
  refine ⟨fun e => ?_, fun e => ?_⟩
  · subst e
    have h1 := h.blk
    unfold Blk at h1 hb
    rw [h1] at hb
    simp only [Option.some.injEq, Obj.cells.injEq] at hb
    have := hb.2.1
    exact absurd this (by decide)
  · subst e
    have h2 := h.map
    unfold Blk at hb
    unfold MapAt at h2
    rw [hb] at h2; cases h2
theorem getK_mem {k v : Int} : ∀ {es : List Kv}, getK k es = some v → ∃ e ∈ es, e.1 = k ∧ e.2.1 = v
  | [], h => by cases h
  | e :: es, h => by
    unfold getK at h
    split at h
    · rename_i hk; cases h; exact ⟨e, List.mem_cons_self, hk, rfl⟩
    · obtain ⟨f, h1, h2⟩ := getK_mem h; exact ⟨f, List.mem_cons_of_mem _ h1, h2⟩
theorem getK_no {k : Int} : ∀ {es : List Kv}, getK k es = none → ∀ e ∈ es, e.1 ≠ k
  | [], _, _, h => by cases h
  | e :: es, h, f, hf => by
    unfold getK at h
    split at h
    · cases h
    · rename_i hk
      rcases List.mem_cons.1 hf with rfl | hf
      · exact hk
      · exact getK_no h f hf
theorem getK_due (hp : (es.map fun e => (e.1, e.2.1)).Perm L) (hu : Up L) (k : Int) : getK k es = dueL k L := by
  cases h : getK k es with
  | some v =>
    obtain ⟨e, he, rfl, rfl⟩ := getK_mem h
    exact (due_of hu (hp.mem_iff.1 (List.mem_map.2 ⟨e, he, rfl⟩))).symm
  | none =>
    refine (due_none.2 fun e he => ?_).symm
    obtain ⟨f, hf, rfl⟩ := List.mem_map.1 (hp.mem_iff.2 he)
    exact getK_no h f hf
theorem era_mem {k : Int} : ∀ {es : List Kv} {e : Kv}, e ∈ eraK k es → e ∈ es
  | [], _, h => by cases h
  | x :: es, e, h => by
    unfold eraK at h
    split at h
    · exact List.mem_cons_of_mem _ h
    · rcases List.mem_cons.1 h with rfl | h
      · exact List.mem_cons_self
      · exact List.mem_cons_of_mem _ (era_mem h)
theorem era_filter {k : Int} : ∀ {es : List Kv}, (es.map fun e => ((e.1, e.2.1) : Ent)).Pairwise (fun a b => a.1 ≠ b.1) → (eraK k es).map (fun e => ((e.1, e.2.1) : Ent)) = (es.map fun e => ((e.1, e.2.1) : Ent)).filter fun e => decide (e.1 ≠ k)
  | [], _ => rfl
  | x :: es, h => by
    rw [List.map_cons, List.pairwise_cons] at h
    unfold eraK
    split
    · rename_i hk
      rw [List.map_cons, List.filter_cons_of_neg (by simpa using hk), eq_comm, List.filter_eq_self]
      intro e he
      have := h.1 e he
      simp only at this
      exact decide_eq_true (by rw [← hk]; exact fun e => this e.symm)
    · rename_i hk
      rw [List.map_cons, List.map_cons, List.filter_cons_of_pos (by simpa using hk), era_filter h.2]
theorem era_perm (hp : (es.map fun e => ((e.1, e.2.1) : Ent)).Perm L) (hu : Up L) (k : Int) : ((eraK k es).map fun e => ((e.1, e.2.1) : Ent)).Perm (wo L k) := by
  have hpw : (es.map fun e => ((e.1, e.2.1) : Ent)).Pairwise (fun a b => a.1 ≠ b.1) := by
    refine (hp.pairwise_iff (R := fun a b : Ent => a.1 ≠ b.1) fun h => Ne.symm h).2 (hu.imp fun h => ?_)
    omega
  rw [era_filter hpw]
  exact hp.filter _
theorem len_es (h : WRep H b L now c mb es ck R) : es.length = L.length := by
  have := h.perm.length_eq
  simpa using this

theorem is_spec (h : WRep H b L now c mb es ck R) : FnW Try.prog f_wheel_Wheel_is ⟨[.pointer (some ⟨b, 0, none⟩)]⟩ H fun v H' => v = .bool true ∧ H = H' := by
  refine wheel_Wheel_is_sh b ?_
  unfold wheel_Wheel_is_p
  exact ⟨true, by rw [h.blk.cell]; exact h.made, fun H2 hs => ⟨rfl, shutE hs⟩⟩
theorem wrap_id {n : Int} (h1 : -9223372036854775808 ≤ n) (h2 : n ≤ 9223372036854775807) : IntKind.wrap .i64 n = n := Go.Sh.wrap_id h1 h2
def mayB (now n : Int) : Bool := decide (1 ≤ n) && decide (n ≤ maxT - now)
theorem may_spec (h : WRep H b L now c mb es ck R) (h0 : 0 ≤ now) (h1 : now ≤ maxT) (n : Int) : FnW Try.prog f_wheel_Wheel_may ⟨[.pointer (some ⟨b, 0, none⟩), .int .i64 n]⟩ H fun v H' => v = .int .i64 (if mayB now n then 0 else 2) ∧ H = H' := by
  refine wheel_Wheel_may_sh b n ?_
  unfold wheel_Wheel_may_p
  refine (is_spec h).mono ?_
  rintro _ _ ⟨rfl, rfl⟩
  refine ⟨_, rfl, ?_⟩
  unfold maxT at h1
  simp only [Bool.not_true, IfB_false]
  by_cases e : n < 1
  · rw [decide_eq_true e, IfB_true]
    unfold wheel_Wheel_may_j0
    rw [IfB_true]
    refine fun H2 hs => ⟨?_, shutE hs⟩
    have : mayB now n = false := by unfold mayB; rw [decide_eq_false (by omega)]; rfl
    rw [this]; rfl
  · rw [decide_eq_false e, IfB_false]
    refine ⟨now, by rw [h.blk.cell]; exact h.now, ?_⟩
    unfold wheel_Wheel_may_j0
    rw [wrap_id (by omega) (by omega)]
    have hm : mayB now n = decide (n ≤ 1099511627776 - now) := by unfold mayB maxT; rw [decide_eq_true (by omega)]; rfl
    rw [hm]
    by_cases e2 : n ≤ 1099511627776 - now
    · rw [decide_eq_false (by omega), IfB_false, decide_eq_true e2]
      exact fun H2 hs => ⟨rfl, shutE hs⟩
    · rw [decide_eq_true (by omega), IfB_true, decide_eq_false e2]
      exact fun H2 hs => ⟨rfl, shutE hs⟩
theorem spoke_spec {t : Int} (ht : 0 ≤ t) : FnW Try.prog f_wheel_Wheel_spoke ⟨[.pointer (some ⟨b, 0, none⟩), .int .i64 t]⟩ H fun v H' => v = .pointer (some ⟨b, (t % 64).toNat, none⟩) ∧ H = H' := by
  refine wheel_Wheel_spoke_sh b t ?_
  unfold wheel_Wheel_spoke_p
  have h1 := Int.emod_nonneg t (b := 64) (by omega)
  have h2 := Int.emod_lt_of_pos t (b := 64) (by omega)
  refine ⟨by omega, InB.intro (t % 64).toNat ?_ (by omega) ?_⟩
  · rw [Int.tmod_eq_emod_of_nonneg ht]; omega
  · exact fun H2 hs => ⟨by rw [Nat.zero_add, Nat.mul_one], shutE hs⟩
theorem now_spec (h : WRep H b L now c mb es ck R) : FnW Try.prog f_wheel_Wheel_Now ⟨[.pointer (some ⟨b, 0, none⟩)]⟩ H fun v H' => v = .int .i64 now ∧ H = H' := by
  refine wheel_Wheel_Now_sh b ?_
  unfold wheel_Wheel_Now_p
  refine (is_spec h).mono ?_
  rintro _ _ ⟨rfl, rfl⟩
  refine ⟨_, rfl, ?_⟩
  simp only [Bool.not_true, IfB_false]
  exact ⟨now, by rw [h.blk.cell]; exact h.now, fun H2 hs => ⟨rfl, shutE hs⟩⟩
theorem len_spec (h : WRep H b L now c mb es ck R) : FnW Try.prog f_wheel_Wheel_Len ⟨[.pointer (some ⟨b, 0, none⟩)]⟩ H fun v H' => v = .int .i64 L.length ∧ H = H' := by
  refine wheel_Wheel_Len_sh b ?_
  unfold wheel_Wheel_Len_p
  refine (is_spec h).mono ?_
  rintro _ _ ⟨rfl, rfl⟩
  refine ⟨_, rfl, ?_⟩
  simp only [Bool.not_true, IfB_false]
  refine ⟨_, by rw [h.blk.cell]; exact h.due, LenI mapTy h.map ⟨_, rfl, fun H2 hs => ⟨?_, shutE hs⟩⟩⟩
  rw [len_es h]
theorem due_spec (h : WRep H b L now c mb es ck R) (k : Int) : FnW Try.prog f_wheel_Wheel_Due ⟨[.pointer (some ⟨b, 0, none⟩), .int .i64 k]⟩ H fun v H' => v = .tuple ⟨[.int .i64 ((dueL k L).getD 0), .bool (dueL k L).isSome]⟩ ∧ H = H' := by
  refine wheel_Wheel_Due_sh b k ?_
  unfold wheel_Wheel_Due_p
  refine (is_spec h).mono ?_
  rintro _ _ ⟨rfl, rfl⟩
  refine ⟨_, rfl, ?_⟩
  simp only [Bool.not_true, IfB_false]
  refine ⟨_, by rw [h.blk.cell]; exact h.due, LkI mapTy h.map ?_⟩
  rw [getK_due h.perm h.up]
  exact ⟨_, _, rfl, fun H2 hs => ⟨rfl, shutE hs⟩⟩
/-- The earliest: entries come in any order. -/
theorem next_spec (h : WRep H b L now c mb es ck R) : FnW Try.prog f_wheel_Wheel_Next ⟨[.pointer (some ⟨b, 0, none⟩)]⟩ H fun v H' => v = .tuple ⟨[.int .i64 ((minL L).getD 0), .bool (minL L).isSome]⟩ ∧ Keep Nil H H' := by
  refine wheel_Wheel_Next_sh b ?_
  unfold wheel_Wheel_Next_p
  refine (is_spec h).mono ?_
  rintro _ _ ⟨rfl, rfl⟩
  refine ⟨_, rfl, ?_⟩
  simp only [Bool.not_true, IfB_false]
  refine ⟨_, by rw [h.blk.cell]; exact h.due, (SemW.bind _ _ _ _).2 (RgI mapTy h.map fun n hn => ?_)⟩
  show LoopI (Int × Bool × Unit) (0, false, ()) (H.upd n (.mapIter (some mb) ck #[] ck)) fun x H next => ∀ _g : Env, wheel_Wheel_Next_l5 (.pointer (some ⟨n, 0, none⟩)) x.1 x.2.1 H next _
  -- what was seen, and the best of it
  refine LoopI.intro (x0 := (0, false, ())) (fun k s H3 => ∃ (seen : List Nat), H3 n = some (.mapIter (some mb) ck ⟨seen⟩ ck) ∧ Keep Nil H H3 ∧
      (es.filter fun e => !(seen.contains e.2.2)).length = k ∧ (s.2.1 = true → ∃ e ∈ es, e.2.1 = s.1) ∧ (s.2.1 = false → s.1 = 0 ∧ ∀ e ∈ es, e.2.2 ∉ seen) ∧ (s.2.1 = true → ∀ e ∈ es, e.2.2 ∈ seen → s.1 ≤ e.2.1)) _
    ⟨[], upd_eq, (Keep.refl _ _).new hn, rfl, (fun h => by cases h), fun _ => ⟨rfl, fun e _ h => by cases h⟩, fun h => by cases h⟩ ?_
  rintro k ⟨best, any, _⟩ H3 ⟨seen, hi, kp, hk, h1, h2, h3⟩ g
  simp only at h1 h2 h3
  unfold wheel_Wheel_Next_l5
  dsimp only
  have hm := h.map.keep kp fun x => x
  refine NxI hi hm h.born (fun hall => ?_) fun e he hne => ?_
  · refine ⟨false, [], rfl, ?_⟩
    rw [IfB_false]
    have kk := kp
    refine fun H2 hs => ⟨?_, shutS kk hs⟩
    have hmin : ∀ m : Int, any = true → m = best → minL L = some m := by
      intro m ha hm
      subst hm
      refine min_is ?_ fun e he => ?_
      · obtain ⟨e, he, e2⟩ := h1 ha
        exact ⟨(e.1, e.2.1), h.perm.mem_iff.1 (List.mem_map.2 ⟨e, he, rfl⟩), e2⟩
      · obtain ⟨f, hf, rfl⟩ := List.mem_map.1 (h.perm.mem_iff.2 he)
        exact h3 ha f hf (hall f hf)
    cases any with
    | true => rw [hmin best rfl rfl]; rfl
    | false =>
      obtain ⟨e0, hno⟩ := h2 rfl
      have : es = [] := by
        cases es with
        | nil => rfl
        | cons x es => exact absurd (hall x List.mem_cons_self) (hno x List.mem_cons_self)
      have hL : L = [] := by
        have := len_es h
        rw [‹es = []›] at this
        exact List.eq_nil_of_length_eq_zero this.symm
      rw [hL, e0]; rfl
  · refine ⟨true, _, rfl, ?_⟩
    rw [IfB_true]
    have hnH : n ≠ mb := fun e => by subst e; exact h.map.some hn
    have hm4 : MapAt (H3.upd n (.mapIter (some mb) ck ⟨seen ++ [e.2.2]⟩ ck)) mb es ck := hm.same (upd_ne fun e => hnH e.symm)
    refine EnI upd_eq hm4 he (fun x hx ex => h.uniq x hx e he ex) ?_
    refine ⟨_, _, rfl, ?_⟩
    have kp4 : Keep Nil H (H3.upd n (.mapIter (some mb) ck ⟨seen ++ [e.2.2]⟩ ck)) := kp.upd (.inr hn)
    have hlt : (es.filter fun x => !((seen ++ [e.2.2]).contains x.2.2)).length < (es.filter fun x => !(seen.contains x.2.2)).length := by
      have e1 : (es.filter fun x => !((seen ++ [e.2.2]).contains x.2.2)) = (es.filter fun x => !(seen.contains x.2.2)).filter fun x => !(decide (x.2.2 = e.2.2)) := by
        rw [List.filter_filter]
        apply List.filter_congr
        intro x _
        rw [Bool.eq_iff_iff]
        simp [not_or, and_comm]
      rw [e1, List.length_filter_lt_length_iff_exists]
      exact ⟨e, List.mem_filter.2 ⟨he, by simpa using hne⟩, by simp⟩
    have step : ∀ best' : Int, (best' = e.2.1 ∨ (any = true ∧ best' = best)) → (any = true → best' ≤ best) → best' ≤ e.2.1 →
        (fun x H' => ∃ k', k' < k ∧ ∃ (seen : List Nat), H' n = some (.mapIter (some mb) ck ⟨seen⟩ ck) ∧ Keep Nil H H' ∧
          (es.filter fun e => !(seen.contains e.2.2)).length = k' ∧ (x.2.1 = true → ∃ e ∈ es, e.2.1 = x.1) ∧ (x.2.1 = false → x.1 = 0 ∧ ∀ e ∈ es, e.2.2 ∉ seen) ∧ (x.2.1 = true → ∀ e ∈ es, e.2.2 ∈ seen → x.1 ≤ e.2.1)) (best', true, ()) (H3.upd n (.mapIter (some mb) ck ⟨seen ++ [e.2.2]⟩ ck)) := by
      intro best' hb hle hle2
      refine ⟨_, by rw [← hk]; exact hlt, seen ++ [e.2.2], upd_eq, kp4, rfl, fun _ => ?_, (fun h => by cases h), fun _ x hx hxs => ?_⟩
      · rcases hb with rfl | ⟨ha, rfl⟩
        · exact ⟨e, he, rfl⟩
        · exact h1 ha
      · rcases List.mem_append.1 hxs with hxs | hxs
        · cases ha : any with
          | true => have := h3 ha x hx hxs; have := hle ha; omega
          | false => exact absurd hxs ((h2 ha).2 x hx)
        · simp only [List.mem_singleton] at hxs
          have := h.uniq x hx e he hxs
          subst this
          exact hle2
    unfold wheel_Wheel_Next_j0
    cases ha : any with
    | false =>
      rw [Bool.not_false, IfB_true, IfB_true]
      exact step _ (.inl rfl) (fun h => by rw [ha] at h; cases h) (Int.le_refl _)
    | true =>
      rw [Bool.not_true, IfB_false]
      by_cases hlt : e.2.1 < best
      · rw [decide_eq_true hlt, IfB_true]
        exact step _ (.inl rfl) (fun _ => by omega) (Int.le_refl _)
      · rw [decide_eq_false hlt, IfB_false]
        exact step _ (.inr ⟨ha, rfl⟩) (fun _ => Int.le_refl _) (by omega)
end
end Go.Proofs.Ytdhjglkacnhhcaa
