/-
  The small helpers of the statements: what they answer.
-/
import Derived.Test.YtligjponbhnedaaFns
import Derived.Test.YtligjponbhnedaaSh13
set_option maxRecDepth 100000
namespace Go.Proofs.Ytligjponbhnedaa
open Go.Sh

theorem und_sl_uint8 : Try.prog.underlying T_sl_uint8 = some (.slice T_uint8) := by kernel_rfl
theorem und_string : Try.prog.underlying T_string = some .string := by kernel_rfl
theorem und_uint8 : Try.prog.underlying T_uint8 = some (.int .u8) := by kernel_rfl

/-- A type's row: its zero, its size in cells and in bytes. -/
structure Row (t : TypeId) (z : List Value) (sz by_ : Nat) : Prop where
  info : ∃ i, Try.prog.info? t = some i ∧ i.size = sz ∧ i.bytes = by_
  zero : zeroL Try.prog t = some z
  size : szOf Try.prog t = some sz
  len : z.length = sz

theorem Row.mk' {t : TypeId} {z : List Value} {sz by_ : Nat} (h : (Try.prog.info? t).map (fun i => (i.size, i.bytes)) = some (sz, by_)) (hz : zeroL Try.prog t = some z) (hl : z.length = sz) : Row t z sz by_ := by
  cases hi : Try.prog.info? t with
  | none => rw [hi] at h; cases h
  | some i =>
    rw [hi] at h
    simp only [Option.map_some, Option.some.injEq, Prod.mk.injEq] at h
    exact ⟨⟨i, hi, h.1, h.2⟩, hz, by unfold szOf; rw [hi]; simp [h.1], hl⟩

theorem row_uint8 : Row T_uint8 [.int .u8 0] 1 1 := Row.mk' (by kernel_rfl) (by kernel_rfl) rfl
theorem row_int : Row T_int [.int .i64 0] 1 8 := Row.mk' (by kernel_rfl) (by kernel_rfl) rfl

def u8s (bs : List UInt8) : List Value := bs.map fun x => .int .u8 x.toNat
@[simp] theorem u8s_length (bs : List UInt8) : (u8s bs).length = bs.length := by simp [u8s]
theorem u8s_inj {a b : List UInt8} (h : u8s a = u8s b) : a = b := by
  induction a generalizing b with
  | nil => cases b with
    | nil => rfl
    | cons y ys => simp [u8s] at h
  | cons x xs ih => cases b with
    | nil => simp [u8s] at h
    | cons y ys =>
      simp only [u8s, List.map_cons, List.cons.injEq, Value.int.injEq, true_and] at h
      have h1 : x = y := UInt8.toNat_inj.1 (by exact_mod_cast h.1)
      rw [h1, ih h.2]
theorem u8s_plain (bs : List UInt8) : ∀ v ∈ u8s bs, plainC v = true := by
  intro v hv
  simp only [u8s, List.mem_map] at hv
  obtain ⟨x, _, rfl⟩ := hv
  rfl

/-- A slice of bytes reads as bs. -/
def IsBytes (H : Heap) (a : Option Addr) (n : Nat) (bs : List UInt8) : Prop := Reads H a n (u8s bs)
theorem IsBytes.len {H : Heap} {a : Option Addr} {n : Nat} {bs : List UInt8} (h : IsBytes H a n bs) : n = bs.length := by
  have := h.1; simpa using this.symm

/-- Bytes in a block of their own, which H0 has not. -/
def Fresh (H0 H : Heap) (a : Option Addr) (n cap : Nat) (bs : List UInt8) : Prop :=
  ∃ m rest, a = some ⟨m, 0, none⟩ ∧ n = bs.length ∧ n ≤ cap ∧ H0 m = none ∧ Blk H m T_uint8 ⟨u8s bs ++ rest⟩ ∧ rest.length = cap - n

theorem Fresh.bytes {H0 H : Heap} {a : Option Addr} {n cap : Nat} {bs : List UInt8} (h : Fresh H0 H a n cap bs) : IsBytes H a n bs := by
  obtain ⟨m, rest, rfl, rfl, _, _, hb, _⟩ := h
  refine Reads.blk hb (by simp) fun j hj => ?_
  simp [List.getElem?_append, hj]

theorem repL_zero (n : Nat) (v : Value) : repL n [v] = List.replicate n v := by
  induction n with
  | zero => rfl
  | succ n ih => rw [repL, ih]; rfl

theorem base_Bytes_spec {H : Heap} {a : Option Addr} {n c : Nat} {bs : List UInt8} (hr : IsBytes H a n bs) (hn : n ≤ 2 ^ 47) :
    FnW Try.prog f_base_Bytes ⟨[.slice a n c]⟩ H fun v H' => ∃ a' c', v = .slice a' n c' ∧ Fresh H H' a' n c' bs ∧ Keep Nil H H' := by
  refine base_Bytes_sh a n c ?_
  unfold base_Bytes_p
  refine NewW.intro fun m hm => ?_
  have hlen := hr.len
  have hr' : Reads (H.upd m (.cells ⟨[]⟩ T_uint8)) a (n * 1) (u8s bs) := by
    rw [Nat.mul_one]
    exact Reads.keep (S := Nil) hr ((Keep.refl _ _).new hm) (fun _ _ h => h)
  obtain ⟨it, hi, hsz, hby⟩ := row_uint8.info
  refine AppW.intro (n := n) (sLen := 0) (sCap := 0) (sz := 1) (by_ := 1) (old := []) und_sl_uint8 und_sl_uint8 hi hsz hby (by omega) row_uint8.zero rfl ?_ hr' (.inr ⟨rfl, by omega⟩) ?_ ?_
  · exact Reads.blk Blk.upd_eq rfl (fun j hj => by omega)
  · intro h0
    have hn0 : n = 0 := by omega
    subst hn0
    have hbs : bs = [] := List.eq_nil_of_length_eq_zero hlen.symm
    subst hbs
    refine ⟨rfl, ⟨[]⟩, T_uint8, Blk.upd_eq, by simp, by simp [u8s], fun H' hb ho => ?_⟩
    refine ⟨_, _, _, rfl, _, _, rfl, ⟨m, [], rfl, rfl, Nat.le_refl _, hm, by simpa [putRow, u8s] using hb, rfl⟩, ?_⟩
    have k1 : Keep Nil H (H.upd m (.cells ⟨[]⟩ T_uint8)) := (Keep.refl _ _).new hm
    refine k1.then (S' := fun b => b = m) ⟨fun b hb' _ => ho b hb', fun b hb' => ?_⟩ fun b hb' => .inr (by rw [hb']; exact hm)
    by_cases e : b = m
    · subst e; exact hb.some
    · rw [ho b e]; exact hb'
  · intro h0 m2 cap hm2 hcap
    simp only [Nat.zero_add] at hcap ⊢
    have k1 : Keep Nil H (H.upd m (.cells ⟨[]⟩ T_uint8)) := (Keep.refl _ _).new hm
    refine ⟨_, _, _, rfl, _, _, rfl, ⟨m2, repL (cap - n) [.int .u8 0], rfl, hlen, hcap, k1.free hm2, ?_, by simp [repL_zero]⟩, k1.new hm2⟩
    simpa using Blk.upd_eq

theorem base_SameBytes_spec {H : Heap} {a b : Option Addr} {n c m d : Nat} {xs ys : List UInt8} (hx : IsBytes H a n xs) (hy : IsBytes H b m ys) :
    FnW Try.prog f_base_SameBytes ⟨[.slice a n c, .slice b m d]⟩ H fun v H' => v = .bool (xs == ys) ∧ H = H' := by
  refine base_SameBytes_sh a n c b m d ?_
  unfold base_SameBytes_p
  refine StrW.intro und_sl_uint8 und_string und_uint8 hx ⟨_, rfl, ?_⟩
  refine StrW.intro und_sl_uint8 und_string und_uint8 hy ⟨_, rfl, ?_⟩
  rw [bstr_toList, bstr_toList]
  exact ⟨rfl, rfl⟩

theorem row_buffer_size : szOf Try.prog T_pool_buffer = some 1516 := by kernel_rfl

/-- b.n = copy(b.b[:], x). -/
theorem pool_buffer_fill_spec {H : Heap} {b o : Nat} {a : Option Addr} {n c : Nat} {bs : List UInt8} {T : TypeId} {d : Array Value} (hb : Blk H b T d) (ho : o + 1516 ≤ d.size) (hr : IsBytes H a n bs) (hn : n ≤ 1514) :
    FnW Try.prog f_pool_buffer_fill ⟨[.pointer (some ⟨b, o, none⟩), .slice a n c]⟩ H fun v H' => v = .tuple ⟨[]⟩ ∧ Blk H' b T ((putRow d (o + 2) (u8s bs)).setIfInBounds (o + 1) (.int .i64 n)) ∧ ∀ b', b' ≠ b → H' b' = H b' := by
  refine pool_buffer_fill_sh b o a n c ?_
  unfold pool_buffer_fill_p
  have hlen := hr.len
  have hm : min n 1514 = n := by omega
  refine CopyW.intro (sz := 1) und_sl_uint8 row_uint8.size hb (by omega) (by rw [hm, Nat.mul_one]; exact hr) (u8s_plain bs) fun H1 hb1 ho1 => ?_
  rw [hm]
  refine ⟨_, rfl, ?_⟩
  refine StCell.blk hb1 (by rw [putRow_size]; omega) rfl ?_
  exact ⟨rfl, Blk.upd_eq, fun b' hne => by rw [upd_ne hne, ho1 b' hne]⟩

end Go.Proofs.Ytligjponbhnedaa
