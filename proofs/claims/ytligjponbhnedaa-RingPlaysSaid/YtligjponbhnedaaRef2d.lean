/-
  The verifier's pool: Make. Both pools side by side.
-/
import Derived.Test.YtligjponbhnedaaRef2c
set_option maxRecDepth 100000
namespace Go.Proofs.Ytligjponbhnedaa
open Go.Sh

theorem row_RBuf : Row T_ref02_Buf [.int .i64 0, .slice none 0 0] 2 32 := Row.mk' (by kernel_rfl) (by kernel_rfl) rfl
theorem und_sl_RBuf : Try.prog.underlying T_sl_pointsmanref02_Buf = some (.slice T_ref02_Buf) := by kernel_rfl

theorem ref_Make_no {H : Heap} {n : Int} (h : n < 1 ∨ 256 < n) :
    FnW Try.prog f_ref02_Make ⟨[.int .i64 n]⟩ H fun v H' => v = .tuple ⟨[.pointer none, .int .i64 2]⟩ ∧ H = H' := by
  refine ref02_Make_sh n ?_
  unfold ref02_Make_p
  by_cases h1 : n < 1
  · rw [decide_eq_true h1]
    exact ⟨rfl, rfl⟩
  · rw [decide_eq_false h1]
    have h2 : n > 256 := by omega
    rw [decide_eq_true h2]
    exact ⟨rfl, rfl⟩

theorem ref_Make_spec {H : Heap} {n : Nat} (h1 : 1 ≤ n) (h2 : n ≤ 256) :
    FnW Try.prog f_ref02_Make ⟨[.int .i64 n]⟩ H fun v H' => Keep Nil H H' ∧ ∃ b bl fa fc d, v = .tuple ⟨[.pointer (some ⟨b, 0, none⟩), .int .i64 0]⟩ ∧ RAt H H' b bl (PoolM.make n) fa fc d := by
  refine ref02_Make_sh n ?_
  unfold ref02_Make_p
  rw [decide_eq_false (by omega), decide_eq_false (by omega), IfB_false]
  unfold ref02_Make_j0
  rw [IfB_false]
  obtain ⟨it, hi, hsz, hby⟩ := row_RBuf.info
  refine MakeW.intro und_sl_RBuf hi row_RBuf.zero (by rw [hsz]; exact row_RBuf.len) (Nat.le_refl n) (by omega) (by rw [hby]; omega) fun bl hbl => ?_
  refine ⟨_, _, _, rfl, ?_⟩
  have hzl : (repL n [.int .i64 0, .slice none 0 0]).length = n * 2 := by rw [repL_length]; rfl
  have hzg : ∀ i, i < n * 2 → (repL n [.int .i64 0, .slice none 0 0])[i]? = ([.int .i64 0, .slice none 0 0] : List Value)[i % 2]? := fun i hi => repL_get [.int .i64 0, .slice none 0 0] (by simp) n i hi
  generalize repL n [.int .i64 0, .slice none 0 0] = z at *
  have k1 : Keep Nil H (H.upd bl (.cells ⟨z⟩ T_ref02_Buf)) := (Keep.refl _ _).new hbl
  have hB1 : Blk (H.upd bl (.cells ⟨z⟩ T_ref02_Buf)) bl T_ref02_Buf ⟨z⟩ := Blk.upd_eq
  generalize H.upd bl (.cells ⟨z⟩ T_ref02_Buf) = H1 at *
  refine NewW.intro fun b hb => ?_
  have hb0 := k1.free hb
  have k2 : Keep Nil H1 (H1.upd b (.cells ⟨[.slice (some ⟨bl, 0, none⟩) n n, .slice none 0 0, .int .i64 0]⟩ T_ref02_Pool)) := (Keep.refl _ _).new hb
  have hP2 : Blk (H1.upd b (.cells ⟨[.slice (some ⟨bl, 0, none⟩) n n, .slice none 0 0, .int .i64 0]⟩ T_ref02_Pool)) b T_ref02_Pool ⟨[.slice (some ⟨bl, 0, none⟩) n n, .slice none 0 0, .int .i64 0]⟩ := Blk.upd_eq
  generalize H1.upd b (.cells ⟨[.slice (some ⟨bl, 0, none⟩) n n, .slice none 0 0, .int .i64 0]⟩ T_ref02_Pool) = H2 at *
  have hB2 := k2.blk hB1 (nil_no _)
  refine LoopI.intro (fun k x H3 => ∃ (i : Nat) (fa : Option Addr) (fc : Nat), x = ((i : Int), ()) ∧ i ≤ n ∧ k = n - i ∧ Keep Nil H H3 ∧ Blk H3 bl T_ref02_Buf ⟨z⟩ ∧ Blk H3 b T_ref02_Pool ⟨[.slice (some ⟨bl, 0, none⟩) n n, .slice fa i fc, .int .i64 0]⟩ ∧
      Own H H3 fa i fc 1 T_int (i64s ((List.range i).map fun j : Nat => (j : Int)))) n
    ⟨0, none, 0, rfl, Nat.zero_le _, by omega, k1.trans k2, hB2, hP2, Own.nil⟩ ?_
  rintro k x H3 ⟨i, fa, fc, rfl, hin, rfl, k3, hB3, hP3, ho⟩ g
  unfold ref02_Make_l5
  simp only
  by_cases hlt : i < n
  · rw [decide_eq_true (by omega), IfB_true]
    refine ⟨_, _, _, by rw [hP3.cell]; rfl, ?_⟩
    refine own_push und_sl_int row_int (by omega) (by omega) ho k3 rfl (by simp [plainC]) (by omega) fun m a' cap' H' ho' k' k3' => ?_
    refine ⟨_, _, _, rfl, ?_⟩
    have nf : ∀ y T c, T ≠ T_int → Blk H3 y T c → ¬ fa = some ⟨y, 0, none⟩ := fun y T c hT hy e => by
      obtain ⟨c', hc⟩ := ho.live e
      exact hT (Blk.type hy hc)
    have hP' := k'.blk hP3 (nf _ _ _ (by decide) hP3)
    have hB' := k'.blk hB3 (nf _ _ _ (by decide) hB3)
    refine StCell.blk hP' (by simp) rfl ?_
    have np : ∀ y T c, T ≠ T_ref02_Pool → Blk H' y T c → ¬ y = b := fun y T c hT hy e => by
      subst e
      exact hT (Blk.type hy hP')
    have k7 : Keep (fun x => x = b) H' (H'.upd b (.cells ((⟨[.slice (some ⟨bl, 0, none⟩) n n, .slice fa i fc, .int .i64 0]⟩ : Array Value).setIfInBounds 1 (.slice a' (i + 1) cap')) T_ref02_Pool (0, 0))) := (Keep.refl _ _).upd (.inl rfl)
    refine ⟨n - (i + 1), by omega, i + 1, a', cap', ?_, by omega, rfl, k3'.then k7 fun x hx => .inr (by rw [hx]; exact hb0), k7.blk hB' (np _ _ _ (by decide) hB'), Blk.upd_eq, ?_⟩
    · rw [wrap_id (by omega) (by omega)]; simp
    · have h1 := ho'.keep k7 fun x hx => by
        obtain ⟨c, hc⟩ := ho'.live hx
        exact np _ _ c (by decide) hc
      rw [List.range_succ, List.map_append]
      simpa [i64s] using h1
  · rw [decide_eq_false (by omega), IfB_false]
    obtain rfl : i = n := by omega
    have hml : (PoolM.make i).bufs.length = i := by simp [PoolM.make]
    have hmf : (PoolM.make i).free.length = i := by simp [PoolM.make]
    refine ⟨k3, b, bl, fa, fc, ⟨z⟩, rfl, ?_⟩
    exact
      { inv := PoolM.inv_make h1 h2
        newP := hb0
        newL := hbl
        blkP := by rw [hml, hmf]; exact hP3
        free := by rw [hmf]; exact ho
        blkB := hB3
        sizeB := by rw [hml]; simpa using hzl
        bufs := by
          intro k t bs hk
          have hki : k < i := by
            have := (List.getElem?_eq_some_iff.1 hk).1
            simpa [PoolM.make] using this
          simp [PoolM.make, hki] at hk
          obtain ⟨rfl, rfl⟩ := hk
          simp only [List.getElem?_toArray]
          rw [hzg _ (by omega), hzg _ (by omega)]
          have e1 : k * 2 % 2 = 0 := by omega
          have e2 : (k * 2 + 1) % 2 = 1 := by omega
          rw [e1, e2]
          exact ⟨rfl, none, 0, 0, rfl, Own.nil⟩ }

theorem RAt.mono {H0 H1 H : Heap} {b bl : Nat} {M : PoolM} {fa : Option Addr} {fc : Nat} {d : Array Value} (h : RAt H1 H b bl M fa fc d) (k : Keep Nil H0 H1) : RAt H0 H b bl M fa fc d :=
  { h with newP := k.free h.newP, newL := k.free h.newL, free := h.free.mono k }

/-- The types of the pools' own blocks. -/
def PT (T : TypeId) : Prop := T = T_pool_Pool ∨ T = T_pool_buffer ∨ T = T_ref02_Pool ∨ T = T_ref02_Buf ∨ T = T_int
instance (T : TypeId) : Decidable (PT T) := by unfold PT; infer_instance
def pset (H : Heap) : Nat → Prop := fun z => ∃ T c, PT T ∧ Blk H z T c
theorem Blk.noP {H : Heap} {z : Nat} {T : TypeId} {c : Array Value} (h : Blk H z T c) (hT : ¬ PT T) : ¬ pset H z := fun ⟨T', c', h1, h2⟩ => hT (Eq.mpr (congrArg PT (Blk.type h h2)) h1)

/-- Two pools, the program's and the verifier's, each with what it holds; H0: the heap at first. -/
structure Both (H0 H : Heap) (x xl y yl : Nat) (M N : PoolM) : Prop where
  keep : Keep Nil H0 H
  newX : H0 x = none
  newL : H0 xl = none
  atX : ∃ c d f, PoolAt H x xl M c d f
  atY : ∃ fa fc e, RAt H0 H y yl N fa fc e

theorem Both.keepN {H0 H H' : Heap} {x xl y yl : Nat} {M N : PoolM} (h : Both H0 H x xl y yl M N) (k : Keep Nil H H') : Both H0 H' x xl y yl M N := by
  obtain ⟨c, d, f, hx⟩ := h.atX
  obtain ⟨fa, fc, e, hy⟩ := h.atY
  exact ⟨h.keep.trans k, h.newX, h.newL, ⟨c, d, f, hx.keep k (nil_no _) (nil_no _)⟩, fa, fc, e, hy.keepN k⟩

/-- A row of bytes that lies in a block of bytes (or nowhere). -/
def U8 (H : Heap) (a : Option Addr) : Prop := ∀ z, a = some z → ∃ c, Blk H z.block T_uint8 c
theorem U8.nil {H : Heap} : U8 H none := fun _ h => by cases h
theorem Fresh.u8 {H0 H : Heap} {a : Option Addr} {n cap : Nat} {bs : List UInt8} (h : Fresh H0 H a n cap bs) : U8 H a := by
  obtain ⟨m, rest, rfl, _, _, _, hb, _⟩ := h
  intro z hz; cases hz; exact ⟨_, hb⟩
theorem U8.keep {S : Nat → Prop} {H H' : Heap} {a : Option Addr} (h : U8 H a) (k : Keep S H H') (hs : ∀ z c, Blk H z T_uint8 c → ¬ S z) : U8 H' a := fun z hz => by
  obtain ⟨c, hc⟩ := h z hz
  exact ⟨c, k.blk hc (hs _ _ hc)⟩

theorem both_xRead {H0 H : Heap} {x xl y yl : Nat} {M N : PoolM} (h : Both H0 H x xl y yl M N) (n t : Int) :
    FnW Try.prog f_pool_Pool_Read ⟨[.pointer (some ⟨x, 0, none⟩), .agg ⟨[.int .i64 n, .int .i64 t]⟩]⟩ H fun v H' => Keep Nil H H' ∧ ∃ a m cap, v = .tuple ⟨[.slice a m cap, .int .i64 (M.read n t).2]⟩ ∧ IsBytes H' a m (M.read n t).1 := by
  obtain ⟨c, d, f, hx⟩ := h.atX
  refine (pool_Read_spec hx n t).mono ?_
  rintro v H' ⟨k, a, m, cap, rfl, h1, h2⟩
  refine ⟨k, a, m, cap, ?_, ?_⟩
  · unfold PoolM.read
    by_cases h0 : M.findE n t = 0
    · rw [if_pos h0, h0]
    · rw [if_neg h0]
  · unfold PoolM.read
    by_cases h0 : M.findE n t = 0
    · rw [if_pos h0]; exact (h1 h0).bytes
    · rw [if_neg h0]
      obtain ⟨rfl, rfl, rfl⟩ := h2 h0
      exact Reads.nil

theorem both_yRead {H0 H : Heap} {x xl y yl : Nat} {M N : PoolM} (h : Both H0 H x xl y yl M N) (n t : Int) :
    FnW Try.prog f_ref02_Pool_Read ⟨[.pointer (some ⟨y, 0, none⟩), .agg ⟨[.int .i64 n, .int .i64 t]⟩]⟩ H fun v H' => Keep Nil H H' ∧ ∃ a m cap, v = .tuple ⟨[.slice a m cap, .int .i64 (N.read n t).2]⟩ ∧ IsBytes H' a m (N.read n t).1 := by
  obtain ⟨fa, fc, e, hy⟩ := h.atY
  exact ref_Read_spec hy n t

theorem Both.stepX {H0 H H' : Heap} {x xl y yl : Nat} {M N M' : PoolM} {c c' d' : Array Value} {d : Array Value} {f f' : Nat} (h : Both H0 H x xl y yl M N) (hx : PoolAt H x xl M c d f) (k : Keep (two x xl) H H') (hx' : PoolAt H' x xl M' c' d' f') :
    Keep (pset H) H H' ∧ Both H0 H' x xl y yl M' N := by
  obtain ⟨fa, fc, e, hy⟩ := h.atY
  have ty : ∀ z, two x xl z → ∃ T c, (T = T_pool_Pool ∨ T = T_pool_buffer) ∧ Blk H z T c := by
    rintro z (rfl | rfl)
    · exact ⟨_, _, .inl rfl, hx.blkP⟩
    · exact ⟨_, _, .inr rfl, hx.blkB⟩
  refine ⟨k.mono fun z hz => ?_, ⟨h.keep.then k ?_, h.newX, h.newL, ⟨c', d', f', hx'⟩, fa, fc, e, hy.keep k ?_⟩⟩
  · obtain ⟨T, c, hT, hb⟩ := ty z hz
    exact ⟨T, c, hT.elim .inl fun h => .inr (.inl h), hb⟩
  · rintro z (rfl | rfl)
    · exact .inr h.newX
    · exact .inr h.newL
  · intro z T c hT hb hz
    obtain ⟨T', c', hT', hb'⟩ := ty z hz
    have := Blk.type hb hb'
    subst this
    rcases hT' with rfl | rfl <;> revert hT <;> decide

theorem Both.stepY {H0 H H' : Heap} {x xl y yl : Nat} {M N N' : PoolM} {fa fa' : Option Addr} {fc fc' : Nat} {e e' : Array Value} (h : Both H0 H x xl y yl M N) (hy : RAt H0 H y yl N fa fc e) (k : Keep (rset y yl fa) H H') (hy' : RAt H0 H' y yl N' fa' fc' e') :
    Keep (pset H) H H' ∧ Both H0 H' x xl y yl M N' := by
  obtain ⟨c, d, f, hx⟩ := h.atX
  have no : ∀ z T c, (T = T_pool_Pool ∨ T = T_pool_buffer) → Blk H z T c → ¬ rset y yl fa z := fun z T c hT hb hz => by
    obtain ⟨T', c', hT', hb'⟩ := hy.types hz
    have := Blk.type hb hb'
    subst this
    rcases hT' with rfl | rfl | rfl <;> revert hT <;> decide
  refine ⟨k.mono fun z hz => ?_, ⟨h.keep.then k fun z hz => .inr (hy.fresh hz), h.newX, h.newL, ⟨c, d, f, hx.keep k (no _ _ _ (.inl rfl) hx.blkP) (no _ _ _ (.inr rfl) hx.blkB)⟩, fa', fc', e', hy'⟩⟩
  obtain ⟨T, c, hT, hb⟩ := hy.types hz
  exact ⟨T, c, .inr (.inr hT), hb⟩

theorem U8.ne {H : Heap} {a : Option Addr} (h : U8 H a) {z : Nat} {T : TypeId} {c : Array Value} (hb : Blk H z T c) (hT : T ≠ T_uint8) : ∀ q, a = some q → q.block ≠ z := fun q hq e => by
  obtain ⟨c', hc⟩ := h q hq
  rw [e] at hc
  exact hT (Blk.type hb hc)

theorem both_xWrite {H0 H : Heap} {x xl y yl : Nat} {M N : PoolM} (h : Both H0 H x xl y yl M N) (n t : Int) {a : Option Addr} {m cap : Nat} {bs : List UInt8} (hr : IsBytes H a m bs) (hu : U8 H a) :
    FnW Try.prog f_pool_Pool_Write ⟨[.pointer (some ⟨x, 0, none⟩), .agg ⟨[.int .i64 n, .int .i64 t]⟩, .slice a m cap]⟩ H fun v H' => v = .int .i64 (M.write n t bs).1 ∧ Keep (pset H) H H' ∧ Both H0 H' x xl y yl (M.write n t bs).2 N := by
  obtain ⟨c, d, f, hx⟩ := h.atX
  refine (pool_Write_spec hx n t hr (hu.ne hx.blkB (by decide))).mono ?_
  rintro v H' ⟨k, rfl, d', hx'⟩
  exact ⟨rfl, h.stepX hx (k.mono fun z hz => .inr hz) hx'⟩
theorem both_yWrite {H0 H : Heap} {x xl y yl : Nat} {M N : PoolM} (h : Both H0 H x xl y yl M N) (n t : Int) {a : Option Addr} {m cap : Nat} {bs : List UInt8} (hr : IsBytes H a m bs) :
    FnW Try.prog f_ref02_Pool_Write ⟨[.pointer (some ⟨y, 0, none⟩), .agg ⟨[.int .i64 n, .int .i64 t]⟩, .slice a m cap]⟩ H fun v H' => v = .int .i64 (N.write n t bs).1 ∧ Keep (pset H) H H' ∧ Both H0 H' x xl y yl M (N.write n t bs).2 := by
  obtain ⟨fa, fc, e, hy⟩ := h.atY
  refine (ref_Write_spec hy n t hr).mono ?_
  rintro v H' ⟨k, rfl, d', hy'⟩
  exact ⟨rfl, h.stepY hy k hy'⟩
theorem both_xGive {H0 H : Heap} {x xl y yl : Nat} {M N : PoolM} (h : Both H0 H x xl y yl M N) (n t : Int) :
    FnW Try.prog f_pool_Pool_Give ⟨[.pointer (some ⟨x, 0, none⟩), .agg ⟨[.int .i64 n, .int .i64 t]⟩]⟩ H fun v H' => v = .int .i64 (M.give n t).1 ∧ Keep (pset H) H H' ∧ Both H0 H' x xl y yl (M.give n t).2 N := by
  obtain ⟨c, d, f, hx⟩ := h.atX
  refine (pool_Give_spec hx n t).mono ?_
  rintro v H' ⟨k, rfl, c', d', hx'⟩
  exact ⟨rfl, h.stepX hx k hx'⟩
theorem both_yGive {H0 H : Heap} {x xl y yl : Nat} {M N : PoolM} (h : Both H0 H x xl y yl M N) (n t : Int) :
    FnW Try.prog f_ref02_Pool_Give ⟨[.pointer (some ⟨y, 0, none⟩), .agg ⟨[.int .i64 n, .int .i64 t]⟩]⟩ H fun v H' => v = .int .i64 (N.give n t).1 ∧ Keep (pset H) H H' ∧ Both H0 H' x xl y yl M (N.give n t).2 := by
  obtain ⟨fa, fc, e, hy⟩ := h.atY
  refine (ref_Give_spec h.keep hy n t).mono ?_
  rintro v H' ⟨k, rfl, fa', fc', d', hy'⟩
  exact ⟨rfl, h.stepY hy k hy'⟩
theorem both_xLend {H0 H : Heap} {x xl y yl : Nat} {M N : PoolM} (h : Both H0 H x xl y yl M N) {a : Option Addr} {m cap : Nat} {bs : List UInt8} (hr : IsBytes H a m bs) (hu : U8 H a) (hc : M.count < 2 ^ 62) :
    FnW Try.prog f_pool_Pool_Lend ⟨[.pointer (some ⟨x, 0, none⟩), .slice a m cap]⟩ H fun v H' => v = .tuple ⟨[.agg ⟨[.int .i64 (M.lend bs).1.1, .int .i64 (M.lend bs).1.2]⟩, .int .i64 (M.lend bs).2.1]⟩ ∧ Keep (pset H) H H' ∧ Both H0 H' x xl y yl (M.lend bs).2.2 N := by
  obtain ⟨c, d, f, hx⟩ := h.atX
  refine (pool_Lend_spec hx hr (fun q hq => ⟨hu.ne hx.blkB (by decide) q hq, hu.ne hx.blkP (by decide) q hq⟩) hc).mono ?_
  rintro v H' ⟨k, rfl, c', d', f', hx'⟩
  exact ⟨rfl, h.stepX hx k hx'⟩
theorem both_yLend {H0 H : Heap} {x xl y yl : Nat} {M N : PoolM} (h : Both H0 H x xl y yl M N) {a : Option Addr} {m cap : Nat} {bs : List UInt8} (hr : IsBytes H a m bs) (hu : ∀ q, a = some q → 0 < m → q.block ≠ y) (hc : N.count < 2 ^ 62) :
    FnW Try.prog f_ref02_Pool_Lend ⟨[.pointer (some ⟨y, 0, none⟩), .slice a m cap]⟩ H fun v H' => v = .tuple ⟨[.agg ⟨[.int .i64 (N.lend bs).1.1, .int .i64 (N.lend bs).1.2]⟩, .int .i64 (N.lend bs).2.1]⟩ ∧ Keep (pset H) H H' ∧ Both H0 H' x xl y yl M (N.lend bs).2.2 := by
  obtain ⟨fa, fc, e, hy⟩ := h.atY
  refine (ref_Lend_spec h.keep hy hr hu hc).mono ?_
  rintro v H' ⟨k, rfl, fa', fc', d', hy'⟩
  exact ⟨rfl, h.stepY hy k hy'⟩

end Go.Proofs.Ytligjponbhnedaa
