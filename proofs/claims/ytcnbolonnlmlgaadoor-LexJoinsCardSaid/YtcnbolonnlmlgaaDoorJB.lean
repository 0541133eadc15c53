/-
  lex.Join over the heap: by strings.Builder.
  lex.Join over the heap: what it finds.
  lex.Join: its contract.
-/
import Derived.Test.YtcnbolonnlmlgaaDoorItsJ
import Derived.Test.YtcnbolonnlmlgaaDoorJA
import Derived.Test.YtcnbolonnlmlgaaDoorLaidS
import Derived.Test.YtcnbolonnlmlgaaDoorPw18
import Derived.Test.YtcnbolonnlmlgaaDoorHm1
section
set_option linter.all false
set_option maxRecDepth 100000
namespace Go.Proofs.YtcnbolonnlmlgaaDoor
open Go.Sh

abbrev TokJ := Int × List UInt8 × Int × UInt32 × Int × Int
abbrev ksTok : List Kd := [Kd.int .i64, Kd.str, Kd.int .i64, Kd.int .u32, Kd.int .i64, Kd.int .i64]
def spT (y : TokJ) : List UInt8 := 32 :: y.2.1
def jn (l : List TokJ) : List UInt8 := match l with
  | [] => []
  | x :: r => x.2.1 ++ r.flatMap spT
theorem jn_snoc (l : List TokJ) (x : TokJ) : jn (l ++ [x]) = if l = [] then x.2.1 else jn l ++ spT x := by
  cases l with
  | nil => simp [jn]
  | cons y r => simp [jn, List.flatMap_append]
theorem jn_pre (l : List TokJ) (i : Nat) : (jn (l.take i)).length ≤ (jn l).length := by
  cases l with
  | nil => simp
  | cons x r =>
    cases i with
    | zero => simp [jn]
    | succ i =>
      have : r.flatMap spT = (r.take i).flatMap spT ++ (r.drop i).flatMap spT := by
        rw [← List.flatMap_append, List.take_append_drop]
      simp only [List.take_succ_cons, jn, List.length_append, this]
      omega

def bAddr (b : Nat) : Value := .pointer (some ⟨b, 0, none⟩)
theorem sz_bld : szOf Tryd.prog T_strings_Builder = some 2 := by kernel_rfl
theorem jn_keep0 {S : Nat → Prop} {H0 H H' : Heap} (h : Keep Nil H0 H) (k : Keep S H H') (hs : ∀ x, S x → H0 x = none) : Keep Nil H0 H' := h.then k fun b hb => .inr (hs b hb)
theorem jn_ty {H : Heap} {m : Nat} {T T' : TypeId} {c c' : Array Value} (h : Blk H m T c) (h' : Blk H m T' c') : T = T' := by
  unfold Blk at h h'
  rw [h] at h'
  simp only [Option.some.injEq, Obj.cells.injEq] at h'
  exact h'.2.1
theorem jn_cell {H : Heap} {b : Nat} {T : TypeId} {l : List Value} (h : Blk H b T ⟨l⟩) (j : Nat) {v : Value} (e : l[j]? = some v) : H.cell ⟨b, j, none⟩ = some v := by
  rw [h.cell]; simpa using e
theorem jn_set {H : Heap} {b j : Nat} {T : TypeId} {l : List Value} {v : Value} {K : Heap → Prop} (hb : Blk H b T ⟨l⟩) (hj : j < l.length) (hv : plainC v = true) (hk : ∀ H', Blk H' b T ⟨l.set j v⟩ → Keep (fun m => m = b) H H' → K H') : StCell H ⟨b, j, none⟩ v K := by
  refine StCell.blk hb (by simpa using hj) hv ?_
  have e : (⟨l⟩ : Array Value).setIfInBounds j v = ⟨l.set j v⟩ := by apply Array.ext'; simp
  rw [e]
  refine hk _ Blk.upd_eq ⟨fun x hx _ => Sh.upd_ne hx, fun x hx => ?_⟩
  by_cases ex : x = b
  · subst ex; exact (Blk.upd_eq : Blk (H.upd x (.cells ⟨l.set j v⟩ T (0, 0))) x T ⟨l.set j v⟩).some
  · rw [Sh.upd_ne ex]; exact hx
theorem jn_shutK {S : Nat → Prop} {H0 H H2 : Heap} (k : Keep S H0 H) (hs : Shut H0 H H2) : Keep S H0 H2 :=
  ⟨fun b hb ha => by
    rcases hs b with e | ⟨e, _, _⟩
    · rw [e]; exact k.same b hb ha
    · exact absurd e ha, fun b ha => by
    rcases hs b with e | ⟨e, _, _⟩
    · rw [e]; exact k.live b ha
    · exact absurd e ha⟩

theorem copyCheck_run {H : Heap} {b : Nat} {p : Option Addr} {v : Value} (hb : Blk H b T_strings_Builder ⟨[.pointer p, v]⟩) (hp : p = none ∨ p = some ⟨b, 0, none⟩) :
    FnW Tryd.prog f_strings_Builder_copyCheck ⟨[bAddr b]⟩ H fun r H' => r = .tuple ⟨[]⟩ ∧ Blk H' b T_strings_Builder ⟨[bAddr b, v]⟩ ∧ Keep (fun m => m = b) H H' := by
  refine strings_Builder_copyCheck_sh b ?_
  unfold strings_Builder_copyCheck_p
  refine ⟨p, jn_cell hb 0 rfl, ?_⟩
  rcases hp with rfl | rfl
  · refine ifT rfl ?_
    refine semW_toUnsafe (t := T_strings_Builder) (n := 1) (by kernel_rfl) (by kernel_rfl) sz_bld hb (by simp) ⟨_, rfl, ?_⟩
    refine semW_extern (fn := Tryd.f42) (e := Extern.AbiNoEscape.same) (by kernel_rfl) (by kernel_rfl) (by kernel_rfl) (by kernel_rfl) (by kernel_rfl) ?_
    show SemW Tryd.prog (pure _) H _
    refine ⟨_, rfl, ?_⟩
    refine semW_fromUnsafe (u := T_strings_Builder) (n := 2) (by kernel_rfl) (by kernel_rfl) sz_bld hb (by kernel_rfl) ⟨_, rfl, ?_⟩
    exact jn_set hb (by simp) rfl fun H' hb' k H2 hs => ⟨rfl, shutB hb' hs, jn_shutK k hs⟩
  · refine ifF rfl ⟨_, jn_cell hb 0 rfl, ?_⟩
    have e : eqPure Tryd.prog 6 T_p_strings_Builder (bAddr b) (bAddr b) = some true := by
      have hu : Tryd.prog.underlying T_p_strings_Builder = some (.pointer T_strings_Builder) := by kernel_rfl
      simp only [bAddr, eqPure, hu, sz_bld, Nat.beq_refl, beq_self_eq_true]
    unfold EqB
    have e' : eqPure Tryd.prog 6 T_p_strings_Builder (.pointer (some ⟨b, 0, none⟩)) (.pointer (some ⟨b, 0, none⟩)) = some true := e
    rw [e']
    exact ifF rfl fun H2 hs => ⟨rfl, shutB hb hs, jn_shutK (Keep.refl _ _) hs⟩

end Go.Proofs.YtcnbolonnlmlgaaDoor
end

section
set_option linter.all false
set_option maxRecDepth 100000
namespace Go.Proofs.YtcnbolonnlmlgaaDoor
open Go.Sh

/-- A builder that holds bytes. -/
def BAt (H0 H : Heap) (b : Nat) (l : List UInt8) : Prop := ∃ p a cap, Blk H b T_strings_Builder ⟨[.pointer p, .slice a l.length cap]⟩ ∧ (p = none ∨ p = some ⟨b, 0, none⟩) ∧ Sh.Own H0 H a l.length cap 1 T_uint8 (bvl l) ∧ Keep Nil H0 H ∧ H0 b = none
def JCalm (H H' : Heap) : Prop := ∀ x T c, Blk H x T c → T ≠ T_strings_Builder → T ≠ T_uint8 → Blk H' x T c
theorem jn_u8 : ∃ it, Tryd.prog.info? T_uint8 = some it ∧ it.size = 1 ∧ it.bytes = 1 := by
  have h : (Tryd.prog.info? T_uint8).map (fun i => (i.size, i.bytes)) = some (1, 1) := by kernel_rfl
  cases hi : Tryd.prog.info? T_uint8 with
  | none => rw [hi] at h; cases h
  | some i => rw [hi] at h; simp only [Option.map_some, Option.some.injEq, Prod.mk.injEq] at h; exact ⟨i, rfl, h.1, h.2⟩
theorem jn_calm {S : Nat → Prop} {H H' : Heap} (k : Keep S H H') (hs : ∀ x, S x → ∃ T c, Blk H x T c ∧ (T = T_strings_Builder ∨ T = T_uint8)) : JCalm H H' := fun x T c hb h1 h2 => k.blk hb fun hx => by
  obtain ⟨T', c', hb', hT⟩ := hs x hx
  have e := jn_ty hb hb'
  subst e
  rcases hT with h | h
  · exact h1 h
  · exact h2 h
theorem BAt.shut {H0 H H2 H1 : Heap} {b : Nat} {l : List UInt8} (k01 : ∀ x, H0 x ≠ none → H1 x ≠ none) (h : BAt H0 H b l) (hs : Shut H1 H H2) : BAt H0 H2 b l := by
  obtain ⟨p, a, cap, h1, h2, h3, h4, h5⟩ := h
  refine ⟨p, a, cap, shutB h1 hs, h2, ?_, ⟨fun x hx h0 => ?_, fun x h0 => ?_⟩, h5⟩
  · refine ⟨h3.1, h3.2.1, ?_⟩
    rcases h3.2.2 with h | ⟨m, rest, e1, e2, e3, e4⟩
    · exact .inl h
    · exact .inr ⟨m, rest, e1, e2, shutB e3 hs, e4⟩
  · rcases hs x with e | ⟨e, _, _⟩
    · rw [e]; exact h4.same x hx h0
    · exact absurd e (k01 x h0)
  · rcases hs x with e | ⟨e, _, _⟩
    · rw [e]; exact h4.live x h0
    · exact absurd e (k01 x h0)
theorem JCalm.shut {H H1 H' H2 : Heap} (h : JCalm H H') (hs : Shut H1 H' H2) : JCalm H H2 := fun x T c hb h1 h2 => shutB (h x T c hb h1 h2) hs

/-- The buffer is written back. -/
theorem bat_put {H0 H1 H : Heap} {b : Nat} {a a' : Option Addr} {cap cap' n : Nat} {l l' : List UInt8} {K : Heap → Prop} (h1 : Blk H1 b T_strings_Builder ⟨[bAddr b, .slice a l.length cap]⟩) (ho : Sh.Own H0 H1 a l.length cap 1 T_uint8 (bvl l)) (hn : n = l'.length)
    (q1 : Sh.Own H0 H a' n cap' 1 T_uint8 (bvl l')) (q3 : Keep (fun x => a = some ⟨x, 0, none⟩) H1 H) (k0 : Keep Nil H0 H) (hb0 : H0 b = none) (hk : ∀ H', BAt H0 H' b l' → JCalm H1 H' → K H') : StCell H ⟨b, 1, none⟩ (.slice a' n cap') K := by
  subst hn
  have nab : ∀ {q : Option Addr} {Hq : Heap} {n c xs} {cs}, Blk Hq b T_strings_Builder cs → Sh.Own H0 Hq q n c 1 T_uint8 xs → q ≠ some ⟨b, 0, none⟩ := fun {q Hq n c xs cs} hb ho e => by
    obtain ⟨c', hc⟩ := ho.live e
    exact absurd (jn_ty hb hc) (by decide)
  have hb : Blk H b T_strings_Builder ⟨[bAddr b, .slice a l.length cap]⟩ := q3.blk h1 (nab h1 ho)
  refine jn_set hb (by simp) rfl fun H' hb' k => hk H' ⟨_, a', cap', hb', .inr rfl, q1.keep k fun x hx e => nab hb q1 (e ▸ hx), jn_keep0 k0 k fun x e => by subst e; exact hb0, hb0⟩ ?_
  intro x T c hx t1 t2
  refine k.blk (q3.blk hx fun e => ?_) fun e => ?_
  · obtain ⟨c', hc⟩ := ho.live e
    exact t2 (jn_ty hx hc)
  · subst e
    exact t1 (jn_ty hx h1)
theorem own_after {H0 H H1 : Heap} {b : Nat} {a : Option Addr} {n cap : Nat} {xs c} (hb : Blk H b T_strings_Builder c) (ho : Sh.Own H0 H a n cap 1 T_uint8 xs) (k : Keep (fun m => m = b) H H1) : Sh.Own H0 H1 a n cap 1 T_uint8 xs := ho.keep k fun x hx e => by
  subst e
  obtain ⟨c', hc⟩ := ho.live hx
  exact absurd (jn_ty hb hc) (by decide)

theorem writeByte_run {H0 H : Heap} {b : Nat} {l : List UInt8} (h : BAt H0 H b l) (hl : l.length ≤ 1000000000) (c : UInt8) : FnW Tryd.prog f_strings_Builder_WriteByte ⟨[bAddr b, .int .u8 (c.toNat : Int)]⟩ H fun _ H' => BAt H0 H' b (l ++ [c]) ∧ JCalm H H' := by
  obtain ⟨p, a, cap, h1, h2, h3, h4, h5⟩ := h
  refine strings_Builder_WriteByte_sh b _ ?_
  unfold strings_Builder_WriteByte_p
  refine (copyCheck_run h1 h2).mono fun r H1 hr => ?_
  obtain ⟨rfl, b1, k1⟩ := hr
  have o1 := own_after h1 h3 k1
  have k01 : Keep Nil H0 H1 := jn_keep0 h4 k1 fun x e => by subst e; exact h5
  refine ⟨rfl, a, _, cap, jn_cell b1 1 rfl, fun m hm => ?_⟩
  have k2 : Keep Nil H1 (H1.upd m (.cells ⟨[.int .u8 (c.toNat : Int)]⟩ T_uint8 (0, 0))) := (Keep.refl _ _).new hm
  have bm : Blk (H1.upd m (.cells ⟨[.int .u8 (c.toNat : Int)]⟩ T_uint8 (0, 0))) m T_uint8 ⟨[.int .u8 (c.toNat : Int)]⟩ := Blk.upd_eq
  generalize H1.upd m (.cells ⟨[.int .u8 (c.toNat : Int)]⟩ T_uint8 (0, 0)) = H2 at k2 bm
  obtain ⟨it, i1, i2, i3⟩ := jn_u8
  refine own_append2 (e := T_uint8) (xe := T_uint8) (k := 1) (xc := 1) (z := [.int .u8 0]) (new := [.int .u8 (c.toNat : Int)]) (by kernel_rfl) (by kernel_rfl) i1 i2 i3 (by decide) (by kernel_rfl) rfl (o1.keep k2 fun _ _ h => h) (k01.trans k2) (Reads.blk bm rfl fun j hj => by simp) (by simp [plainC]) (by omega) fun a' cap' H3 q0 q1 q2 q3 q4 => ?_
  refine ⟨a', l.length + 1, cap', rfl, bat_put (l' := l ++ [c]) (k2.blk b1 fun h => h) (o1.keep k2 fun _ _ h => h) (by simp) (by
    have e : bvl (l ++ [c]) = bvl l ++ [.int .u8 (c.toNat : Int)] := by simp [bvl]
    rw [e]; exact q1) q3 q4 h5 fun H4 b4 c4 H5 hs => ⟨BAt.shut (fun x hx => h4.live x hx) b4 hs, ?_⟩⟩
  refine JCalm.shut (fun x T cc hx t1 t2 => c4 x T cc (k2.blk (k1.blk hx fun e => ?_) fun h => h) t1 t2) hs
  subst e
  exact t1 (jn_ty hx h1)
theorem writeString_run {H0 H : Heap} {b : Nat} {l : List UInt8} (h : BAt H0 H b l) (s : List UInt8) (hl : l.length + s.length ≤ 1000000000) : FnW Tryd.prog f_strings_Builder_WriteString ⟨[bAddr b, .string (bstr s)]⟩ H fun v H' => (∃ r0 r1, v = .tuple ⟨[.int .i64 r0, r1]⟩) ∧ BAt H0 H' b (l ++ s) ∧ JCalm H H' := by
  obtain ⟨p, a, cap, h1, h2, h3, h4, h5⟩ := h
  refine strings_Builder_WriteString_sh b _ ?_
  unfold strings_Builder_WriteString_p
  refine (copyCheck_run h1 h2).mono fun r H1 hr => ?_
  obtain ⟨rfl, b1, k1⟩ := hr
  have o1 := own_after h1 h3 k1
  have k01 : Keep Nil H0 H1 := jn_keep0 h4 k1 fun x e => by subst e; exact h5
  refine ⟨rfl, a, _, cap, jn_cell b1 1 rfl, ?_⟩
  obtain ⟨it, i1, i2, i3⟩ := jn_u8
  refine own_appendS (e := T_uint8) (k := s.length) (l := s) (z := [.int .u8 0]) (new := bvl s) (by kernel_rfl) (by kernel_rfl) i1 i2 i3 (by decide) (by kernel_rfl) rfl o1 k01 rfl rfl rfl (by intro v hv; obtain ⟨x, _, rfl⟩ := List.mem_map.1 hv; rfl) (by omega) fun a' cap' H3 q0 q1 q2 q3 q4 => ?_
  refine ⟨a', _, cap', rfl, bat_put (l' := l ++ s) b1 o1 (by simp) (by
    have e : bvl (l ++ s) = bvl l ++ bvl s := by simp [bvl]
    rw [e]; exact q1) q3 q4 h5 fun H4 b4 c4 H5 hs => ⟨⟨_, _, rfl⟩, BAt.shut (fun x hx => h4.live x hx) b4 hs, ?_⟩⟩
  refine JCalm.shut (fun x T cc hx t1 t2 => c4 x T cc (k1.blk hx fun e => ?_) t1 t2) hs
  subst e
  exact t1 (jn_ty hx h1)
/-- The text. -/
theorem string_run {H0 H : Heap} {b : Nat} {l : List UInt8} (h : BAt H0 H b l) (hl : l.length ≤ 1000000000) : FnW Tryd.prog f_strings_Builder_String ⟨[bAddr b]⟩ H fun v H' => v = .string (bstr l) ∧ Keep Nil H0 H' := by
  obtain ⟨p, a, cap, h1, h2, h3, h4, h5⟩ := h
  refine strings_Builder_String_sh b ?_
  unfold strings_Builder_String_p
  refine ⟨[b], fun x hx => by simp only [List.mem_singleton] at hx; subst hx; exact Option.ne_none_iff_exists'.1 h1.some, a, _, cap, jn_cell h1 1 rfl, by simp, a, _, cap, jn_cell h1 1 rfl, ?_⟩
  have kin : ∀ {H'}, Keep Nil H H' → KeptIn [b] H H' := fun k x hx => by
    simp only [List.mem_singleton] at hx; subst hx
    exact ⟨Option.ne_none_iff_exists'.1 h1.some, k.same _ (fun h => h) h1.some⟩
  have sh : ∀ {H' H2}, Keep Nil H0 H' → Shut H H' H2 → Keep Nil H0 H2 := fun {H' H2} k hs => ⟨fun x hx h0 => by
    rcases hs x with e | ⟨e, _, _⟩
    · rw [e]; exact k.same x hx h0
    · exact absurd e (h4.live x h0), fun x h0 => by
    rcases hs x with e | ⟨e, _, _⟩
    · rw [e]; exact k.live x h0
    · exact absurd e (h4.live x h0)⟩
  by_cases hnil : l = []
  · subst hnil
    have fin : ∀ {H'} (q : Option Addr), Keep Nil H H' → SemW Tryd.prog (Builtin.unsafeString_ #[T_p_uint8, T_int] T_string ⟨[(Value.pointer q), (Value.int .i64 ((([] : List UInt8).length : Nat) : Int))]⟩) H' fun x13v H2 => ∃ x13 : ByteArray, x13v = (Value.string x13) ∧ ∀ H3, Shut H H2 H3 → (Value.string x13) = .string (bstr []) ∧ Keep Nil H0 H3 := fun {H'} q k => by
      cases q with
      | none => exact ⟨_, rfl, fun H3 hs => ⟨rfl, sh (h4.trans k) hs⟩⟩
      | some q => exact ⟨_, rfl, fun H3 hs => ⟨rfl, sh (h4.trans k) hs⟩⟩
    rcases h3.2.2 with ⟨rfl, _, _⟩ | ⟨m, rest, rfl, e2, e3, e4⟩
    · exact ⟨_, rfl, kin (Keep.refl _ _), fin _ (Keep.refl _ _)⟩
    · by_cases hc : cap = 0
      · subst hc
        show SemW Tryd.prog (viewAt m >>= _) H _
        refine (SemW.bind _ _ _ _).2 ?_
        show (∃ x, H m = some x) ∧ SemW Tryd.prog _ H _
        refine ⟨⟨_, e3⟩, ?_⟩
        rw [blk_shape e3]
        have hu : Tryd.prog.underlying T_p_uint8 = some (.pointer T_uint8) := by kernel_rfl
        show SemW Tryd.prog (elemOf T_p_uint8 >>= _) H _
        refine (SemW.bind _ _ _ _).2 ?_
        show SemW Tryd.prog (underlying T_p_uint8 >>= _) H _
        refine (SemW.bind _ _ _ _).2 (semW_underlying hu ?_)
        exact fun n hn => ⟨_, rfl, kin ((Keep.refl _ _).new hn), fin _ ((Keep.refl _ _).new hn)⟩
      · obtain ⟨k, rfl⟩ : ∃ k, cap = k + 1 := ⟨cap - 1, by omega⟩
        exact ⟨_, rfl, kin (Keep.refl _ _), fin _ (Keep.refl _ _)⟩
  · have hpos : 0 < l.length := List.length_pos_iff.2 hnil
    obtain ⟨m, rfl⟩ := h3.addr hpos
    obtain ⟨rest, hbm, _⟩ := h3.blk rfl
    obtain ⟨k, rfl⟩ : ∃ k, cap = k + 1 := ⟨cap - 1, by have := h3.le; omega⟩
    refine ⟨_, rfl, kin (Keep.refl _ _), ?_⟩
    refine semW_ustr (T := T_uint8) (by kernel_rfl) (by kernel_rfl) hbm hnil hl fun H' ho hm => ⟨_, rfl, fun H3 hs => ⟨rfl, sh ⟨fun x _ h0 => ?_, fun x h0 => ?_⟩ hs⟩⟩
    · rw [ho x fun e => by subst e; exact h0 (h3.free rfl)]; exact h4.same x (fun h => h) h0
    · rw [ho x fun e => by subst e; exact h0 (h3.free rfl)]; exact h4.live x h0

end Go.Proofs.YtcnbolonnlmlgaaDoor
end

section
set_option linter.all false
set_option maxRecDepth 100000
namespace Go.Proofs.YtcnbolonnlmlgaaDoor
open Go.Sh

theorem join_run {H : Heap} {Z : Nat → Prop} {toks : List TokJ} {v : Value} (hz : ∀ x, Z x → H x ≠ none) (h : CellOk Z H (.lst ksTok) toks v) (hl : (jn toks).length ≤ 100000000) (hn : toks.length ≤ 1000000) :
    FnW Tryd.prog f_lex_Join ⟨[v]⟩ H fun r H' => r = .string (bstr (jn toks)) ∧ Keep Nil H H' := by
  have h0 := h
  simp only [CellOk] at h
  obtain ⟨a, n, c, rfl, hlen, hnc, hcm, hat⟩ := h
  have hlen : toks.length = n := hlen
  refine lex_Join_sh a n c ?_
  unfold lex_Join_p
  intro b hb
  have k1 : Keep Nil H (H.upd b (.cells ⟨[.pointer none, .slice none 0 0]⟩ T_strings_Builder (0, 0))) := (Keep.refl _ _).new hb
  have b1 : Blk (H.upd b (.cells ⟨[.pointer none, .slice none 0 0]⟩ T_strings_Builder (0, 0))) b T_strings_Builder ⟨[.pointer none, .slice none 0 0]⟩ := Blk.upd_eq
  show LoopI (Int × Unit) (0, ()) (H.upd b (.cells ⟨[.pointer none, .slice none 0 0]⟩ T_strings_Builder (0, 0))) _
  generalize H.upd b (.cells ⟨[.pointer none, .slice none 0 0]⟩ T_strings_Builder (0, 0)) = H1 at k1 b1
  refine ⟨fun k x Hx => ∃ i : Nat, i ≤ toks.length ∧ k = toks.length - i ∧ x = ((i : Int), ()) ∧ BAt H Hx b (jn (toks.take i)), toks.length, ⟨0, by omega, by omega, rfl, none, none, 0, b1, .inl rfl, Sh.Own.nil, k1, hb⟩, ?_⟩
  rintro k x Hx ⟨i, hi, rfl, rfl, hx⟩ g
  dsimp only
  have hpre := jn_pre toks i
  unfold lex_Join_l3
  refine IfB.intro (fun hlt => ?_) fun hge => ?_
  rotate_left
  · have : i = toks.length := by have := of_decide_eq_false hge; omega
    subst this
    rw [List.take_length] at hx
    refine (string_run hx (by omega)).mono fun r H' hr => ?_
    obtain ⟨rfl, kk⟩ := hr
    exact ⟨_, rfl, fun H2 hs => ⟨rfl, jn_shutK kk hs⟩⟩
  have hlt : i < toks.length := by have := of_decide_eq_true hlt; omega
  obtain ⟨q, o, rfl, hzq, cs, T, fr, hbq, hcells⟩ := hat (by omega)
  have hcell := hcells i toks[i] (List.getElem?_eq_getElem hlt)
  have hkx : Keep Nil H Hx := by obtain ⟨_, _, _, _, _, _, h4, _⟩ := hx; exact h4
  have hbx : Hx q = some (.cells cs T fr) := by rw [hkx.same q (fun h => h) (hz q hzq)]; exact hbq
  generalize hs : toks[i] = s at hcell
  obtain ⟨sk, st, sn, sp, sb, sl⟩ := s
  simp only [CellsOk, CellOk, and_true] at hcell
  obtain ⟨⟨v0, e0, rfl, _⟩, ⟨v1, e1, rfl, _⟩, ⟨v2, e2, rfl, _⟩, ⟨v3, e3, rfl, _⟩, ⟨v4, e4, rfl, _⟩, ⟨v5, e5, rfl, _⟩⟩ := hcell
  have cell : ∀ (j : Nat) (u : Value), cs[o + i * ksTok.length + j]? = some u → Hx.cell ⟨q, o + i * 6 + j, none⟩ = some u := fun j u e => by
    simp only [Heap.cell, hbx]; exact e
  refine NilP.intro _ rfl (InB.intro i rfl (by omega) ?_)
  rw [elemAt_none]
  refine ⟨_, cell 0 _ e0, _, cell 1 _ e1, _, cell 2 _ e2, _, cell 3 _ e3, _, cell 4 _ e4, _, cell 5 _ e5, fun t ht => ?_⟩
  have kt : Keep Nil Hx (Hx.upd t (.cells ⟨[.int .i64 0, .string (ByteArray.mk #[]), .int .i64 0, .int .u32 0, .int .i64 0, .int .i64 0]⟩ T_api_Token (0, 0))) := (Keep.refl _ _).new ht
  have bt : Blk (Hx.upd t (.cells ⟨[.int .i64 0, .string (ByteArray.mk #[]), .int .i64 0, .int .u32 0, .int .i64 0, .int .i64 0]⟩ T_api_Token (0, 0))) t T_api_Token ⟨[.int .i64 0, .string (ByteArray.mk #[]), .int .i64 0, .int .u32 0, .int .i64 0, .int .i64 0]⟩ := Blk.upd_eq
  generalize Hx.upd t (.cells ⟨[.int .i64 0, .string (ByteArray.mk #[]), .int .i64 0, .int .u32 0, .int .i64 0, .int .i64 0]⟩ T_api_Token (0, 0)) = H2 at kt bt
  refine stAll_blk (b := t) [_, _, _, _, _, _] 0 [] [.int .i64 0, .string (ByteArray.mk #[]), .int .i64 0, .int .u32 0, .int .i64 0, .int .i64 0] H2 bt rfl rfl (by simp [plainC]) fun H3 b3 o3 => ?_
  have k3 : Keep Nil Hx H3 := jn_keep0 kt ⟨fun x hx _ => o3 x hx, fun x hx => by
    by_cases e : x = t
    · subst e; exact b3.some
    · rw [o3 x e]; exact hx⟩ fun x e => by subst e; exact ht
  have hx3 : BAt H H3 b (jn (toks.take i)) := by
    obtain ⟨p, a', cap, q1, q2, q3, q4, q5⟩ := hx
    exact ⟨p, a', cap, k3.blk q1 fun h => h, q2, q3.keep k3 fun _ _ h => h, q4.trans k3, q5⟩
  have b3 : Blk H3 t T_api_Token _ := b3
  have hst : st = (toks[i]).2.1 := by rw [hs]
  have etake : toks.take (i + 1) = toks.take i ++ [toks[i]] := by rw [List.take_add_one, List.getElem?_eq_getElem hlt]; rfl
  have hpre1 := jn_pre toks (i + 1)
  have last : ∀ {H4 : Heap} {l : List UInt8}, BAt H H4 b l → JCalm H3 H4 → jn (toks.take (i + 1)) = l ++ st → lex_Join_j0 b t (some ⟨q, o, none⟩) n c (i : Int) (fun x' H' => ∃ k', k' < toks.length - i ∧ ∃ i : Nat, i ≤ toks.length ∧ k' = toks.length - i ∧ x' = ((i : Int), ()) ∧ BAt H H' b (jn (toks.take i))) H4 (fun v H1 => ∀ H2, Shut H H1 H2 → v = .string (bstr (jn toks)) ∧ Keep Nil H H2) := fun {H4 l} h4 c4 el => by
    have b4 := c4 t T_api_Token _ b3 (by decide) (by decide)
    refine ⟨bstr st, jn_cell b4 1 rfl, ?_⟩
    have hle : l.length + st.length ≤ 100000000 := by rw [el, List.length_append] at hpre1; omega
    refine (writeString_run h4 st (by omega)).mono fun v H5 hv => ?_
    obtain ⟨⟨r0, r1, rfl⟩, h5, _⟩ := hv
    refine ⟨r0, r1, rfl, toks.length - (i + 1), by omega, i + 1, by omega, rfl, ?_, ?_⟩
    · rw [wr_i64 (by omega) (by omega)]; rfl
    · rw [el]; exact h5
  refine IfB.intro (fun hi0 => ?_) fun hi0 => ?_
  · have hi0 : 0 < i := by have := of_decide_eq_true hi0; omega
    have hne : toks.take i ≠ [] := fun e => by
      have := congrArg List.length e
      rw [List.length_take, Nat.min_eq_left hi] at this
      exact absurd this (by show ¬ i = 0; omega)
    refine (writeByte_run hx3 (by omega) 32).mono fun v H4 hv => ⟨v, rfl, last hv.1 hv.2 ?_⟩
    rw [etake, jn_snoc, if_neg hne, hst]
    simp [spT]
  · have : i = 0 := by have := of_decide_eq_false hi0; omega
    subst this
    refine last hx3 (fun x T c h _ _ => h) ?_
    rw [etake, jn_snoc, hst]
    simp [jn]

abbrev lex_Join_ps : List Pk := [Pk.lst ksTok]
abbrev lex_Join_rs : List Pk := [Pk.str]
def lex_Join_q (l : List TokJ) (K : List UInt8 → Prop) : Prop := (jn l).length ≤ 100000000 ∧ l.length ≤ 1000000 ∧ K (jn l)
theorem lex_Join_fq : FnQ Tryd.prog f_lex_Join lex_Join_ps lex_Join_rs (fun x K => lex_Join_q x.1 (fun r0 => K (r0, ()))) := by
  refine fnQ_any rfl (fun _ => rfl) fun x K hx H Z vs hsl hz hlay hlo => ?_
  obtain ⟨l, u⟩ := x
  obtain ⟨h1, h2, hk⟩ := hx
  have hsl' : SimL (gZ Z) H 0 [.lst ksTok l] vs := hsl
  match vs, hsl' with
  | [v0], hsl' =>
  simp only [SimL, SimV, and_true] at hsl'
  refine (join_run hz hsl' h1 h2).mono fun v H' hv => ?_
  obtain ⟨rfl, k⟩ := hv
  refine ⟨k, (jn l, ()), fun _ => False, hk, Fresh.none, ?_⟩
  simp only [pksA, pkA, outA, SimV]
  have h1 : (jn l).length ≤ 100000000 := h1
  exact ⟨trivial, by unfold lenMax; omega⟩
noncomputable def ct_lex_Join : Ct := ctRd lex_Join_ps lex_Join_rs (fun x K => lex_Join_q x.1 (fun r0 => K (r0, ())))
theorem ct_lex_Join_ok : SoundCt Tryd.prog f_lex_Join ct_lex_Join := ctRd_sound lex_Join_fq

end Go.Proofs.YtcnbolonnlmlgaaDoor
end
