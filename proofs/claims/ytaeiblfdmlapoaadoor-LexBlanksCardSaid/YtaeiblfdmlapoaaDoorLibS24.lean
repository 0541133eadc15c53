/-
  A function of the library, by what is known of its calls: strconv.Itoa.
  A function of the library, by what is known of its calls: strconv.Atoi.
  A function of the library, by what is known of its calls: strings.Split.
  A function of the library, by what is known of its calls: strings.IndexByte.
  A function of the library, by what is known of its calls: strings.Contains.
  A function of the library, by what is known of its calls: strings.Cut.
  A function of the library, by what is known of its calls: strings.Trim, at a set of ASCII bytes.
-/
import Derived.Test.YtaeiblfdmlapoaaDoorLaidS
import Derived.Shelf.Strings.SlTrimAscii
set_option linter.unusedSectionVars false
set_option linter.unusedSimpArgs false
set_option linter.unusedVariables false
namespace Go.Proofs.YtaeiblfdmlapoaaDoor
open Go.Sh

theorem pow_named : Tryd.prog.globalNamed "internal/strconv.uint64pow10" = some g_internal_strconv_uint64pow10 := by kernel_rfl

abbrev strconv_Itoa_ps : List Pk := [Pk.int .i64]
abbrev strconv_Itoa_rs : List Pk := [Pk.str]
def strconv_Itoa_q (n : Int) (K : List UInt8 → Prop) : Prop := K (Lib.itoa n)
theorem itoa_len (n : Int) (h0 : -9223372036854775808 ≤ n) (h1 : n ≤ 9223372036854775807) : (Lib.itoa n).length ≤ lenMax := by
  have hd : ∀ u : Nat, (Lib.decDigits u).length ≤ u + 1 := by
    intro u
    induction u using Nat.strongRecOn with
    | _ u ih =>
      unfold Lib.decDigits
      split
      · simp
      · have := ih (u / 10) (by omega)
        simp only [List.length_append, List.length_cons, List.length_nil]
        omega
  have hd2 : ∀ u : Nat, u < 9223372036854775809 → (Lib.decDigits u).length ≤ 100000000000000000 + 1 := by
    intro u hu
    unfold Lib.decDigits
    split
    · simp
    · have h2 := hd (u / 10 / 10)
      unfold Lib.decDigits
      split
      · simp
      · simp only [List.length_append, List.length_cons, List.length_nil]
        omega
  unfold Lib.itoa lenMax
  split
  · have := hd2 n.natAbs (by omega)
    simp only [List.length_cons]; omega
  · have := hd2 n.toNat (by omega)
    omega
theorem strconv_Itoa_fq : FnQ Tryd.prog f_strconv_Itoa strconv_Itoa_ps strconv_Itoa_rs (fun x K => strconv_Itoa_q x.1 (fun r0 => K (r0, ()))) := by
  refine fnQ_lib rfl ⟨_, Tryd.func51, by kernel_rfl, by kernel_rfl⟩ fun x K hx W g vs hz hs hl => ?_
  simp only [pksA, pkA] at hs
  cases vs with
  | nil => simp only [SimL] at hs
  | cons v vs =>
    simp only [SimL, SimV] at hs
    obtain ⟨⟨rfl, hr⟩, hs⟩ := hs
    cases vs with
    | cons => simp only [SimL] at hs
    | nil =>
      obtain ⟨T, fr, hg⟩ := laid_pow hl
      have htab : Lib.TabIs Tryd.prog W "internal/strconv.uint64pow10" .u64 Lib.pow10Tab := by
        unfold Lib.TabIs World.var?
        rw [pow_named]
        simp only [Option.bind_some, hg]
        rfl
      simp only [InR, loI, hiI] at hr
      refine (Tryd.strconv_Itoa x.1 hr.1 hr.2 W htab).mono fun e W' ⟨he, k, os, hw⟩ => ?_
      refine ⟨(Lib.itoa x.1, ()), _, he, ?_, hx, ?_, ?_⟩
      · simp only [pksA, pkA, outA, SimV, bstr]
        exact ⟨trivial, itoa_len _ hr.1 hr.2⟩
      · subst hw
        have hsm : ∀ b, hp W b ≠ none → hp (Go.Sort.grow (W.drewN k) os) b = hp W b := fun b hb => by
          simp only [hp, Go.Sort.grow, World.heap_drewN] at hb ⊢
          rw [Array.getElem?_append]
          rw [if_pos]
          rcases Nat.lt_or_ge b W.heap.size with h | h
          · exact h
          · exact absurd (by simp [h]) hb
        exact ⟨fun b _ hb => hsm b hb, fun b hb => by rw [hsm b hb]; exact hb⟩
      · subst hw
        exact ⟨rfl, rfl, rfl⟩
noncomputable def ct_strconv_Itoa : Ct := ctRd strconv_Itoa_ps strconv_Itoa_rs (fun x K => strconv_Itoa_q x.1 (fun r0 => K (r0, ())))
theorem ct_strconv_Itoa_ok : SoundCt Tryd.prog f_strconv_Itoa ct_strconv_Itoa := ctRd_sound strconv_Itoa_fq

end Go.Proofs.YtaeiblfdmlapoaaDoor

set_option linter.unusedSectionVars false
set_option linter.unusedSimpArgs false
set_option linter.unusedVariables false
namespace Go.Proofs.YtaeiblfdmlapoaaDoor
open Go.Sh

abbrev strconv_Atoi_ps : List Pk := [Pk.str]
abbrev strconv_Atoi_rs : List Pk := [Pk.int .i64, Pk.err]
/-- What Atoi answers: a number; was there no error? -/
def atoiR (s : List UInt8) : Int × Bool := match Lib.atoiAll s with
  | .ok v => (v, true)
  | Lib.NumEnd.syntax => (0, false)
  | .range => (Lib.atoiSat s, false)
def strconv_Atoi_q (s : List UInt8) (K : Int → Bool → Prop) : Prop := s.length ≤ 281474976710656 ∧ K (atoiR s).1 (atoiR s).2
theorem atoi_in {s : List UInt8} {v : Int} (h : Lib.atoiAll s = .ok v) : InR .i64 v := by
  show -9223372036854775808 ≤ v ∧ v ≤ 9223372036854775807
  unfold Lib.atoiAll at h
  split at h
  · cases h
  · dsimp only at h
    split at h
    · cases h
    · cases h
    · rename_i u hu
      have := Lib.parseMag_lt hu
      split at h
      · cases h
      · split at h
        · cases h
        · rename_i h1 h2
          injection h with h
          subst h
          split <;> omega
theorem strconv_Atoi_fq : FnQ Tryd.prog f_strconv_Atoi strconv_Atoi_ps strconv_Atoi_rs (fun x K => strconv_Atoi_q x.1 (fun r0 r1 => K (r0, r1, ()))) := by
  refine fnQ_lib rfl ⟨_, Tryd.func50, by kernel_rfl, by kernel_rfl⟩ fun x K hx W g vs hz hs hl => ?_
  obtain ⟨s, u⟩ := x
  change List UInt8 at s
  simp only [pksA, pkA] at hs
  cases vs with
  | nil => simp only [SimL] at hs
  | cons v vs =>
    simp only [SimL, SimV] at hs
    obtain ⟨⟨rfl, hr⟩, hs⟩ := hs
    cases vs with
    | cons => simp only [SimL] at hs
    | nil =>
      obtain ⟨h1, hk⟩ := hx
      change s.length ≤ 281474976710656 at h1
      have hsz : (bstr s).size = s.length := by simp [bstr, ByteArray.size]
      have hdt : (bstr s).data.toList = s := by simp [bstr]
      have fin : ∀ (n : Int) (ok : Bool) (ev : Value) (W' : World), atoiR s = (n, ok) → InR .i64 n → (ok = true → ev = .nilIface) → (ok = false → ∃ t u, ev = .iface t u) → Keep Nil (hp W) (hp W') → Sh.Rest W W' →
          ∃ y v, (Ending.returned (.tuple #[.int .i64 n, ev])) = .returned v ∧ SimV g (hp W') (pksR strconv_Atoi_ps (s, u)).length (outA (pksA 0 strconv_Atoi_rs y)) v ∧ K y ∧ Keep Nil (hp W) (hp W') ∧ Sh.Rest W W' := by
        intro n ok ev W' ha hn h2 h3 hkp hr
        rw [ha] at hk
        refine ⟨(n, ok, ()), _, rfl, ?_, hk, hkp, hr⟩
        simp only [pksA, pkA, outA, SimV]
        refine ⟨[.int .i64 n, ev], rfl, ?_⟩
        simp only [SimL, SimV]
        refine ⟨⟨trivial, hn⟩, ?_, trivial⟩
        cases ok with
        | true => exact h2 rfl
        | false => exact h3 rfl
      cases ha : Lib.atoiAll s with
      | ok v =>
        refine (Tryd.strconv_Atoi_ok (bstr s) (by rw [hsz]; omega) v (by rw [hdt]; exact ha) W).mono fun e W' ⟨he, hw⟩ => ?_
        subst he
        obtain ⟨hkp, hr⟩ : Keep Nil (hp W) (hp W') ∧ Sh.Rest W W' := by
          rcases hw with hw | ⟨t, hw⟩
          · subst hw; exact ⟨⟨fun b _ _ => rfl, fun b h => h⟩, rfl, rfl, rfl⟩
          · subst hw; exact keep_below (Lib.bytesWorld_below _ _ _)
        exact fin v true _ W' (by simp only [atoiR, ha]) (atoi_in ha) (fun _ => rfl) (fun h => by cases h) hkp hr
      | range =>
        obtain ⟨te, pe, hc⟩ := laid_rng hl
        refine (Tryd.strconv_Atoi_range (bstr s) (by rw [hsz]; exact h1) (by rw [hdt]; exact ha) _ W hc (Or.inr ⟨_, _, rfl⟩)).mono fun e W' ⟨N, he, _, _, hb⟩ => ?_
        subst he
        obtain ⟨hkp, hr⟩ := keep_below hb
        rw [hdt]
        refine fin (Lib.atoiSat s) false _ W' (by simp only [atoiR, ha]) ?_ (fun h => by cases h) (fun _ => ⟨_, _, rfl⟩) hkp hr
        show -9223372036854775808 ≤ Lib.atoiSat s ∧ Lib.atoiSat s ≤ 9223372036854775807
        unfold Lib.atoiSat; split <;> omega
      | _ =>
        obtain ⟨te, pe, hc⟩ := laid_syn hl
        refine (Tryd.strconv_Atoi_syntax (bstr s) (by rw [hsz]; exact h1) (by rw [hdt]; exact ha) _ W hc (Or.inr ⟨_, _, rfl⟩)).mono fun e W' ⟨N, he, _, _, hb⟩ => ?_
        subst he
        obtain ⟨hkp, hr⟩ := keep_below hb
        exact fin 0 false _ W' (by simp only [atoiR, ha]) ⟨by show (-9223372036854775808 : Int) ≤ 0; decide, by show (0 : Int) ≤ 9223372036854775807; decide⟩ (fun h => by cases h) (fun _ => ⟨_, _, rfl⟩) hkp hr
noncomputable def ct_strconv_Atoi : Ct := ctRd strconv_Atoi_ps strconv_Atoi_rs (fun x K => strconv_Atoi_q x.1 (fun r0 r1 => K (r0, r1, ())))
theorem ct_strconv_Atoi_ok : SoundCt Tryd.prog f_strconv_Atoi ct_strconv_Atoi := ctRd_sound strconv_Atoi_fq

end Go.Proofs.YtaeiblfdmlapoaaDoor

set_option linter.unusedSectionVars false
set_option linter.unusedSimpArgs false
set_option linter.unusedVariables false
namespace Go.Proofs.YtaeiblfdmlapoaaDoor
open Go.Sh

abbrev strings_Split_ps : List Pk := [Pk.str, Pk.str]
abbrev strings_Split_rs : List Pk := [Pk.own T_string [Kd.str]]
def strings_Split_q (s sep : List UInt8) (K : List (List UInt8) → Prop) : Prop := s.length < 4294967281 ∧ 1 ≤ sep.length ∧ K (Lib.split s sep)
theorem splitK_len (sep : List UInt8) : ∀ (k : Nat) (s : List UInt8), ∀ x ∈ Lib.splitK sep 0 k s, x.length ≤ s.length := by
  intro k
  induction k with
  | zero => intro s x hx; simp only [Lib.splitK, List.mem_singleton] at hx; subst hx; exact Nat.le_refl _
  | succ k ih =>
    intro s x hx
    unfold Lib.splitK at hx
    split at hx
    · simp only [List.mem_singleton] at hx; subst hx; exact Nat.le_refl _
    · rcases List.mem_cons.1 hx with hx | hx
      · subst hx; rw [List.length_take]; omega
      · have := ih _ x hx; rw [List.length_drop] at this; omega
theorem strings_Split_fq : FnQ Tryd.prog f_strings_Split strings_Split_ps strings_Split_rs (fun x K => strings_Split_q x.1 x.2.1 (fun r0 => K (r0, ()))) := by
  refine fnQ_row rfl ⟨_, Tryd.func54, by kernel_rfl, by kernel_rfl⟩ fun x K hx W g vs hz hs hl => ?_
  obtain ⟨s, sep, _⟩ := x
  change List UInt8 at s
  change List UInt8 at sep
  simp only [pksA, pkA, isOwn] at hs
  cases vs with
  | nil => simp only [SimL] at hs
  | cons v vs =>
  cases vs with
  | nil => simp only [SimL] at hs; exact hs.2.elim
  | cons u vs =>
  cases vs with
  | cons => simp only [SimL] at hs; exact hs.2.2.elim
  | nil =>
    simp only [SimL, SimV] at hs
    obtain ⟨⟨rfl, hl1⟩, ⟨rfl, hl2⟩, _⟩ := hs
    obtain ⟨h1, h2, hk⟩ := hx
    change s.length < 4294967281 at h1
    change 1 ≤ sep.length at h2
    obtain ⟨m, hm⟩ := laid_max hl
    have hsz : (bstr s).size = s.length := by simp [bstr, ByteArray.size]
    have hsp : (bstr sep).size = sep.length := by simp [bstr, ByteArray.size]
    refine (Tryd.strings_Split (bstr s) (bstr sep) m W (by rw [hsz]; exact h1) hm (by rw [hsp]; exact h2)).mono fun e W' ⟨he, hw⟩ => ?_
    have hd : (Lib.splitB (bstr sep) 0 (Lib.countB (bstr s) (bstr sep)) (bstr s)).map (·.data.toList) = Lib.split s sep := by
      rw [Lib.splitB_data]; simp [bstr, Lib.split]
    have hn : (Lib.splitB (bstr sep) 0 (Lib.countB (bstr s) (bstr sep)) (bstr s)).length = Lib.countB (bstr s) (bstr sep) + 1 := Lib.splitB_all _ (by rw [hsp]; exact h2) 0 _ _ rfl
    have hc := Lib.countB_le (bstr sep) (by rw [hsp]; exact h2) _ (bstr s) (Nat.le_refl _)
    generalize Lib.splitB (bstr sep) 0 (Lib.countB (bstr s) (bstr sep)) (bstr s) = l at hd hn hw
    have hll : (Lib.split s sep).length = l.length := by rw [← hd, List.length_map]
    refine ⟨Lib.split s sep, l.map Value.string, W.heap.size, ?_, hp_size W, ?_, ?_, ?_, ?_, hk, ?_⟩
    · show e = .returned (.slice _ (Lib.split s sep).length (Lib.split s sep).length)
      rw [hll, hn]; exact he
    · rw [hw]; exact hp_push W _
    · show _ = (Lib.split s sep).length * 1
      rw [List.length_map, hll]; simp
    · show (Lib.split s sep).length ≤ _
      rw [hll, hn]; unfold lenMax; omega
    · intro i y hy
      change List UInt8 at y
      change (Lib.split s sep)[i]? = some y at hy
      have hy' := hy
      rw [← hd, List.getElem?_map] at hy
      cases hb : l[i]? with
      | none => rw [hb] at hy; cases hy
      | some b =>
        rw [hb] at hy
        simp only [Option.map_some, Option.some.injEq] at hy
        simp only [CellsOk, CellOk, List.length_cons, List.length_nil, Nat.zero_add, Nat.mul_one, Nat.add_zero]
        refine ⟨⟨.string b, by rw [List.getElem?_map, hb]; rfl, ?_, ?_⟩, trivial⟩
        · show Value.string b = Value.string (bstr y)
          rw [← hy]; simp [bstr]
        · have := splitK_len sep _ s y (List.mem_of_getElem? hy')
          show List.length y ≤ lenMax
          unfold lenMax; omega
    · rw [hw]; exact ⟨rfl, rfl, rfl⟩
noncomputable def ct_strings_Split : Ct := ctVal strings_Split_ps strings_Split_rs (fun x K => strings_Split_q x.1 x.2.1 (fun r0 => K (r0, ())))
theorem ct_strings_Split_ok : SoundCt Tryd.prog f_strings_Split ct_strings_Split := ctVal_sound strings_Split_fq

end Go.Proofs.YtaeiblfdmlapoaaDoor

set_option linter.unusedSectionVars false
set_option linter.unusedSimpArgs false
set_option linter.unusedVariables false
namespace Go.Proofs.YtaeiblfdmlapoaaDoor
open Go.Sh

abbrev strings_IndexByte_ps : List Pk := [Pk.str, Pk.int .u8]
abbrev strings_IndexByte_rs : List Pk := [Pk.int .i64]
def strings_IndexByte_q (s : List UInt8) (c : Int) (K : Int → Prop) : Prop := K (Lib.indexByte s c.toNat.toUInt8)
theorem indexByte_le (s : List UInt8) (c : UInt8) : Lib.indexByte s c ≤ s.length := by
  induction s with
  | nil => simp [Lib.indexByte]
  | cons b l ih => unfold Lib.indexByte; split <;> (try split) <;> simp <;> omega
theorem strings_IndexByte_fq : FnQ Tryd.prog f_strings_IndexByte strings_IndexByte_ps strings_IndexByte_rs (fun x K => strings_IndexByte_q x.1 x.2.1 (fun r0 => K (r0, ()))) := by
  refine fnQ_lib rfl ⟨_, Tryd.func16, by kernel_rfl, by kernel_rfl⟩ fun x K hx W g vs hz hs hl => ?_
  obtain ⟨s, c, u⟩ := x
  change List UInt8 at s
  change Int at c
  simp only [pksA, pkA] at hs
  cases vs with
  | nil => simp only [SimL] at hs
  | cons v vs =>
  cases vs with
  | nil => simp only [SimL] at hs; exact hs.2.elim
  | cons w vs =>
  cases vs with
  | cons => simp only [SimL] at hs; exact hs.2.2.elim
  | nil =>
    simp only [SimL, SimV] at hs
    obtain ⟨⟨rfl, h1⟩, ⟨rfl, h2⟩, _⟩ := hs
    refine (Tryd.strings_IndexByte (bstr s) c W).mono fun e W' ⟨he, hw⟩ => ?_
    subst hw
    have hd : (bstr s).data.toList = s := by simp [bstr]
    rw [hd] at he
    refine ⟨(Lib.indexByte s c.toNat.toUInt8, ()), _, he, ?_, hx, ⟨fun b _ _ => rfl, fun b h => h⟩, rfl, rfl, rfl⟩
    have h3 := Lib.indexByte_ge s c.toNat.toUInt8
    have h4 := indexByte_le s c.toNat.toUInt8
    have h5 : s.length ≤ lenMax := h1
    unfold lenMax at h5
    simp only [pksA, pkA, outA, SimV]
    exact ⟨trivial, by show -9223372036854775808 ≤ _; omega, by show _ ≤ 9223372036854775807; omega⟩
noncomputable def ct_strings_IndexByte : Ct := ctRd strings_IndexByte_ps strings_IndexByte_rs (fun x K => strings_IndexByte_q x.1 x.2.1 (fun r0 => K (r0, ())))
theorem ct_strings_IndexByte_ok : SoundCt Tryd.prog f_strings_IndexByte ct_strings_IndexByte := ctRd_sound strings_IndexByte_fq

end Go.Proofs.YtaeiblfdmlapoaaDoor

set_option linter.unusedSectionVars false
set_option linter.unusedSimpArgs false
set_option linter.unusedVariables false
namespace Go.Proofs.YtaeiblfdmlapoaaDoor
open Go.Sh

abbrev strings_Contains_ps : List Pk := [Pk.str, Pk.str]
abbrev strings_Contains_rs : List Pk := [Pk.bool]
def strings_Contains_q (s t : List UInt8) (K : Bool → Prop) : Prop := s.length < 4294967281 ∧ K (Lib.contains s t)
theorem strings_Contains_fq : FnQ Tryd.prog f_strings_Contains strings_Contains_ps strings_Contains_rs (fun x K => strings_Contains_q x.1 x.2.1 (fun r0 => K (r0, ()))) := by
  refine fnQ_lib rfl ⟨_, Tryd.func29, by kernel_rfl, by kernel_rfl⟩ fun x K hx W g vs hz hs hl => ?_
  obtain ⟨s, t, u⟩ := x
  change List UInt8 at s
  change List UInt8 at t
  simp only [pksA, pkA] at hs
  cases vs with
  | nil => simp only [SimL] at hs
  | cons v vs =>
  cases vs with
  | nil => simp only [SimL] at hs; exact hs.2.elim
  | cons w vs =>
  cases vs with
  | cons => simp only [SimL] at hs; exact hs.2.2.elim
  | nil =>
    simp only [SimL, SimV] at hs
    obtain ⟨⟨rfl, h1⟩, ⟨rfl, h2⟩, _⟩ := hs
    obtain ⟨h3, hk⟩ := hx
    change s.length < 4294967281 at h3
    obtain ⟨m, hm⟩ := laid_max hl
    have hsz : (bstr s).size = s.length := by simp [bstr, ByteArray.size]
    refine (Tryd.strings_Contains (bstr s) (bstr t) m W (by rw [hsz]; exact h3) hm).mono fun e W' ⟨he, hw⟩ => ?_
    subst hw
    have hd : (bstr s).data.toList = s := by simp [bstr]
    have hd2 : (bstr t).data.toList = t := by simp [bstr]
    rw [hd, hd2] at he
    refine ⟨(Lib.contains s t, ()), _, he, ?_, hk, ⟨fun b _ _ => rfl, fun b h => h⟩, rfl, rfl, rfl⟩
    simp only [pksA, pkA, outA, SimV]
noncomputable def ct_strings_Contains : Ct := ctRd strings_Contains_ps strings_Contains_rs (fun x K => strings_Contains_q x.1 x.2.1 (fun r0 => K (r0, ())))
theorem ct_strings_Contains_ok : SoundCt Tryd.prog f_strings_Contains ct_strings_Contains := ctRd_sound strings_Contains_fq

end Go.Proofs.YtaeiblfdmlapoaaDoor

set_option linter.unusedSectionVars false
set_option linter.unusedSimpArgs false
set_option linter.unusedVariables false
namespace Go.Proofs.YtaeiblfdmlapoaaDoor
open Go.Sh

abbrev strings_Cut_ps : List Pk := [Pk.str, Pk.str]
abbrev strings_Cut_rs : List Pk := [Pk.str, Pk.str, Pk.bool]
def strings_Cut_q (s t : List UInt8) (K : List UInt8 → List UInt8 → Bool → Prop) : Prop := s.length < 4294967281 ∧ K (Lib.cut s t).1 (Lib.cut s t).2.1 (Lib.cut s t).2.2
theorem cut_len (s t : List UInt8) : (Lib.cut s t).1.length ≤ s.length ∧ (Lib.cut s t).2.1.length ≤ s.length := by
  unfold Lib.cut
  split <;> simp <;> omega
theorem strings_Cut_fq : FnQ Tryd.prog f_strings_Cut strings_Cut_ps strings_Cut_rs (fun x K => strings_Cut_q x.1 x.2.1 (fun r0 r1 r2 => K (r0, r1, r2, ()))) := by
  refine fnQ_lib rfl ⟨_, Tryd.func53, by kernel_rfl, by kernel_rfl⟩ fun x K hx W g vs hz hs hl => ?_
  obtain ⟨s, t, u⟩ := x
  change List UInt8 at s
  change List UInt8 at t
  simp only [pksA, pkA] at hs
  cases vs with
  | nil => simp only [SimL] at hs
  | cons v vs =>
  cases vs with
  | nil => simp only [SimL] at hs; exact hs.2.elim
  | cons w vs =>
  cases vs with
  | cons => simp only [SimL] at hs; exact hs.2.2.elim
  | nil =>
    simp only [SimL, SimV] at hs
    obtain ⟨⟨rfl, h1⟩, ⟨rfl, h2⟩, _⟩ := hs
    obtain ⟨h3, hk⟩ := hx
    change s.length < 4294967281 at h3
    obtain ⟨m, hm⟩ := laid_max hl
    have hsz : (bstr s).size = s.length := by simp [bstr, ByteArray.size]
    refine (Tryd.strings_Cut (bstr s) (bstr t) m W (by rw [hsz]; exact h3) hm).mono fun e W' ⟨he, n, hw⟩ => ?_
    subst hw
    have hd : (bstr s).data.toList = s := by simp [bstr]
    have hd2 : (bstr t).data.toList = t := by simp [bstr]
    rw [hd, hd2] at he
    have hc := cut_len s t
    refine ⟨((Lib.cut s t).1, (Lib.cut s t).2.1, (Lib.cut s t).2.2, ()), _, he, ?_, hk, ⟨fun b _ _ => by simp only [hp, World.heap_drewN], fun b h => by simpa only [hp, World.heap_drewN] using h⟩, rfl, rfl, rfl⟩
    simp only [pksA, pkA, outA, SimV]
    refine ⟨_, rfl, ?_⟩
    simp only [SimL, SimV]
    exact ⟨⟨rfl, by show (Lib.cut s t).1.length ≤ lenMax; unfold lenMax; omega⟩, ⟨rfl, by show (Lib.cut s t).2.1.length ≤ lenMax; unfold lenMax; omega⟩, trivial, trivial⟩
noncomputable def ct_strings_Cut : Ct := ctRd strings_Cut_ps strings_Cut_rs (fun x K => strings_Cut_q x.1 x.2.1 (fun r0 r1 r2 => K (r0, r1, r2, ())))
theorem ct_strings_Cut_ok : SoundCt Tryd.prog f_strings_Cut ct_strings_Cut := ctRd_sound strings_Cut_fq

end Go.Proofs.YtaeiblfdmlapoaaDoor

set_option linter.unusedSectionVars false
set_option linter.unusedSimpArgs false
set_option linter.unusedVariables false
namespace Go.Proofs.YtaeiblfdmlapoaaDoor
open Go.Sh

abbrev strings_Trim_ps : List Pk := [Pk.str, Pk.str]
abbrev strings_Trim_rs : List Pk := [Pk.str]
def strings_Trim_q (s t : List UInt8) (K : List UInt8 → Prop) : Prop := t.length < 4294967281 ∧ t.all (fun b => decide (b.toNat < 128)) = true ∧ K (Lib.trimS s t)
theorem dropWhile_len {A : Type} (p : A → Bool) : ∀ l : List A, (l.dropWhile p).length ≤ l.length
  | [] => by simp
  | x :: l => by
    rw [List.dropWhile_cons]
    split
    · have := dropWhile_len p l
      simp; omega
    · exact Nat.le_refl _
theorem trimS_len (s t : List UInt8) : (Lib.trimS s t).length ≤ s.length := by
  unfold Lib.trimS Lib.trimLeftS Lib.trimRightS
  refine Nat.le_trans (dropWhile_len _ _) ?_
  rw [List.length_reverse]
  refine Nat.le_trans (dropWhile_len _ _) ?_
  rw [List.length_reverse]
  exact Nat.le_refl _
theorem strings_Trim_fq : FnQ Tryd.prog f_strings_Trim strings_Trim_ps strings_Trim_rs (fun x K => strings_Trim_q x.1 x.2.1 (fun r0 => K (r0, ()))) := by
  refine fnQ_lib rfl ⟨_, Tryd.func27, by kernel_rfl, by kernel_rfl⟩ fun x K hx W g vs hz hs hl => ?_
  obtain ⟨s, t, u⟩ := x
  change List UInt8 at s
  change List UInt8 at t
  simp only [pksA, pkA] at hs
  cases vs with
  | nil => simp only [SimL] at hs
  | cons v vs =>
  cases vs with
  | nil => simp only [SimL] at hs; exact hs.2.elim
  | cons w vs =>
  cases vs with
  | cons => simp only [SimL] at hs; exact hs.2.2.elim
  | nil =>
    simp only [SimL, SimV] at hs
    obtain ⟨⟨rfl, h1⟩, ⟨rfl, h2⟩, _⟩ := hs
    obtain ⟨h3, h4, hk⟩ := hx
    change t.length < 4294967281 at h3
    have hsz : (bstr s).size = s.length := by simp [bstr, ByteArray.size]
    have htz : (bstr t).size = t.length := by simp [bstr, ByteArray.size]
    have hd : (bstr s).data.toList = s := by simp [bstr]
    have hd2 : (bstr t).data.toList = t := by simp [bstr]
    have h1' : s.length ≤ lenMax := h1
    unfold lenMax at h1'
    refine (Any.strings_Trim_laid Tryd.lays160 (by kernel_rfl) (bstr s) (bstr t) W (by rw [hsz]; exact h1') (by rw [htz]; exact h3) (by rw [hd2]; exact ascii_of_all h4)).mono fun e W' ⟨he, hw⟩ => ?_
    rw [hd, hd2] at he
    have hc := trimS_len s t
    obtain ⟨hk1, hr⟩ := keep_below hw
    refine ⟨(Lib.trimS s t, ()), _, he, ?_, hk, hk1, hr⟩
    simp only [pksA, pkA, outA, SimV]
    exact ⟨rfl, by show (Lib.trimS s t).length ≤ lenMax; unfold lenMax; omega⟩
noncomputable def ct_strings_Trim : Ct := ctRd strings_Trim_ps strings_Trim_rs (fun x K => strings_Trim_q x.1 x.2.1 (fun r0 => K (r0, ())))
theorem ct_strings_Trim_ok : SoundCt Tryd.prog f_strings_Trim ct_strings_Trim := ctRd_sound strings_Trim_fq

end Go.Proofs.YtaeiblfdmlapoaaDoor
