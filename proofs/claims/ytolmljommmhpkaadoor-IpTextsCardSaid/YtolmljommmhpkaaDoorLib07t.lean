/-
  Functions of the library, by what is known of their calls: Itoa, Join.
-/
import Derived.Test.YtolmljommmhpkaaDoorLaid07t
set_option linter.unusedSectionVars false
set_option linter.unusedSimpArgs false
set_option linter.unusedVariables false
namespace Go.Proofs.YtolmljommmhpkaaDoor
open Go.Sh

theorem pow_named : Tryd.prog.globalNamed "internal/strconv.uint64pow10" = some g_internal_strconv_uint64pow10 := by kernel_rfl

abbrev strconv_Itoa_ps : List Pk := [Pk.int .i64]
abbrev strconv_Itoa_rs : List Pk := [Pk.str]
def strconv_Itoa_q (n : Int) (K : List UInt8 → Prop) : Prop := K (Lib.itoa n)
theorem itoa_len (n : Int) (h0 : -9223372036854775808 ≤ n) (h1 : n ≤ 9223372036854775807) : (Lib.itoa n).length ≤ lenMax := by
  have hd : ∀ u : Nat, (Lib.decDigits u).length ≤ u + 1 := by
    intro u
    induction u using Nat.strongRecOn with
    | _ u ih =>
      unfold Lib.decDigits
      split
      · simp
      · have := ih (u / 10) (by omega)
        simp only [List.length_append, List.length_cons, List.length_nil]
        omega
  have hd2 : ∀ u : Nat, u < 9223372036854775809 → (Lib.decDigits u).length ≤ 100000000000000000 + 1 := by
    intro u hu
    unfold Lib.decDigits
    split
    · simp
    · have h2 := hd (u / 10 / 10)
      unfold Lib.decDigits
      split
      · simp
      · simp only [List.length_append, List.length_cons, List.length_nil]
        omega
  unfold Lib.itoa lenMax
  split
  · have := hd2 n.natAbs (by omega)
    simp only [List.length_cons]; omega
  · have := hd2 n.toNat (by omega)
    omega
theorem strconv_Itoa_fq : FnQ Tryd.prog f_strconv_Itoa strconv_Itoa_ps strconv_Itoa_rs (fun x K => strconv_Itoa_q x.1 (fun r0 => K (r0, ()))) := by
  refine fnQ_lib rfl ⟨_, Tryd.func48, by kernel_rfl, by kernel_rfl⟩ fun x K hx W g vs hz hs hl => ?_
  simp only [pksA, pkA] at hs
  cases vs with
  | nil => simp only [SimL] at hs
  | cons v vs =>
    simp only [SimL, SimV] at hs
    obtain ⟨⟨rfl, hr⟩, hs⟩ := hs
    cases vs with
    | cons => simp only [SimL] at hs
    | nil =>
      obtain ⟨T, fr, hg⟩ := laid_pow hl
      have htab : Lib.TabIs Tryd.prog W "internal/strconv.uint64pow10" .u64 Lib.pow10Tab := by
        unfold Lib.TabIs World.var?
        rw [pow_named]
        simp only [Option.bind_some, hg]
        rfl
      simp only [InR, loI, hiI] at hr
      refine (Tryd.strconv_Itoa x.1 hr.1 hr.2 W htab).mono fun e W' ⟨he, k, os, hw⟩ => ?_
      refine ⟨(Lib.itoa x.1, ()), _, he, ?_, hx, ?_, ?_⟩
      · simp only [pksA, pkA, outA, SimV, bstr]
        exact ⟨trivial, itoa_len _ hr.1 hr.2⟩
      · subst hw
        have hsm : ∀ b, hp W b ≠ none → hp (Go.Sort.grow (W.drewN k) os) b = hp W b := fun b hb => by
          simp only [hp, Go.Sort.grow, World.heap_drewN] at hb ⊢
          rw [Array.getElem?_append]
          rw [if_pos]
          rcases Nat.lt_or_ge b W.heap.size with h | h
          · exact h
          · exact absurd (by simp [h]) hb
        exact ⟨fun b _ hb => hsm b hb, fun b hb => by rw [hsm b hb]; exact hb⟩
      · subst hw
        exact ⟨rfl, rfl, rfl⟩
noncomputable def ct_strconv_Itoa : Ct := ctRd strconv_Itoa_ps strconv_Itoa_rs (fun x K => strconv_Itoa_q x.1 (fun r0 => K (r0, ())))
theorem ct_strconv_Itoa_ok : SoundCt Tryd.prog f_strconv_Itoa ct_strconv_Itoa := ctRd_sound strconv_Itoa_fq

abbrev strings_Join_ps : List Pk := [Pk.lst [Kd.str], Pk.str]
abbrev strings_Join_rs : List Pk := [Pk.str]
def strings_Join_q (xs : List (List UInt8)) (sep : List UInt8) (K : List UInt8 → Prop) : Prop := xs.length ≤ 140737488355328 ∧ (Lib.join xs sep).length ≤ 140737488355328 ∧ K (Lib.join xs sep)
theorem join_calls {W : World} {g : Gh} {xs : List (List UInt8)} {sep : List UInt8} {v : Value} (hv : CellOk g.Z (hp W) (.lst [.str]) xs v) (h1 : xs.length ≤ 140737488355328) (h2 : (Lib.join xs sep).length ≤ 140737488355328) :
    Calls Tryd.prog f_strings_Join ⟨[v, .string (bstr sep)]⟩ W fun e W' => e = .returned (.string (bstr (Lib.join xs sep))) ∧ Go.RowKit.Below W.heap.size W W' := by
  simp only [CellOk] at hv
  obtain ⟨a, n, c, rfl, hn, hnc, hcm, hc⟩ := hv
  have hn : xs.length = n := hn
  rcases Nat.eq_zero_or_pos n with h0 | h0
  · subst h0
    have hnil : xs = [] := List.eq_nil_of_length_eq_zero hn
    refine (Tryd.strings_Join_none a c (bstr sep) W).mono fun e W' ⟨he, hw⟩ => ⟨?_, ?_⟩
    · rw [he, hnil]; rfl
    · subst hw; exact .refl _ _
  · obtain ⟨b, o, rfl, hzb, cs, T, fr, hb, hcs⟩ := hc h0
    have hbs : b < W.heap.size := by
      rcases Nat.lt_or_ge b W.heap.size with h | h
      · exact h
      · have : hp W b = none := by simp [hp, h]
        rw [this] at hb; cases hb
    have hmap : (xs.map bstr).map (·.data.toList) = xs := by
      rw [List.map_map]
      conv => rhs; rw [← List.map_id xs]
      exact List.map_congr_left fun s _ => by simp [bstr]
    have := Tryd.strings_Join b o c (xs.map bstr) (bstr sep) W (fun j s hj => by
      rw [List.getElem?_map] at hj
      cases hx : xs[j]? with
      | none => rw [hx] at hj; cases hj
      | some t =>
        rw [hx] at hj
        cases hj
        have h3 := hcs j t hx
        simp only [CellsOk, CellOk] at h3
        obtain ⟨⟨v, h4, h5, _⟩, _⟩ := h3
        simp only [List.length_cons, List.length_nil, Nat.zero_add, Nat.mul_one, Nat.add_zero] at h4
        have hb' : W.heap[b]? = some (.cells cs T fr) := hb
        simp only [World.cell?, hb', Option.isSome_none, Bool.false_eq_true, if_false]
        rw [h4, h5]
        rfl) hbs (by simpa using h1) (by simp; omega) (by
        rw [hmap]
        exact h2)
    rw [hmap] at this
    have e1 : (xs.map bstr).length = n := by simp [hn]
    rw [e1] at this
    exact this
theorem strings_Join_fq : FnQ Tryd.prog f_strings_Join strings_Join_ps strings_Join_rs (fun x K => strings_Join_q x.1 x.2.1 (fun r0 => K (r0, ()))) := by
  refine fnQ_lib rfl ⟨_, Tryd.func49, by kernel_rfl, by kernel_rfl⟩ fun x K hx W g vs hz hs hl => ?_
  simp only [pksA, pkA, isOwn] at hs
  cases vs with
  | nil => simp only [SimL] at hs
  | cons v vs =>
  cases vs with
  | nil => simp only [SimL] at hs; exact hs.2.elim
  | cons u vs =>
  cases vs with
  | cons => simp only [SimL] at hs; exact hs.2.2.elim
  | nil =>
    simp only [SimL, SimV] at hs
    obtain ⟨hv, ⟨rfl, _⟩, _⟩ := hs
    obtain ⟨h1, h2, hk⟩ := hx
    refine (join_calls hv h1 h2).mono fun e W' ⟨he, hb⟩ => ?_
    obtain ⟨hkp, hr⟩ := keep_below hb
    refine ⟨(Lib.join x.1 x.2.1, ()), _, he, ?_, hk, hkp, hr⟩
    simp only [pksA, pkA, outA, SimV]
    exact ⟨trivial, by unfold lenMax; omega⟩
noncomputable def ct_strings_Join : Ct := ctRd strings_Join_ps strings_Join_rs (fun x K => strings_Join_q x.1 x.2.1 (fun r0 => K (r0, ())))
theorem ct_strings_Join_ok : SoundCt Tryd.prog f_strings_Join ct_strings_Join := ctRd_sound strings_Join_fq

end Go.Proofs.YtolmljommmhpkaaDoor
