/-
  Functions of the library, by what is known of their calls: Split, Atoi.
-/
import Derived.Test.YtolmljommmhpkaaDoorLib07t
set_option linter.unusedSectionVars false
set_option linter.unusedSimpArgs false
set_option linter.unusedVariables false
namespace Go.Proofs.YtolmljommmhpkaaDoor
open Go.Sh

abbrev strings_Split_ps : List Pk := [Pk.str, Pk.str]
abbrev strings_Split_rs : List Pk := [Pk.own T_string [Kd.str]]
def strings_Split_q (s sep : List UInt8) (K : List (List UInt8) → Prop) : Prop := s.length < 4294967281 ∧ 1 ≤ sep.length ∧ K (Lib.split s sep)
theorem splitK_len (sep : List UInt8) : ∀ (k : Nat) (s : List UInt8), ∀ x ∈ Lib.splitK sep 0 k s, x.length ≤ s.length := by
  intro k
  induction k with
  | zero => intro s x hx; simp only [Lib.splitK, List.mem_singleton] at hx; subst hx; exact Nat.le_refl _
  | succ k ih =>
    intro s x hx
    unfold Lib.splitK at hx
    split at hx
    · simp only [List.mem_singleton] at hx; subst hx; exact Nat.le_refl _
    · rcases List.mem_cons.1 hx with hx | hx
      · subst hx; rw [List.length_take]; omega
      · have := ih _ x hx; rw [List.length_drop] at this; omega
theorem strings_Split_fq : FnQ Tryd.prog f_strings_Split strings_Split_ps strings_Split_rs (fun x K => strings_Split_q x.1 x.2.1 (fun r0 => K (r0, ()))) := by
  refine fnQ_row rfl ⟨_, Tryd.func44, by kernel_rfl, by kernel_rfl⟩ fun x K hx W g vs hz hs hl => ?_
  obtain ⟨s, sep, _⟩ := x
  change List UInt8 at s
  change List UInt8 at sep
  simp only [pksA, pkA, isOwn] at hs
  cases vs with
  | nil => simp only [SimL] at hs
  | cons v vs =>
  cases vs with
  | nil => simp only [SimL] at hs; exact hs.2.elim
  | cons u vs =>
  cases vs with
  | cons => simp only [SimL] at hs; exact hs.2.2.elim
  | nil =>
    simp only [SimL, SimV] at hs
    obtain ⟨⟨rfl, hl1⟩, ⟨rfl, hl2⟩, _⟩ := hs
    obtain ⟨h1, h2, hk⟩ := hx
    change s.length < 4294967281 at h1
    change 1 ≤ sep.length at h2
    obtain ⟨m, hm⟩ := laid_max hl
    have hsz : (bstr s).size = s.length := by simp [bstr, ByteArray.size]
    have hsp : (bstr sep).size = sep.length := by simp [bstr, ByteArray.size]
    refine (Tryd.strings_Split (bstr s) (bstr sep) m W (by rw [hsz]; exact h1) hm (by rw [hsp]; exact h2)).mono fun e W' ⟨he, hw⟩ => ?_
    have hd : (Lib.splitB (bstr sep) 0 (Lib.countB (bstr s) (bstr sep)) (bstr s)).map (·.data.toList) = Lib.split s sep := by
      rw [Lib.splitB_data]; simp [bstr, Lib.split]
    have hn : (Lib.splitB (bstr sep) 0 (Lib.countB (bstr s) (bstr sep)) (bstr s)).length = Lib.countB (bstr s) (bstr sep) + 1 := Lib.splitB_all _ (by rw [hsp]; exact h2) 0 _ _ rfl
    have hc := Lib.countB_le (bstr sep) (by rw [hsp]; exact h2) _ (bstr s) (Nat.le_refl _)
    generalize Lib.splitB (bstr sep) 0 (Lib.countB (bstr s) (bstr sep)) (bstr s) = l at hd hn hw
    have hll : (Lib.split s sep).length = l.length := by rw [← hd, List.length_map]
    refine ⟨Lib.split s sep, l.map Value.string, W.heap.size, ?_, hp_size W, ?_, ?_, ?_, ?_, hk, ?_⟩
    · show e = .returned (.slice _ (Lib.split s sep).length (Lib.split s sep).length)
      rw [hll, hn]; exact he
    · rw [hw]; exact hp_push W _
    · show _ = (Lib.split s sep).length * 1
      rw [List.length_map, hll]; simp
    · show (Lib.split s sep).length ≤ _
      rw [hll, hn]; unfold lenMax; omega
    · intro i y hy
      change List UInt8 at y
      change (Lib.split s sep)[i]? = some y at hy
      have hy' := hy
      rw [← hd, List.getElem?_map] at hy
      cases hb : l[i]? with
      | none => rw [hb] at hy; cases hy
      | some b =>
        rw [hb] at hy
        simp only [Option.map_some, Option.some.injEq] at hy
        simp only [CellsOk, CellOk, List.length_cons, List.length_nil, Nat.zero_add, Nat.mul_one, Nat.add_zero]
        refine ⟨⟨.string b, by rw [List.getElem?_map, hb]; rfl, ?_, ?_⟩, trivial⟩
        · show Value.string b = Value.string (bstr y)
          rw [← hy]; simp [bstr]
        · have := splitK_len sep _ s y (List.mem_of_getElem? hy')
          show List.length y ≤ lenMax
          unfold lenMax; omega
    · rw [hw]; exact ⟨rfl, rfl, rfl⟩
noncomputable def ct_strings_Split : Ct := ctVal strings_Split_ps strings_Split_rs (fun x K => strings_Split_q x.1 x.2.1 (fun r0 => K (r0, ())))
theorem ct_strings_Split_ok : SoundCt Tryd.prog f_strings_Split ct_strings_Split := ctVal_sound strings_Split_fq

abbrev strconv_Atoi_ps : List Pk := [Pk.str]
abbrev strconv_Atoi_rs : List Pk := [Pk.int .i64, Pk.err]
/-- What Atoi answers: a number; was there no error? -/
def atoiR (s : List UInt8) : Int × Bool := match Lib.atoiAll s with
  | .ok v => (v, true)
  | Lib.NumEnd.syntax => (0, false)
  | .range => (Lib.atoiSat s, false)
def strconv_Atoi_q (s : List UInt8) (K : Int → Bool → Prop) : Prop := s.length ≤ 281474976710656 ∧ K (atoiR s).1 (atoiR s).2
theorem atoi_in {s : List UInt8} {v : Int} (h : Lib.atoiAll s = .ok v) : InR .i64 v := by
  show -9223372036854775808 ≤ v ∧ v ≤ 9223372036854775807
  unfold Lib.atoiAll at h
  split at h
  · cases h
  · dsimp only at h
    split at h
    · cases h
    · cases h
    · rename_i u hu
      have := Lib.parseMag_lt hu
      split at h
      · cases h
      · split at h
        · cases h
        · rename_i h1 h2
          injection h with h
          subst h
          split <;> omega
theorem strconv_Atoi_fq : FnQ Tryd.prog f_strconv_Atoi strconv_Atoi_ps strconv_Atoi_rs (fun x K => strconv_Atoi_q x.1 (fun r0 r1 => K (r0, r1, ()))) := by
  refine fnQ_lib rfl ⟨_, Tryd.func57, by kernel_rfl, by kernel_rfl⟩ fun x K hx W g vs hz hs hl => ?_
  obtain ⟨s, u⟩ := x
  change List UInt8 at s
  simp only [pksA, pkA] at hs
  cases vs with
  | nil => simp only [SimL] at hs
  | cons v vs =>
    simp only [SimL, SimV] at hs
    obtain ⟨⟨rfl, hr⟩, hs⟩ := hs
    cases vs with
    | cons => simp only [SimL] at hs
    | nil =>
      obtain ⟨h1, hk⟩ := hx
      change s.length ≤ 281474976710656 at h1
      have hsz : (bstr s).size = s.length := by simp [bstr, ByteArray.size]
      have hdt : (bstr s).data.toList = s := by simp [bstr]
      have fin : ∀ (n : Int) (ok : Bool) (ev : Value) (W' : World), atoiR s = (n, ok) → InR .i64 n → (ok = true → ev = .nilIface) → (ok = false → ∃ t u, ev = .iface t u) → Keep Nil (hp W) (hp W') → Sh.Rest W W' →
          ∃ y v, (Ending.returned (.tuple #[.int .i64 n, ev])) = .returned v ∧ SimV g (hp W') (pksR strconv_Atoi_ps (s, u)).length (outA (pksA 0 strconv_Atoi_rs y)) v ∧ K y ∧ Keep Nil (hp W) (hp W') ∧ Sh.Rest W W' := by
        intro n ok ev W' ha hn h2 h3 hkp hr
        rw [ha] at hk
        refine ⟨(n, ok, ()), _, rfl, ?_, hk, hkp, hr⟩
        simp only [pksA, pkA, outA, SimV]
        refine ⟨[.int .i64 n, ev], rfl, ?_⟩
        simp only [SimL, SimV]
        refine ⟨⟨trivial, hn⟩, ?_, trivial⟩
        cases ok with
        | true => exact h2 rfl
        | false => exact h3 rfl
      cases ha : Lib.atoiAll s with
      | ok v =>
        refine (Tryd.strconv_Atoi_ok (bstr s) (by rw [hsz]; omega) v (by rw [hdt]; exact ha) W).mono fun e W' ⟨he, hw⟩ => ?_
        subst he
        obtain ⟨hkp, hr⟩ : Keep Nil (hp W) (hp W') ∧ Sh.Rest W W' := by
          rcases hw with hw | ⟨t, hw⟩
          · subst hw; exact ⟨⟨fun b _ _ => rfl, fun b h => h⟩, rfl, rfl, rfl⟩
          · subst hw; exact keep_below (Lib.bytesWorld_below _ _ _)
        exact fin v true _ W' (by simp only [atoiR, ha]) (atoi_in ha) (fun _ => rfl) (fun h => by cases h) hkp hr
      | range =>
        obtain ⟨te, pe, hc⟩ := laid_rng hl
        refine (Tryd.strconv_Atoi_range (bstr s) (by rw [hsz]; exact h1) (by rw [hdt]; exact ha) _ W hc (Or.inr ⟨_, _, rfl⟩)).mono fun e W' ⟨N, he, _, _, hb⟩ => ?_
        subst he
        obtain ⟨hkp, hr⟩ := keep_below hb
        rw [hdt]
        refine fin (Lib.atoiSat s) false _ W' (by simp only [atoiR, ha]) ?_ (fun h => by cases h) (fun _ => ⟨_, _, rfl⟩) hkp hr
        show -9223372036854775808 ≤ Lib.atoiSat s ∧ Lib.atoiSat s ≤ 9223372036854775807
        unfold Lib.atoiSat; split <;> omega
      | _ =>
        obtain ⟨te, pe, hc⟩ := laid_syn hl
        refine (Tryd.strconv_Atoi_syntax (bstr s) (by rw [hsz]; exact h1) (by rw [hdt]; exact ha) _ W hc (Or.inr ⟨_, _, rfl⟩)).mono fun e W' ⟨N, he, _, _, hb⟩ => ?_
        subst he
        obtain ⟨hkp, hr⟩ := keep_below hb
        exact fin 0 false _ W' (by simp only [atoiR, ha]) ⟨by show (-9223372036854775808 : Int) ≤ 0; decide, by show (0 : Int) ≤ 9223372036854775807; decide⟩ (fun h => by cases h) (fun _ => ⟨_, _, rfl⟩) hkp hr
noncomputable def ct_strconv_Atoi : Ct := ctRd strconv_Atoi_ps strconv_Atoi_rs (fun x K => strconv_Atoi_q x.1 (fun r0 r1 => K (r0, r1, ())))
theorem ct_strconv_Atoi_ok : SoundCt Tryd.prog f_strconv_Atoi ct_strconv_Atoi := ctRd_sound strconv_Atoi_fq

end Go.Proofs.YtolmljommmhpkaaDoor
