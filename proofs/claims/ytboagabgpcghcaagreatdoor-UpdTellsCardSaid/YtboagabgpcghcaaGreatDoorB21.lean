/-
  What is known of the package-level variables that the law of texts comes to.
  A function of the library, by what is known of its calls: strconv.Itoa.
  A function of the library, by what is known of its calls: strconv.Atoi.
  A function of the library, by what is known of its calls: strings.Split.
  A function of the library, by what is known of its calls: strings.Join.
  A function of the library, by what is known of its calls: strings.Cut.
  Small laws of the heap: what is shut, and blocks that are written as a whole.
  The first bits of an address, in numbers.
  attr.Read at no bytes at all, where no routes are told: by hand, over the heap.
  What upd.prefixes gives.
-/
import Derived.Test.YtboagabgpcghcaaGreatDoorNum
import Derived.Test.YtboagabgpcghcaaGreatDoorShelf
import Derived.Test.YtboagabgpcghcaaGreatDoorPw16
import Derived.Test.YtboagabgpcghcaaGreatDoorPw17
import Derived.Test.YtboagabgpcghcaaGreatDoorHm2
import Derived.Test.YtboagabgpcghcaaGreatDoorIts
import Derived.Test.YtboagabgpcghcaaGreatDoorHm1
set_option linter.unusedSectionVars false
set_option linter.unusedSimpArgs false
set_option linter.unusedVariables false
namespace Go.Proofs.YtboagabgpcghcaaGreatDoor
open Go.Sh
def powCells : Array Value := (Lib.pow10Tab.map fun z => Value.int .u64 z).toArray
def isErr (L : Nat → Option Obj) (b : Nat) : Prop := ∃ te pe T fr, L b = some (.cells #[.iface te pe] T fr)
instance : Laid where
  blocks := fun b => Nat.beq b g_internal_strconv_uint64pow10 || (Nat.beq b g_internal_bytealg_MaxLen || (Nat.beq b g_strconv_ErrSyntax || Nat.beq b g_strconv_ErrRange))
  ok := fun L => (∃ T fr, L g_internal_strconv_uint64pow10 = some (.cells powCells T fr)) ∧ (∃ m cs T fr, L g_internal_bytealg_MaxLen = some (.cells cs T fr) ∧ cs[0]? = some (.int .i64 m)) ∧ isErr L g_strconv_ErrSyntax ∧ isErr L g_strconv_ErrRange
theorem laid_pow {W : World} (h : Laid.ok (layH (hp W))) : ∃ T fr, W.heap[g_internal_strconv_uint64pow10]? = some (.cells powCells T fr) := h.1
theorem laid_max {W : World} (h : Laid.ok (layH (hp W))) : ∃ m, W.cell? ⟨g_internal_bytealg_MaxLen, 0, none⟩ = some (.int .i64 m) := by
  obtain ⟨m, cs, T, fr, h1, h2⟩ := h.2.1
  have h3 : W.heap[g_internal_bytealg_MaxLen]? = some (.cells cs T fr) := h1
  refine ⟨m, ?_⟩
  simp only [World.cell?, h3, Option.isSome_none, Bool.false_eq_true, if_false]
  exact h2
theorem err_cell {W : World} {b : Nat} (h : ∃ te pe T fr, W.heap[b]? = some (.cells #[.iface te pe] T fr)) : ∃ te pe, W.cell? ⟨b, 0, none⟩ = some (.iface te pe) := by
  obtain ⟨te, pe, T, fr, h⟩ := h
  refine ⟨te, pe, ?_⟩
  simp only [World.cell?, h, Option.isSome_none, Bool.false_eq_true, if_false]
  rfl
theorem laid_syn {W : World} (h : Laid.ok (layH (hp W))) : ∃ te pe, W.cell? ⟨g_strconv_ErrSyntax, 0, none⟩ = some (.iface te pe) := err_cell h.2.2.1
theorem laid_rng {W : World} (h : Laid.ok (layH (hp W))) : ∃ te pe, W.cell? ⟨g_strconv_ErrRange, 0, none⟩ = some (.iface te pe) := err_cell h.2.2.2
theorem rest_of {W W' : World} (h1 : W'.os = W.os) (h2 : W'.tape = W.tape) (h3 : W'.output = W.output) (h : ∀ (b : Nat) o, W.heap[b]? = some o → W'.heap[b]? = some o) : Go.Sh.Rest W W' := by
  refine ⟨h1, h2, h3, fun b ds hb => h b _ hb, ?_⟩
  cases hs : W.heap.size with
  | zero => omega
  | succ n =>
    have := h n _ (Array.getElem?_eq_getElem (by omega))
    have := (Array.getElem?_eq_some_iff.1 this).1
    omega
end Go.Proofs.YtboagabgpcghcaaGreatDoor
set_option linter.unusedSectionVars false
set_option linter.unusedSimpArgs false
set_option linter.unusedVariables false
namespace Go.Proofs.YtboagabgpcghcaaGreatDoor
open Go.Sh
theorem pow_named : Tryz.prog.globalNamed "internal/strconv.uint64pow10" = some g_internal_strconv_uint64pow10 := by kernel_rfl
abbrev strconv_Itoa_ps : List Pk := [Pk.int .i64]
abbrev strconv_Itoa_rs : List Pk := [Pk.str]
def strconv_Itoa_q (n : Int) (K : List UInt8 → Prop) : Prop := K (Lib.itoa n)
theorem itoa_len (n : Int) (h0 : -9223372036854775808 ≤ n) (h1 : n ≤ 9223372036854775807) : (Lib.itoa n).length ≤ lenMax := by
  have hd : ∀ u : Nat, (Lib.decDigits u).length ≤ u + 1 := by
    intro u
    induction u using Nat.strongRecOn with
    | _ u ih =>
      unfold Lib.decDigits
      split
      · simp
      · have := ih (u / 10) (by omega)
        simp only [List.length_append, List.length_cons, List.length_nil]
        omega
  have hd2 : ∀ u : Nat, u < 9223372036854775809 → (Lib.decDigits u).length ≤ 100000000000000000 + 1 := by
    intro u hu
    unfold Lib.decDigits
    split
    · simp
    · have h2 := hd (u / 10 / 10)
      unfold Lib.decDigits
      split
      · simp
      · simp only [List.length_append, List.length_cons, List.length_nil]
        omega
  unfold Lib.itoa lenMax
  split
  · have := hd2 n.natAbs (by omega)
    simp only [List.length_cons]; omega
  · have := hd2 n.toNat (by omega)
    omega
theorem strconv_Itoa_fq : FnQ Tryz.prog f_strconv_Itoa strconv_Itoa_ps strconv_Itoa_rs (fun x K => strconv_Itoa_q x.1 (fun r0 => K (r0, ()))) := by
  refine fnQ_lib rfl ⟨_, Tryz.func52, by kernel_rfl, by kernel_rfl⟩ fun x K hx W g vs hz hs hl => ?_
  simp only [pksA, pkA] at hs
  cases vs with
  | nil => simp only [SimL] at hs
  | cons v vs =>
    simp only [SimL, SimV] at hs
    obtain ⟨⟨rfl, hr⟩, hs⟩ := hs
    cases vs with
    | cons => simp only [SimL] at hs
    | nil =>
      obtain ⟨T, fr, hg⟩ := laid_pow hl
      have htab : Lib.TabIs Tryz.prog W "internal/strconv.uint64pow10" .u64 Lib.pow10Tab := by
        unfold Lib.TabIs World.var?
        rw [pow_named]
        simp only [Option.bind_some, hg]
        rfl
      simp only [InR, loI, hiI] at hr
      refine (Tryz.strconv_Itoa x.1 hr.1 hr.2 W htab).mono fun e W' ⟨he, k, os, hw⟩ => ?_
      refine ⟨(Lib.itoa x.1, ()), _, he, ?_, hx, ?_, ?_⟩
      · simp only [pksA, pkA, outA, SimV, bstr]
        exact ⟨trivial, itoa_len _ hr.1 hr.2⟩
      · subst hw
        have hsm : ∀ b, hp W b ≠ none → hp (Go.Sort.grow (W.drewN k) os) b = hp W b := fun b hb => by
          simp only [hp, Go.Sort.grow, World.heap_drewN] at hb ⊢
          rw [Array.getElem?_append]
          rw [if_pos]
          rcases Nat.lt_or_ge b W.heap.size with h | h
          · exact h
          · exact absurd (by simp [h]) hb
        exact ⟨fun b _ hb => hsm b hb, fun b hb => by rw [hsm b hb]; exact hb⟩
      · subst hw
        exact rest_of rfl rfl rfl fun b o h => by
          simp only [Go.Sort.grow, World.heap_drewN]
          rw [Array.getElem?_append, if_pos (Array.getElem?_eq_some_iff.1 h).1]; exact h
noncomputable def ct_strconv_Itoa : Ct := ctRd strconv_Itoa_ps strconv_Itoa_rs (fun x K => strconv_Itoa_q x.1 (fun r0 => K (r0, ())))
theorem ct_strconv_Itoa_ok : SoundCt Tryz.prog f_strconv_Itoa ct_strconv_Itoa := ctRd_sound strconv_Itoa_fq
end Go.Proofs.YtboagabgpcghcaaGreatDoor
set_option linter.unusedSectionVars false
set_option linter.unusedSimpArgs false
set_option linter.unusedVariables false
namespace Go.Proofs.YtboagabgpcghcaaGreatDoor
open Go.Sh
abbrev strconv_Atoi_ps : List Pk := [Pk.str]
abbrev strconv_Atoi_rs : List Pk := [Pk.int .i64, Pk.err]
def atoiR (s : List UInt8) : Int × Bool := match Lib.atoiAll s with
  | .ok v => (v, true)
  | Lib.NumEnd.syntax => (0, false)
  | .range => (Lib.atoiSat s, false)
def strconv_Atoi_q (s : List UInt8) (K : Int → Bool → Prop) : Prop := s.length ≤ 281474976710656 ∧ K (atoiR s).1 (atoiR s).2
theorem atoi_in {s : List UInt8} {v : Int} (h : Lib.atoiAll s = .ok v) : InR .i64 v := by
  show -9223372036854775808 ≤ v ∧ v ≤ 9223372036854775807
  unfold Lib.atoiAll at h
  split at h
  · cases h
  · dsimp only at h
    split at h
    · cases h
    · cases h
    · rename_i u hu
      have := Lib.parseMag_lt hu
      split at h
      · cases h
      · split at h
        · cases h
        · rename_i h1 h2
          injection h with h
          subst h
          split <;> omega
theorem strconv_Atoi_fq : FnQ Tryz.prog f_strconv_Atoi strconv_Atoi_ps strconv_Atoi_rs (fun x K => strconv_Atoi_q x.1 (fun r0 r1 => K (r0, r1, ()))) := by
  refine fnQ_lib rfl ⟨_, Tryz.func88, by kernel_rfl, by kernel_rfl⟩ fun x K hx W g vs hz hs hl => ?_
  obtain ⟨s, u⟩ := x
  change List UInt8 at s
  simp only [pksA, pkA] at hs
  cases vs with
  | nil => simp only [SimL] at hs
  | cons v vs =>
    simp only [SimL, SimV] at hs
    obtain ⟨⟨rfl, hr⟩, hs⟩ := hs
    cases vs with
    | cons => simp only [SimL] at hs
    | nil =>
      obtain ⟨h1, hk⟩ := hx
      change s.length ≤ 281474976710656 at h1
      have hsz : (bstr s).size = s.length := by simp [bstr, ByteArray.size]
      have hdt : (bstr s).data.toList = s := by simp [bstr]
      have fin : ∀ (n : Int) (ok : Bool) (ev : Value) (W' : World), atoiR s = (n, ok) → InR .i64 n → (ok = true → ev = .nilIface) → (ok = false → ∃ t u, ev = .iface t u) → Keep Nil (hp W) (hp W') → Sh.Rest W W' →
          ∃ y v, (Ending.returned (.tuple #[.int .i64 n, ev])) = .returned v ∧ SimV g (hp W') (pksR strconv_Atoi_ps (s, u)).length (outA (pksA 0 strconv_Atoi_rs y)) v ∧ K y ∧ Keep Nil (hp W) (hp W') ∧ Sh.Rest W W' := by
        intro n ok ev W' ha hn h2 h3 hkp hr
        rw [ha] at hk
        refine ⟨(n, ok, ()), _, rfl, ?_, hk, hkp, hr⟩
        simp only [pksA, pkA, outA, SimV]
        refine ⟨[.int .i64 n, ev], rfl, ?_⟩
        simp only [SimL, SimV]
        refine ⟨⟨trivial, hn⟩, ?_, trivial⟩
        cases ok with
        | true => exact h2 rfl
        | false => exact h3 rfl
      cases ha : Lib.atoiAll s with
      | ok v =>
        refine (Tryz.strconv_Atoi_ok (bstr s) (by rw [hsz]; omega) v (by rw [hdt]; exact ha) W).mono fun e W' ⟨he, hw⟩ => ?_
        subst he
        obtain ⟨hkp, hr⟩ : Keep Nil (hp W) (hp W') ∧ Sh.Rest W W' := by
          rcases hw with hw | ⟨t, hw⟩
          · subst hw; exact ⟨⟨fun b _ _ => rfl, fun b h => h⟩, rest_of rfl rfl rfl fun _ _ h => h⟩
          · subst hw; exact keep_below (Lib.bytesWorld_below _ _ _)
        exact fin v true _ W' (by simp only [atoiR, ha]) (atoi_in ha) (fun _ => rfl) (fun h => by cases h) hkp hr
      | range =>
        obtain ⟨te, pe, hc⟩ := laid_rng hl
        refine (Tryz.strconv_Atoi_range (bstr s) (by rw [hsz]; exact h1) (by rw [hdt]; exact ha) _ W hc (Or.inr ⟨_, _, rfl⟩)).mono fun e W' ⟨N, he, _, _, hb⟩ => ?_
        subst he
        obtain ⟨hkp, hr⟩ := keep_below hb
        rw [hdt]
        refine fin (Lib.atoiSat s) false _ W' (by simp only [atoiR, ha]) ?_ (fun h => by cases h) (fun _ => ⟨_, _, rfl⟩) hkp hr
        show -9223372036854775808 ≤ Lib.atoiSat s ∧ Lib.atoiSat s ≤ 9223372036854775807
        unfold Lib.atoiSat; split <;> omega
      | _ =>
        obtain ⟨te, pe, hc⟩ := laid_syn hl
        refine (Tryz.strconv_Atoi_syntax (bstr s) (by rw [hsz]; exact h1) (by rw [hdt]; exact ha) _ W hc (Or.inr ⟨_, _, rfl⟩)).mono fun e W' ⟨N, he, _, _, hb⟩ => ?_
        subst he
        obtain ⟨hkp, hr⟩ := keep_below hb
        exact fin 0 false _ W' (by simp only [atoiR, ha]) ⟨by show (-9223372036854775808 : Int) ≤ 0; decide, by show (0 : Int) ≤ 9223372036854775807; decide⟩ (fun h => by cases h) (fun _ => ⟨_, _, rfl⟩) hkp hr
noncomputable def ct_strconv_Atoi : Ct := ctRd strconv_Atoi_ps strconv_Atoi_rs (fun x K => strconv_Atoi_q x.1 (fun r0 r1 => K (r0, r1, ())))
theorem ct_strconv_Atoi_ok : SoundCt Tryz.prog f_strconv_Atoi ct_strconv_Atoi := ctRd_sound strconv_Atoi_fq
end Go.Proofs.YtboagabgpcghcaaGreatDoor
set_option linter.unusedSectionVars false
set_option linter.unusedSimpArgs false
set_option linter.unusedVariables false
namespace Go.Proofs.YtboagabgpcghcaaGreatDoor
open Go.Sh
abbrev strings_Split_ps : List Pk := [Pk.str, Pk.str]
abbrev strings_Split_rs : List Pk := [Pk.own T_string [Kd.str]]
def strings_Split_q (s sep : List UInt8) (K : List (List UInt8) → Prop) : Prop := s.length < 4294967281 ∧ 1 ≤ sep.length ∧ K (Lib.split s sep)
theorem splitK_len (sep : List UInt8) : ∀ (k : Nat) (s : List UInt8), ∀ x ∈ Lib.splitK sep 0 k s, x.length ≤ s.length := by
  intro k
  induction k with
  | zero => intro s x hx; simp only [Lib.splitK, List.mem_singleton] at hx; subst hx; exact Nat.le_refl _
  | succ k ih =>
    intro s x hx
    unfold Lib.splitK at hx
    split at hx
    · simp only [List.mem_singleton] at hx; subst hx; exact Nat.le_refl _
    · rcases List.mem_cons.1 hx with hx | hx
      · subst hx; rw [List.length_take]; omega
      · have := ih _ x hx; rw [List.length_drop] at this; omega
theorem strings_Split_fq : FnQ Tryz.prog f_strings_Split strings_Split_ps strings_Split_rs (fun x K => strings_Split_q x.1 x.2.1 (fun r0 => K (r0, ()))) := by
  refine fnQ_row rfl ⟨_, Tryz.func45, by kernel_rfl, by kernel_rfl⟩ fun x K hx W g vs hz hs hl => ?_
  obtain ⟨s, sep, _⟩ := x
  change List UInt8 at s
  change List UInt8 at sep
  simp only [pksA, pkA, isOwn] at hs
  cases vs with
  | nil => simp only [SimL] at hs
  | cons v vs =>
  cases vs with
  | nil => simp only [SimL] at hs; exact hs.2.elim
  | cons u vs =>
  cases vs with
  | cons => simp only [SimL] at hs; exact hs.2.2.elim
  | nil =>
    simp only [SimL, SimV] at hs
    obtain ⟨⟨rfl, hl1⟩, ⟨rfl, hl2⟩, _⟩ := hs
    obtain ⟨h1, h2, hk⟩ := hx
    change s.length < 4294967281 at h1
    change 1 ≤ sep.length at h2
    obtain ⟨m, hm⟩ := laid_max hl
    have hsz : (bstr s).size = s.length := by simp [bstr, ByteArray.size]
    have hsp : (bstr sep).size = sep.length := by simp [bstr, ByteArray.size]
    refine (Tryz.strings_Split (bstr s) (bstr sep) m W (by rw [hsz]; exact h1) hm (by rw [hsp]; exact h2)).mono fun e W' ⟨he, hw⟩ => ?_
    have hd : (Lib.splitB (bstr sep) 0 (Lib.countB (bstr s) (bstr sep)) (bstr s)).map (·.data.toList) = Lib.split s sep := by
      rw [Lib.splitB_data]; simp [bstr, Lib.split]
    have hn : (Lib.splitB (bstr sep) 0 (Lib.countB (bstr s) (bstr sep)) (bstr s)).length = Lib.countB (bstr s) (bstr sep) + 1 := Lib.splitB_all _ (by rw [hsp]; exact h2) 0 _ _ rfl
    have hc := Lib.countB_le (bstr sep) (by rw [hsp]; exact h2) _ (bstr s) (Nat.le_refl _)
    generalize Lib.splitB (bstr sep) 0 (Lib.countB (bstr s) (bstr sep)) (bstr s) = l at hd hn hw
    have hll : (Lib.split s sep).length = l.length := by rw [← hd, List.length_map]
    refine ⟨Lib.split s sep, l.map Value.string, W.heap.size, ?_, hp_size W, ?_, ?_, ?_, ?_, hk, ?_⟩
    · show e = .returned (.slice _ (Lib.split s sep).length (Lib.split s sep).length)
      rw [hll, hn]; exact he
    · rw [hw]; exact hp_push W _
    · show _ = (Lib.split s sep).length * 1
      rw [List.length_map, hll]; simp
    · show (Lib.split s sep).length ≤ _
      rw [hll, hn]; unfold lenMax; omega
    · intro i y hy
      change List UInt8 at y
      change (Lib.split s sep)[i]? = some y at hy
      have hy' := hy
      rw [← hd, List.getElem?_map] at hy
      cases hb : l[i]? with
      | none => rw [hb] at hy; cases hy
      | some b =>
        rw [hb] at hy
        simp only [Option.map_some, Option.some.injEq] at hy
        simp only [CellsOk, CellOk, List.length_cons, List.length_nil, Nat.zero_add, Nat.mul_one, Nat.add_zero]
        refine ⟨⟨.string b, by rw [List.getElem?_map, hb]; rfl, ?_, ?_⟩, trivial⟩
        · show Value.string b = Value.string (bstr y)
          rw [← hy]; simp [bstr]
        · have := splitK_len sep _ s y (List.mem_of_getElem? hy')
          show List.length y ≤ lenMax
          unfold lenMax; omega
    · rw [hw]
      exact rest_of rfl rfl rfl fun b o h => (Array.getElem?_push_lt (Array.getElem?_eq_some_iff.1 h).1).trans ((Array.getElem?_eq_getElem (Array.getElem?_eq_some_iff.1 h).1).symm.trans h)
noncomputable def ct_strings_Split : Ct := ctVal strings_Split_ps strings_Split_rs (fun x K => strings_Split_q x.1 x.2.1 (fun r0 => K (r0, ())))
theorem ct_strings_Split_ok : SoundCt Tryz.prog f_strings_Split ct_strings_Split := ctVal_sound strings_Split_fq
end Go.Proofs.YtboagabgpcghcaaGreatDoor
set_option linter.unusedSectionVars false
set_option linter.unusedSimpArgs false
set_option linter.unusedVariables false
namespace Go.Proofs.YtboagabgpcghcaaGreatDoor
open Go.Sh
abbrev strings_Join_ps : List Pk := [Pk.lst [Kd.str], Pk.str]
abbrev strings_Join_rs : List Pk := [Pk.str]
def strings_Join_q (xs : List (List UInt8)) (sep : List UInt8) (K : List UInt8 → Prop) : Prop := xs.length ≤ 140737488355328 ∧ (Lib.join xs sep).length ≤ 140737488355328 ∧ K (Lib.join xs sep)
theorem join_calls {W : World} {g : Gh} {xs : List (List UInt8)} {sep : List UInt8} {v : Value} (hv : CellOk g.Z (hp W) (.lst [.str]) xs v) (h1 : xs.length ≤ 140737488355328) (h2 : (Lib.join xs sep).length ≤ 140737488355328) :
    Calls Tryz.prog f_strings_Join ⟨[v, .string (bstr sep)]⟩ W fun e W' => e = .returned (.string (bstr (Lib.join xs sep))) ∧ Go.RowKit.Below W.heap.size W W' := by
  simp only [CellOk] at hv
  obtain ⟨a, n, c, rfl, hn, hnc, hcm, hc⟩ := hv
  have hn : xs.length = n := hn
  rcases Nat.eq_zero_or_pos n with h0 | h0
  · subst h0
    have hnil : xs = [] := List.eq_nil_of_length_eq_zero hn
    refine (Tryz.strings_Join_none a c (bstr sep) W).mono fun e W' ⟨he, hw⟩ => ⟨?_, ?_⟩
    · rw [he, hnil]; rfl
    · subst hw; exact .refl _ _
  · obtain ⟨b, o, rfl, hzb, cs, T, fr, hb, hcs⟩ := hc h0
    have hbs : b < W.heap.size := by
      rcases Nat.lt_or_ge b W.heap.size with h | h
      · exact h
      · have : hp W b = none := by simp [hp, h]
        rw [this] at hb; cases hb
    have hmap : (xs.map bstr).map (·.data.toList) = xs := by
      rw [List.map_map]
      conv => rhs; rw [← List.map_id xs]
      exact List.map_congr_left fun s _ => by simp [bstr]
    have := Tryz.strings_Join b o c (xs.map bstr) (bstr sep) W (fun j s hj => by
      rw [List.getElem?_map] at hj
      cases hx : xs[j]? with
      | none => rw [hx] at hj; cases hj
      | some t =>
        rw [hx] at hj
        cases hj
        have h3 := hcs j t hx
        simp only [CellsOk, CellOk] at h3
        obtain ⟨⟨v, h4, h5, _⟩, _⟩ := h3
        simp only [List.length_cons, List.length_nil, Nat.zero_add, Nat.mul_one, Nat.add_zero] at h4
        have hb' : W.heap[b]? = some (.cells cs T fr) := hb
        simp only [World.cell?, hb', Option.isSome_none, Bool.false_eq_true, if_false]
        rw [h4, h5]
        rfl) hbs (by simpa using h1) (by simp; omega) (by
        rw [hmap]
        exact h2)
    rw [hmap] at this
    have e1 : (xs.map bstr).length = n := by simp [hn]
    rw [e1] at this
    exact this
theorem strings_Join_fq : FnQ Tryz.prog f_strings_Join strings_Join_ps strings_Join_rs (fun x K => strings_Join_q x.1 x.2.1 (fun r0 => K (r0, ()))) := by
  refine fnQ_lib rfl ⟨_, Tryz.func53, by kernel_rfl, by kernel_rfl⟩ fun x K hx W g vs hz hs hl => ?_
  simp only [pksA, pkA, isOwn] at hs
  cases vs with
  | nil => simp only [SimL] at hs
  | cons v vs =>
  cases vs with
  | nil => simp only [SimL] at hs; exact hs.2.elim
  | cons u vs =>
  cases vs with
  | cons => simp only [SimL] at hs; exact hs.2.2.elim
  | nil =>
    simp only [SimL, SimV] at hs
    obtain ⟨hv, ⟨rfl, _⟩, _⟩ := hs
    obtain ⟨h1, h2, hk⟩ := hx
    refine (join_calls hv h1 h2).mono fun e W' ⟨he, hb⟩ => ?_
    obtain ⟨hkp, hr⟩ := keep_below hb
    refine ⟨(Lib.join x.1 x.2.1, ()), _, he, ?_, hk, hkp, hr⟩
    simp only [pksA, pkA, outA, SimV]
    exact ⟨trivial, by unfold lenMax; omega⟩
noncomputable def ct_strings_Join : Ct := ctRd strings_Join_ps strings_Join_rs (fun x K => strings_Join_q x.1 x.2.1 (fun r0 => K (r0, ())))
theorem ct_strings_Join_ok : SoundCt Tryz.prog f_strings_Join ct_strings_Join := ctRd_sound strings_Join_fq
end Go.Proofs.YtboagabgpcghcaaGreatDoor
set_option linter.unusedSectionVars false
set_option linter.unusedSimpArgs false
set_option linter.unusedVariables false
namespace Go.Proofs.YtboagabgpcghcaaGreatDoor
open Go.Sh
abbrev strings_Cut_ps : List Pk := [Pk.str, Pk.str]
abbrev strings_Cut_rs : List Pk := [Pk.str, Pk.str, Pk.bool]
def strings_Cut_q (s t : List UInt8) (K : List UInt8 → List UInt8 → Bool → Prop) : Prop := s.length < 4294967281 ∧ K (Lib.cut s t).1 (Lib.cut s t).2.1 (Lib.cut s t).2.2
theorem cut_len (s t : List UInt8) : (Lib.cut s t).1.length ≤ s.length ∧ (Lib.cut s t).2.1.length ≤ s.length := by
  unfold Lib.cut
  split <;> simp <;> omega
theorem strings_Cut_fq : FnQ Tryz.prog f_strings_Cut strings_Cut_ps strings_Cut_rs (fun x K => strings_Cut_q x.1 x.2.1 (fun r0 r1 r2 => K (r0, r1, r2, ()))) := by
  refine fnQ_lib rfl ⟨_, Tryz.func44, by kernel_rfl, by kernel_rfl⟩ fun x K hx W g vs hz hs hl => ?_
  obtain ⟨s, t, u⟩ := x
  change List UInt8 at s
  change List UInt8 at t
  simp only [pksA, pkA] at hs
  cases vs with
  | nil => simp only [SimL] at hs
  | cons v vs =>
  cases vs with
  | nil => simp only [SimL] at hs; exact hs.2.elim
  | cons w vs =>
  cases vs with
  | cons => simp only [SimL] at hs; exact hs.2.2.elim
  | nil =>
    simp only [SimL, SimV] at hs
    obtain ⟨⟨rfl, h1⟩, ⟨rfl, h2⟩, _⟩ := hs
    obtain ⟨h3, hk⟩ := hx
    change s.length < 4294967281 at h3
    obtain ⟨m, hm⟩ := laid_max hl
    have hsz : (bstr s).size = s.length := by simp [bstr, ByteArray.size]
    refine (Tryz.strings_Cut (bstr s) (bstr t) m W (by rw [hsz]; exact h3) hm).mono fun e W' ⟨he, n, hw⟩ => ?_
    subst hw
    have hd : (bstr s).data.toList = s := by simp [bstr]
    have hd2 : (bstr t).data.toList = t := by simp [bstr]
    rw [hd, hd2] at he
    have hc := cut_len s t
    refine ⟨((Lib.cut s t).1, (Lib.cut s t).2.1, (Lib.cut s t).2.2, ()), _, he, ?_, hk, ⟨fun b _ _ => by simp only [hp, World.heap_drewN], fun b h => by simpa only [hp, World.heap_drewN] using h⟩, rest_of rfl rfl rfl fun b o h => by simpa only [World.heap_drewN] using h⟩
    simp only [pksA, pkA, outA, SimV]
    refine ⟨_, rfl, ?_⟩
    simp only [SimL, SimV]
    exact ⟨⟨rfl, by show (Lib.cut s t).1.length ≤ lenMax; unfold lenMax; omega⟩, ⟨rfl, by show (Lib.cut s t).2.1.length ≤ lenMax; unfold lenMax; omega⟩, trivial, trivial⟩
noncomputable def ct_strings_Cut : Ct := ctRd strings_Cut_ps strings_Cut_rs (fun x K => strings_Cut_q x.1 x.2.1 (fun r0 r1 r2 => K (r0, r1, r2, ())))
theorem ct_strings_Cut_ok : SoundCt Tryz.prog f_strings_Cut ct_strings_Cut := ctRd_sound strings_Cut_fq
end Go.Proofs.YtboagabgpcghcaaGreatDoor
set_option linter.unusedVariables false
set_option linter.unusedSimpArgs false
namespace Go.Sh
theorem shutK {H0 H H2 : Heap} (k : Keep Nil H0 H) (hs : Shut H0 H H2) : Keep Nil H0 H2 :=
  ⟨fun b hb ha => by
    rcases hs b with e | ⟨e, _, _⟩
    · rw [e]; exact k.same b hb ha
    · exact absurd e ha, fun b ha => by
    rcases hs b with e | ⟨e, _, _⟩
    · rw [e]; exact k.live b ha
    · exact absurd e ha⟩
def stAll (b : Nat) : Nat → List Value → Heap → (Heap → Prop) → Prop
  | _, [], H, K => K H
  | o, v :: vs, H, K => StCell H ⟨b, o, none⟩ v fun H' => stAll b (o + 1) vs H' K
theorem stAll_blk {b : Nat} {T : TypeId} {K : Heap → Prop} : ∀ (vs : List Value) (o : Nat) (pre old : List Value) (H : Heap), Blk H b T ⟨pre ++ old⟩ → pre.length = o → old.length = vs.length → (∀ v ∈ vs, plainC v = true) →
    (∀ H', Blk H' b T ⟨pre ++ vs⟩ → (∀ x, x ≠ b → H' x = H x) → K H') → stAll b o vs H K
  | [], o, pre, old, H, hb, _, hl, _, hk => by
    have : old = [] := List.eq_nil_of_length_eq_zero hl
    subst this
    exact hk H hb fun _ _ => rfl
  | v :: vs, o, pre, [], H, _, _, hl, _, _ => by simp at hl
  | v :: vs, o, pre, w :: old, H, hb, ho, hl, hp, hk => by
    simp only [stAll]
    refine StCell.blk hb (by simp; omega) (hp v List.mem_cons_self) ?_
    have e : (⟨pre ++ w :: old⟩ : Array Value).setIfInBounds o v = ⟨(pre ++ [v]) ++ old⟩ := by
      apply Array.ext'
      simp only [Array.toList_setIfInBounds]
      rw [List.set_append_right _ _ (by omega), show o - pre.length = 0 by omega]
      simp
    rw [e]
    refine stAll_blk vs (o + 1) (pre ++ [v]) old _ Blk.upd_eq (by simp [ho]) (by simpa using hl) (fun x hx => hp x (List.mem_cons_of_mem _ hx)) fun H' h1 h2 => ?_
    refine hk H' (by simpa using h1) fun x hx => ?_
    rw [h2 x hx, Sh.upd_ne hx]
theorem cellOk_nil {Z : Nat → Prop} {H : Heap} {ks : List Kd} : CellOk Z H (.lst ks) ([] : List (Tp ks)) (.slice none 0 0) := by
  simp only [CellOk]
  exact ⟨none, 0, 0, rfl, rfl, Nat.le_refl _, Nat.zero_le _, fun h => absurd h (Nat.lt_irrefl _)⟩
theorem cellOk_empty {Z : Nat → Prop} {H : Heap} {ks : List Kd} {v : Value} (h : CellOk Z H (.lst ks) ([] : List (Tp ks)) v) : ∃ a c, v = .slice a 0 c := by
  simp only [CellOk] at h
  obtain ⟨a, n, c, rfl, hn, _⟩ := h
  have hn : (0 : Nat) = n := hn
  exact ⟨a, c, by rw [hn]⟩
end Go.Sh
set_option linter.unusedVariables false
set_option linter.unusedSimpArgs false
namespace Go.Proofs.YtboagabgpcghcaaGreatDoor
open Go.Sh
theorem wi64n (a : Nat) (h : a ≤ 9223372036854775807) : IntKind.wrap .i64 (a : Int) = (a : Int) := wr_i64 (by omega) (by omega)
theorem notBits (n a : Nat) (ha : a < 2 ^ n) (k : Nat) (hk : k ≤ n) : a &&& (2 ^ n - 1 - (2 ^ k - 1)) = a - a % 2 ^ k := by
  have hpk : 2 ^ k ≤ 2 ^ n := Nat.pow_le_pow_right (by decide) hk
  have h0 : 0 < 2 ^ k := Nat.two_pow_pos k
  apply Nat.eq_of_testBit_eq
  intro i
  rw [Nat.testBit_and, show 2 ^ n - 1 - (2 ^ k - 1) = 2 ^ n - ((2 ^ k - 1) + 1) by omega, Nat.testBit_two_pow_sub_succ (by omega), Nat.testBit_two_pow_sub_one]
  have e : a - a % 2 ^ k = 2 ^ k * (a / 2 ^ k) := by have := Nat.div_add_mod a (2 ^ k); omega
  rw [e, Nat.testBit_two_pow_mul]
  by_cases hi : i < k
  · simp [hi]; intro _; omega
  · rw [Nat.testBit_div_two_pow, show i - k + k = i by omega]
    by_cases hn : i < n
    · simp [hi, hn]; omega
    · have : a.testBit i = false := Nat.testBit_lt_two_pow (Nat.lt_of_lt_of_le ha (Nat.pow_le_pow_right (by decide) (by omega)))
      simp [this]
theorem andNot_low (a : Nat) (ha : a < 4294967296) (k : Nat) (hk : k ≤ 32) : bitsAndNot .u32 (a : Int) ((2 ^ k - 1 : Nat) : Int) = ((a - a % 2 ^ k : Nat) : Int) := by
  have hp : 2 ^ k ≤ 2 ^ 32 := Nat.pow_le_pow_right (by decide) hk
  have h0 : 0 < 2 ^ k := Nat.two_pow_pos k
  have e32 : (2 : Nat) ^ 32 = 4294967296 := rfl
  unfold bitsAndNot
  have hb : IntKind.bits .u32 = 32 := rfl
  rw [hb, bv_nat 32 a (by omega), bv_nat 32 (2 ^ k - 1) (by omega), BitVec.toNat_and, BitVec.toNat_not, BitVec.toNat_ofNat, BitVec.toNat_ofNat, Nat.mod_eq_of_lt (by omega), Nat.mod_eq_of_lt (by omega)]
  rw [notBits 32 a (by omega) k hk, wu32 (by omega)]
def hostBits (n : Nat) : Nat := 2 ^ (32 - n)
theorem wu64n (a : Nat) (h : a < 18446744073709551616) : IntKind.wrap .u64 (a : Int) = (a : Int) := by rw [wr_u64]; omega
end Go.Proofs.YtboagabgpcghcaaGreatDoor
set_option linter.unusedVariables false
set_option linter.unusedSimpArgs false
set_option linter.unusedSectionVars false
set_option maxRecDepth 100000
namespace Go.Proofs.YtboagabgpcghcaaGreatDoor
open Go.Sh
theorem merge_idle {H : Heap} {b : Nat} {c : Array Value} (hb : Blk H b T_attr_reader c) (h8 : c[8]? = some (.bool false)) (h273 : c[273]? = some (.bool false)) :
    FnW Tryz.prog f_attr_reader_merge ⟨[.pointer (some ⟨b, 0, none⟩)]⟩ H fun v H' => v = .tuple ⟨[]⟩ ∧ Keep Nil H H' := by
  refine attr_reader_merge_sh b ?_
  unfold attr_reader_merge_p
  refine ⟨false, by rw [hb.cell]; exact h8, ?_⟩
  refine ifF rfl ?_
  unfold attr_reader_merge_j0
  refine ifF rfl ⟨false, by rw [hb.cell]; exact h8, ifF rfl ?_⟩
  unfold attr_reader_merge_j1
  refine ifF rfl ?_
  unfold attr_reader_merge_j2
  exact ⟨false, by rw [hb.cell]; exact h273, ifT rfl fun H2 hs => ⟨rfl, shutK (Keep.refl _ _) hs⟩⟩
def zrA : List Value := [.int .i64 0, .slice none 0 0, .int .u32 0, .bool false, .int .u32 0, .bool false, .int .u32 0, .bool false, .bool false, .int .u32 0, .int .u32 0, .slice none 0 0, .slice none 0 0]
def zrF : List Value := [.int .i64 0, .int .i64 0, .slice none 0 0]
theorem zl_at (four : Bool) : ∃ c : List Value, setL zl_T_attr_reader 13 [.bool four] = c ∧ c.take 13 = zrA ∧ c[8]? = some (.bool false) ∧ c[14]? = some (.int .i64 0) ∧ c[273]? = some (.bool false) :=
  ⟨_, rfl, by kernel_rfl, by kernel_rfl, by kernel_rfl, by kernel_rfl⟩
theorem keptIn_of {bs : List Nat} {H H' : Heap} (hl : ∀ b ∈ bs, ∃ o, H b = some o) (h : ∀ b ∈ bs, H' b = H b) : KeptIn bs H H' := fun b hb => ⟨hl b hb, h b hb⟩
theorem read_none {H : Heap} (a : Option Addr) (cp : Nat) (four : Bool) : FnW Tryz.prog f_attr_Read ⟨[.slice a 0 cp, .bool four, .bool false]⟩ H fun v H' => v = .tuple ⟨[.agg ⟨zrA⟩, .int .i64 0, .agg ⟨zrF⟩]⟩ ∧ Keep Nil H H' := by
  refine attr_Read_sh a 0 cp four false ?_
  unfold attr_Read_p
  refine NewW.intro fun m1 hm1 => NewW.intro fun m2 hm2 => NewW.intro fun m3 hm3 => ?_
  obtain ⟨c, hc, hc0, hc8, hc14, hc273⟩ := zl_at four
  rw [hc]
  have k0 : Keep Nil H (H.upd m1 (.cells ⟨zrA⟩ T_api_Attrs)) := (Keep.refl _ _).new hm1
  have k1 := k0.new (o := .cells ⟨zrF⟩ T_api_Fault) hm2
  have k2 := k1.new (o := .cells ⟨c⟩ T_attr_reader) hm3
  have b3 : Blk (((H.upd m1 (.cells ⟨zrA⟩ T_api_Attrs)).upd m2 (.cells ⟨zrF⟩ T_api_Fault)).upd m3 (.cells ⟨c⟩ T_attr_reader)) m3 T_attr_reader ⟨c⟩ := Blk.upd_eq
  have b1' : Blk (H.upd m1 (.cells ⟨zrA⟩ T_api_Attrs)) m1 T_api_Attrs ⟨zrA⟩ := Blk.upd_eq
  have n12 : m1 ≠ m2 := b1'.ne hm2
  have b1'' : Blk ((H.upd m1 (.cells ⟨zrA⟩ T_api_Attrs)).upd m2 (.cells ⟨zrF⟩ T_api_Fault)) m1 T_api_Attrs ⟨zrA⟩ := b1'.upd_ne n12
  have b2'' : Blk ((H.upd m1 (.cells ⟨zrA⟩ T_api_Attrs)).upd m2 (.cells ⟨zrF⟩ T_api_Fault)) m2 T_api_Fault ⟨zrF⟩ := Blk.upd_eq
  have n13 : m1 ≠ m3 := b1''.ne hm3
  have n23 : m2 ≠ m3 := b2''.ne hm3
  have b1 := b1''.upd_ne (o := .cells ⟨c⟩ T_attr_reader) n13
  have b2 := b2''.upd_ne (o := .cells ⟨c⟩ T_attr_reader) n23
  have f1 : H m1 = none := hm1
  have f2 : H m2 = none := k0.free hm2
  have f3 : H m3 = none := k1.free hm3
  show LoopI _ _ (((H.upd m1 (.cells ⟨zrA⟩ T_api_Attrs)).upd m2 (.cells ⟨zrF⟩ T_api_Fault)).upd m3 (.cells ⟨c⟩ T_attr_reader)) _
  generalize ((H.upd m1 (.cells ⟨zrA⟩ T_api_Attrs)).upd m2 (.cells ⟨zrF⟩ T_api_Fault)).upd m3 (.cells ⟨c⟩ T_attr_reader) = H3 at *
  clear b1' b1'' b2''
  refine ⟨fun k x H' => x = ((a, 0, cp), ()) ∧ H' = H3, 0, ⟨rfl, rfl⟩, ?_⟩
  rintro k x H' ⟨rfl, rfl⟩ g
  unfold attr_Read_l2
  refine ifF rfl ?_
  unfold attr_Read_j0
  refine ifF rfl ?_
  unfold attr_Read_j1
  refine ifF rfl ?_
  unfold attr_Read_j2
  refine ⟨0, by rw [b3.cell]; simpa using hc14, ?_⟩
  unfold attr_Read_j3
  refine ifF rfl ((merge_idle b3 (by simpa using hc8) (by simpa using hc273)).mono ?_)
  rintro v H4 ⟨rfl, k4⟩
  have d1 := k4.blk b1 (fun h => h)
  have d2 := k4.blk b2 (fun h => h)
  have d3 := k4.blk b3 (fun h => h)
  have k24 := k2.trans k4
  refine ⟨rfl, [m3], fun b hb => by rw [List.mem_singleton] at hb; subst hb; exact ⟨_, d3⟩, ?_⟩
  have hz : ∀ j : Nat, j < 13 → H4.cell ⟨m3, j, none⟩ = zrA[j]? := fun j hj => by
    rw [d3.cell, ← hc0, List.getElem?_take_of_lt hj]; simp
  refine ⟨0, hz 0 (by decide), none, 0, 0, hz 1 (by decide), 0, hz 2 (by decide), false, hz 3 (by decide), 0, hz 4 (by decide), false, hz 5 (by decide), 0, hz 6 (by decide), false, hz 7 (by decide), false, hz 8 (by decide), 0, hz 9 (by decide), 0, hz 10 (by decide), none, 0, 0, hz 11 (by decide), none, 0, 0, hz 12 (by decide), ?_⟩
  refine ⟨by simp, 0, by rw [d3.cell]; simpa using hc14, ?_⟩
  refine stAll_blk (b := m1) [.int .i64 0, .slice none 0 0, .int .u32 0, .bool false, .int .u32 0, .bool false, .int .u32 0, .bool false, .bool false, .int .u32 0, .int .u32 0, .slice none 0 0, .slice none 0 0] 0 [] zrA H4 d1 rfl rfl (by decide) fun H5 e1 o1 => ?_
  have e1 : Blk H5 m1 T_api_Attrs ⟨zrA⟩ := e1
  have e2 : Blk H5 m2 T_api_Fault ⟨zrF⟩ := d2.same (o1 m2 (Ne.symm n12))
  have e3 : Blk H5 m3 T_attr_reader ⟨c⟩ := d3.same (o1 m3 (Ne.symm n13))
  have k5 : Keep Nil H H5 := (k24.then (S' := fun x => x = m1) ⟨fun x hx _ => o1 x hx, fun x hx => by
    by_cases e : x = m1
    · subst e; exact e1.some
    · rw [o1 x e]; exact hx⟩ fun x hx => .inr (by subst hx; exact f1))
  refine ⟨keptIn_of (fun b hb => by rw [List.mem_singleton] at hb; subst hb; exact ⟨_, d3⟩) fun b hb => by rw [List.mem_singleton] at hb; subst hb; exact o1 _ (Ne.symm n13), ?_⟩
  refine stAll_blk (b := m2) [.int .i64 0, .int .i64 0, .slice none 0 0] 0 [] zrF H5 e2 rfl rfl (by decide) fun H6 g2 o2 => ?_
  have g2 : Blk H6 m2 T_api_Fault ⟨zrF⟩ := g2
  have g1 : Blk H6 m1 T_api_Attrs ⟨zrA⟩ := e1.same (o2 m1 n12)
  have k6 : Keep Nil H H6 := (k5.then (S' := fun x => x = m2) ⟨fun x hx _ => o2 x hx, fun x hx => by
    by_cases e : x = m2
    · subst e; exact g2.some
    · rw [o2 x e]; exact hx⟩ fun x hx => .inr (by subst hx; exact f2))
  have y : ∀ j : Nat, H6.cell ⟨m1, j, none⟩ = zrA[j]? := fun j => by rw [g1.cell]; simp
  have z : ∀ j : Nat, H6.cell ⟨m2, j, none⟩ = zrF[j]? := fun j => by rw [g2.cell]; simp
  exact ⟨0, y 0, none, 0, 0, y 1, 0, y 2, false, y 3, 0, y 4, false, y 5, 0, y 6, false, y 7, false, y 8, 0, y 9, 0, y 10, none, 0, 0, y 11, none, 0, 0, y 12, 0, z 0, 0, z 1, none, 0, 0, z 2, fun H7 hs => ⟨rfl, shutK k6 hs⟩⟩
abbrev ksAt : List Kd := [Kd.int .i64, Kd.lst [Kd.bool, Kd.lst [Kd.int .u32]], Kd.int .u32, Kd.bool, Kd.int .u32, Kd.bool, Kd.int .u32, Kd.bool, Kd.bool, Kd.int .u32, Kd.int .u32, Kd.lst [Kd.int .u32], Kd.lst [Kd.int .i64, Kd.lst [Kd.int .u8]]]
abbrev attr_Read_ps : List Pk := [Pk.lst [Kd.int .u8], Pk.bool, Pk.bool]
abbrev attr_Read_rs : List Pk := [Pk.agg ksAt, Pk.int .i64, Pk.agg [Kd.int .i64, Kd.int .i64, Kd.lst [Kd.int .u8]]]
abbrev AttT := Int × List (Bool × List UInt32) × UInt32 × Bool × UInt32 × Bool × UInt32 × Bool × Bool × UInt32 × UInt32 × List UInt32 × List (Int × List UInt8)
def zA : AttT := (0, [], 0, false, 0, false, 0, false, false, 0, 0, [], [])
def zI : Int := 0
def zF : Int × Int × List UInt8 := (0, 0, [])
def attr_Read_q (b : List UInt8) (four told : Bool) (K : AttT → Int → Int × Int × List UInt8 → Prop) : Prop := b = [] ∧ told = false ∧ K zA zI zF
theorem attr_Read_fq : FnQ Tryz.prog f_attr_Read attr_Read_ps attr_Read_rs (fun x K => attr_Read_q x.1 x.2.1 x.2.2.1 (fun r0 r1 r2 => K (r0, r1, r2, ()))) := by
  intro x K hx H g vs hl s
  obtain ⟨b, four, told, u⟩ := x
  obtain ⟨hb, ht, hk⟩ := hx
  change b = [] at hb
  change told = false at ht
  subst hb ht
  have hsl := parS_simL s hl
  simp only [pksA, pkA] at hsl
  match vs, hl with
  | [v0, v1, v2], _ =>
  simp only [SimL, SimV] at hsl
  obtain ⟨h0, rfl, rfl, _⟩ := hsl
  obtain ⟨a, cp, rfl⟩ := cellOk_empty h0
  refine (read_none a cp four).mono fun v H' hv => ?_
  obtain ⟨rfl, hkp⟩ := hv
  obtain ⟨s', _⟩ := s.keepAll hkp
  refine ⟨outA (pksA 0 attr_Read_rs ((zA, zI, zF, ()) : PkTs attr_Read_rs)), _, _, g, s', ?_, hk⟩
  simp only [pksA, pkA, outA, SimV, isOwn, lvT, lvE]
  refine ⟨_, rfl, ?_⟩
  change SimL g H' _ [AV.agg [.int .i64 0, .lst [Kd.bool, Kd.lst [Kd.int .u32]] [], .int .u32 0, .bool false, .int .u32 0, .bool false, .int .u32 0, .bool false, .bool false, .int .u32 0, .int .u32 0, .lst [Kd.int .u32] [], .lst [Kd.int .i64, Kd.lst [Kd.int .u8]] []], .int .i64 0, .agg [.int .i64 0, .int .i64 0, .lst [Kd.int .u8] []]] _
  have r1 : InR .i64 0 := by simp [InR, loI, hiI]
  have r2 : InR .u32 0 := by simp [InR, loI, hiI]
  simp only [SimL, SimV]
  refine ⟨⟨zrA, rfl, ?_⟩, ⟨trivial, r1⟩, ⟨zrF, rfl, ?_⟩, trivial⟩
  · simp only [zrA, SimL, SimV]
    exact ⟨⟨trivial, r1⟩, cellOk_nil, ⟨trivial, r2⟩, trivial, ⟨trivial, r2⟩, trivial, ⟨trivial, r2⟩, trivial, trivial, ⟨trivial, r2⟩, ⟨trivial, r2⟩, cellOk_nil, cellOk_nil, trivial⟩
  · simp only [zrF, SimL, SimV]
    exact ⟨⟨trivial, r1⟩, ⟨trivial, r1⟩, cellOk_nil, trivial⟩
noncomputable def ct_attr_Read : Ct := ctVal attr_Read_ps attr_Read_rs (fun x K => attr_Read_q x.1 x.2.1 x.2.2.1 (fun r0 r1 r2 => K (r0, r1, r2, ())))
theorem ct_attr_Read_ok : SoundCt Tryz.prog f_attr_Read ct_attr_Read := ctVal_sound attr_Read_fq
end Go.Proofs.YtboagabgpcghcaaGreatDoor
set_option linter.unusedVariables false
set_option linter.unusedSimpArgs false
set_option linter.unusedSectionVars false
set_option maxHeartbeats 1000000
namespace Go.Proofs.YtboagabgpcghcaaGreatDoor
open Go.Sh
abbrev PfB := (UInt32 × Int) × Bool × Unit
def oct8 (n : Nat) : Nat := (n + 7) / 8
def pxStep (a : Int) (j : Nat) (x : UInt8) : Int := bitsOr .u32 a (IntKind.wrap .u32 (IntKind.wrap .u32 (x.toNat : Int) * 2 ^ (min (24 - 8 * j) 32)))
def pxF : Nat → Int → List UInt8 → Int
  | _, a, [] => a
  | j, a, x :: r => pxF (j + 1) (pxStep a j x) r
theorem pxF_snoc (x : UInt8) : ∀ (l : List UInt8) (j : Nat) (a : Int), pxF j a (l ++ [x]) = pxStep (pxF j a l) (j + l.length) x
  | [], _, _ => rfl
  | y :: l, j, a => by
    show pxF (j + 1) _ (l ++ [x]) = _
    rw [pxF_snoc x l (j + 1)]
    show pxStep (pxF (j + 1) (pxStep a j y) l) (j + 1 + l.length) x = pxStep (pxF (j + 1) (pxStep a j y) l) (j + (l.length + 1)) x
    rw [show j + 1 + l.length = j + (l.length + 1) by omega]
theorem pxStep_rng (a : Int) (j : Nat) (x : UInt8) : 0 ≤ pxStep a j x ∧ pxStep a j x < 4294967296 := by
  unfold pxStep bitsOr
  rw [wr_u32]
  omega
theorem pxF_rng : ∀ (l : List UInt8) (j : Nat) (a : Int), 0 ≤ a ∧ a < 4294967296 → 0 ≤ pxF j a l ∧ pxF j a l < 4294967296
  | [], _, _, h => h
  | x :: r, j, a, _ => pxF_rng r (j + 1) _ (pxStep_rng a j x)
def pxN (l : List UInt8) : Nat := (pxF 0 0 l).toNat
theorem pxN_eq (l : List UInt8) : pxF 0 0 l = (pxN l : Int) ∧ pxN l < 4294967296 := by
  have := pxF_rng l 0 0 ⟨by decide, by decide⟩
  unfold pxN
  omega
def prefOf (n : Nat) (l : List UInt8) : UInt32 × Int := (UInt32.ofNat (pxN l - pxN l % hostBits n), (n : Int))
def prefX : Nat → List UInt8 → List PfB
  | 0, _ => []
  | _ + 1, [] => []
  | f + 1, x :: r => if x.toNat ≤ 32 ∧ oct8 x.toNat ≤ r.length then (prefOf x.toNat (r.take (oct8 x.toNat)), true, ()) :: prefX f (r.drop (oct8 x.toNat)) else [((0, 0), false, ())]
theorem prefX_fuel : ∀ (k k' : Nat) (s : List UInt8), s.length ≤ k → s.length ≤ k' → prefX k s = prefX k' s
  | 0, 0, s, _, _ => rfl
  | 0, k' + 1, [], _, _ => rfl
  | 0, _ + 1, _ :: _, h, _ => by simp at h
  | k + 1, 0, [], _, _ => rfl
  | _ + 1, 0, _ :: _, _, h => by simp at h
  | k + 1, k' + 1, [], _, _ => rfl
  | k + 1, k' + 1, x :: r, h, h' => by
    simp only [prefX]
    have e : (r.drop (oct8 x.toNat)).length ≤ r.length := by simp only [List.length_drop]; omega
    simp only [List.length_cons] at h h'
    rw [prefX_fuel k k' _ (by omega) (by omega)]
def prefXs (s : List UInt8) : List PfB := prefX s.length s
theorem prefXs_bad {x : UInt8} {r : List UInt8} (h : ¬ (x.toNat ≤ 32 ∧ oct8 x.toNat ≤ r.length)) : prefXs (x :: r) = [((0, 0), false, ())] := by
  unfold prefXs
  simp only [List.length_cons, prefX]
  rw [if_neg h]
theorem prefXs_cons {x : UInt8} {r : List UInt8} (h : x.toNat ≤ 32 ∧ oct8 x.toNat ≤ r.length) : prefXs (x :: r) = (prefOf x.toNat (r.take (oct8 x.toNat)), true, ()) :: prefXs (r.drop (oct8 x.toNat)) := by
  unfold prefXs
  simp only [List.length_cons, prefX]
  rw [if_pos h, prefX_fuel r.length _ _ (by simp only [List.length_drop]; omega) (Nat.le_refl _)]
def it_prefixes : It := ⟨[.agg [.int .u32, .int .i64], .bool], [.lst [.int .u8]], fun c => prefXs c.1, fun c => c.1.length ≤ 4611686018427387904⟩
theorem cell_drop {Z : Nat → Prop} {H : Heap} {s : List UInt8} {a : Option Addr} {n c : Nat} (h : CellOk Z H (.lst [.int .u8]) s (.slice a n c)) {k : Nat} (hk : k ≤ n) :
    CellOk Z H (.lst [.int .u8]) (s.drop k) (.slice (if c = k then a else Option.map (fun a => Addr.add a (k * 1)) a) (n - k) (c - k)) := by
  simp only [CellOk] at h ⊢
  obtain ⟨a', n', c', e, hl, hnc, hcm, hat⟩ := h
  cases e
  have hl : s.length = n := hl
  refine ⟨_, _, _, rfl, ?_, by omega, by omega, fun h0 => ?_⟩
  · show (s.drop k).length = _
    rw [List.length_drop, hl]
  · obtain ⟨b, o, rfl, hz, cs, T, fr, hb, hc⟩ := hat (by omega)
    rw [if_neg (by omega)]
    refine ⟨b, o + k, by simp [Addr.add], hz, cs, T, fr, hb, fun i x hx => ?_⟩
    have hx : (s.drop k)[i]? = some x := hx
    rw [List.getElem?_drop] at hx
    refine CellsOk.congr (fun jj _ => ?_) (hc (k + i) x hx)
    congr 1
    simp only [List.length_cons, List.length_nil]
    omega
theorem cell_byte {Z : Nat → Prop} {H : Heap} {s : List UInt8} {a : Option Addr} {n c : Nat} (h : CellOk Z H (.lst [.int .u8]) s (.slice a n c)) {i : Nat} {x : UInt8} (hx : s[i]? = some x) :
    ∃ b o, a = some ⟨b, o, none⟩ ∧ Z b ∧ ∀ H' : Heap, H' b = H b → H'.cell ⟨b, o + i, none⟩ = some (.int .u8 (x.toNat : Int)) := by
  simp only [CellOk] at h
  obtain ⟨a', n', c', e, hl, hnc, hcm, hat⟩ := h
  cases e
  have hl : s.length = n := hl
  have hi : i < s.length := (List.getElem?_eq_some_iff.1 hx).1
  obtain ⟨b, o, rfl, hz, cs, T, fr, hb, hc⟩ := hat (by omega)
  refine ⟨b, o, rfl, hz, fun H' he => ?_⟩
  have h2 := hc i x hx
  simp only [CellsOk, CellOk, List.length_cons, List.length_nil, Nat.zero_add, Nat.mul_one, Nat.add_zero] at h2
  obtain ⟨⟨v, h3, h4, _⟩, _⟩ := h2
  unfold Heap.cell
  simp only [he, hb]
  show cs[o + i]? = _
  rw [h3, h4]; rfl
theorem cell_box {H : Heap} {b : Nat} {v : Value} {T : TypeId} (h : H b = some (.cells ⟨[v]⟩ T (0, 0))) : H.cell ⟨b, 0, none⟩ = some v := by
  simp [Heap.cell, h]
theorem mask_run {H : Heap} (a n : Nat) (ha : a < 4294967296) (hn : n ≤ 32) : FnW Tryz.prog f_upd_mask ⟨[.int .u32 (a : Int), .int .i64 (n : Int)]⟩ H fun v H' => v = .int .u32 ((a - a % hostBits n : Nat) : Int) ∧ Keep Nil H H' := by
  refine upd_mask_sh a n ?_
  unfold upd_mask_p
  have e1 : IntKind.wrap .i64 (32 - (n : Int)) = ((32 - n : Nat) : Int) := by rw [wr_i64 (by omega) (by omega)]; omega
  rw [e1]
  refine ⟨by omega, fun H2 hs => ⟨?_, shutK (Keep.refl _ _) hs⟩⟩
  have hp : 2 ^ (32 - n) ≤ 2 ^ 32 := Nat.pow_le_pow_right (by decide) (by omega)
  have h0 : 0 < 2 ^ (32 - n) := Nat.two_pow_pos _
  have e32 : (2 : Nat) ^ 32 = 4294967296 := rfl
  have e2 : (min ((32 - n : Nat) : Int).toNat (IntKind.bits .u64)) = 32 - n := by
    rw [Int.toNat_natCast]
    have : IntKind.bits .u64 = 64 := rfl
    rw [this]; omega
  have e3 : (1 * (2 ^ (32 - n)) : Int) = ((2 ^ (32 - n) : Nat) : Int) := by rw [Int.one_mul]; norm_cast
  rw [e2, e3, wu64n _ (by omega), show (((2 ^ (32 - n) : Nat) : Int) - 1) = ((2 ^ (32 - n) - 1 : Nat) : Int) by omega, wu64n _ (by omega), wu32 (by omega), andNot_low a ha _ (by omega)]
  rfl
theorem octets_run {H : Heap} (n : Nat) (hn : n ≤ 300) : FnW Tryz.prog f_upd_octets ⟨[.int .i64 (n : Int)]⟩ H fun v H' => v = .int .i64 (oct8 n : Nat) ∧ Keep Nil H H' := by
  refine upd_octets_sh n ⟨by decide, fun H2 hs => ⟨?_, shutK (Keep.refl _ _) hs⟩⟩
  rw [wr_i64 (n := (n : Int) + 8) (by omega) (by omega), wr_i64 (n := (n : Int) + 8 - 1) (by omega) (by omega), Int.tdiv_eq_ediv_of_nonneg (by omega), wr_i64 (by omega) (by omega)]
  unfold oct8
  congr 1
  omega
structure QI {l : Nat} (Hs : Heap) (Z : Nat → Prop) (b1 : Nat) (C : Cons Tryz.prog l it_prefixes.ps Hs [b1]) (rest : List PfB) (s : List UInt8) (v : Value) (H : Heap) (Z' W' : Nat → Prop) : Prop where
  J : C.J Z' W' rest H
  bx : ∃ T, H b1 = some (.cells ⟨[v]⟩ T (0, 0))
  cs : CellOk Z Hs (.lst [.int .u8]) s v
  z : ∀ b, Z b → Z' b ∧ H b = Hs b
  w1 : ¬ W' b1
  z1 : ¬ Z' b1
theorem QI.quiet {l : Nat} {Hs : Heap} {Z : Nat → Prop} {b1 : Nat} {C : Cons Tryz.prog l it_prefixes.ps Hs [b1]} {rest : List PfB} {s : List UInt8} {v : Value} {H H' : Heap} {Z' W' : Nat → Prop} (q : QI Hs Z b1 C rest s v H Z' W') (hz0 : ∀ b, Z b → Hs b ≠ none) (k : Keep Nil H H') : QI Hs Z b1 C rest s v H' Z' W' := by
  obtain ⟨T, hb⟩ := q.bx
  exact ⟨C.stJ q.J (fun b hb _ => k.same b (fun h => h) hb) k.live, ⟨T, (k.same b1 (fun h => h) (by rw [hb]; simp)).trans hb⟩, q.cs, fun b hb => ⟨(q.z b hb).1, (k.same b (fun h => h) (by rw [(q.z b hb).2]; exact hz0 b hb)).trans (q.z b hb).2⟩, q.w1, q.z1⟩
theorem QI.round {l : Nat} {Hs : Heap} {Z : Nat → Prop} {b1 : Nat} {C : Cons Tryz.prog l it_prefixes.ps Hs [b1]} {rest : List PfB} {s : List UInt8} {v : Value} {H : Heap} {Z' W' : Nat → Prop} {a n : Nat} {ok : Bool}
    (q : QI Hs Z b1 C (((UInt32.ofNat a, (n : Int)), ok, ()) :: rest) s v H Z' W') (ha : a < 4294967296) (hn : n ≤ 32) :
    YieldW Tryz.prog l [.agg ⟨[.int .u32 (a : Int), .int .i64 (n : Int)]⟩, .bool ok] H fun w H' => (w = .bool true ∧ ∃ Z'' W'', QI Hs Z b1 C rest s v H' Z'' W'') ∨ (w = .bool false ∧ ∃ Z'' W'', C.X Z'' W'' H') := by
  obtain ⟨T, hb⟩ := q.bx
  have l1 : H b1 ≠ none := by rw [hb]; simp
  refine YieldW.mono (fun w H' hv => ?_) (C.round (Zx := fun _ => False) (x := ((UInt32.ofNat a, (n : Int)), ok, ())) q.J ?_ (fun b hb => hb.elim))
  · obtain ⟨k1, k2, Z'', W'', k3, k4, k5, k6, k7, hk⟩ := hv
    rcases hk with ⟨rfl, hk⟩ | ⟨rfl, hk⟩
    · refine .inl ⟨rfl, Z'', W'', hk, ⟨T, (k1 b1 l1 q.w1).trans hb⟩, q.cs, fun b hb => ?_, fun h => ?_, fun h => ?_⟩
      · obtain ⟨q1, q2⟩ := k3 b (.inl (q.z b hb).1)
        exact ⟨q1, q2.trans (q.z b hb).2⟩
      · rcases k4 b1 h with h | h
        · exact q.w1 h
        · exact l1 h
      · rcases k5 b1 h with h | h | h | h
        · exact q.z1 h
        · exact h
        · exact q.w1 h
        · exact l1 h
    · exact .inr ⟨rfl, Z'', W'', hk⟩
  · show ArgIs _ H [.agg [.int .u32, .int .i64], .bool] ((UInt32.ofNat a, (n : Int)), ok, ()) _
    simp only [ArgIs, pksA, pkA, SimL, SimV, and_true]
    refine ⟨_, rfl, ?_⟩
    have e : (UInt32.ofNat a).toNat = a := by rw [UInt32.toNat_ofNat', Nat.mod_eq_of_lt (by omega)]
    simp only [lvT, lvE, SimL, SimV, and_true, hdT, tlT, toI, e, true_and]
    exact ⟨⟨by simp [loI], by simp only [hiI]; omega⟩, ⟨by simp only [loI]; omega, by simp only [hiI]; omega⟩⟩
section
variable {l : Nat} {Hs : Heap} {Z : Nat → Prop} {b1 : Nat} {C : Cons Tryz.prog l it_prefixes.ps Hs [b1]}
theorem pref_bad {x13 x16 : Int} {next0 : Unit → Heap → Prop} {s : List UInt8} {v : Value} {H : Heap} {Z' W' : Nat → Prop} (q : QI Hs Z b1 C [((0, 0), false, ())] s v H Z' W') :
    upd_prefixes_1_j0 l b1 x13 x16 next0 true H fun _ H1 => ∀ H2, Shut Hs H1 H2 → ∃ Z' W', C.J Z' W' [] H2 ∨ C.X Z' W' H2 := by
  unfold upd_prefixes_1_j0
  refine ifT rfl (YieldW.mono (fun w H' hv => ?_) (QI.round (a := 0) (n := 0) (ok := false) (rest := []) q (by decide) (by decide)))
  rcases hv with ⟨rfl, Z'', W'', hq⟩ | ⟨rfl, Z'', W'', hx⟩
  · exact ⟨true, rfl, fun H2 hs => C.shut hs ⟨Z'', W'', .inl hq.J⟩⟩
  · exact ⟨false, rfl, fun H2 hs => C.shut hs ⟨Z'', W'', .inr hx⟩⟩
theorem pref_good {next0 : Unit → Heap → Prop} {x : UInt8} {r : List UInt8} {v : Value} {H : Heap} {Z' W' : Nat → Prop} (hz0 : ∀ b, Z b → Hs b ≠ none) (hok : x.toNat ≤ 32 ∧ oct8 x.toNat ≤ r.length) (hl : (x :: r).length ≤ 4611686018427387904)
    (q : QI Hs Z b1 C (prefXs (x :: r)) (x :: r) v H Z' W') (hn : ∀ v' H' Z'' W'', QI Hs Z b1 C (prefXs (r.drop (oct8 x.toNat))) (r.drop (oct8 x.toNat)) v' H' Z'' W'' → next0 () H') :
    upd_prefixes_1_j0 l b1 (x.toNat : Int) (oct8 x.toNat : Nat) next0 false H fun _ H1 => ∀ H2, Shut Hs H1 H2 → ∃ Z' W', C.J Z' W' [] H2 ∨ C.X Z' W' H2 := by
  have hv := q.cs
  simp only [CellOk] at hv
  obtain ⟨a, n, c, rfl, hln, hnc, hcm, -⟩ := hv
  have hln : (x :: r).length = n := hln
  simp only [List.length_cons] at hln hl
  unfold lenMax at hcm
  have ho : oct8 x.toNat ≤ 4 := by unfold oct8; omega
  obtain ⟨T, hbx⟩ := q.bx
  unfold upd_prefixes_1_j0
  have w1 : IntKind.wrap .i64 (1 + ((oct8 x.toNat : Nat) : Int)) = ((1 + oct8 x.toNat : Nat) : Int) := by rw [wr_i64 (by omega) (by omega)]; omega
  rw [w1]
  refine ifF rfl ⟨a, n, c, cell_box hbx, by omega, by omega, by omega, by omega, ?_⟩
  rw [Int.toNat_natCast]
  refine ⟨fun k y H' => ∃ j : Nat, j ≤ oct8 x.toNat ∧ k = oct8 x.toNat - j ∧ y = (pxF 0 0 (r.take j), (j : Int), ()) ∧ QI Hs Z b1 C (prefXs (x :: r)) (x :: r) (.slice a n c) H' Z' W', oct8 x.toNat, ⟨0, Nat.zero_le _, by omega, rfl, q⟩, ?_⟩
  rintro k y H5 ⟨j, hj, rfl, rfl, q5⟩ g
  simp only
  unfold upd_prefixes_1_l7
  refine IfB.intro (fun h1 => ?_) (fun h1 => ?_)
  · have h1 : j < oct8 x.toNat := by have := of_decide_eq_true h1; omega
    obtain ⟨y, hy⟩ : ∃ y, r[j]? = some y := ⟨_, List.getElem?_eq_getElem (by omega)⟩
    obtain ⟨b, o, rfl, hzb, hcell⟩ := cell_byte (i := 1 + j) (x := y) q.cs (by rw [Nat.add_comm]; simpa using hy)
    have hc1 : c ≠ (1 : Int).toNat := by show c ≠ 1; omega
    rw [if_neg hc1]
    refine NilP.intro _ rfl ⟨by omega, by omega, ?_⟩
    show ∃ x38 : Int, H5.cell ⟨b, o + (1 : Int).toNat * 1 + (j : Int).toNat * 1, none⟩ = some (.int .u8 x38) ∧ _
    have e1 : o + (1 : Int).toNat * 1 + (j : Int).toNat * 1 = o + (1 + j) := by rw [Int.toNat_natCast]; show o + 1 * 1 + j * 1 = _; omega
    rw [e1]
    have w2 : IntKind.wrap .i64 (24 - IntKind.wrap .i64 (8 * (j : Int))) = ((24 - 8 * j : Nat) : Int) := by
      rw [wr_i64 (n := 8 * (j : Int)) (by omega) (by omega), wr_i64 (by omega) (by omega)]; omega
    refine ⟨(y.toNat : Int), hcell H5 (q5.z b hzb).2, by rw [w2]; omega, oct8 x.toNat - (j + 1), by omega, j + 1, by omega, rfl, ?_, q5⟩
    rw [w2, Int.toNat_natCast, wr_i64 (n := (j : Int) + 1) (by omega) (by omega), List.take_add_one, hy]
    simp only [Option.toList_some]
    rw [pxF_snoc]
    have e3 : (r.take j).length = j := by rw [List.length_take]; omega
    rw [e3, Nat.zero_add]
    rfl
  · have h1 : j = oct8 x.toNat := by have := of_decide_eq_false h1; omega
    subst h1
    have w3 : IntKind.wrap .i64 (x.toNat : Int) = (x.toNat : Int) := wr_i64 (by omega) (by omega)
    obtain ⟨e1, e2⟩ := pxN_eq (r.take (oct8 x.toNat))
    rw [w3, e1]
    refine (mask_run _ _ e2 hok.1).mono ?_
    rintro w H6 ⟨rfl, k6⟩
    refine ⟨_, rfl, ?_⟩
    have q6 := q5.quiet hz0 k6
    rw [prefXs_cons hok] at q6
    refine YieldW.mono (fun w H7 hv => ?_) (QI.round (a := pxN (r.take (oct8 x.toNat)) - pxN (r.take (oct8 x.toNat)) % hostBits x.toNat) (n := x.toNat) (ok := true) q6 (by omega) hok.1)
    rcases hv with ⟨rfl, Z'', W'', q7⟩ | ⟨rfl, Z'', W'', hx⟩
    · refine ⟨true, rfl, ifF rfl ?_⟩
      obtain ⟨T7, hb7⟩ := q7.bx
      refine ⟨a, n, c, cell_box hb7, by omega, by omega, StCell.blk (T := T7) hb7 (by simp) rfl ?_⟩
      rw [w1, Int.toNat_natCast]
      have hd := cell_drop (k := 1 + oct8 x.toNat) q7.cs (by omega)
      have e4 : (x :: r).drop (1 + oct8 x.toNat) = r.drop (oct8 x.toNat) := by rw [Nat.add_comm]; rfl
      have hd := (congrArg (fun z : List UInt8 => CellOk Z Hs (.lst [.int .u8]) z (.slice (if c = 1 + oct8 x.toNat then a else Option.map (fun a => Addr.add a ((1 + oct8 x.toNat) * 1)) a) (n - (1 + oct8 x.toNat)) (c - (1 + oct8 x.toNat)))) e4).mp hd
      refine hn _ _ Z'' W'' ⟨C.stJ q7.J (fun b hb hw => ?_) (fun b hb => ?_), ⟨T7, ?_⟩, hd, fun b hb => ⟨(q7.z b hb).1, ?_⟩, q7.w1, q7.z1⟩
      · refine Sh.upd_ne fun e => ?_
        subst e
        rcases hw with h | h | h
        · exact q7.z1 h
        · exact q7.w1 h
        · exact h.2 (by simp)
      · by_cases e : b = b1
        · subst e; rw [Sh.upd_eq]; simp
        · rw [Sh.upd_ne e]; exact hb
      · rw [Sh.upd_eq]; rfl
      · have hne : b ≠ b1 := fun e => by
          subst e
          exact q7.z1 (q7.z b hb).1
        rw [Sh.upd_ne hne]
        exact (q7.z b hb).2
    · exact ⟨false, rfl, ifT rfl fun H2 hs => C.shut hs ⟨Z'', W'', .inr hx⟩⟩
theorem pref_run {T1 : TypeId} {W : Nat → Prop} {s : List UInt8} {v1 : Value} (hz0 : ∀ b, Z b → Hs b ≠ none) (hl : s.length ≤ 4611686018427387904) (hs : CellOk Z Hs (.lst [.int .u8]) s v1)
    (hb1 : Hs b1 = some (.cells ⟨[v1]⟩ T1 (0, 0))) (hz1 : ¬ Z b1) (hw1 : ¬ W b1) (hJ : C.J Z W (prefXs s) Hs) :
    FnW Tryz.prog f_upd_prefixes_1 ⟨[.func (.yield l) #[] #[], capBox b1]⟩ Hs fun _ H' => ∃ Z' W', C.J Z' W' [] H' ∨ C.X Z' W' H' := by
  refine upd_prefixes_1_sh l b1 ?_
  unfold upd_prefixes_1_p
  refine ⟨fun k _ H => ∃ s v Z' W', k = s.length ∧ s.length ≤ 4611686018427387904 ∧ QI Hs Z b1 C (prefXs s) s v H Z' W', s.length, ⟨s, v1, Z, W, rfl, hl, hJ, ⟨T1, hb1⟩, hs, fun b hb => ⟨hb, rfl⟩, hw1, hz1⟩, ?_⟩
  rintro k u H ⟨s, v, Z', W', rfl, hl, q⟩ g
  have hv := q.cs
  simp only [CellOk] at hv
  obtain ⟨a, n, c, rfl, hln, hnc, hcm, -⟩ := hv
  have hln : s.length = n := hln
  obtain ⟨T, hbx⟩ := q.bx
  unfold upd_prefixes_1_l0
  refine ⟨a, n, c, cell_box hbx, IfB.intro (fun h1 => ?_) (fun h1 => ?_)⟩
  · have h1 : 0 < n := by have := of_decide_eq_true h1; omega
    cases s with
    | nil => simp at hln; omega
    | cons x r =>
    obtain ⟨b, o, rfl, hzb, hcell⟩ := cell_byte (i := 0) (x := x) q.cs rfl
    refine ⟨_, n, c, cell_box hbx, NilP.intro _ rfl ⟨by omega, by omega, ?_⟩⟩
    have hx := UInt8.toNat_lt x
    have w3 : IntKind.wrap .i64 (x.toNat : Int) = (x.toNat : Int) := wr_i64 (by omega) (by omega)
    refine ⟨(x.toNat : Int), hcell H (q.z b hzb).2, ?_⟩
    rw [w3]
    refine (octets_run x.toNat (by omega)).mono ?_
    rintro w H2 ⟨rfl, k2⟩
    have q2 := q.quiet hz0 k2
    obtain ⟨T2, hbx2⟩ := q2.bx
    refine ⟨_, rfl, IfB.intro (fun h2 => ?_) (fun h2 => ?_)⟩
    · have h2 : ¬ (x.toNat ≤ 32 ∧ oct8 x.toNat ≤ r.length) := fun h => by have := of_decide_eq_true h2; omega
      rw [prefXs_bad h2] at q2
      exact pref_bad q2
    · have h2 : x.toNat ≤ 32 := by have := of_decide_eq_false h2; omega
      refine ⟨_, n, c, cell_box hbx2, ?_⟩
      simp only [List.length_cons] at hln hl
      rw [wr_i64 (n := (n : Int) - 1) (by omega) (by omega)]
      by_cases h3 : oct8 x.toNat ≤ r.length
      · rw [decide_eq_false (by omega)]
        refine pref_good hz0 ⟨h2, h3⟩ (by simp only [List.length_cons]; omega) q2 fun v' H' Z'' W'' q' => ⟨_, ?_, _, v', Z'', W'', rfl, ?_, q'⟩
        · simp only [List.length_drop, List.length_cons]; omega
        · simp only [List.length_drop]; omega
      · rw [decide_eq_true (by omega)]
        have h4 : ¬ (x.toNat ≤ 32 ∧ oct8 x.toNat ≤ r.length) := fun h => h3 h.2
        rw [prefXs_bad h4] at q2
        exact pref_bad q2
  · have h1 : n = 0 := by have := of_decide_eq_false h1; omega
    have : s = [] := List.eq_nil_of_length_eq_zero (by omega)
    subst this
    exact fun H2 hs2 => C.shut hs2 ⟨Z', W', .inl q.J⟩
end
theorem it_prefixes_ok : ItOk Tryz.prog f_upd_prefixes_1 it_prefixes := by
  intro Hs Z W bs us c l C hpre hnd hlen hval hus hwf hzl hbz hwl hlay hlo hJ
  obtain ⟨s, cu⟩ := c
  have hus' : SimL ⟨Z, fun _ => 0, fun _ => .nilFunc⟩ Hs 0 [AV.lst [.int .u8] s] us := hus
  match us, hus' with
  | [v1], hus' =>
  match bs, hlen with
  | [b1], _ =>
  simp only [SimL, SimV] at hus'
  obtain ⟨T1, hb1⟩ := hval 0 b1 v1 rfl rfl
  exact pref_run hzl hpre hus'.1 hb1 (hbz b1 (by simp)).1 (hbz b1 (by simp)).2 hJ
end Go.Proofs.YtboagabgpcghcaaGreatDoor
