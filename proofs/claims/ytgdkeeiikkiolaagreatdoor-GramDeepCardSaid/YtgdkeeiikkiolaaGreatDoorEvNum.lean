/-
  What the machine is told of strconv.Itoa and strconv.Atoi: by the library's contracts.
-/
import Derived.Test.YtgdkeeiikkiolaaGreatDoorNum
import Derived.Test.YtgdkeeiikkiolaaGreatDoorShelf
import Derived.Test.YtgdkeeiikkiolaaGreatDoorEv11
import Derived.Test.YtgdkeeiikkiolaaGreatDoorEvLib
import Derived.Laws.Externs
noncomputable section
set_option linter.all false
set_option maxRecDepth 100000
namespace Go.Proofs.YtgdkeeiikkiolaaGreatDoor
open Go.Sh Go.Ev

theorem pow_named : Tryz.prog.globalNamed "internal/strconv.uint64pow10" = some g_internal_strconv_uint64pow10 := by kernel_rfl
def powCells : Array Value := (Lib.pow10Tab.map fun z => Value.int .u64 z).toArray
/-- The table of the powers of ten is what its text says. -/
def PowOk (H : Heap) : Prop := ∃ T fr, H g_internal_strconv_uint64pow10 = some (.cells powCells T fr)
theorem rest_of {W W' : World} (h1 : W'.os = W.os) (h2 : W'.tape = W.tape) (h3 : W'.output = W.output) (h : ∀ (b : Nat) o, W.heap[b]? = some o → W'.heap[b]? = some o) : Go.Sh.Rest W W' := by
  refine ⟨h1, h2, h3, fun b ds hb => h b _ hb, ?_⟩
  cases hs : W.heap.size with
  | zero => omega
  | succ n =>
    have := h n _ (Array.getElem?_eq_getElem (by omega))
    have := (Array.getElem?_eq_some_iff.1 this).1
    omega
theorem keep_below {w w' : World} (h : Go.RowKit.Below w.heap.size w w') : Keep Nil (hp w) (hp w') ∧ Go.Sh.Rest w w' := by
  have hs : ∀ b, hp w b ≠ none → hp w' b = hp w b := fun b hb => h.block b (by
    rcases Nat.lt_or_ge b w.heap.size with hlt | hge
    · exact hlt
    · exact absurd (by simp [hp, hge] : hp w b = none) hb)
  exact ⟨⟨fun b _ hb => hs b hb, fun b hb => by rw [hs b hb]; exact hb⟩, ⟨h.os, h.tape, h.output, fun b ds hb => (h.block b (Array.getElem?_eq_some_iff.1 hb).1).trans hb, h.size⟩⟩

theorem itoa_fw (n : Int) (h0 : -9223372036854775808 ≤ n) (h1 : n ≤ 9223372036854775807) {H : Heap} (hg : PowOk H) : FnW Tryz.prog f_strconv_Itoa ⟨[.int .i64 n]⟩ H fun v H' => v = .string (bstr (Lib.itoa n)) ∧ Keep Nil H H' := by
  refine ⟨⟨_, Tryz.func24, by kernel_rfl, by kernel_rfl⟩, fun W hW => ?_⟩
  subst hW
  obtain ⟨T, fr, hg⟩ := hg
  have htab : Lib.TabIs Tryz.prog W "internal/strconv.uint64pow10" .u64 Lib.pow10Tab := by
    unfold Lib.TabIs World.var?
    rw [pow_named]
    have hg' : W.heap[g_internal_strconv_uint64pow10]? = some (.cells powCells T fr) := hg
    simp only [Option.bind_some, hg']
    rfl
  refine (Tryz.strconv_Itoa n h0 h1 W htab).mono fun e W' ⟨he, k, os, hw⟩ => ?_
  refine ⟨_, he, ⟨rfl, ?_⟩, ?_⟩
  · subst hw
    have hsm : ∀ b, hp W b ≠ none → hp (Go.Sort.grow (W.drewN k) os) b = hp W b := fun b hb => by
      simp only [hp, Go.Sort.grow, World.heap_drewN] at hb ⊢
      rw [Array.getElem?_append]
      rw [if_pos]
      rcases Nat.lt_or_ge b W.heap.size with h | h
      · exact h
      · exact absurd (by simp [h]) hb
    exact ⟨fun b _ hb => hsm b hb, fun b hb => by rw [hsm b hb]; exact hb⟩
  · subst hw
    exact rest_of rfl rfl rfl fun b o h => by
      simp only [Go.Sort.grow, World.heap_drewN]
      rw [Array.getElem?_append, if_pos (Array.getElem?_eq_some_iff.1 h).1]; exact h
theorem atoi_fw {s : List UInt8} {n : Int} (h1 : s.length ≤ 281474976710656) (ha : Lib.atoiAll s = .ok n) (H : Heap) : FnW Tryz.prog f_strconv_Atoi ⟨[.string (bstr s)]⟩ H fun v H' => v = .tuple ⟨[.int .i64 n, .nilIface]⟩ ∧ Keep Nil H H' := by
  refine ⟨⟨_, Tryz.func118, by kernel_rfl, by kernel_rfl⟩, fun W hW => ?_⟩
  subst hW
  have hsz : (bstr s).size = s.length := by simp [bstr, ByteArray.size]
  have hdt : (bstr s).data.toList = s := by simp [bstr]
  refine (Tryz.strconv_Atoi_ok (bstr s) (by rw [hsz]; omega) n (by rw [hdt]; exact ha) W).mono fun e W' ⟨he, hw⟩ => ?_
  subst he
  obtain ⟨hkp, hr⟩ : Keep Nil (hp W) (hp W') ∧ Sh.Rest W W' := by
    rcases hw with hw | ⟨t, hw⟩
    · subst hw; exact ⟨⟨fun b _ _ => rfl, fun b h => h⟩, rest_of rfl rfl rfl fun _ _ h => h⟩
    · subst hw; exact keep_below (Lib.bytesWorld_below _ _ _)
  exact ⟨_, rfl, ⟨rfl, hkp⟩, hr⟩

/-- Texts of numbers. -/
def ovNum : Ev.Calls := fun f xs h => match Nat.beq f f_strconv_Itoa with
  | true => (match xs with
    | [.int .i64 (.ofNat n)] => (match Nat.blt n 1000000000000000000 with
      | true => some (.str (decF 18 n []), h)
      | false => none)
    | _ => none)
  | false => (match Nat.beq f f_strconv_Atoi, xs with
    | true, [.str s] => (match atoiF s with
      | some n => some (.tup [.int .i64 (.ofNat n), .nili], h)
      | none => none)
    | _, _ => none)
theorem ovNum.ok [Sym] (hG : ∀ H, Sym.good H → PowOk H) : CallOk Tryz.prog ovNum := by
  intro H0 f xs h y h' hc r H vs R hv
  unfold ovNum at hc
  split at hc
  · rename_i hf
    split at hc
    · rename_i n
      split at hc
      · rename_i hn
        cases hc
        simp only [VRs, VR] at hv
        obtain ⟨v, us, rfl, rfl, rfl⟩ := hv
        rw [Nat.eq_of_beq_eq_true hf]
        have hn : n < 1000000000000000000 := by simpa using hn
        have hi : (Int.ofNat n) = (n : Int) := rfl
        refine CalW.fn (by kernel_rfl) ?_
        have hp : PowOk H := by
          obtain ⟨T, fr, hg⟩ := hG H0 R.good
          exact ⟨T, fr, by rw [R.fr _ (by rw [hg]; simp)]; exact hg⟩
        refine (itoa_fw (.ofNat n) (by rw [hi]; omega) (by rw [hi]; omega) hp).mono fun v H' ⟨h1, h2⟩ => ?_
        subst h1
        have e18 : (10 : Nat) ^ 18 = 1000000000000000000 := by decide
        refine ret_keep R h2 ?_
        simp only [VR]
        rw [itoa_decF (by omega)]
      · cases hc
    · cases hc
  · split at hc
    · rename_i s hf
      split at hc
      · rename_i n hn
        cases hc
        simp only [VRs, VR] at hv
        obtain ⟨v, us, rfl, rfl, rfl⟩ := hv
        rw [Nat.eq_of_beq_eq_true hf]
        obtain ⟨h1, h2⟩ := atoiF_eq hn
        refine CalW.fn (by kernel_rfl) ?_
        refine (atoi_fw (by omega) h1 H).mono fun v H' ⟨h1, h2⟩ => ?_
        subst h1
        exact ret_keep R h2 ⟨_, rfl, VRs.cons rfl (VRs.cons rfl VRs.nil)⟩
      · cases hc
    · cases hc

/-! ### What the model answers itself -/
theorem byte_of (c : Nat) : (Int.ofNat c).toNat.toUInt8 = c.toUInt8 := rfl
theorem idx_sem {P : Program} {s : List UInt8} {c : Nat} (hc : c < 256) {H : Heap} {K : Value → Heap → Prop} (h : K (.int .i64 (idxF s c 0)) H) : SemW P (Extern.BytealgIndexByte.indexByte #[.string (bstr s), .int .u8 (.ofNat c)]) H K := by
  have hd : (bstr s).data.toList = s := by simp [bstr]
  have hl := Lib.firstIdx_eq (bstr s) c.toUInt8
  rw [hd] at hl
  have h2 : idxF s c 0 = Lib.indexByte s c.toUInt8 := by
    rw [idxF_eq hc s 0]
    have := Lib.indexByte_ge s c.toUInt8
    by_cases h1 : Lib.indexByte s c.toUInt8 = -1
    · rw [if_pos h1, h1]
    · rw [if_neg h1]; omega
  rw [h2, ← hl] at h
  show SemW P (match (List.range (bstr s).size).find? fun i => (bstr s)[i]! == c.toUInt8 with
      | some i => pure (goInt i)
      | none => pure (goInt (-1))) H K
  unfold firstIdx at h
  cases hf : (List.range (bstr s).size).find? fun i => (bstr s)[i]! == c.toUInt8 with
  | some i => rw [hf] at h; exact h
  | none => rw [hf] at h; exact h
theorem cnt_sem {P : Program} {s : List UInt8} {c : Nat} (hc : c < 256) {H : Heap} {K : Value → Heap → Prop} (h : K (.int .i64 (.ofNat (cntF s c 0))) H) : SemW P (Extern.BytealgCount.count #[.string (bstr s), .int .u8 (.ofNat c)]) H K := by
  have hd : (bstr s).data.toList = s := by simp [bstr]
  show SemW P (pure (goInt ((bstr s).foldl (fun n x => if x == c.toUInt8 then n + 1 else n) (0 : Nat)))) H K
  have e : (goInt ((bstr s).foldl (fun n x => if x == c.toUInt8 then n + 1 else n) (0 : Nat))) = .int .i64 (.ofNat (cntF s c 0)) := by
    rw [cntF_eq hc s 0]
    have h1 := Lib.foldl_data (fun (n : Int) x => if x == c.toUInt8 then n + 1 else n) 0 (bstr s)
    rw [hd, Lib.count_foldl] at h1
    simp only [goInt]
    congr 1
  rw [e]; exact h
/-- Bytes in texts. -/
def ovStr : Ev.Calls := fun f xs h => match xs with
  | [.str s, .int .u8 (.ofNat c)] => (match Nat.blt c 256 with
    | true => (match Nat.beq f f_internal_bytealg_IndexByteString with
      | true => some (.int .i64 (idxF s c 0), h)
      | false => (match Nat.beq f f_internal_bytealg_CountString with
        | true => some (.int .i64 (.ofNat (cntF s c 0)), h)
        | false => none))
    | false => none)
  | _ => none
theorem ovStr.ok [Sym] : CallOk Tryz.prog ovStr := by
  intro H0 f xs h y h' hc r H vs R hv
  unfold ovStr at hc
  split at hc
  · rename_i s c
    simp only [VRs, VR] at hv
    obtain ⟨v, us, rfl, rfl, w, ws, rfl, rfl, rfl⟩ := hv
    split at hc
    · rename_i hcb
      have hcb : c < 256 := by simpa using hcb
      split at hc
      · rename_i hf
        cases hc
        rw [Nat.eq_of_beq_eq_true hf]
        unfold CalW
        rw [show Nat.blt f_internal_bytealg_IndexByteString yB = true by kernel_rfl, show isExt Tryz.prog f_internal_bytealg_IndexByteString = true by kernel_rfl]
        refine semW_extern Tryz.func110 (by kernel_rfl) (by kernel_rfl) (by kernel_rfl) (e := Extern.BytealgIndexByte.indexByte) (by kernel_rfl) ?_
        exact idx_sem hcb (ret_keep R (Keep.refl _ _) rfl)
      · split at hc
        · rename_i hf
          cases hc
          rw [Nat.eq_of_beq_eq_true hf]
          unfold CalW
          rw [show Nat.blt f_internal_bytealg_CountString yB = true by kernel_rfl, show isExt Tryz.prog f_internal_bytealg_CountString = true by kernel_rfl]
          refine semW_extern Tryz.func186 (by kernel_rfl) (by kernel_rfl) (by kernel_rfl) (e := Extern.BytealgCount.count) (by kernel_rfl) ?_
          exact cnt_sem hcb (ret_keep R (Keep.refl _ _) rfl)
        · cases hc
    · cases hc
  · cases hc
end Go.Proofs.YtgdkeeiikkiolaaGreatDoor
