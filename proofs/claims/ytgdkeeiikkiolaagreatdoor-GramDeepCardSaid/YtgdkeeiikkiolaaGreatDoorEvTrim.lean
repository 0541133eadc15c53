/-
  What the machine is told of strings.Trim: by the library's contract.
-/
import Derived.Test.YtgdkeeiikkiolaaGreatDoorEvNum
import Derived.Shelf.Strings.SlTrimAscii
noncomputable section
set_option linter.all false
set_option maxRecDepth 100000
namespace Go.Proofs.YtgdkeeiikkiolaaGreatDoor
open Go.Sh Go.Ev

theorem trim_fw {s t : List UInt8} (h1 : s.length ≤ 1000000) (h3 : t.length ≤ 1000000) (h4 : t.all (fun b => decide (b.toNat < 128)) = true) (H : Heap) : FnW Tryz.prog f_strings_Trim ⟨[.string (bstr s), .string (bstr t)]⟩ H fun v H' => v = .string (bstr (Lib.trimS s t)) ∧ Keep Nil H H' := by
  refine ⟨⟨_, Tryz.func80, by kernel_rfl, by kernel_rfl⟩, fun W hW => ?_⟩
  subst hW
  have hsz : (bstr s).size = s.length := by simp [bstr, ByteArray.size]
  have htz : (bstr t).size = t.length := by simp [bstr, ByteArray.size]
  have hd : (bstr s).data.toList = s := by simp [bstr]
  have hd2 : (bstr t).data.toList = t := by simp [bstr]
  refine (Any.strings_Trim_laid Tryz.lays160 (by kernel_rfl) (bstr s) (bstr t) W (by rw [hsz]; omega) (by rw [htz]; omega) (by rw [hd2]; exact ascii_of_all h4)).mono fun e W' ⟨he, hw⟩ => ?_
  rw [hd, hd2] at he
  obtain ⟨hk1, hr⟩ := keep_below hw
  exact ⟨_, he, ⟨rfl, hk1⟩, hr⟩
def ovTrim : Ev.Calls := fun f xs h => match Nat.beq f f_strings_Trim, xs with
  | true, [.str s, .str t] => (match Nat.ble s.length 1000000, Nat.ble t.length 1000000, asciiF t with
    | true, true, true => some (.str (trimF s t), h)
    | _, _, _ => none)
  | _, _ => none
theorem ovTrim.ok [Sym] : CallOk Tryz.prog ovTrim := by
  intro H0 f xs h y h' hc r H vs R hv
  unfold ovTrim at hc
  split at hc
  · rename_i s t hf
    split at hc
    · rename_i h1 h2 h3
      cases hc
      simp only [VRs, VR] at hv
      obtain ⟨v, us, rfl, rfl, w, ws, rfl, rfl, rfl⟩ := hv
      rw [Nat.eq_of_beq_eq_true hf]
      refine CalW.fn (by kernel_rfl) ?_
      refine (trim_fw (Nat.le_of_ble_eq_true h1) (Nat.le_of_ble_eq_true h2) (asciiF_eq h3) H).mono fun v H' ⟨e1, e2⟩ => ?_
      subst e1
      refine ret_keep R e2 ?_
      simp only [VR]
      rw [trimF_eq]
    · cases hc
  · cases hc
end Go.Proofs.YtgdkeeiikkiolaaGreatDoor
