/-
  'pointsmanlaw16.TcpTalks' returns true whatever the input, and the input reads as it did. Conditions: none beyond those of the given statement.
-/
import Derived.Test.YtaljkjokbdpdoaaGreatTA
set_option linter.all false
namespace Go.Proofs.YtaljkjokbdpdoaaGreat
open Go.Sh Go.Pc Go.Conn Go.ChangeShapes Go.WideShapes Go.ChangeAt Go.RowKit
theorem Zbqz : ownKnob Tryz.prog.godebug = none := by kernel_rfl
theorem Zcbc : laidOutB Tryz.prog = true := by kernel_rfl
set_option maxRecDepth 100000 in
theorem Zbub (os : Os) (started : os.Started) (H : Type) (enc : TypeId × Value -> H) :
    ReturnsInHanded {} Tryz.checked os 4 .any (Rows.tcpTalksSpec.pre6 enc Tryz.prog Tryz.f4 Rows.tcpTalksRow.domain false) (Rows.tcpTalksSpec.post enc Tryz.prog Tryz.f4 false true false false) := by
  refine lifted (C := Tryz.checked) (tb := Zca) Zbqz started (by kernel_rfl) Tryz.func4
    (ChangeSpec.witness6 (enc := enc) (C := Tryz.checked) false ⟨#[], #[.int .u32 0, .int .u32 0, .slice none 0 0, .slice none 0 0], []⟩ 8 (by kernel_rfl) (by kernel_rfl) (by kernel_rfl) (by kernel_rfl)) Zcbc (by kernel_rfl) rfl rfl Zbym ?_
  intro W base args ds p hval0 hA0; obtain ⟨args⟩ := args; have hval : ∀ (j : Nat) t v, Tryz.f4.params[j]? = some t -> args[j]? = some v -> Value.okWide Tryz.prog W .any base t v := fun j t v h1 h2 => hval0 j t v h1 (by simpa using h2)
  have hA : DataW.TrodAll enc Tryz.prog W 0 (fun _ => true) true Tryz.f4.params.toList args ds p := hA0; rw [Tryz.params4] at hA hval; obtain ⟨v0, vs0, d0, ds0, p0, q0, rfl, rfl, rfl, h0, hA⟩ := trodAll_cons hA; obtain ⟨v1, vs1, d1, ds1, p1, q1, rfl, rfl, rfl, h1, hA⟩ := trodAll_cons hA; obtain ⟨v2, vs2, d2, ds2, p2, q2, rfl, rfl, rfl, h2, hA⟩ := trodAll_cons hA; obtain ⟨v3, vs3, d3, ds3, p3, q3, rfl, rfl, rfl, h3, hA⟩ := trodAll_cons hA; obtain ⟨rfl, rfl, rfl⟩ := trodAll_nil hA; refine ⟨rfl, ?_⟩; obtain ⟨x0, rfl⟩ := okWide_int Zbae (hval 0 Zqd v0 rfl rfl); obtain ⟨x1, rfl⟩ := okWide_int Zbae (hval 1 Zqd v1 rfl rfl); obtain ⟨n0, b0, rfl⟩ := Zbiq h0; obtain ⟨n1, b1, rfl⟩ := Zbiq h1; obtain ⟨a2, m2, c2, l2, rfl, e2, r2, k2⟩ := Zbbz (hval 2 Zi v2 rfl rfl) h2; obtain ⟨a3, m3, c3, l3, rfl, e3, r3, k3⟩ := Zbbz (hval 3 Zi v3 rfl rfl) h3; exact Zbsp b0 b1 r2 r3 k2 k3 e2 e3
theorem tcpTalks_holds : Rows.TcpTalksSaid :=
  OpenClaim.holds_of_wide 4 Tryz.f4 rfl rfl rfl rfl rfl rfl rfl ⟨rfl, rfl, rfl, rfl, rfl⟩ rfl rfl rfl rfl rfl (by kernel_rfl) Tryz.func4 (by kernel_rfl)
    (of_decide_eq_true (by kernel_rfl)) (by unfold Func.isWrapper; first | (rw [if_pos (by decide +kernel)]; kernel_rfl) | (rw [if_neg (by decide +kernel)]; exact ⟨rfl, rfl⟩))
    (fun os started H enc _ => Zbub os started H enc)
#print axioms tcpTalks_holds
end Go.Proofs.YtaljkjokbdpdoaaGreat
