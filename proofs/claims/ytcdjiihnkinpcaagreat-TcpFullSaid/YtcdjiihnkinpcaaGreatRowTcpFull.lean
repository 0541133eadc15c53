/-
  'pointsmanlaw16.TcpFull' returns true whatever the input, and the input reads as it did. Conditions: none beyond those of the given statement.
-/
import Derived.Test.YtcdjiihnkinpcaaGreatTfW
import Derived.Test.YtcdjiihnkinpcaaGreatTfRun0
import Derived.Test.YtcdjiihnkinpcaaGreatTfRun1
import Derived.Test.YtcdjiihnkinpcaaGreatTfRun2
import Derived.Test.YtcdjiihnkinpcaaGreatTfRun3
import Derived.Test.YtcdjiihnkinpcaaGreatTfRun4
import Derived.Test.YtcdjiihnkinpcaaGreatTfRun5
import Derived.Test.YtcdjiihnkinpcaaGreatAm
import Derived.Test.YtcdjiihnkinpcaaGreatEv10
set_option linter.all false
namespace Go.Proofs.YtcdjiihnkinpcaaGreat
open Go.Sh Go.Ev Go.ChangeShapes Go.WideShapes Go.ChangeAt Go.RowKit

theorem tcpFull_own : ownKnob Tryz.prog.godebug = none := by kernel_rfl
theorem tcpFull_laid : laidOutB Tryz.prog = true := by kernel_rfl
theorem tcpFull_bool : Tryz.prog.underlying 4 = some .bool := by kernel_rfl
theorem tcpFull_u3 : Tryz.prog.underlying 3 = some (.int .i64) := by kernel_rfl
theorem tcpFull_u3c : Tryz.prog.cellsOf 3 = 1 := by kernel_rfl
theorem works_fw (H : Heap) : FnW Tryz.prog f_law16_works ⟨[]⟩ H fun v H' => v = .bool true ∧ Keep Nil H H' := by
  letI : Sym := sym0
  exact ev_true ovKeys.ok (by kernel_rfl) VRs.nil tf_works H trivial
theorem tcpFull_ov (x : Int) : @CallOk (symOf x fun _ => True) Tryz.prog (ovOr (ovT f_law16_works) ovKeys) := by
  letI : Sym := symOf x fun _ => True
  exact ovOr.ok (ovT.ok (by kernel_rfl) fun H0 H hg hs => works_fw H) ovKeys.ok
theorem six {p : Nat → Prop} (h0 : p 0) (h1 : p 1) (h2 : p 2) (h3 : p 3) (h4 : p 4) (h5 : p 5) : ∀ r, r < 6 → p r
  | 0, _ => h0 | 1, _ => h1 | 2, _ => h2 | 3, _ => h3 | 4, _ => h4 | 5, _ => h5
  | n + 6, h => absurd h (by omega)
theorem tcpFull_vr (x : Int) (r : List RB) : @VRs (symOf x fun _ => True) r [.sym 0] [.int .i64 x] := by
  letI : Sym := symOf x fun _ => True
  exact VRs.cons (show VR r (.sym 0) (.int .i64 x) from rfl) VRs.nil
theorem tcpFull_fw (x : Int) (H : Heap) : FnW Tryz.prog f_law16_TcpFull ⟨[.int .i64 x]⟩ H fun v H' => v = .bool true ∧ Keep Nil H H' :=
  am_run (m := 6) (cs := [.sym 0]) (vs := [.int .i64 x]) (by omega) (by decide) (by kernel_rfl) (by kernel_rfl) (tcpFull_ov x) (tcpFull_vr x) (six tf_0 tf_1 tf_2 tf_3 tf_4 tf_5) H trivial

set_option maxRecDepth 100000 in
theorem tcpFull_lifted (os : Os) (started : os.Started) (H : Type) (enc : TypeId × Value → H) :
    ReturnsInHanded {} Tryz.checked os 6 .any (Rows.tcpFullSpec.pre6 enc Tryz.prog Tryz.f6 Rows.tcpFullRow.domain false) (Rows.tcpFullSpec.post enc Tryz.prog Tryz.f6 false true false false) := by
  refine lifted (C := Tryz.checked) (tb := 4) tcpFull_own started (by kernel_rfl) Tryz.func6
    (ChangeSpec.witness6 (enc := enc) (C := Tryz.checked) false ⟨#[], #[.int .i64 0], []⟩ 8 (by kernel_rfl) (by kernel_rfl) (by kernel_rfl) (by kernel_rfl)) tcpFull_laid (by kernel_rfl) rfl rfl tcpFull_bool ?_
  intro W base args ds p hval0 hA0
  obtain ⟨args⟩ := args
  have hval : ∀ (j : Nat) t v, Tryz.f6.params[j]? = some t → args[j]? = some v → Value.okWide Tryz.prog W .any base t v := fun j t v h1 h2 => hval0 j t v h1 (by simpa using h2)
  have hA : DataW.TrodAll enc Tryz.prog W 0 (fun _ => true) true Tryz.f6.params.toList args ds p := hA0
  rw [Tryz.params6] at hA hval
  obtain ⟨v0, vs0, d0, ds0, p0, q0, rfl, rfl, rfl, h0, hA⟩ := trodAll_cons hA
  obtain ⟨rfl, rfl, rfl⟩ := trodAll_nil hA
  refine ⟨rfl, ?_⟩
  obtain ⟨x0, rfl⟩ := okWide_int tcpFull_u3 (hval 0 3 v0 rfl rfl)
  exact tcpFull_fw x0 (hp W)

theorem tcpFull_holds : Rows.TcpFullSaid :=
  OpenClaim.holds_of_wide 6 Tryz.f6 rfl rfl rfl rfl rfl rfl rfl ⟨rfl, rfl, rfl, rfl, rfl⟩ rfl rfl rfl rfl rfl (by kernel_rfl) Tryz.func6 (by kernel_rfl)
    (of_decide_eq_true (by kernel_rfl)) (by unfold Func.isWrapper; first | (rw [if_pos (by decide +kernel)]; kernel_rfl) | (rw [if_neg (by decide +kernel)]; exact ⟨rfl, rfl⟩))
    (fun os started H enc _ => tcpFull_lifted os started H enc)

#print axioms tcpFull_holds

end Go.Proofs.YtcdjiihnkinpcaaGreat
