/-
 'pointsmanlaw33.PackFolds' returns true whatever the input,and the input reads as it did. Conditions:none beyond those of the given statement.
-/
import Derived.Test.YthhcfdpoiganhaaGreatPF
set_option linter.all false
namespace Go.Proofs.YthhcfdpoiganhaaGreat
open Go.Sh Go.ChangeShapes Go.WideShapes Go.ChangeAt Go.RowKit
theorem Zdeg:ownKnob Tryz.prog.godebug=none:=by kernel_rfl
theorem Zddm:laidOutB Tryz.prog=true:=by kernel_rfl
theorem Zdar:Tryz.prog.underlying Zbky=some .bool:=by kernel_rfl
theorem Zdkk:pksL Tryz.prog Tryz.f3.params.toList=some Zbqp:=by kernel_rfl
theorem Zbvd {D:Type} {enc:TypeId×Value->D} {P:Program} {W:World} {base:Nat} {sp:Nat->Bool} {held:Bool}: ∀{ts:List TypeId} {vs:List Value} {ds:List (DataW D)} {pl:List MemPlace},DataW.TrodAll enc P W base sp held ts vs ds pl->ds.length=ts.length
 | [],_,_,_,h=>by rw [(trodAll_nil h).2.1];rfl
 | t::ts,_,_,_,h=>by obtain ⟨v,vs,d,ds',p,q,_,rfl,_,_,hrest⟩:=trodAll_cons h;simp only [List.length_cons,Zbvd hrest]
set_option maxRecDepth 100000 in
theorem Zcqf (os:Os) (started:os.Started) (H:Type) (enc:TypeId×Value->H):
  ReturnsInHanded {} Tryz.checked os 3 .any (Rows.packFoldsSpec.pre6 enc Tryz.prog Tryz.f3 Rows.packFoldsRow.domain false) (Rows.packFoldsSpec.post enc Tryz.prog Tryz.f3 false true false false):=by
 refine Zcsr (C:=Tryz.checked) (tb:=Zbky) Zdeg started (by kernel_rfl) Tryz.func3
  (ChangeSpec.witness6 (enc:=enc) (C:=Tryz.checked) false ⟨#[],#[.slice none 0 0,.bool false],[]⟩ 8 (by kernel_rfl) (by kernel_rfl) (by kernel_rfl) (by kernel_rfl)) Zddm (by kernel_rfl) rfl rfl Zdar ?_
 intro W base args ds p hval hA hwt;have hlen:ds.length=2:=Zbvd hA
 match ds,hlen with
 | [d0,d1],_=>
 refine ⟨rfl,?_⟩;obtain ⟨vs⟩:=args;exact Zcvj Zcpu Zdkk (fun x hw hz=>Zcon x.1 x.2.1 (by
  have h1:WfE (.lst ksCh) x.1:=hw.1;simp only [WfE] at h1;exact h1.1) (fun c hc=>by
  have h1:SzE (.lst ksCh) x.1:=hz.1;simp only [SzE,SzT] at h1;obtain ⟨_,_,_,⟨_,p2⟩,_,_,_,_,_,_,_,_,_,_,⟨_,o2⟩,_⟩:=h1.2 c hc;refine ⟨fun s hs=>?_,fun y hy=>?_⟩;have h2:=(p2 s hs).2.1.1;have h3:s.2.length*4 <= 140737488351232:=h2;omega
  ·have h2:=(o2 y hy).2.1.1;have h3:y.2.length*1 <= 140737488351232:=h2;omega)) (fun j t v h1 h2=>hval j t v (by simpa using h1) (by simpa using h2)) hA hwt (fun b hb=>by cases hb) trivial
theorem packFolds_holds:Rows.PackFoldsSaid:=
 OpenClaim.holds_of_wide 3 Tryz.f3 rfl rfl rfl rfl rfl rfl rfl ⟨rfl,rfl,rfl,rfl,rfl⟩ rfl rfl rfl rfl rfl (by kernel_rfl) Tryz.func3 (by kernel_rfl)
  (of_decide_eq_true (by kernel_rfl)) (by unfold Func.isWrapper;first | (rw [if_pos (by decide+kernel)];kernel_rfl) | (rw [if_neg (by decide+kernel)];exact ⟨rfl,rfl⟩))
  (fun os started H enc _=>Zcqf os started H enc)
#print axioms packFolds_holds
end Go.Proofs.YthhcfdpoiganhaaGreat
