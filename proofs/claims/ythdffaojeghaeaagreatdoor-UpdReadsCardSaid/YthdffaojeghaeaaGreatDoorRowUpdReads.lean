/-
  'pointsmanlaw21.UpdReads' returns true whatever the input,and the input reads as it did. Conditions:none beyond those of the given statement (the listed package-level variables are laid as the program's text lays them).
-/
import Derived.Test.YthdffaojeghaeaaGreatDoorRowL3
import Derived.Test.YthdffaojeghaeaaGreatDoorQL
set_option linter.all false
namespace Go.Proofs.YthdffaojeghaeaaGreatDoor
open Go.Sh Go.ChangeShapes Go.WideShapes Go.ChangeAt Go.RowKit
theorem Zcft:pksL Tryz.prog Tryz.f3.params.toList=some Zbhi:=by kernel_rfl
set_option maxRecDepth 100000 in
theorem Zcuw (os:Os) (started:os.Started) (H:Type) (enc:TypeId×Value->H):
    ReturnsInHanded {} Tryz.checked os 3 .any (fun w args=>(Rows.updReadsSpec.pre enc Tryz.prog Tryz.f3 Rows.updReadsRow.domain false w args∧laidMetH Tryz.prog Zpl w)∧sizedMet enc Tryz.prog Tryz.f3 (OpenSpec.ofChange Rows.updReadsSpec) false w args)
      (Rows.updReadsSpec.post enc Tryz.prog Tryz.f3 false true false false):=by
  refine Zcrt (C:=Tryz.checked) (tb:=Zbci) (laid:=Zpl) Zchc started (by kernel_rfl) Tryz.func3
    (ChangeSpec.witness_shaped (enc:=enc) (C:=Tryz.checked) (os:=os) (X:=fun w _=>laidMetH Tryz.prog Zpl w) false (World.laidAll Tryz.prog os Zpl) #[.slice none 0 0,.bool false] 12 (World.laidAll_os _ _ _)
      (World.shaped_of_ZipB (by kernel_rfl) (by kernel_rfl)) (by kernel_rfl) (by kernel_rfl) (by kernel_rfl)
      (by rw [MakeChecks.laidMetH_plain _ _ _ (by kernel_rfl)];exact laidMet_laidAll _ (by kernel_rfl) (by kernel_rfl))) Zclf (by kernel_rfl) rfl rfl Zcmu ?_
  intro W base args ds p hval hA hwt hL hsh;have hlen: ∃d1 d2,ds= [d1,d2]:=by have hA':DataW.TrodAll enc Tryz.prog W 0 (fun _=>true) true [Tryz.f3.params[0]!,Tryz.f3.params[1]!] args.toList ds p:=hA;obtain ⟨v0,v1,e0,e1,p0,p1,_,h2,_⟩:=trodAll_two hA';exact ⟨e0,e1,h2⟩
  obtain ⟨d1,d2,rfl⟩:=hlen;refine ⟨rfl,?_⟩;obtain ⟨vs⟩:=args;obtain ⟨l1,l2⟩:=Zclg hL hsh;exact Zctr Zcpt Zcft (fun x hw hz=>Zchi x.1 x.2.1) (fun j t v h1 h2=>hval j t v (by simpa using h1) (by simpa using h2)) hA hwt l1 l2
theorem Zcba:Rows.UpdReadsSaid:=
  OpenClaim.holds_of_wide 3 Tryz.f3 rfl rfl rfl rfl rfl rfl rfl ⟨rfl,rfl,rfl,rfl,rfl⟩ rfl rfl rfl rfl rfl (by kernel_rfl) Tryz.func3 (by kernel_rfl)
    (of_decide_eq_true (by kernel_rfl)) (by unfold Func.isWrapper;first | (rw [if_pos (by decide+kernel)];kernel_rfl) | (rw [if_neg (by decide+kernel)];exact ⟨rfl,rfl⟩))
    (fun os started H enc _=>Zcuw os started H enc)
theorem updReads_holds:Rows.UpdReadsCardSaid:=
  Claim7.holds_tied_plain_at .later [] [.data,.data,.data] true (true,"bb3b5ec16c9421e712b01cdcdb084bc958df27ca0c693300235cb81f8c2d3a20") false
    Zcba (fun _ h=>by cases h) (by kernel_rfl) (fun _ h=>by cases h) updReads_row_tie rfl ⟨rfl,rfl⟩ (by kernel_rfl) rfl
    (fun f fn hf hfn=>by
      obtain rfl:f=3:=Option.some.inj ((show Tryz.prog.funcNamed "pointsman/pointsmanlaw21.UpdReads" =some 3 by kernel_rfl).symm.trans hf) |>.symm
      obtain rfl:fn=Tryz.f3:=(Option.some.inj (Tryz.func3.symm.trans hfn)).symm;exact ⟨by kernel_rfl,Zcmd (by kernel_rfl)⟩)
    (by kernel_rfl)
#print axioms updReads_holds
end Go.Proofs.YthdffaojeghaeaaGreatDoor
