/-
 'pointsmanlaw25.GramTexts' returns true whatever the input,and the input reads as it did. Conditions:none beyond those of the given statement (the listed package-level variables are laid as the program's text lays them).
-/
import Derived.Test.YtlkdgfolbllngaaGreatDoorRowS
import Derived.Test.YtlkdgfolbllngaaGreatDoorFA
set_option linter.all false
namespace Go.Proofs.YtlkdgfolbllngaaGreatDoor
open Go.Sh Go.ChangeShapes Go.WideShapes Go.ChangeAt Go.RowKit
theorem Zbzj:pksL Tryz.prog Tryz.f5.params.toList=some Zbtp:=by kernel_rfl
set_option maxRecDepth 100000 in
theorem Zbzi (os:Os) (started:os.Started) (H:Type) (enc:TypeId×Value->H):
  ReturnsInHanded {} Tryz.checked os 5 .any (fun w args=>(Rows.gramTextsSpec.pre enc Tryz.prog Tryz.f5 Rows.gramTextsRow.domain false w args∧laidMetH Tryz.prog Zrp w)∧sizedMet enc Tryz.prog Tryz.f5 (OpenSpec.ofChange Rows.gramTextsSpec) false w args)
   (Rows.gramTextsSpec.post enc Tryz.prog Tryz.f5 false true false false):=by
 refine Zcby (C:=Tryz.checked) (tb:=Zbhu) (laid:=Zrp) Zcgc started (by kernel_rfl) Tryz.func5
  (ChangeSpec.witness_shaped (enc:=enc) (C:=Tryz.checked) (os:=os) (X:=fun w _=>laidMetH Tryz.prog Zrp w) false (World.laidAll Tryz.prog os Zrp) #[.string ⟨#[]⟩] 12 (World.laidAll_os _ _ _)
   (World.shaped_of_ZipB (by kernel_rfl) (by kernel_rfl)) (by kernel_rfl) (by kernel_rfl) (by kernel_rfl)
   (by rw [MakeChecks.laidMetH_plain _ _ _ (by kernel_rfl)];exact laidMet_laidAll _ (by kernel_rfl) (by kernel_rfl))) Zcgb (by kernel_rfl) rfl rfl Zcga ?_
 intro W base args ds p hval hA hwt hL hsh;have hlen: ∃d1,ds= [d1]:=by have hA':DataW.TrodAll enc Tryz.prog W 0 (fun _=>true) true [Tryz.f5.params[0]!] args.toList ds p:=hA;obtain ⟨v0,e0,_,h2,_⟩:=trodAll_one hA';exact ⟨e0,h2⟩
 obtain ⟨d1,rfl⟩:=hlen;refine ⟨rfl,?_⟩;obtain ⟨vs⟩:=args;obtain ⟨l1,l2⟩:=Zcge hL hsh;exact Zcbn Zclp Zbzj (fun x hw hz=>rfl) (fun j t v h1 h2=>hval j t v (by simpa using h1) (by simpa using h2)) hA hwt l1 l2
theorem Zbzk:Rows.GramTextsSaid:=
 OpenClaim.holds_of_wide 5 Tryz.f5 rfl rfl rfl rfl rfl rfl rfl ⟨rfl,rfl,rfl,rfl,rfl⟩ rfl rfl rfl rfl rfl (by kernel_rfl) Tryz.func5 (by kernel_rfl)
  (of_decide_eq_true (by kernel_rfl)) (by unfold Func.isWrapper;first | (rw [if_pos (by decide+kernel)];kernel_rfl) | (rw [if_neg (by decide+kernel)];exact ⟨rfl,rfl⟩))
  (fun os started H enc _=>Zbzi os started H enc)
theorem gramTexts_holds:Rows.GramTextsCardSaid:=
 Claim7.holds_tied_plain_at .later [] [.data,.data,.data,.data,.sentinel,.sentinel,.pinned] true (true,"c4104bf2cebdfa01eb93f73322d4dc9bf024a0232eab27cad2fd09b48d4b7eee") true
  Zbzk (fun _ h=>by cases h) (by kernel_rfl) (fun _ h=>by cases h) gramTexts_row_tie rfl ⟨rfl,rfl⟩ (by kernel_rfl) rfl
  (fun f fn hf hfn=>by
   obtain rfl:f=5:=Option.some.inj ((show Tryz.prog.funcNamed "pointsman/pointsmanlaw25.GramTexts" =some 5 by kernel_rfl).symm.trans hf) |>.symm
   obtain rfl:fn=Tryz.f5:=(Option.some.inj (Tryz.func5.symm.trans hfn)).symm;exact ⟨by kernel_rfl,Zcco (by kernel_rfl)⟩)
  (by kernel_rfl)
#print axioms gramTexts_holds
end Go.Proofs.YtlkdgfolbllngaaGreatDoor
