/-
  'pointsmanlaw25.GramBack' returns true whatever the input,and the input reads as it did. Conditions:none beyond those of the given statement (the listed package-level variables are laid as the program's text lays them).
-/
import Derived.Test.YtlkdgfolbllngaaGreatDoorRowS
import Derived.Test.YtlkdgfolbllngaaGreatDoorFA
set_option linter.all false
namespace Go.Proofs.YtlkdgfolbllngaaGreatDoor
open Go.Sh Go.ChangeShapes Go.WideShapes Go.ChangeAt Go.RowKit
set_option maxRecDepth 100000 in
theorem Zbws (os:Os) (started:os.Started) (H:Type) (enc:TypeId×Value->H):
    ReturnsInHanded {} Tryz.checked os 4 .any (fun w args=>(Rows.gramBackSpec.pre enc Tryz.prog Tryz.f4 Rows.gramBackRow.domain false w args∧laidMetH Tryz.prog Zqm w)∧sizedMet enc Tryz.prog Tryz.f4 (OpenSpec.ofChange Rows.gramBackSpec) false w args)
      (Rows.gramBackSpec.post enc Tryz.prog Tryz.f4 false true false false):=by
  refine Zbys (C:=Tryz.checked) (tb:=Zkh) (laid:=Zqm) Zcck started (by kernel_rfl) Tryz.func4
    (ChangeSpec.witness_shaped (enc:=enc) (C:=Tryz.checked) (os:=os) (X:=fun w _=>laidMetH Tryz.prog Zqm w) false (World.laidAll Tryz.prog os Zqm) #[.agg ⟨[.int .u32 0,.int .u32 0,.int .i64 0,.int .i64 0,.int .i64 0,.slice none 0 0,.slice none 0 0]⟩] 12 (World.laidAll_os _ _ _)
      (World.shaped_of_ZipB (by kernel_rfl) (by kernel_rfl)) (by kernel_rfl) (by kernel_rfl) (by kernel_rfl)
      (by rw [MakeChecks.laidMetH_plain _ _ _ (by kernel_rfl)];exact laidMet_laidAll _ (by kernel_rfl) (by kernel_rfl))) Zccj (by kernel_rfl) rfl rfl Zcci ?_
  intro W base args ds p hval hA hwt hL hsh;obtain ⟨args⟩:=args;have hval': ∀(j:Nat) t v,Tryz.f4.params[j]? =some t->args[j]? =some v->Value.okWide Tryz.prog W .any base t v:=fun j t v h1 h2=>hval j t v h1 (by simpa using h2)
  have hA':DataW.TrodAll enc Tryz.prog W 0 (fun _=>true) true Tryz.f4.params.toList args ds p:=hA;rw [Tryz.params4] at hA' hval';obtain ⟨v0,vs0,d0,ds0,p0,q0,rfl,rfl,rfl,h0,hA'⟩:=trodAll_cons hA';obtain ⟨rfl,rfl,rfl⟩:=trodAll_nil hA';refine ⟨rfl,?_⟩;obtain ⟨l1,l2⟩:=Zccm hL hsh;obtain ⟨vs,rfl,hin⟩:=Zcgi (hval' 0 Zz v0 rfl rfl) h0;exact Zbuj ⟨l1,l2⟩ hin
theorem Zbwt:Rows.GramBackSaid:=
  OpenClaim.holds_of_wide 4 Tryz.f4 rfl rfl rfl rfl rfl rfl rfl ⟨rfl,rfl,rfl,rfl,rfl⟩ rfl rfl rfl rfl rfl (by kernel_rfl) Tryz.func4 (by kernel_rfl)
    (of_decide_eq_true (by kernel_rfl)) (by unfold Func.isWrapper;first | (rw [if_pos (by decide+kernel)];kernel_rfl) | (rw [if_neg (by decide+kernel)];exact ⟨rfl,rfl⟩))
    (fun os started H enc _=>Zbws os started H enc)
theorem gramBack_holds:Rows.GramBackCardSaid:=
  Claim7.holds_tied_plain_at .later [] [.data,.data,.data,.data,.sentinel,.sentinel,.pinned] true (true,"c4104bf2cebdfa01eb93f73322d4dc9bf024a0232eab27cad2fd09b48d4b7eee") true
    Zbwt (fun _ h=>by cases h) (by kernel_rfl) (fun _ h=>by cases h) gramBack_row_tie rfl ⟨rfl,rfl⟩ (by kernel_rfl) rfl
    (fun f fn hf hfn=>by
      obtain rfl:f=4:=Option.some.inj ((show Tryz.prog.funcNamed "pointsman/pointsmanlaw25.GramBack" =some 4 by kernel_rfl).symm.trans hf) |>.symm
      obtain rfl:fn=Tryz.f4:=(Option.some.inj (Tryz.func4.symm.trans hfn)).symm;exact ⟨by kernel_rfl,Zbze (by kernel_rfl)⟩)
    (by kernel_rfl)
#print axioms gramBack_holds
end Go.Proofs.YtlkdgfolbllngaaGreatDoor
