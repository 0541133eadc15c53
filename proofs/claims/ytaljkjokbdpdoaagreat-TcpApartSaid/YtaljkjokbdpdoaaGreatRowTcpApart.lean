/-
  'pointsmanlaw16.TcpApart' returns true whatever the input,and the input reads as it did. Conditions:none beyond those of the given statement.
-/
import Derived.Test.YtaljkjokbdpdoaaGreatXC
set_option linter.all false
namespace Go.Proofs.YtaljkjokbdpdoaaGreat
open Go.Sh Go.Pc Go.Conn Go.ChangeShapes Go.WideShapes Go.ChangeAt Go.RowKit
theorem Zcay:ownKnob Tryz.prog.godebug=none:=by kernel_rfl
theorem Zcaw:laidOutB Tryz.prog=true:=by kernel_rfl
set_option maxRecDepth 100000 in
theorem Zcax (os:Os) (started:os.Started) (H:Type) (enc:TypeId×Value->H):
    ReturnsInHanded {} Tryz.checked os 3 .any (Rows.tcpApartSpec.pre6 enc Tryz.prog Tryz.f3 Rows.tcpApartRow.domain false) (Rows.tcpApartSpec.post enc Tryz.prog Tryz.f3 false true false false):=by
  refine lifted (C:=Tryz.checked) (tb:=Zbq) Zcay started (by kernel_rfl) Tryz.func3
    (ChangeSpec.witness6 (enc:=enc) (C:=Tryz.checked) false ⟨#[],#[.int .u32 0,.slice none 0 0],[]⟩ 8 (by kernel_rfl) (by kernel_rfl) (by kernel_rfl) (by kernel_rfl)) Zcaw (by kernel_rfl) rfl rfl Zbiq ?_
  intro W base args ds p hval0 hA0;obtain ⟨args⟩:=args;have hval: ∀(j:Nat) t v,Tryz.f3.params[j]? =some t->args[j]? =some v->Value.okWide Tryz.prog W .any base t v:=fun j t v h1 h2=>hval0 j t v h1 (by simpa using h2)
  have hA:DataW.TrodAll enc Tryz.prog W 0 (fun _=>true) true Tryz.f3.params.toList args ds p:=hA0;rw [Tryz.params3] at hA hval;obtain ⟨v0,vs0,d0,ds0,p0,q0,rfl,rfl,rfl,h0,hA⟩:=trodAll_cons hA;obtain ⟨v1,vs1,d1,ds1,p1,q1,rfl,rfl,rfl,h1,hA⟩:=trodAll_cons hA;obtain ⟨rfl,rfl,rfl⟩:=trodAll_nil hA;refine ⟨rfl,?_⟩;obtain ⟨x0,rfl⟩:=okWide_int Zbbf (hval 0 Zfg v0 rfl rfl);obtain ⟨n0,b0,rfl⟩:=Zbst h0;obtain ⟨a,n,cap,rfl,ha⟩:=Zbwl (hval 1 Zny v1 rfl rfl) h1;exact apart_spec b0 ha
theorem tcpApart_holds:Rows.TcpApartSaid:=
  OpenClaim.holds_of_wide 3 Tryz.f3 rfl rfl rfl rfl rfl rfl rfl ⟨rfl,rfl,rfl,rfl,rfl⟩ rfl rfl rfl rfl rfl (by kernel_rfl) Tryz.func3 (by kernel_rfl)
    (of_decide_eq_true (by kernel_rfl)) (by unfold Func.isWrapper;first | (rw [if_pos (by decide+kernel)];kernel_rfl) | (rw [if_neg (by decide+kernel)];exact ⟨rfl,rfl⟩))
    (fun os started H enc _=>Zcax os started H enc)
#print axioms tcpApart_holds
end Go.Proofs.YtaljkjokbdpdoaaGreat
