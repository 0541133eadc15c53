/-
  'pointsmanlaw16.TcpSums' returns true whatever the input,and the input reads as it did. Conditions:none beyond those of the given statement.
-/
import Derived.Test.YtaljkjokbdpdoaaGreatXC
set_option linter.all false
namespace Go.Proofs.YtaljkjokbdpdoaaGreat
open Go.Sh Go.Pc Go.Conn Go.ChangeShapes Go.WideShapes Go.ChangeAt Go.RowKit
theorem Zcca:ownKnob Tryz.prog.godebug=none:=by kernel_rfl
theorem Zcby:laidOutB Tryz.prog=true:=by kernel_rfl
set_option maxRecDepth 100000 in
theorem Zcbz (os:Os) (started:os.Started) (H:Type) (enc:TypeId×Value->H):
    ReturnsInHanded {} Tryz.checked os 5 .any (Rows.tcpSumsSpec.pre6 enc Tryz.prog Tryz.f5 Rows.tcpSumsRow.domain false) (Rows.tcpSumsSpec.post enc Tryz.prog Tryz.f5 false true false false):=by
  refine lifted (C:=Tryz.checked) (tb:=Zbs) Zcca started (by kernel_rfl) Tryz.func5
    (ChangeSpec.witness6 (enc:=enc) (C:=Tryz.checked) false ⟨#[],#[.int .u32 0,.int .u32 0,.slice none 0 0],[]⟩ 8 (by kernel_rfl) (by kernel_rfl) (by kernel_rfl) (by kernel_rfl)) Zcby (by kernel_rfl) rfl rfl Zbja ?_
  intro W base args ds p hval0 hA0;obtain ⟨args⟩:=args;have hval: ∀(j:Nat) t v,Tryz.f5.params[j]? =some t->args[j]? =some v->Value.okWide Tryz.prog W .any base t v:=fun j t v h1 h2=>hval0 j t v h1 (by simpa using h2)
  have hA:DataW.TrodAll enc Tryz.prog W 0 (fun _=>true) true Tryz.f5.params.toList args ds p:=hA0;rw [Tryz.params5] at hA hval;obtain ⟨v0,vs0,d0,ds0,p0,q0,rfl,rfl,rfl,h0,hA⟩:=trodAll_cons hA;obtain ⟨v1,vs1,d1,ds1,p1,q1,rfl,rfl,rfl,h1,hA⟩:=trodAll_cons hA;obtain ⟨v2,vs2,d2,ds2,p2,q2,rfl,rfl,rfl,h2,hA⟩:=trodAll_cons hA;obtain ⟨rfl,rfl,rfl⟩:=trodAll_nil hA;refine ⟨rfl,?_⟩;obtain ⟨x0,rfl⟩:=okWide_int Zbbk (hval 0 Zgr v0 rfl rfl);obtain ⟨x1,rfl⟩:=okWide_int Zbbl (hval 1 Zfg v1 rfl rfl);obtain ⟨n0,b0,rfl⟩:=Zbtc h0;obtain ⟨n1,b1,rfl⟩:=Zbtd h1;obtain ⟨a,n,cap,rfl,ha⟩:=Zbxd (hval 2 Znx v2 rfl rfl) h2;exact Zcbu b0 b1 ha
theorem tcpSums_holds:Rows.TcpSumsSaid:=
  OpenClaim.holds_of_wide 5 Tryz.f5 rfl rfl rfl rfl rfl rfl rfl ⟨rfl,rfl,rfl,rfl,rfl⟩ rfl rfl rfl rfl rfl (by kernel_rfl) Tryz.func5 (by kernel_rfl)
    (of_decide_eq_true (by kernel_rfl)) (by unfold Func.isWrapper;first | (rw [if_pos (by decide+kernel)];kernel_rfl) | (rw [if_neg (by decide+kernel)];exact ⟨rfl,rfl⟩))
    (fun os started H enc _=>Zcbz os started H enc)
#print axioms tcpSums_holds
end Go.Proofs.YtaljkjokbdpdoaaGreat
