/-
  What the rows of this seat share:the listed variables,the table that is read.
-/
import Derived.Test.YthdffaojeghaeaaGreatDoorQ
import Derived.Test.YthdffaojeghaeaaGreatDoorTie
import Derived.Test.YthdffaojeghaeaaGreatDoorCards
import Derived.LaidMore
import Derived.Lay
import Derived.SevenTiedAt
set_option linter.all false
namespace Go.Proofs.YthdffaojeghaeaaGreatDoor
open Go.Sh Go.ChangeShapes Go.WideShapes Go.ChangeAt Go.RowKit
def Zpl:List (String×DataW Unit):=[("math/bits.deBruijn32tab",Rows.laid_math_bits_deBruijn32tab),("math/bits.deBruijn64tab",Rows.laid_math_bits_deBruijn64tab),("internal/strconv.uint64pow10",Rows.laid_internal_strconv_uint64pow10)]
theorem Zchc:ownKnob Tryz.prog.godebug=none:=by kernel_rfl
theorem Zclf:laidOutB Tryz.prog=true:=by kernel_rfl
theorem Zcmu:Tryz.prog.underlying Zbci=some .bool:=by kernel_rfl
theorem Zclg {W:World} (h:laidMetH Tryz.prog Zpl W) (hsh:W.ShapedOpen Tryz.prog):(∀b,Laid.blocks b=true->hp W b≠none)∧Laid.ok (layH (hp W)):=by
  rw [MakeChecks.laidMetH_plain _ _ _ (by kernel_rfl)] at h
  have h3:laidMet Tryz.prog [("internal/strconv.uint64pow10",Lib.tabData .u64 Lib.pow10Tab)] W:=(laidMet.tail (laidMet.tail h));have ht:=Lib.tabIs_of_head (g:=Zjv) (t:=Zcfk) (e:=Zcvd) (n:=20) (by kernel_rfl) (by kernel_rfl) (by kernel_rfl) (by kernel_rfl) (by kernel_rfl) (by kernel_rfl) h3
  unfold Lib.TabIs World.var? at ht;rw [Zbjt,Option.bind_some] at ht;have hg: ∃T fr,W.heap[Zjv]? =some (.cells Zto T fr):=by split at ht;rename_i cs T fr hh;cases ht;exact ⟨T,fr,hh⟩;cases ht
  obtain ⟨T,fr,hg⟩:=hg;have e:hp W Zjv=some (.cells Zto T fr):=hg;refine ⟨fun b hb=>?_,T,fr,e⟩;obtain rfl:b=Zjv:=Nat.eq_of_beq_eq_true hb;rw [e];exact fun h=>by cases h
theorem Zcmd {fn:Func} (h:(fn.params.toList.all fun t=>!Tryz.prog.wantsStandIn t)=true) (j:Nat) (t:TypeId) (ht:fn.params[j]? =some t):Tryz.prog.wantsStandIn t=false:=by
  have hm:t∈fn.params.toList:=List.mem_of_getElem? (i:=j) (by rw [Array.getElem?_toList];exact ht)
  have:=List.all_eq_true.1 h t hm;simpa using this
end Go.Proofs.YthdffaojeghaeaaGreatDoor
