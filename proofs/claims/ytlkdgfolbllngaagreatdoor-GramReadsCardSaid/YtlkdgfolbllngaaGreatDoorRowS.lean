/-
  What the row of the law of texts needs:the listed variables,and what is read of them.
-/
import Derived.Test.YtlkdgfolbllngaaGreatDoorQ
import Derived.Test.YtlkdgfolbllngaaGreatDoorTie
import Derived.Test.YtlkdgfolbllngaaGreatDoorCards
import Derived.LaidMore
import Derived.Lay
import Derived.SevenTiedAt
import Derived.Stop.LaidErr
set_option linter.all false
namespace Go.Proofs.YtlkdgfolbllngaaGreatDoor
open Go.Sh Go.ChangeShapes Go.WideShapes Go.ChangeAt Go.RowKit
def Zqp:List (String×DataW Unit):=[("math/bits.deBruijn32tab",Rows.laid_math_bits_deBruijn32tab),("math/bits.deBruijn64tab",Rows.laid_math_bits_deBruijn64tab),("internal/strconv.uint64pow10",Rows.laid_internal_strconv_uint64pow10),("unicode/utf8.acceptRanges",Rows.laid_unicode_utf8_acceptRanges),("strconv.ErrRange",Rows.laid_strconv_ErrRange),("strconv.ErrSyntax",Rows.laid_strconv_ErrSyntax),("unicode/utf8.first",Rows.laid_unicode_utf8_first)]
theorem Zcct:ownKnob Tryz.prog.godebug=none:=by kernel_rfl
theorem Zccs:laidOutB Tryz.prog=true:=by kernel_rfl
theorem Zccr:Tryz.prog.underlying Zbgv=some .bool:=by kernel_rfl
theorem Zboe: "*" ++ "errors.errorString" = "*errors.errorString" :=by decide
theorem Zbod (u:TypeId) (h:Tryz.prog.typeName? 3 u=some "*errors.errorString"):u=Zbuf:=
  typeName_ptr_named (nm:= "errors.errorString") (by rw [Zboe];kernel_rfl) (by kernel_rfl) (by decide) u (by rw [Zboe];exact h)
theorem Zbix {W:World} {n:String} {g:Nat} (hg:Tryz.prog.globalNamed n=some g) {te:TypeId} {pe:Value} (h:W.var? Tryz.prog n=some #[.iface te pe]):isErr (fun b=>W.heap[b]?) g:=by unfold World.var? at h;rw [hg,Option.bind_some] at h;split at h;rename_i cs T fr hh;cases h;exact ⟨te,pe,T,fr,hh⟩;cases h
theorem Zccv {W:World} (h:laidMetH Tryz.prog Zqp W) (hsh:W.ShapedOpen Tryz.prog):(∀b,Laid.blocks b=true->hp W b≠none)∧Laid.ok (layH (hp W)):=by
  rw [MakeChecks.laidMetH_plain _ _ _ (by kernel_rfl)] at h
  have h3:laidMet Tryz.prog (("internal/strconv.uint64pow10",Lib.tabData .u64 Lib.pow10Tab)::[("unicode/utf8.acceptRanges",Rows.laid_unicode_utf8_acceptRanges),("strconv.ErrRange",Rows.laid_strconv_ErrRange),("strconv.ErrSyntax",Rows.laid_strconv_ErrSyntax),("unicode/utf8.first",Rows.laid_unicode_utf8_first)]) W:=(laidMet.tail (laidMet.tail h));have ht:=Lib.tabIs_of_head (g:=Zku) (t:=Zbud) (e:=Zbug) (n:=20) (by kernel_rfl) (by kernel_rfl) (by kernel_rfl) (by kernel_rfl) (by kernel_rfl) (by kernel_rfl) h3
  have h5:=laidMet.tail (laidMet.tail h3);obtain ⟨a1,s1,hv1,_⟩:=laid_sentinel h5 (g:=Zmr) (ti:=Zbgw) (te:=Zbgx) (ts:=Zcv) (by kernel_rfl) (by kernel_rfl) Tryz.underlying109 Zbod Tryz.underlying212 Tryz.underlying214 rfl rfl Tryz.underlying9 (by kernel_rfl) (by kernel_rfl)
  obtain ⟨a2,s2,hv2,_⟩:=laid_sentinel (laidMet.tail h5) (g:=Zms) (ti:=Zbgw) (te:=Zbgx) (ts:=Zcv) (by kernel_rfl) (by kernel_rfl) Tryz.underlying109 Zbod Tryz.underlying212 Tryz.underlying214 rfl rfl Tryz.underlying9 (by kernel_rfl) (by kernel_rfl)
  have e1:=Zbix (g:=Zmr) (by kernel_rfl) hv1
  have e2:=Zbix (g:=Zms) (by kernel_rfl) hv2
  unfold Lib.TabIs World.var? at ht;rw [Zbng,Option.bind_some] at ht;have hg: ∃T fr,W.heap[Zku]? =some (.cells Zbdq T fr):=by split at ht;rename_i cs T fr hh;cases ht;exact ⟨T,fr,hh⟩;cases ht
  have hm: ∃m cs T fr,W.heap[Zjk]? =some (.cells cs T fr)∧cs[0]? =some (.int .i64 m):=by
    obtain ⟨m,hm⟩:=cell_of_shapedOpen_int (g:=Zjk) (zero:=#[.int .i64 0]) (t:=Zls) hsh (of_decide_eq_true (by kernel_rfl)) (by kernel_rfl) rfl (by kernel_rfl) (by kernel_rfl) Tryz.underlying3
    unfold World.cell? at hm;cases ho:W.heap[Zjk]? with
    | none=>simp [ho] at hm
    | some o=>
      cases o with
      | cells cs T fr=>exact ⟨m,cs,T,fr,rfl,by simpa [ho] using hm⟩
      | _=>simp [ho] at hm
  refine ⟨fun b hb=>?_,hg,hm,e2,e1⟩;obtain ⟨T,fr,hg⟩:=hg;obtain ⟨m,cs,T2,fr2,hm,_⟩:=hm;obtain ⟨te1,pe1,T3,fr3,e1⟩:=e1;obtain ⟨te2,pe2,T4,fr4,e2⟩:=e2;have hb':(Nat.beq b Zku||(Nat.beq b Zjk||(Nat.beq b Zms||Nat.beq b Zmr)))=true:=hb;simp only [Bool.or_eq_true] at hb';have hlive: ∀{g:Nat} {o:Obj},W.heap[g]? =some o->Nat.beq b g=true->hp W b≠none:=fun {g o} ho hbg=>by obtain rfl:b=g:=Nat.eq_of_beq_eq_true hbg;have:hp W b=some o:=ho;rw [this];exact fun h=>by cases h
  rcases hb' with h | h | h | h;exact hlive hg h;exact hlive hm h;exact hlive e2 h;exact hlive e1 h
theorem Zbzj {fn:Func} (h:(fn.params.toList.all fun t=>!Tryz.prog.wantsStandIn t)=true) (j:Nat) (t:TypeId) (ht:fn.params[j]? =some t):Tryz.prog.wantsStandIn t=false:=by
  have hm:t∈fn.params.toList:=List.mem_of_getElem? (i:=j) (by rw [Array.getElem?_toList];exact ht)
  have:=List.all_eq_true.1 h t hm;simpa using this
end Go.Proofs.YtlkdgfolbllngaaGreatDoor
