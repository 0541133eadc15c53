/-
 Maps from numbers to numbers,over the heap.
-/
import Derived.Test.YtlkdgfolbllngaaGreatDoorEB
set_option linter.all false
section
namespace Go.Sh
structure MapTy (P:Program) (t kt el:TypeId):Prop where
 und:P.underlying t=some (.map kt el)
 key:P.underlying kt=some (.int .i64)
 zero: ∃it,P.info? el=some it∧it.zero=some (.int .i64 0)
section
variable {P:Program} {t kt el:TypeId} {H:Heap}
theorem Zchb {el:TypeId} {it:TypeInfo} {z:Value} {K:Value->Heap->Prop} (h1:P.info? el=some it) (h2:it.zero=some z) (hk:K z H):SemW P (zeroValue el) H K:=by
 unfold zeroValue typeInfo;show SemW P ((match P.info? el with | some d=>pure d | none=>stuck "no such type")>>= fun i=>match i.zero with | some v=>pure v | none=>unsupported (.resourceLimit "a value of more than 2^22 cells")) H K
 rw [h1];show SemW P (match it.zero with | some v=>pure v | none=>unsupported (.resourceLimit "a value of more than 2^22 cells")) H K
 rw [h2];exact hk
end
end Go.Sh
end
section
namespace Go.Sh
section
variable {P:Program} {t kt el:TypeId} {H:Heap}
end
end Go.Sh
end
section
namespace Go.Sh
structure KeyTy (P:Program) (kt:TypeId) {κ:Type} [DecidableEq κ] (kv:κ->Value):Prop where
 chk: ∀(a:κ) (e:Bool) (H:Heap) (K:Unit->Heap->Prop),K () H->SemW P (Instr.checkKey e 10000 kt (kv a)) H K
 eq: ∀a b:κ,Zca P 6 kt (kv a) (kv b)=some (decide (a=b))
 now: ∀a b:κ,∀d r,P.underlying kt=some d->Instr.sameNow d (kv a) (kv b)=some r->r=decide (a=b)
 und: ∃d,P.underlying kt=some d
structure MapG (P:Program) (t kt el:TypeId) (z:Value):Prop where
 und:P.underlying t=some (.map kt el)
 zero: ∃it,P.info? el=some it∧it.zero=some z
section
variable {κ:Type} [DecidableEq κ] {kv:κ->Value}
abbrev Gv (κ:Type):=κ×Value×Nat
def entG (kv:κ->Value) (e:Gv κ):MapEntry:={ key:=kv e.1,val:=e.2.1,born:=e.2.2 }
def MapB (kv:κ->Value) (H:Heap) (b:Nat) (es:List (Gv κ)) (ck:Nat):Prop:=H b=some (.map ⟨es.map (entG kv)⟩ ck)
theorem MapB.same {H H':Heap} {b:Nat} {es:List (Gv κ)} {ck:Nat} (h:MapB kv H b es ck) (e:H' b=H b):MapB kv H' b es ck:=by unfold MapB at h ⊢;rw [e];exact h
theorem MapB.some {H:Heap} {b:Nat} {es:List (Gv κ)} {ck:Nat} (h:MapB kv H b es ck):H b≠none:=by unfold MapB at h;rw [h];simp
theorem MapB.keep {S:Nat->Prop} {H H':Heap} {b:Nat} {es:List (Gv κ)} {ck:Nat} (h:MapB kv H b es ck) (k:Keep S H H') (hs: ¬S b):MapB kv H' b es ck:=h.same (k.same b hs h.some)
def getG (k:κ):List (Gv κ)->Option Value
 | []=>none
 | e::es=>if k=e.1 then some e.2.1 else getG k es
def idxG (k:κ):List (Gv κ)->Nat->Option (Nat×Value)
 | [],_=>none
 | e::es,i=>if k=e.1 then some (i,e.2.1) else idxG k es (i+1)
theorem Zvl (k:κ): ∀(es:List (Gv κ)) (i:Nat),(idxG k es i).map (·.2)=getG k es
 | [],_=>rfl
 | e::es,i=>by unfold idxG getG;split;rfl;exact Zvl k es (i+1)
variable {P:Program} {t kt el:TypeId} {H:Heap} {z:Value}
theorem Zbkl (T:KeyTy P kt kv) {d:TypeDesc} (hd:P.underlying kt=some d) (k:κ): ∀(es:List (Gv κ)) (i:Nat) (w:Option (Nat×Value)),Instr.findNow d (kv k) (es.map (entG kv)) i=some w->w=idxG k es i
 | [],i,w,h=>by cases h;rfl
 | e::es,i,w,h=>by simp only [List.map_cons,Instr.findNow] at h;have hs:=T.now k e.1 d;unfold idxG;split at h;rename_i h1;cases h;have:=hs true hd h1;rw [if_pos (of_decide_eq_true this.symm)];rfl;rename_i h1;have:=hs false hd h1;rw [if_neg (of_decide_eq_false this.symm)];exact Zbkl T hd k es (i+1) w h;cases h
theorem Zbkk (T:KeyTy P kt kv) (k:κ): ∀(es:List (Gv κ)) (i:Nat) (K:Option (Nat×Value)->Heap->Prop),K (idxG k es i) H->SemW P (Instr.findAsking kt (kv k) (es.map (entG kv)) i) H K
 | [],i,K,h=>h
 | e::es,i,K,h=>by
  unfold idxG at h;simp only [List.map_cons];unfold Instr.findAsking;refine (SemW.bind _ _ _ _).2 ?_;refine Zbpy 6 Op.maxDepth (by unfold Op.maxDepth;omega) kt (kv k) (entG kv e).key (decide (k=e.1)) H _ (T.eq k e.1) ?_
  by_cases hk:k=e.1;rw [if_pos hk] at h;rw [decide_eq_true hk];exact h;rw [if_neg hk] at h;rw [decide_eq_false hk];exact Zbkk T k es (i+1) K h
theorem Zbco (T:KeyTy P kt kv) {k:κ} {es:List (Gv κ)} {K:Option (Nat×Value)->Heap->Prop} (h:K (idxG k es 0) H):SemW P (Instr.findKey kt (kv k) (es.map (entG kv))) H K:=by obtain ⟨d,hd⟩:=T.und;unfold Instr.findKey;refine (SemW.bind _ _ _ _).2 (Zp hd ?_);split;rename_i w hw;rw [← Zbkl T hd k es 0 w hw] at h;exact h;exact Zbkk T k es 0 K h
theorem LkG (T:KeyTy P kt kv) (M:MapG P t kt el z) {b:Nat} {es:List (Gv κ)} {ck:Nat} {k:κ} {K:Value->Heap->Prop} (hm:MapB kv H b es ck)
  (h:K ((getG k es).getD z) H):SemW P (Instr.lookup t (.map (some b)) (kv k) false) H K:=by
 obtain ⟨it,hi,hz⟩:=M.zero;unfold Instr.lookup;refine (SemW.bind _ _ _ _).2 (Zp M.und ?_);refine (SemW.bind _ _ _ _).2 ?_;refine ⟨_,hm,rfl,?_⟩;refine (SemW.bind _ _ _ _).2 ?_;show SemW P (Instr.checkKey _ 10000 kt (kv k)>>= _) H _;refine (SemW.bind _ _ _ _).2 (T.chk _ _ _ _ ?_);refine (SemW.bind _ _ _ _).2 (Zbco T ?_);have hg:=Zvl k es 0;cases hf:idxG k es 0 with
 | some p=>
  rw [hf] at hg;have hg:getG k es=some p.2:=hg.symm;rw [hg] at h;exact h
 | none=>
  rw [hf] at hg;have hg:getG k es=none:=hg.symm;rw [hg] at h;show SemW P (zeroValue el>>= _) H _;exact (SemW.bind _ _ _ _).2 (Zchb hi hz h)
theorem MuG (T:KeyTy P kt kv) (M:MapG P t kt el z) {b:Nat} {es:List (Gv κ)} {ck:Nat} {k:κ} {v:Value} {K:Unit->Heap->Prop} (hm:MapB kv H b es ck) (hn:getG k es=none)
  (h: ∀H',H'=H.upd b (.map ⟨(es++[(k,v,ck)]).map (entG kv)⟩ (ck+1))->K () H'):SemW P (Instr.mapUpdate t (.map (some b)) (kv k) v) H K:=by
 unfold Instr.mapUpdate;refine (SemW.bind _ _ _ _).2 (Zp M.und ?_);refine (SemW.bind _ _ _ _).2 ?_;refine ⟨_,hm,rfl,?_⟩;refine (SemW.bind _ _ _ _).2 (T.chk _ _ _ _ ?_);refine (SemW.bind _ _ _ _).2 (Zbco T ?_);have hg:=Zvl k es 0;rw [hn] at hg;cases hf:idxG k es 0 with
 | some p=>rw [hf] at hg;cases hg
 | none=>
  refine ⟨⟨_,hm,rfl,rfl⟩,?_⟩;have e:(⟨es.map (entG kv)⟩:Array MapEntry).push { key:=kv k,val:=v,born:=ck }=⟨(es++[(k,v,ck)]).map (entG kv)⟩:=by apply Array.ext';simp [entG]
  rw [e];exact h _ rfl
end
end Go.Sh
end
