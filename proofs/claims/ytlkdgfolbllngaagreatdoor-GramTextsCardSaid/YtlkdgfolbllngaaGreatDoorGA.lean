/-
 Words of a text:what is split has its bound.
-/
import Derived.Test.YtlkdgfolbllngaaGreatDoorLX
import Derived.Test.YtlkdgfolbllngaaGreatDoorED
import Derived.Test.YtlkdgfolbllngaaGreatDoorBI
set_option linter.all false
section
namespace Go.Proofs.YtlkdgfolbllngaaGreatDoor
open Go.Sh
theorem Zcbu: ∀(k:Nat) (s:List UInt8) (line:Int) (l:List Tok),s.length <= k->l.length <= 4096->(lex s line l).1.length <= 4096:=by
 intro k;induction k with
 | zero=>
  intro s line l h hl;rw [show s= [] from List.eq_nil_of_length_eq_zero (by omega),Zlw];exact hl
 | succ k ih=>
  intro s line l h hl;cases s with
  | nil=>rw [Zlw];exact hl
  | cons c r=>
   simp only [List.length_cons] at h;rw [Zob];have hr: ∀(p:UInt8->Bool),(r.dropWhile p).length <= k:=fun p=>by have:=Znd (p:=p) r;omega
   have hp: ∀(t:Tok) (u:List UInt8),u.length <= k->(Zfl l line (lex u line) t).1.length <= 4096:=fun t u hu=>by unfold Zfl;split;simp;refine ih _ _ _ hu ?_;rw [List.length_append,List.length_singleton];omega
   split;exact ih _ _ _ (by omega) hl
   split;exact ih _ _ _ (by omega) hl
   split;split;exact ih _ _ _ (hr _) hl;simp;split;exact hp _ _ (by omega)
   split;split;exact hp _ _ (hr _);simp;simp
end Go.Proofs.YtlkdgfolbllngaaGreatDoor
end
section
namespace Go.Proofs.YtlkdgfolbllngaaGreatDoor
open Go.Sh
inductive Cd where
 | mk (op:Int) (l:List Cd) (pa pl n:Int)
inductive Sm where
 | mk (op:Int) (c:Cd) (th el:List Sm) (n m:Int)
structure Pl where
 name:List UInt8
 l:List Sm
structure Pr where
 name:List UInt8
 addr:Int
 as_:Int
 waits:Bool
 max:Int
 in_:List UInt8
 out:List UInt8
structure Sp where
 as_:Int
 router:Int
 hold:Int
 retry:Int
 grace:Int
 pols:List Pl
 peers:List Pr
abbrev Rs (α:Type):=Except Nat (α×Nat)
def bS {α β:Type} (r:Rs α) (f:α->Nat->Rs β):Rs β:=match r with
 | .ok (x,i)=>f x i
 | .error e=> .error e
def sB {α:Type} (σ:Except Nat Nat) (f:Nat->Rs α):Rs α:=match σ with
 | .ok i=>f i
 | .error e=> .error e
abbrev Zgz:List UInt8:=[110,111,116]
abbrev w_lp:List UInt8:=[40]
abbrev w_rp:List UInt8:=[41]
abbrev w_or:List UInt8:=[111,114]
abbrev Zfm:List UInt8:=[97,110,100]
abbrev w_is:List UInt8:=[105,115]
abbrev w_in:List UInt8:=[105,110]
abbrev w_le:List UInt8:=[108,101]
abbrev Zdi:List UInt8:=[112,114,101,102,105,120]
abbrev Zbv:List UInt8:=[112,97,116,104]
abbrev Zdh:List UInt8:=[99,111,109,109,117,110,105,116,121]
abbrev Zbe:List UInt8:=[111,114,105,103,105,110]
abbrev Zbj:List UInt8:=[109,101,100]
abbrev Zey:List UInt8:=[104,97,115]
abbrev Zfo:List UInt8:=[102,114,111,109]
abbrev Zgm:List UInt8:=[108,111,110,103,101,114]
abbrev Zgl:List UInt8:=[105,110,110,101,114]
abbrev Zha:List UInt8:=[111,117,116,101,114]
abbrev Zhy:List UInt8:=[117,110,107,110,111,119,110]
abbrev Zjn:List UInt8:=[97,98,111,118,101]
abbrev w_rb:List UInt8:=[125]
abbrev w_lb:List UInt8:=[123]
abbrev w_if:List UInt8:=[105,102]
abbrev Zfy:List UInt8:=[101,108,115,101]
abbrev Zdt:List UInt8:=[97,99,99,101,112,116]
abbrev Zce:List UInt8:=[114,101,106,101,99,116]
abbrev Zco:List UInt8:=[112,114,101,112,101,110,100]
abbrev Zcu:List UInt8:=[108,111,99,97,108]
abbrev Zee:List UInt8:=[97,100,100]
abbrev Zes:List UInt8:=[100,114,111,112]
abbrev Zfn:List UInt8:=[99,108,101,97,114]
abbrev w_sc:List UInt8:=[59]
abbrev w_as:List UInt8:=[97,115]
abbrev Zit:List UInt8:=[119,97,105,116,115]
abbrev Zfz:List UInt8:=[109,97,120]
abbrev Zcn:List UInt8:=[111,117,116]
abbrev Zcr:List UInt8:=[112,111,108,105,99,121]
abbrev Zbx:List UInt8:=[112,101,101,114]
abbrev Zcs:List UInt8:=[115,121,115,116,101,109]
abbrev Zda:List UInt8:=[114,111,117,116,101,114]
abbrev Zdv:List UInt8:=[104,111,108,100]
abbrev Zej:List UInt8:=[114,101,116,114,121]
abbrev Zdu:List UInt8:=[103,114,97,99,101,102,117,108]
section
variable (l:List Tok)
def isT (s:List UInt8) (i:Nat):Bool:=match l[i]? with
 | some t=>t.2.1==s
 | none=>false
def tokS (k:Int) (i:Nat):Rs Tok:=match l[i]? with
 | some t=>if t.1=k then .ok (t,i+1) else .error i
 | none=> .error i
def numS (k:Int) (i:Nat):Rs Int:=bS (tokS l k i) fun t j=> .ok (t.2.2.1,j)
def txtS (k:Int) (i:Nat):Rs (List UInt8):=bS (tokS l k i) fun t j=> .ok (t.2.1,j)
def Zcv (s:List UInt8) (i:Nat):Rs Unit:=if isT l s i then .ok ((),i+1) else .error i
def Zff (op:Int) (k:Int) (i:Nat):Rs Cd:=bS (numS l k i) fun n j=> .ok (.mk op [] 0 0 n,j)
def Zhu (i:Nat):Rs Cd:=
 if isT l w_is i then bS (tokS l 4 (i+1)) fun t j=> .ok (.mk 5 [] t.2.2.2.1.toNat t.2.2.2.2.1 0,j)
 else bS (Zcv l w_in i) fun _ j=>bS (tokS l 4 j) fun t k=>if isT l w_le k then bS (numS l 2 (k+1)) fun n m=> .ok (.mk 4 [] t.2.2.2.1.toNat t.2.2.2.2.1 n,m) else .ok (.mk 4 [] t.2.2.2.1.toNat t.2.2.2.2.1 32,k)
def Zhr (i:Nat):Rs Cd:=
 if isT l Zey i then Zff l 6 2 (i+1) else if isT l Zfo i then Zff l 7 2 (i+1) else if isT l Zbe i then Zff l 8 2 (i+1) else if isT l Zgm i then Zff l 9 2 (i+1) else .error i
def Zfj (i:Nat):Rs Cd:=
 if isT l Zgl i then .ok (.mk 11 [] 0 0 0,i+1) else if isT l Zha i then .ok (.mk 11 [] 0 0 1,i+1) else if isT l Zhy i then .ok (.mk 11 [] 0 0 2,i+1) else .error i
def Zcz (i:Nat):Rs Cd:=
 if isT l Zdi i then Zhu l (i+1) else if isT l Zbv i then Zhr l (i+1) else if isT l Zdh i then Zff l 10 5 (i+1) else if isT l Zbe i then Zfj l (i+1)
 else if isT l Zbj i then bS (Zcv l Zjn (i+1)) fun _ j=>Zff l 12 2 j else .error i
def Zfs (one:Nat->Rs Cd) (w:List UInt8):Nat->Nat->Rs (List Cd)
 | 0,i=> .error i
 | f+1,i=>if isT l w i then bS (one (i+1)) fun c j=>bS (Zfs one w f j) fun cs k=> .ok (c::cs,k) else .ok ([],i)
def Zkg (op:Int) (c:Cd):List Cd->Cd
 | []=>c
 | d::cs=> .mk op (c::d::cs) 0 0 0
def Zii (one:Nat->Rs Cd) (w:List UInt8) (op:Int) (i:Nat):Rs Cd:=bS (one i) fun c j=>bS (Zfs l one w (l.length+1) j) fun cs k=> .ok (Zkg op c cs,k)
def allW (one:Nat->Rs Cd) (i:Nat):Rs Cd:=Zii l one Zfm 1 i
def anyW (one:Nat->Rs Cd) (i:Nat):Rs Cd:=Zii l (allW l one) w_or 2 i
def oneS:Nat->Nat->Nat->Rs Cd
 | 0,_,i=> .error i
 | f+1,d,i=>
  if isT l Zgz i then (if d=24 then .error i else bS (oneS f (d+1) (i+1)) fun c j=> .ok (.mk 3 [c] 0 0 0,j))
  else if isT l w_lp i then (if d=24 then .error i else bS (anyW l (oneS f (d+1)) (i+1)) fun c j=>bS (Zcv l w_rp j) fun _ k=> .ok (c,k))
  else Zcz l i
def anyS (d:Nat) (i:Nat):Rs Cd:=anyW l (oneS l (25 - d) d) i
def Zer (stmt:Nat->Rs Sm):Nat->Nat->Rs (List Sm)
 | 0,i=> .error i
 | f+1,i=>if isT l w_rb i then .ok ([],i+1) else bS (stmt i) fun s j=>bS (Zer stmt f j) fun ss k=> .ok (s::ss,k)
def Zfr (stmt:Nat->Rs Sm) (d:Nat) (i:Nat):Rs (List Sm):=if isT l w_lb i then (if d=24 then .error i else Zer l stmt (l.length+1) (i+1)) else .error i
def endS {α:Type} (x:α) (i:Nat):Rs α:=bS (Zcv l w_sc i) fun _ j=> .ok (x,j)
def Zki (i:Nat):Rs Sm:=
 if isT l Zdt i then endS l (.mk 2 (.mk 0 [] 0 0 0) [] [] 0 0) (i+1)
 else if isT l Zce i then endS l (.mk 3 (.mk 0 [] 0 0 0) [] [] 0 0) (i+1)
 else if isT l Zco i then bS (numS l 2 (i+1)) fun n j=>bS (numS l 2 j) fun m k=>endS l (.mk 4 (.mk 0 [] 0 0 0) [] [] n m) k
 else if isT l Zcu i then bS (numS l 2 (i+1)) fun n j=>endS l (.mk 5 (.mk 0 [] 0 0 0) [] [] n 0) j
 else if isT l Zbj i then bS (numS l 2 (i+1)) fun n j=>endS l (.mk 6 (.mk 0 [] 0 0 0) [] [] n 0) j
 else if isT l Zee i then bS (numS l 5 (i+1)) fun n j=>endS l (.mk 7 (.mk 0 [] 0 0 0) [] [] n 0) j
 else if isT l Zes i then bS (numS l 5 (i+1)) fun n j=>endS l (.mk 8 (.mk 0 [] 0 0 0) [] [] n 0) j
 else if isT l Zfn i then endS l (.mk 9 (.mk 0 [] 0 0 0) [] [] 0 0) (i+1)
 else .error i
def Zli (inner:Nat->Rs (List Sm)) (i:Nat):Rs (List Sm):=if isT l Zfy i then inner (i+1) else .ok ([],i)
def Zhw (any:Nat->Rs Cd) (inner:Nat->Rs (List Sm)) (i:Nat):Rs Sm:=
 if isT l w_if i then bS (any (i+1)) fun c j=>bS (inner j) fun t k=>bS (Zli l inner k) fun e m=> .ok (.mk 1 c t e 0 0,m) else Zki l i
def smS:Nat->Nat->Nat->Rs Sm
 | 0,_,i=> .error i
 | f+1,d,i=>Zhw l (anyS l d) (Zfr l (smS f (d+1)) d) i
def Zmv (d:Nat) (i:Nat):Rs (List Sm):=Zer l (smS l (25 - d) d) (l.length+1) i
def mayS {α:Type} (w:List UInt8) (f:Nat->Rs α) (x:α) (i:Nat):Rs α:=if isT l w i then f (i+1) else .ok (x,i)
def Zhs (i:Nat):Rs Pr:=
 bS (txtS l 1 i) fun nm j=>bS (numS l 3 j) fun ad j=>bS (Zcv l w_as j) fun _ j=>bS (numS l 2 j) fun as_ j=>
 bS (mayS l Zit (fun k=> .ok (true,k)) false j) fun wt j=>bS (mayS l Zfz (numS l 2) 0 j) fun mx j=>
 bS (mayS l w_in (txtS l 1) [] j) fun i_ j=>bS (mayS l Zcn (txtS l 1) [] j) fun o_ j=>
 endS l ⟨nm,IntKind.wrap .u32 ad,IntKind.wrap .u32 as_,wt,mx,i_,o_⟩ j
def setS (k:Int) (f:Int->Sp) (i:Nat):Rs Sp:=bS (numS l k i) fun n j=>endS l (f n) j
def Zcl (s:Sp) (i:Nat):Rs Sp:=
 if isT l Zcr i then bS (txtS l 1 (i+1)) fun nm j=>bS (Zcv l w_lb j) fun _ j=>bS (Zmv l 0 j) fun b j=> .ok ({ s with pols:=s.pols++[⟨nm,b⟩] },j)
 else if isT l Zbx i then bS (Zhs l (i+1)) fun p j=> .ok ({ s with peers:=s.peers++[p] },j)
 else if isT l Zcs i then setS l 2 (fun n=>{ s with as_:=IntKind.wrap .u32 n }) (i+1)
 else if isT l Zda i then setS l 3 (fun n=>{ s with router:=IntKind.wrap .u32 n }) (i+1)
 else if isT l Zdv i then setS l 2 (fun n=>{ s with hold:=n }) (i+1)
 else if isT l Zej i then setS l 2 (fun n=>{ s with retry:=n }) (i+1)
 else if isT l Zdu i then setS l 2 (fun n=>{ s with grace:=n }) (i+1)
 else .error i
def Zcx:Nat->Sp->Nat->Except Nat Sp
 | 0,_,i=> .error i
 | f+1,s,i=>if i<l.length then (match Zcl l s i with
  | .ok (t,j)=>Zcx f t j
  | .error e=> .error e) else .ok s
def Zhv:Sp:=⟨0,0,90,30,0,[],[]⟩
def Zvx (i:Nat):Int:=if l.length=0 then 1 else match l[min i (l.length - 1)]? with
 | some t=>t.2.2.2.2.2
 | none=>0
end
def Oc {α:Type} (r:Rs α) (x:α) (σ:Except Nat Nat):Prop:=match r with
 | .ok (y,i)=>x=y∧σ= .ok i
 | .error e=>σ= .error e
end Go.Proofs.YtlkdgfolbllngaaGreatDoor
end
section
namespace Go.Proofs.YtlkdgfolbllngaaGreatDoor
open Go.Sh
section
variable {l:List Tok} {α β:Type}
theorem Zbih {r:Rs α} {f:α->Nat->Rs β} {y:β} {k:Nat} (h:bS r f= .ok (y,k)): ∃x j,r= .ok (x,j)∧f x j= .ok (y,k):=by unfold bS at h;split at h;exact ⟨_,_,rfl,h⟩;cases h
def Adv (l:List Tok) (S:Nat->Rs α):Prop:=∀i x j,S i= .ok (x,j)->i<j∧j <= l.length
def Adv0 (l:List Tok) (S:Nat->Rs α):Prop:=∀i x j,i <= l.length->S i= .ok (x,j)->i <= j∧j <= l.length
theorem Adv.zero {S:Nat->Rs α} (h:Adv l S):Adv0 l S:=fun i x j _ e=>⟨Nat.le_of_lt (h i x j e).1,(h i x j e).2⟩
theorem Zkd {s:List UInt8} {i:Nat} (h:isT l s i=true):i<l.length:=by unfold isT at h;split at h;rename_i t e;exact (List.getElem?_eq_some_iff.1 e).1;cases h
theorem Zxs (k:Int):Adv l (tokS l k):=fun i x j h=>by unfold tokS at h;split at h;rename_i t e;have:=(List.getElem?_eq_some_iff.1 e).1;split at h;cases h;omega;cases h;cases h
theorem Adv.bind {S:Nat->Rs α} {f:α->Nat->Rs β} (h:Adv l S) (h2: ∀x,Adv0 l (f x)):Adv l fun i=>bS (S i) f:=fun i y k e=>by obtain ⟨x,j,e1,e2⟩:=Zbih e;have:=h i x j e1;have:=h2 x j y k this.2 e2;omega
theorem Adv0.bind {S:Nat->Rs α} {f:α->Nat->Rs β} (h:Adv0 l S) (h2: ∀x,Adv0 l (f x)):Adv0 l fun i=>bS (S i) f:=fun i y k hi e=>by obtain ⟨x,j,e1,e2⟩:=Zbih e;have:=h i x j hi e1;have:=h2 x j y k this.2 e2;omega
theorem Adv0.pure (x:α):Adv0 l fun i=> .ok (x,i):=fun i y k hi e=>by cases e;exact ⟨Nat.le_refl _,hi⟩
theorem Zid:Adv l (α:=α) fun i=> .error i:=fun i y k e=>by cases e
theorem Adv.tok {s:List UInt8} {S T:Nat->Rs α} (h1:Adv0 l S) (h2:Adv l T):Adv l fun i=>if isT l s i then S (i+1) else T i:=fun i y k e=>by
 dsimp only at e;split at e
 ·rename_i hc;have:=Zkd hc;have:=h1 _ _ _ (by omega) e
  omega
 exact h2 _ _ _ e
theorem Adv0.tok {s:List UInt8} {S T:Nat->Rs α} (h1:Adv0 l S) (h2:Adv0 l T):Adv0 l fun i=>if isT l s i then S (i+1) else T i:=fun i y k hi e=>by
 dsimp only at e;split at e
 ·rename_i hc;have:=Zkd hc;have:=h1 _ _ _ (by omega) e
  omega
 exact h2 _ _ _ hi e
theorem Zgx (k:Int):Adv l (numS l k):=(Zxs k).bind fun t=>Adv0.pure _
theorem Zxv (k:Int):Adv l (txtS l k):=(Zxs k).bind fun t=>Adv0.pure _
theorem Zpb (s:List UInt8):Adv l (Zcv l s):=Adv.tok (S:=fun i=> .ok ((),i)) (Adv0.pure ()) Zid
theorem Zmy (op k:Int):Adv l (Zff l op k):=(Zgx k).bind fun t=>Adv0.pure _
theorem Zceb:Adv l (Zhu l):=
 Adv.tok (S:=fun i=>bS (tokS l 4 i) _) (((Zxs 4).bind fun t=>Adv0.pure _).zero) ((Zpb _).bind fun _=>((Zxs 4).bind fun t=>Adv0.tok (S:=fun i=>bS (numS l 2 i) _) (((Zgx 2).bind fun _=>Adv0.pure _).zero) (Adv0.pure _)).zero)
theorem Zcdl:Adv l (Zhr l):=Adv.tok (Zmy _ _).zero (Adv.tok (Zmy _ _).zero (Adv.tok (Zmy _ _).zero (Adv.tok (Zmy _ _).zero Zid)))
theorem Zcdc:Adv l (Zfj l):=Adv.tok (S:=fun i=> .ok (_,i)) (Adv0.pure _) (Adv.tok (S:=fun i=> .ok (_,i)) (Adv0.pure _) (Adv.tok (S:=fun i=> .ok (_,i)) (Adv0.pure _) Zid))
theorem Zciu:Adv l (Zcz l):=Adv.tok Zceb.zero (Adv.tok Zcdl.zero (Adv.tok (Zmy _ _).zero (Adv.tok Zcdc.zero (Adv.tok (S:=fun i=>bS (Zcv l Zjn i) _) (((Zpb _).bind fun _=>(Zmy _ _).zero).zero) Zid))))
theorem Zbnf {one:Nat->Rs Cd} (h:Adv l one) (w:List UInt8): ∀f,Adv0 l (Zfs l one w f)
 | 0=>Zid.zero
 | f+1=>Adv0.tok (S:=fun i=>bS (one i) _) ((h.bind fun c=>(Zbnf h w f).bind fun cs=>Adv0.pure _).zero) (Adv0.pure _)
theorem Zbdl {one:Nat->Rs Cd} (h:Adv l one) (w:List UInt8) (op:Int):Adv l (Zii l one w op):=h.bind fun c=>(Zbnf h w _).bind fun cs=>Adv0.pure _
theorem Zbib {one:Nat->Rs Cd} (h:Adv l one):Adv l (anyW l one):=Zbdl (Zbdl h _ _) _ _
theorem Zrv: ∀f d,Adv l (oneS l f d)
 | 0,d=>Zid
 | f+1,d=>fun i x j e=>by unfold oneS at e;split at e;rename_i hc;have:=Zkd hc;split at e;cases e;have:=((Zrv f (d+1)).bind fun c=>Adv0.pure (Cd.mk 3 [c] 0 0 0)) _ _ _ e;omega;split at e;rename_i hc;have:=Zkd hc;split at e;cases e;have:=((Zbib (Zrv f (d+1))).bind fun c=>((Zpb w_rp).bind fun _=>Adv0.pure c).zero) _ _ _ e;omega;exact Zciu _ _ _ e
theorem Zbwy (d:Nat):Adv l (anyS l d):=Zbib (Zrv _ _)
theorem Zbfa {stmt:Nat->Rs Sm} (h:Adv l stmt): ∀f,Adv l (Zer l stmt f)
 | 0=>Zid
 | f+1=>Adv.tok (S:=fun i=> .ok ([],i)) (Adv0.pure _) (h.bind fun s=>((Zbfa h f).bind fun ss=>Adv0.pure _).zero)
theorem Zcab {stmt:Nat->Rs Sm} (h:Adv l stmt) (d:Nat):Adv l (Zfr l stmt d):=fun i x j e=>by unfold Zfr at e;split at e;rename_i hc;have:=Zkd hc;split at e;cases e;have:=Zbfa h _ _ _ _ e;omega;cases e
theorem Zic (x:α):Adv l (endS l x):=(Zpb _).bind fun _=>Adv0.pure x
theorem Zcec:Adv l (Zki l):=
 Adv.tok (Zic _).zero (Adv.tok (Zic _).zero (Adv.tok (S:=fun i=>bS (numS l 2 i) _) (((Zgx 2).bind fun _=>((Zgx 2).bind fun _=>(Zic _).zero).zero).zero)
  (Adv.tok (S:=fun i=>bS (numS l 2 i) _) (((Zgx 2).bind fun _=>(Zic _).zero).zero) (Adv.tok (S:=fun i=>bS (numS l 2 i) _) (((Zgx 2).bind fun _=>(Zic _).zero).zero)
  (Adv.tok (S:=fun i=>bS (numS l 5 i) _) (((Zgx 5).bind fun _=>(Zic _).zero).zero) (Adv.tok (S:=fun i=>bS (numS l 5 i) _) (((Zgx 5).bind fun _=>(Zic _).zero).zero) (Adv.tok (Zic _).zero Zid)))))))
theorem Zbys {inner:Nat->Rs (List Sm)} (h:Adv l inner):Adv0 l (Zli l inner):=Adv0.tok h.zero (Adv0.pure _)
theorem Zcht {any:Nat->Rs Cd} {inner:Nat->Rs (List Sm)} (h1:Adv l any) (h2:Adv l inner):Adv l (Zhw l any inner):=
 Adv.tok (S:=fun i=>bS (any i) _) ((h1.bind fun c=>(h2.bind fun t=>(Zbys h2).bind fun e=>Adv0.pure _).zero).zero) Zcec
theorem Zxf: ∀f d,Adv l (smS l f d)
 | 0,_=>Zid
 | f+1,d=>Zcht (Zbwy d) (Zcab (Zxf f (d+1)) d)
theorem Zbxi (d:Nat):Adv l (Zmv l d):=Zbfa (Zxf _ _) _
theorem Zwb {w:List UInt8} {f:Nat->Rs α} {x:α} (h:Adv0 l f):Adv0 l (mayS l w f x):=Adv0.tok h (Adv0.pure x)
theorem Zcdo:Adv l (Zhs l):=
 (Zxv 1).bind fun _=>((Zgx 3).bind fun _=>((Zpb _).bind fun _=>((Zgx 2).bind fun _=>(Zwb (Adv0.pure _)).bind fun _=>(Zwb (Zgx 2).zero).bind fun _=>(Zwb (Zxv 1).zero).bind fun _=>(Zwb (Zxv 1).zero).bind fun _=>(Zic _).zero).zero).zero).zero
theorem Zse (k:Int) (f:Int->Sp):Adv l (setS l k f):=(Zgx k).bind fun _=>(Zic _).zero
theorem Zcah (s:Sp):Adv l (Zcl l s):=
 Adv.tok (S:=fun i=>bS (txtS l 1 i) _) (((Zxv 1).bind fun _=>((Zpb _).bind fun _=>((Zbxi 0).bind fun _=>Adv0.pure _).zero).zero).zero)
  (Adv.tok (S:=fun i=>bS (Zhs l i) _) ((Zcdo.bind fun _=>Adv0.pure _).zero) (Adv.tok (Zse _ _).zero (Adv.tok (Zse _ _).zero (Adv.tok (Zse _ _).zero (Adv.tok (Zse _ _).zero (Adv.tok (Zse _ _).zero Zid))))))
end
end Go.Proofs.YtlkdgfolbllngaaGreatDoor
end
section
set_option maxRecDepth 100000
namespace Go.Proofs.YtlkdgfolbllngaaGreatDoor
open Go.Sh Go.Pc
def tokL (t:Tok):List Value:=[.int .i64 t.1,.string (bstr t.2.1),.int .i64 t.2.2.1,.int .u32 (t.2.2.2.1.toNat:Int),.int .i64 t.2.2.2.2.1,.int .i64 t.2.2.2.2.2]
def rowL {α:Type} (f:α->List Value) (l:List α):List Value:=l.flatMap f
inductive CdAt (F:Heap):List Value->Cd->Prop
 | mk (op pa pl n:Int) (a:Option Addr) (c:Nat) (vs:List (List Value)) (l:List Cd) (hr:Reads F a (l.length*5) vs.flatten) (hl:vs.length=l.length) (hc:l.length <= c∧l.length <= 100001)
   (hm: ∀(i:Nat) (v:List Value) (d:Cd),vs[i]? =some v->l[i]? =some d->CdAt F v d):CdAt F [.int .i64 op,.slice a l.length c,.int .u32 pa,.int .i64 pl,.int .i64 n] (.mk op l pa pl n)
inductive SmAt (F:Heap):List Value->Sm->Prop
 | mk (op n m:Int) (cv:List Value) (c:Cd) (a b:Option Addr) (ac bc:Nat) (vs ws:List (List Value)) (th el:List Sm) (hcv:CdAt F cv c)
   (hr:Reads F a (th.length*10) vs.flatten) (hl:vs.length=th.length) (hac:th.length <= ac∧th.length <= 100001) (hm: ∀(i:Nat) (v:List Value) (d:Sm),vs[i]? =some v->th[i]? =some d->SmAt F v d)
   (hr2:Reads F b (el.length*10) ws.flatten) (hl2:ws.length=el.length) (hbc:el.length <= bc∧el.length <= 100001) (hm2: ∀(i:Nat) (v:List Value) (d:Sm),ws[i]? =some v->el[i]? =some d->SmAt F v d):
   SmAt F (.int .i64 op::(cv++[.slice a th.length ac,.slice b el.length bc,.int .i64 n,.int .i64 m])) (.mk op c th el n m)
structure RwAt {α:Type} (P:Heap->List Value->α->Prop) (sz:Nat) (F:Heap) (a:Option Addr) (c:Nat) (l:List α):Prop where
 ex: ∃vs:List (List Value),Reads F a (l.length*sz) vs.flatten∧vs.length=l.length∧∀(i:Nat) (v:List Value) (d:α),vs[i]? =some v->l[i]? =some d->P F v d
 cap:l.length <= c∧l.length <= 100001
def PlAt (F:Heap) (v:List Value) (p:Pl):Prop:=∃(a:Option Addr) (c:Nat),v= [.string (bstr p.name),.slice a p.l.length c]∧RwAt SmAt 10 F a c p.l
def PrAt (_:Heap) (v:List Value) (p:Pr):Prop:=v= [.string (bstr p.name),.int .u32 p.addr,.int .u32 p.as_,.bool p.waits,.int .i64 p.max,.string (bstr p.in_),.string (bstr p.out)]
section
variable {F F' H H':Heap} {α:Type}
theorem CdAt.grow {v:List Value} {c:Cd} (h:CdAt F v c) (k:Keep Nil F F'):CdAt F' v c:=by
 induction h with
 | mk op pa pl n a c vs l hr hl hc hm ih=>exact .mk op pa pl n a c vs l (hr.keep k fun _ _ h=>h) hl hc ih
theorem SmAt.grow {v:List Value} {c:Sm} (h:SmAt F v c) (k:Keep Nil F F'):SmAt F' v c:=by
 induction h with
 | mk op n m cv c a b ac bc vs ws th el hcv hr hl hac hm hr2 hl2 hbc hm2 ih ih2=>exact .mk op n m cv c a b ac bc vs ws th el (hcv.grow k) (hr.keep k fun _ _ h=>h) hl hac ih (hr2.keep k fun _ _ h=>h) hl2 hbc ih2
theorem RwAt.grow {P:Heap->List Value->α->Prop} {sz:Nat} {a:Option Addr} {c:Nat} {l:List α} (h:RwAt P sz F a c l) (k:Keep Nil F F') (hP: ∀v x,P F v x->P F' v x):RwAt P sz F' a c l:=by obtain ⟨vs,h1,h2,h3⟩:=h.ex;exact ⟨⟨vs,h1.keep k fun _ _ h=>h,h2,fun i v d e1 e2=>hP _ _ (h3 i v d e1 e2)⟩,h.cap⟩
theorem PlAt.grow {v:List Value} {p:Pl} (h:PlAt F v p) (k:Keep Nil F F'):PlAt F' v p:=by obtain ⟨a,c,e,r⟩:=h;exact ⟨a,c,e,r.grow k fun _ _ h=>h.grow k⟩
theorem CdAt.len {v:List Value} {c:Cd} (h:CdAt F v c):v.length=5:=by cases h;rfl
theorem SmAt.len {v:List Value} {c:Sm} (h:SmAt F v c):v.length=10:=by cases h with | mk op n m cv c a b ac bc vs ws th el hcv=>simp [hcv.len]
def SOk (d i:Nat) (dp:Int) (bad:Bool):Except Nat Nat->Prop
 | .ok j=>j=i∧dp=d∧bad=false
 | .error j=>j=i∧bad=true
structure Gr (T:TypeId) (F H:Heap) (pb:Nat) (l:List Tok) (d:Nat) (σ:Except Nat Nat):Prop where
 fr:Keep Nil F H
 cells: ∀b,F b≠none->∃c T fr,F b=some (.cells c T fr)
 np:F pb=none
 lim:l.length <= 4096
 deep:d <= 24
 blk: ∃(a:Option Addr) (c i:Nat) (dp:Int) (bad:Bool),Blk H pb T ⟨[.slice a l.length c,.int .i64 i,.int .i64 dp,.bool bad]⟩∧Reads F a (l.length*6) (rowL tokL l)∧i <= l.length∧SOk d i dp bad σ
structure Nx (F H F' H':Heap) (pb:Nat):Prop where
 ff:Keep Nil F F'
 kp:Keep (fun y=>y=pb) H H'
 new: ∀b,F' b≠none->F b≠none∨H b=none
theorem Nx.refl {pb:Nat}:Nx F H F H pb:=⟨Keep.refl _ _,Keep.refl _ _,fun _ h=> .inl h⟩
theorem Nx.trans {F'' H'':Heap} {pb:Nat} (h1:Nx F H F' H' pb) (h2:Nx F' H' F'' H'' pb):Nx F H F'' H'' pb:=
 ⟨h1.ff.trans h2.ff,h1.kp.trans h2.kp,fun b hb=>(h2.new b hb).elim (h1.new b) fun e=> .inr (h1.kp.free e)⟩
end
end Go.Proofs.YtlkdgfolbllngaaGreatDoor
end
section
set_option maxRecDepth 100000
namespace Go.Proofs.YtlkdgfolbllngaaGreatDoor
open Go.Sh Go.Pc
section
variable {T:TypeId} {F F' H H1 H':Heap} {pb d:Nat} {l:List Tok} {σ σ':Except Nat Nat} {α β:Type}
theorem Zbmb (fr:Keep Nil F H) (np:F pb=none) (k:Keep (fun y=>y=pb) H H'):Keep Nil F H':=
 ⟨fun b _ hb=>by
  have hne:b≠pb:=fun e=>hb (e▸np);rw [k.same b hne (fr.live b hb)];exact fr.same b id hb,fun b hb=>k.live b (fr.live b hb)⟩
theorem Gr.nil (h:Gr T F H pb l d σ) (k:Keep Nil H H'):Gr T F H' pb l d σ:=by obtain ⟨a,c,i,dp,bad,hb,r⟩:=h.blk;exact ⟨h.fr.trans k,h.cells,h.np,h.lim,h.deep,a,c,i,dp,bad,k.blk hb fun h=>h,r⟩
theorem Gr.other (h:Gr T F H pb l d σ) {S:Nat->Prop} (k:Keep S H H') (h1: ¬S pb) (h2: ∀b,S b->F b=none):Gr T F H' pb l d σ:=by obtain ⟨a,c,i,dp,bad,hb,r⟩:=h.blk;refine ⟨⟨fun b _ hb=>?_,fun b hb=>k.live b (h.fr.live b hb)⟩,h.cells,h.np,h.lim,h.deep,a,c,i,dp,bad,k.blk hb h1,r⟩;rw [k.same b (fun e=>hb (h2 b e)) (h.fr.live b hb)];exact h.fr.same b id hb
theorem Gr.live (h:Gr T F H pb l d σ):H pb≠none:=by obtain ⟨a,c,i,dp,bad,hb,r⟩:=h.blk;exact hb.some
theorem Gr.shut (h:Gr T F H pb l d σ) {H0:Heap} (hs:Shut H0 H H'):Gr T F H' pb l d σ:=by obtain ⟨a,c,i,dp,bad,hb,r⟩:=h.blk;refine ⟨⟨fun b _ hb=>?_,fun b hb=>?_⟩,h.cells,h.np,h.lim,h.deep,a,c,i,dp,bad,Zol hb hs,r⟩;rcases hs b with e | ⟨_,e,_⟩;rw [e];exact h.fr.same b id hb;obtain ⟨c,T,fr,e2⟩:=h.cells b hb;rw [h.fr.same b id hb,e2] at e;cases e;rcases hs b with e | ⟨_,_,e⟩;rw [e];exact h.fr.live b hb;rw [e];simp
theorem Nx.shut (h:Nx F H F' H1 pb) (hs:Shut H H1 H'):Nx F H F' H' pb:=⟨h.ff,Zbqe h.kp hs,h.new⟩
theorem Nx.nil (k:Keep Nil H H'):Nx F H F H' pb:=⟨Keep.refl _ _,k.mono fun _ h=>h.elim,fun _ h=> .inl h⟩
theorem Nx.own (k:Keep (fun y=>y=pb) H H'):Nx F H F H' pb:=⟨Keep.refl _ _,k,fun _ h=> .inl h⟩
def Out (T:TypeId) (F H:Heap) (pb:Nat) (l:List Tok) (d:Nat) (Q:Heap->Value->Except Nat Nat->Prop) (v:Value) (H':Heap):Prop:=∃F' σ',Gr T F' H' pb l d σ'∧Nx F H F' H' pb∧Q F' v σ'
theorem Out.shut {Q:Heap->Value->Except Nat Nat->Prop} {v:Value} (h:Out T F H pb l d Q v H1) (hs:Shut H H1 H'):Out T F H pb l d Q v H':=by obtain ⟨F',σ',g,n,q⟩:=h;exact ⟨F',σ',g.shut hs,n.shut hs,q⟩
theorem Gr.go (h:Gr T F H pb l d σ) {a:Option Addr} {c i' d':Nat} {dp:Int} {bad:Bool} (k:Keep (fun y=>y=pb) H H') (hb:Blk H' pb T ⟨[.slice a l.length c,.int .i64 i',.int .i64 dp,.bool bad]⟩) (hr:Reads F a (l.length*6) (rowL tokL l)) (hi:i' <= l.length) (hd:d' <= 24) (hσ:SOk d' i' dp bad σ'):Gr T F H' pb l d' σ':=
 ⟨Zbmb h.fr h.np k,h.cells,h.np,h.lim,hd,a,c,i',dp,bad,hb,hr,hi,hσ⟩
theorem row6 (f:α->List Value) (k:Nat) (hf: ∀x,(f x).length=k): ∀(l:List α) (i j:Nat) (t:α),l[i]? =some t->j<k->(rowL f l)[i*k+j]? =(f t)[j]?
 | [],i,j,t,h,_=>by simp at h
 | x::l,0,j,t,h,hj=>by simp only [List.getElem?_cons_zero,Option.some.injEq] at h;subst h;show (f x++rowL f l)[0*k+j]? =_;rw [Nat.zero_mul,Nat.zero_add,List.getElem?_append_left (by rw [hf];exact hj)]
 | x::l,i+1,j,t,h,hj=>by
  simp only [List.getElem?_cons_succ] at h;show (f x++rowL f l)[(i+1)*k+j]? =_;rw [List.getElem?_append_right (by rw [hf,Nat.succ_mul];omega),hf,← row6 f k hf l i j t h hj]
  congr 1;rw [Nat.succ_mul];omega
theorem Zxt {a:Option Addr} {i:Nat} {z:Int} {t:Tok} (fr:Keep Nil F H) (hr:Reads F a (l.length*6) (rowL tokL l)) (ht:l[i]? =some t) (hz:z=i) {K:Addr->Prop}
  (hK: ∀b o,(∀j,j<6->H.cell ⟨b,o+j,none⟩=(tokL t)[j]?)->K ⟨b,o,none⟩):NilP a fun q=>InB z l.length fun m=>elemAt q m 6 K:=by
 have hi:i<l.length:=(List.getElem?_eq_some_iff.1 ht).1;have hr2:=hr.keep fr fun _ _ h=>h;cases a with
 | none=>have:=hr.2;simp only at this;omega
 | some a=>
  obtain ⟨e2,_⟩:=hr.2 (by omega)
  obtain ⟨b,o,f⟩:=a;simp only at e2;subst e2;refine NilP.intro _ rfl (InB.intro i hz hi ?_);rw [Zud];refine hK b _ fun j hj=>?_;have:=hr2.cell (j:=i*6+j) (by omega)
  rw [row6 tokL 6 (fun _=>rfl) l i j t ht hj] at this;rw [← this];show H.cell ⟨b,o+i*6+j,none⟩=H.cell ⟨b,o+(i*6+j),none⟩;rw [Nat.add_assoc]
def isB (l:List Tok) (σ:Except Nat Nat) (s:List UInt8):Bool:=match σ with
 | .ok i=>isT l s i
 | .error _=>false
def Zwf (σ:Except Nat Nat):Except Nat Nat:=match σ with
 | .ok i=> .ok (i+1)
 | .error i=> .error i
def Znp (σ:Except Nat Nat):Except Nat Nat:=match σ with
 | .ok i=> .error i
 | .error i=> .error i
theorem Zbs {s:List UInt8} (h:isB l σ s=true): ∃i,σ= .ok i∧isT l s i=true:=by
 cases σ with
 | ok i=>exact ⟨i,rfl,h⟩
 | error i=>cases h
end
end Go.Proofs.YtlkdgfolbllngaaGreatDoor
end
section
set_option maxRecDepth 100000
namespace Go.Proofs.YtlkdgfolbllngaaGreatDoor
open Go.Sh Go.Pc
section
variable {F F' H H1 H':Heap} {pb d:Nat} {l:List Tok} {σ σ':Except Nat Nat}
theorem Zbhk (h:Gr Zg F H pb l d σ) (s:List UInt8):FnW Tryz.prog Zqw ⟨[.pointer (some ⟨pb,0,none⟩),.string (bstr s)]⟩ H fun v H'=>v= .bool (isB l σ s)∧Out Zg F H pb l d (fun F' _ σ'=>σ'=σ∧F'=F) v H':=by
 refine Zcmj pb (bstr s) ?_;unfold Zbur;have fin: ∀b:Bool,b=isB l σ s->∀H2,Shut H H H2->Value.bool b= .bool (isB l σ s)∧Out Zg F H pb l d (fun F' _ σ'=>σ'=σ∧F'=F) (.bool b) H2:=fun b e H2 hs=>⟨by rw [e],F,σ,h.shut hs,Nx.refl.shut hs,rfl,rfl⟩
 obtain ⟨a,c,i,dp,bad,hb,hr,hi,hσ⟩:=h.blk;refine ⟨bad,cellL hb 3 rfl,?_⟩;cases σ with
 | error j=>
  obtain ⟨rfl,rfl⟩:=hσ;exact ifF rfl (fin false rfl)
 | ok j=>
  obtain ⟨rfl,rfl,rfl⟩:=hσ;refine ifT rfl ⟨_,cellL hb 1 rfl,_,_,_,cellL hb 0 rfl,IfB.intro (fun e=>⟨_,_,_,cellL hb 0 rfl,_,cellL hb 1 rfl,?_⟩) fun e=>?_⟩
  ·have e:=of_decide_eq_true e;have hj:j<l.length:=by omega
   refine Zxt h.fr hr (List.getElem?_eq_getElem hj) rfl fun b o hc=>⟨_,hc 1 (by decide),fin _ ?_⟩
   rw [Zmw,Zmw];show _=isT l s j;unfold isT;rw [List.getElem?_eq_getElem hj]
  have e:=of_decide_eq_false e;refine fin false ?_;show _=isT l s j;unfold isT;rw [List.getElem?_eq_none (by omega)]
theorem Ziu (h:Gr Zg F H pb l d σ) (s:List UInt8):FnW Tryz.prog Zfq ⟨[.pointer (some ⟨pb,0,none⟩),.string (bstr s)]⟩ H fun v H'=>v= .bool (isB l σ s)∧Out Zg F H pb l d (fun F' _ σ'=>F'=F∧σ'=if isB l σ s then Zwf σ else σ) v H':=by
 refine Zckz pb (bstr s) ?_;unfold Zbso;refine (Zbhk h s).mono ?_;rintro _ H1 ⟨rfl,F1,_,g,n,rfl,rfl⟩;refine ⟨_,rfl,IfB.intro (fun e=>?_) fun e H2 hs=>⟨rfl,_,_,g.shut hs,n.shut hs,rfl,by rw [e];rfl⟩⟩
 obtain ⟨a,c,i,dp,bad,hb,hr,hi,hσ⟩:=g.blk;obtain ⟨j,rfl,ht⟩:=Zbs e;obtain ⟨rfl,rfl,rfl⟩:=hσ;have hj:=Zkd ht;have hlim:=g.lim;refine ⟨_,cellL hb 1 rfl,?_⟩;rw [Zbl (by omega) (by omega)]
 refine stL hb (by show 1<4;decide) rfl fun H2 hb2 k2 H3 hs=>⟨rfl,_,.ok (j+1),(g.go (σ':= .ok (j+1)) (i':=j+1) k2 hb2 hr (by omega) g.deep ⟨rfl,rfl,rfl⟩).shut hs,(n.trans (Nx.own k2)).shut hs,rfl,by rw [e];rfl⟩
theorem Zjo (h:Gr Zg F H pb l d σ) (s:List UInt8):FnW Tryz.prog Zhk ⟨[.pointer (some ⟨pb,0,none⟩),.string (bstr s)]⟩ H fun v H'=>v= .tuple ⟨[]⟩∧Out Zg F H pb l d (fun F' _ σ'=>F'=F∧Oc (sB σ (Zcv l s)) () σ') v H':=by
 refine Zclh pb (bstr s) ?_;unfold Zbtb;refine (Ziu h s).mono ?_;rintro _ H1 ⟨rfl,F1,σ1,g,n,rfl,e1⟩;obtain ⟨a,c,i,dp,bad,hb,hr,hi,hσ⟩:=g.blk;refine ⟨_,rfl,IfB.intro (fun e=>?_) fun e=>⟨_,cellL hb 3 rfl,?_⟩⟩
 ·have e:isB l σ s=false:=by simpa using e
  rw [e] at e1;have e1:σ1=σ:=e1;subst e1;refine stL hb (by show 3<4;decide) rfl fun H2 hb2 k2 H3 hs=>⟨rfl,_,.error i,(g.go (σ':= .error i) (i':=i) k2 hb2 hr hi g.deep ⟨rfl,rfl⟩).shut hs,(n.trans (Nx.own k2)).shut hs,rfl,?_⟩
  cases σ1 with
  | ok j=>
   obtain ⟨rfl,rfl,rfl⟩:=hσ;have e:isT l s j=false:=e;show Oc (Zcv l s j) () _;unfold Zcv;rw [e];rfl
  | error j=>
   obtain ⟨rfl,rfl⟩:=hσ;rfl
 ·have e:isB l σ s=true:=by simpa using e
  rw [e] at e1;obtain ⟨j,rfl,ht⟩:=Zbs e;have e1:σ1= .ok (j+1):=e1;subst e1;obtain ⟨h1,h2,rfl⟩:=hσ;refine stL hb (by show 3<4;decide) rfl fun H2 hb2 k2 H3 hs=>⟨rfl,_,.ok (j+1),(g.go (σ':= .ok (j+1)) (i':=i) k2 hb2 hr hi g.deep ⟨h1,h2,rfl⟩).shut hs,(n.trans (Nx.own k2)).shut hs,rfl,?_⟩
  show Oc (Zcv l s j) () _;unfold Zcv;rw [ht];exact ⟨rfl,rfl⟩
end
end Go.Proofs.YtlkdgfolbllngaaGreatDoor
end
section
set_option maxRecDepth 100000
namespace Go.Proofs.YtlkdgfolbllngaaGreatDoor
open Go.Sh Go.Pc
section
variable {F F' H H1 H':Heap} {pb d:Nat} {l:List Tok} {σ σ':Except Nat Nat}
theorem ld6 {b o:Nat} {t:Tok} {K:Int->ByteArray->Int->Int->Int->Int->Prop} (h: ∀j,j<6->H.cell ⟨b,o+j,none⟩=(tokL t)[j]?) (hk:K t.1 (bstr t.2.1) t.2.2.1 (t.2.2.2.1.toNat:Int) t.2.2.2.2.1 t.2.2.2.2.2):
  ∃x0:Int,H.cell ⟨b,o,none⟩=some (Value.int .i64 x0)∧∃x1:ByteArray,H.cell ⟨b,o+1,none⟩=some (Value.string x1)∧∃x2:Int,H.cell ⟨b,o+2,none⟩=some (Value.int .i64 x2)∧∃x3:Int,H.cell ⟨b,o+3,none⟩=some (Value.int .u32 x3)∧∃x4:Int,H.cell ⟨b,o+4,none⟩=some (Value.int .i64 x4)∧∃x5:Int,H.cell ⟨b,o+5,none⟩=some (Value.int .i64 x5)∧K x0 x1 x2 x3 x4 x5:=
 ⟨_,h 0 (by decide),_,h 1 (by decide),_,h 2 (by decide),_,h 3 (by decide),_,h 4 (by decide),_,h 5 (by decide),hk⟩
theorem st6 {q:Nat} {T:TypeId} {v0 v1 v2 v3 v4 v5:Value} {t:Tok} {K:Int->ByteArray->Int->Int->Int->Int->Heap->Prop} (hb:Blk H q T ⟨[v0,v1,v2,v3,v4,v5]⟩) (hk: ∀H',Keep (fun x=>x=q) H H'->K t.1 (bstr t.2.1) t.2.2.1 (t.2.2.2.1.toNat:Int) t.2.2.2.2.1 t.2.2.2.2.2 H'):
  Za H ⟨q,0,none⟩ (.int .i64 t.1) fun H1=>Za H1 ⟨q,1,none⟩ (.string (bstr t.2.1)) fun H2=>Za H2 ⟨q,2,none⟩ (.int .i64 t.2.2.1) fun H3=>Za H3 ⟨q,3,none⟩ (.int .u32 (t.2.2.2.1.toNat:Int)) fun H4=>Za H4 ⟨q,4,none⟩ (.int .i64 t.2.2.2.2.1) fun H5=>Za H5 ⟨q,5,none⟩ (.int .i64 t.2.2.2.2.2) fun H6=>
  ∃x0:Int,H6.cell ⟨q,0,none⟩=some (Value.int .i64 x0)∧∃x1:ByteArray,H6.cell ⟨q,1,none⟩=some (Value.string x1)∧∃x2:Int,H6.cell ⟨q,2,none⟩=some (Value.int .i64 x2)∧∃x3:Int,H6.cell ⟨q,3,none⟩=some (Value.int .u32 x3)∧∃x4:Int,H6.cell ⟨q,4,none⟩=some (Value.int .i64 x4)∧∃x5:Int,H6.cell ⟨q,5,none⟩=some (Value.int .i64 x5)∧K x0 x1 x2 x3 x4 x5 H6:=
 stL hb (by simp) rfl fun H1 b1 k1=>stL b1 (by simp) rfl fun H2 b2 k2=>stL b2 (by simp) rfl fun H3 b3 k3=>stL b3 (by simp) rfl fun H4 b4 k4=>stL b4 (by simp) rfl fun H5 b5 k5=>stL b5 (by simp) rfl fun H6 b6 k6=>
  ⟨_,cellL b6 0 rfl,_,cellL b6 1 rfl,_,cellL b6 2 rfl,_,cellL b6 3 rfl,_,cellL b6 4 rfl,_,cellL b6 5 rfl,hk H6 (((((k1.trans k2).trans k3).trans k4).trans k5).trans k6)⟩
def tok0:Tok:=(0,[],0,0,0,0)
theorem Zpg (h:Gr Zg F H pb l d σ) (k:Int):FnW Tryz.prog Zje ⟨[.pointer (some ⟨pb,0,none⟩),.int .i64 k]⟩ H fun v H'=>∃t,v= .agg ⟨tokL t⟩∧Out Zg F H pb l d (fun F' _ σ'=>F'=F∧Oc (sB σ (tokS l k)) t σ') v H':=by
 refine Zclc pb k ?_;unfold Zbsr;refine newB fun q H1 hq b1 k1=>?_;have g:=h.nil k1;have hqp:q≠pb:=fun e=>h.live (e▸hq);obtain ⟨a,c,i,dp,bad,hb,hr,hi,hσ⟩:=g.blk;have hlim:=h.lim;have fail:(∀j,σ= .ok j->tokS l k j= .error j)->Zph pb q true H1 fun v H1=>∀H2,Shut H H1 H2->∃t,v= .agg ⟨tokL t⟩∧Out Zg F H pb l d (fun F' _ σ'=>F'=F∧Oc (sB σ (tokS l k)) t σ') v H2:=fun hf=>by
  unfold Zph;refine ifT rfl (stL hb (by show 3<4;decide) rfl fun H2 hb2 k2=>st6 (t:=tok0) (k2.blk b1 hqp) fun H3 k3 H4 hs=>⟨tok0,rfl,?_⟩)
  have kk:Keep (fun y=>y=pb) H H3:=((k1.mono fun _ h=>h.elim).trans k2).then k3 fun y hy=> .inr (hy▸hq);refine ⟨F,.error i,(h.go (σ':= .error i) (i':=i) kk (k3.blk hb2 fun e=>hqp e.symm) hr hi h.deep ⟨rfl,rfl⟩).shut hs,(Nx.own kk).shut hs,rfl,?_⟩;cases σ with
  | ok j=>
   obtain ⟨rfl,_,_⟩:=hσ;show Oc (tokS l k j) _ _;rw [hf j rfl];rfl
  | error j=>
   obtain ⟨rfl,_⟩:=hσ;rfl
 refine ⟨bad,cellL hb 3 rfl,?_⟩;cases σ with
 | error j=>
  obtain ⟨rfl,rfl⟩:=hσ;exact ifT rfl (fail fun j e=>by cases e)
 | ok j=>
  obtain ⟨rfl,rfl,rfl⟩:=hσ;refine ifF rfl ⟨_,cellL hb 1 rfl,_,_,_,cellL hb 0 rfl,IfB.intro (fun e=>fail fun j' e2=>?_) fun e=>⟨_,_,_,cellL hb 0 rfl,_,cellL hb 1 rfl,?_⟩⟩;cases e2;unfold tokS;rw [List.getElem?_eq_none (by simp at e;omega)]
  ·have hj:j<l.length:=by simp at e;omega
   have ht:=List.getElem?_eq_getElem hj;generalize l[j]=t at ht;refine Zxt g.fr hr ht rfl fun b o hc=>⟨_,hc 0 (by decide),?_⟩
   by_cases hk:t.1=k
   ·rw [show (t.1 !=k)=false by simp [hk]]
    unfold Zph;refine ifF rfl ⟨_,cellL hb 1 rfl,?_⟩;rw [Zbl (by omega) (by omega)]
    refine stL hb (by show 1<4;decide) rfl fun H2 hb2 k2=>⟨_,_,_,cellL hb2 0 rfl,_,cellL hb2 1 rfl,?_⟩
    rw [Zbl (by omega) (by omega)]
    refine Zxt (Zbmb g.fr g.np k2) hr ht (by omega) fun b o hc=>ld6 hc (st6 (t:=t) (k2.blk b1 hqp) fun H3 k3 H4 hs=>⟨t,rfl,?_⟩)
    have kk:Keep (fun y=>y=pb) H H3:=((k1.mono fun _ h=>h.elim).trans k2).then k3 fun y hy=> .inr (hy▸hq);refine ⟨F,.ok (j+1),(h.go (σ':= .ok (j+1)) (i':=j+1) kk (k3.blk hb2 fun e=>hqp e.symm) hr (by omega) h.deep ⟨rfl,rfl,rfl⟩).shut hs,(Nx.own kk).shut hs,rfl,?_⟩
    show Oc (tokS l k j) _ _;unfold tokS;rw [ht];simp only;rw [if_pos hk];exact ⟨rfl,rfl⟩
   ·rw [show (t.1 !=k)=true by simp [hk]]
    refine fail fun j' e2=>?_;cases e2;unfold tokS;rw [ht];simp only;rw [if_neg hk]
theorem Zwv {α β:Type} {S:Nat->Rs α} {f:α->β} {x:α} (h:Oc (sB σ S) x σ'):Oc (sB σ fun i=>bS (S i) fun y j=> .ok (f y,j)) (f x) σ':=by
 cases σ with
 | error e=>exact h
 | ok i=>
  show Oc (bS (S i) _) _ _;have h:Oc (S i) x σ':=h;cases hs:S i with
  | error e=>rw [hs] at h;exact h
  | ok y=>
   rw [hs] at h;obtain ⟨y,j⟩:=y;obtain ⟨rfl,rfl⟩:=h;exact ⟨rfl,rfl⟩
theorem Zgn (h:Gr Zg F H pb l d σ) (k:Int):FnW Tryz.prog Zdm ⟨[.pointer (some ⟨pb,0,none⟩),.int .i64 k]⟩ H fun v H'=>∃n,v= .int .i64 n∧Out Zg F H pb l d (fun F' _ σ'=>F'=F∧Oc (sB σ (numS l k)) n σ') v H':=by refine Zckr pb k ?_;unfold Zbsh;refine (Zpg h k).mono ?_;rintro _ H1 ⟨t,rfl,F1,σ1,g,n,rfl,o⟩;exact ⟨_,_,_,_,_,_,rfl,fun H2 hs=>⟨_,rfl,_,σ1,g.shut hs,n.shut hs,rfl,Zwv (f:=fun t:Tok=>t.2.2.1) o⟩⟩
theorem Zzi (h:Gr Zg F H pb l d σ) (s:List UInt8):FnW Tryz.prog Zqv ⟨[.pointer (some ⟨pb,0,none⟩),.string (bstr s)]⟩ H fun v H'=>
  (v= .bool false∧isB l σ s=false∧Out Zg F H pb l d (fun F' _ σ'=>F'=F∧σ'=σ) v H')∨(∃i,σ= .ok i∧isT l s i=true∧((d=24∧v= .bool false∧Out Zg F H pb l d (fun F' _ σ'=>F'=F∧σ'= .error i) v H')∨(d<24∧v= .bool true∧Nx F H F H' pb∧Gr Zg F H' pb l (d+1) (.ok (i+1))))):=by
 refine Zcmf pb (bstr s) ?_;unfold Zbum;refine (Zbhk h s).mono ?_;rintro _ H1 ⟨rfl,F1,s1,g,n,rfl,rfl⟩;refine ⟨_,rfl,IfB.intro (fun e H2 hs=>?_) fun e=>?_⟩
 ·have e:isB l s1 s=false:=by simpa using e
  exact .inl ⟨rfl,e,_,_,g.shut hs,n.shut hs,rfl,rfl⟩
 ·have e:isB l s1 s=true:=by simpa using e
  obtain ⟨j,rfl,ht⟩:=Zbs e;obtain ⟨a,c,i,dp,bad,hb,hr,hi,rfl,rfl,rfl⟩:=g.blk;have hj:=Zkd ht;have hlim:=g.lim;have hdp:=g.deep;refine ⟨_,cellL hb 2 rfl,IfB.intro (fun e2=>?_) fun e2=>?_⟩
  ·have e2:(d:Int)=24:=by simpa using e2
   exact stL hb (by show 3<4;decide) rfl fun H2 hb2 k2 H3 hs=> .inr ⟨j,rfl,ht,.inl ⟨by omega,rfl,_,.error j,(g.go (σ':= .error j) (i':=j) k2 hb2 hr hi g.deep ⟨rfl,rfl⟩).shut hs,(n.trans (Nx.own k2)).shut hs,rfl,rfl⟩⟩
  ·have e2: ¬(d:Int)=24:=by simpa using e2
   refine ⟨_,cellL hb 1 rfl,?_⟩;rw [Zbl (by omega) (by omega)]
   refine stL hb (by show 1<4;decide) rfl fun H2 hb2 k2=>⟨_,cellL hb2 2 rfl,?_⟩
   rw [Zbl (by omega) (by omega)]
   refine stL hb2 (by show 2<4;decide) rfl fun H3 hb3 k3 H4 hs=> .inr ⟨j,rfl,ht,.inr ⟨by omega,rfl,(n.trans (Nx.own (k2.trans k3))).shut hs,?_⟩⟩
   exact (g.go (σ':= .ok (j+1)) (i':=j+1) (dp:=(d:Int)+1) (d':=d+1) (k2.trans k3) hb3 hr (by omega) (by omega) ⟨rfl,by omega,rfl⟩).shut hs
end
end Go.Proofs.YtlkdgfolbllngaaGreatDoor
end
section
set_option maxRecDepth 100000
namespace Go.Proofs.YtlkdgfolbllngaaGreatDoor
open Go.Sh Go.Pc
section
variable {F F' H H1 H':Heap} {pb d:Nat} {l:List Tok} {σ σ':Except Nat Nat}
end
end Go.Proofs.YtlkdgfolbllngaaGreatDoor
end
section
set_option maxRecDepth 100000
namespace Go.Proofs.YtlkdgfolbllngaaGreatDoor
open Go.Sh Go.Pc
section
variable {F F' H H1 H':Heap} {pb d:Nat} {l:List Tok} {σ σ':Except Nat Nat}
end
end Go.Proofs.YtlkdgfolbllngaaGreatDoor
end
section
set_option maxRecDepth 100000
namespace Go.Proofs.YtlkdgfolbllngaaGreatDoor
open Go.Sh Go.Pc
structure Bd (T:TypeId) (F0 H0 F H:Heap) (pb:Nat) (l:List Tok) (d:Nat) (σ:Except Nat Nat):Prop where
 g:Gr T F H pb l d σ
 n:Nx F0 H0 F H pb
 lv:H0 pb≠none
 lv2: ∀b,F0 b≠none->H0 b≠none
structure Tm (H0 F H:Heap) (q:Nat) (T:TypeId) (vs:List Value):Prop where
 new:H0 q=none
 nf:F q=none
 blk:Blk H q T ⟨vs⟩
section
variable {T:TypeId} {F0 H0 F F' H H1 H':Heap} {pb d d':Nat} {l:List Tok} {σ σ' σ0:Except Nat Nat} {α:Type}
theorem Gr.start (h:Gr T F H pb l d σ):Bd T F H F H pb l d σ:=⟨h,Nx.refl,h.live,fun b hb=>h.fr.live b hb⟩
theorem Bd.new (b:Bd T F0 H0 F H pb l d σ) (k:Keep Nil H H'):Bd T F0 H0 F H' pb l d σ:=⟨b.g.nil k,b.n.trans (Nx.nil k),b.lv,b.lv2⟩
theorem Bd.tm (b:Bd T F0 H0 F H pb l d σ) {q:Nat} {Tq:TypeId} {vs:List Value} (hq:H q=none) (hb:Blk H' q Tq ⟨vs⟩):Tm H0 F H' q Tq vs:=
 ⟨b.n.kp.free hq,Classical.byContradiction fun e=>(b.g.fr.live q e) hq,hb⟩
theorem Tm.ne {q:Nat} {Tq:TypeId} {vs:List Value} (t:Tm H0 F H q Tq vs) (b:Bd T F0 H0 F H pb l d σ):q≠pb:=fun e=>b.lv (e▸t.new)
theorem Nx.none (n:Nx F H F' H' pb) {q:Nat} (h1:F q=none) (h2:H q≠none):F' q=none:=Classical.byContradiction fun e=>(n.new q e).elim (fun h=>h h1) h2
theorem Bd.call (b:Bd T F0 H0 F H pb l d σ) (g:Gr T F' H' pb l d' σ') (n:Nx F H F' H' pb):Bd T F0 H0 F' H' pb l d' σ':=⟨g,b.n.trans n,b.lv,b.lv2⟩
theorem Tm.call {q:Nat} {Tq:TypeId} {vs:List Value} (t:Tm H0 F H q Tq vs) (b:Bd T F0 H0 F H pb l d σ) (n:Nx F H F' H' pb):Tm H0 F' H' q Tq vs:=⟨t.new,n.none t.nf t.blk.some,n.kp.blk t.blk (t.ne b)⟩
theorem Tm.nil {q:Nat} {Tq:TypeId} {vs:List Value} (t:Tm H0 F H q Tq vs) (k:Keep Nil H H'):Tm H0 F H' q Tq vs:=⟨t.new,t.nf,k.blk t.blk fun h=>h⟩
theorem Bd.wr (b:Bd T F0 H0 F H pb l d σ) {q:Nat} {Tq:TypeId} {vs:List Value} (t:Tm H0 F H q Tq vs) (k:Keep (fun y=>y=q) H H'):Bd T F0 H0 F H' pb l d σ:=
 ⟨b.g.other k (fun e=>t.ne b e.symm) (fun y hy=>hy▸t.nf),⟨b.n.ff,b.n.kp.then k fun y hy=> .inr (hy▸t.new),b.n.new⟩,b.lv,b.lv2⟩
theorem Tm.wr {q:Nat} {Tq:TypeId} {vs ws:List Value} (t:Tm H0 F H q Tq vs) (hb:Blk H' q Tq ⟨ws⟩):Tm H0 F H' q Tq ws:=⟨t.new,t.nf,hb⟩
theorem Tm.other {q r:Nat} {Tq:TypeId} {vs:List Value} (t:Tm H0 F H q Tq vs) (k:Keep (fun y=>y=r) H H') (hne:q≠r):Tm H0 F H' q Tq vs:=⟨t.new,t.nf,k.blk t.blk hne⟩
theorem Bd.freeze (b:Bd T F0 H0 F H pb l d σ) {q:Nat} {Tq:TypeId} {vs:List Value} (t:Tm H0 F H q Tq vs): ∃F',Bd T F0 H0 F' H pb l d σ∧Keep Nil F F'∧Blk F' q Tq ⟨vs⟩∧(∀y,y≠q->F' y=F y):=by
 have hne:=t.ne b
 have k:Keep Nil F (F.upd q (.cells ⟨vs⟩ Tq (0,0))):=⟨fun y _ hy=>upd_ne fun e=>hy (by rw [e];exact t.nf),fun y hy=>by
  rw [upd_ne fun e=>hy (by rw [e];exact t.nf)];exact hy⟩
 refine ⟨F.upd q (.cells ⟨vs⟩ Tq (0,0)),⟨⟨⟨fun y _ hy=>?_,fun y hy=>?_⟩,fun y hy=>?_,?_,b.g.lim,b.g.deep,?_⟩,⟨b.n.ff.trans k,b.n.kp,fun y hy=>?_⟩,b.lv,b.lv2⟩,k,Blk.upd_eq,fun y hy=>upd_ne hy⟩;by_cases e:y=q;subst e;rw [upd_eq];exact t.blk;rw [upd_ne e];rw [upd_ne e] at hy;exact b.g.fr.same y id hy;by_cases e:y=q;subst e;exact t.blk.some;rw [upd_ne e] at hy;exact b.g.fr.live y hy;by_cases e:y=q;subst e;exact ⟨_,_,_,upd_eq⟩;rw [upd_ne e] at hy ⊢;exact b.g.cells y hy;rw [upd_ne hne.symm];exact b.g.np;obtain ⟨a,c,i,dp,bad,hb,hr,r⟩:=b.g.blk;exact ⟨a,c,i,dp,bad,hb,hr.keep k fun _ _ h=>h,r⟩;by_cases e:y=q;subst e;exact .inr t.new;rw [upd_ne e] at hy;exact b.n.new y hy
def CdR (T:TypeId) (F H:Heap) (pb:Nat) (l:List Tok) (d:Nat) (σ:Except Nat Nat) (S:Nat->Rs Cd) (v:Value) (H':Heap):Prop:=
 ∃vs c,v= .agg ⟨vs⟩∧Out T F H pb l d (fun F' _ σ'=>CdAt F' vs c∧Oc (sB σ S) c σ') v H'
theorem CdAt.leaf (op pa pl n:Int):CdAt F [.int .i64 op,.slice none 0 0,.int .u32 pa,.int .i64 pl,.int .i64 n] (.mk op [] pa pl n):=
 .mk op pa pl n none 0 [] [] Reads.nil rfl ⟨Nat.le_refl _,Nat.zero_le _⟩ fun i v d h=>by simp at h
theorem CdAt.five {v:List Value} {c:Cd} (h:CdAt F v c): ∃(op:Int) (a:Option Addr) (n k:Nat) (pa pl m:Int),v= [.int .i64 op,.slice a n k,.int .u32 pa,.int .i64 pl,.int .i64 m]:=by cases h;exact ⟨_,_,_,_,_,_,_,rfl⟩
theorem ld5 {q:Nat} {Tq:TypeId} {op pa pl m:Int} {a:Option Addr} {n k:Nat} {K:Int->Option Addr->Nat->Nat->Int->Int->Int->Prop} (hb:Blk H q Tq ⟨[.int .i64 op,.slice a n k,.int .u32 pa,.int .i64 pl,.int .i64 m]⟩) (h:K op a n k pa pl m):
  ∃x0:Int,H.cell ⟨q,0,none⟩=some (Value.int .i64 x0)∧∃(x1a:Option Addr) (x1n x1c:Nat),H.cell ⟨q,1,none⟩=some (Value.slice x1a x1n x1c)∧∃x2:Int,H.cell ⟨q,2,none⟩=some (Value.int .u32 x2)∧∃x3:Int,H.cell ⟨q,3,none⟩=some (Value.int .i64 x3)∧∃x4:Int,H.cell ⟨q,4,none⟩=some (Value.int .i64 x4)∧K x0 x1a x1n x1c x2 x3 x4:=
 ⟨_,cellL hb 0 rfl,_,_,_,cellL hb 1 rfl,_,cellL hb 2 rfl,_,cellL hb 3 rfl,_,cellL hb 4 rfl,h⟩
theorem st5 {q:Nat} {Tq:TypeId} {v0 v1 v2 v3 v4:Value} {op pa pl m:Int} {a:Option Addr} {n k:Nat} {K:Heap->Prop} (hb:Blk H q Tq ⟨[v0,v1,v2,v3,v4]⟩) (h: ∀H',Blk H' q Tq ⟨[.int .i64 op,.slice a n k,.int .u32 pa,.int .i64 pl,.int .i64 m]⟩->Keep (fun y=>y=q) H H'->K H'):
  Za H ⟨q,0,none⟩ (.int .i64 op) fun H1=>Za H1 ⟨q,1,none⟩ (.slice a n k) fun H2=>Za H2 ⟨q,2,none⟩ (.int .u32 pa) fun H3=>Za H3 ⟨q,3,none⟩ (.int .i64 pl) fun H4=>Za H4 ⟨q,4,none⟩ (.int .i64 m) K:=
 stL hb (by simp) rfl fun H1 b1 k1=>stL b1 (by simp) rfl fun H2 b2 k2=>stL b2 (by simp) rfl fun H3 b3 k3=>stL b3 (by simp) rfl fun H4 b4 k4=>stL b4 (by simp) rfl fun H5 b5 k5=>h H5 b5 ((((k1.trans k2).trans k3).trans k4).trans k5)
theorem ret5 {q:Nat} {Tq:TypeId} {v0 v1 v2 v3 v4:Value} {op pa pl m:Int} {a:Option Addr} {n k:Nat} {S:Nat->Rs Cd} {c:Cd} (b:Bd T F0 H0 F H pb l d σ') (t:Tm H0 F H q Tq [v0,v1,v2,v3,v4]) (hc:CdAt F [.int .i64 op,.slice a n k,.int .u32 pa,.int .i64 pl,.int .i64 m] c) (o:Oc (sB σ S) c σ'):
  Za H ⟨q,0,none⟩ (.int .i64 op) fun H1=>Za H1 ⟨q,1,none⟩ (.slice a n k) fun H2=>Za H2 ⟨q,2,none⟩ (.int .u32 pa) fun H3=>Za H3 ⟨q,3,none⟩ (.int .i64 pl) fun H4=>Za H4 ⟨q,4,none⟩ (.int .i64 m) fun H5=>
  ∃x0:Int,H5.cell ⟨q,0,none⟩=some (Value.int .i64 x0)∧∃(x1a:Option Addr) (x1n x1c:Nat),H5.cell ⟨q,1,none⟩=some (Value.slice x1a x1n x1c)∧∃x2:Int,H5.cell ⟨q,2,none⟩=some (Value.int .u32 x2)∧∃x3:Int,H5.cell ⟨q,3,none⟩=some (Value.int .i64 x3)∧∃x4:Int,H5.cell ⟨q,4,none⟩=some (Value.int .i64 x4)∧
   ∀H2,Shut H0 H5 H2->CdR T F0 H0 pb l d σ S (.agg ⟨[.int .i64 x0,.slice x1a x1n x1c,.int .u32 x2,.int .i64 x3,.int .i64 x4]⟩) H2:=
 st5 t.blk fun H5 b5 k5=>ld5 b5 fun H2 hs=>by have bb:=b.wr t k5;exact ⟨_,c,rfl,F,σ',bb.g.shut hs,bb.n.shut hs,hc,o⟩
end
end Go.Proofs.YtlkdgfolbllngaaGreatDoor
end
section
set_option maxRecDepth 100000
namespace Go.Proofs.YtlkdgfolbllngaaGreatDoor
open Go.Sh Go.Pc
section
variable {F0 H0 F F' H H1 H':Heap} {pb d d':Nat} {l:List Tok} {σ σ' σ1 σ2:Except Nat Nat} {α β:Type}
theorem Zeb {r:Rs α} {f:α->Nat->Rs β} {x:α} {y:β} (h1:Oc r x σ1) (h2:Oc (sB σ1 (f x)) y σ2):Oc (bS r f) y σ2:=by
 cases r with
 | error e=>
  have h1:σ1= .error e:=h1;subst h1;exact h2
 | ok z=>
  obtain ⟨z,j⟩:=z;obtain ⟨rfl,rfl⟩:=(show x=z∧σ1= .ok j from h1)
  exact h2
theorem Zcb {S:Nat->Rs α} {f:α->Nat->Rs β} {x:α} {y:β} (h1:Oc (sB σ S) x σ1) (h2:Oc (sB σ1 (f x)) y σ2):Oc (sB σ fun i=>bS (S i) f) y σ2:=by
 cases σ with
 | error e=>
  have h1:σ1= .error e:=h1;subst h1;exact h2
 | ok i=>exact Zeb h1 h2
theorem Zf {s:List UInt8} {S' T':Nat->Rs α} {x:α} (e:isB l σ s=false) (h:Oc (sB σ T') x σ'):Oc (sB σ fun i=>if isT l s i then S' i else T' i) x σ':=by
 cases σ with
 | error e=>exact h
 | ok i=>
  have e:isT l s i=false:=e;show Oc (if isT l s i then S' i else T' i) x σ'
  rw [e];exact h
theorem Zccr {s:List UInt8} {S' T':Nat->Rs α} {x:α} {i:Nat} (e:isT l s i=true) (h:Oc (S' i) x σ'):Oc (if isT l s i then S' i else T' i) x σ':=by rw [if_pos e];exact h
theorem Zcq {s:List UInt8} {S' T':Nat->Rs α} {x:α} {i:Nat} (e:isT l s i=true) (h:Oc (S' i) x σ'):Oc (sB (.ok i) fun i=>if isT l s i then S' i else T' i) x σ':=Zccr e h
theorem Zeh {x:α}:Oc (sB σ fun j=> .ok (x,j)) x σ:=by
 cases σ with
 | error e=>exact rfl
 | ok i=>exact ⟨rfl,rfl⟩
theorem Zbdy {x:α}:Oc (sB σ fun j=>(.error j:Rs α)) x (Znp σ):=by cases σ<;>rfl
def Zl (l:List Tok) (σ:Except Nat Nat):List (List UInt8)->Nat->Int
 | [],_=> -1
 | w::ws,k=>if isB l σ w=true then k else Zl l σ ws (k+1)
theorem Zcea {ws:List (List UInt8)} (h: ∀w∈ws,isB l σ w=false): ∀k,Zl l σ ws k= -1:=by
 induction ws with
 | nil=>exact fun _=>rfl
 | cons w ws ih=>
  intro k;unfold Zl;rw [if_neg (by rw [h w (by simp)];decide)]
  exact ih (fun u hu=>h u (List.mem_cons_of_mem _ hu)) _
theorem Zcdz {ws:List (List UInt8)} {j:Nat} {w:List UInt8} (hw:ws[j]? =some w) (e:isB l σ w=true) (h: ∀i u,i<j->ws[i]? =some u->isB l σ u=false): ∀k,Zl l σ ws k=((k+j:Nat):Int):=by
 induction ws generalizing j with
 | nil=>simp at hw
 | cons v ws ih=>
  intro k;unfold Zl;cases j with
  | zero=>
   simp only [List.getElem?_cons_zero,Option.some.injEq] at hw;subst hw;rw [if_pos e];rfl
  | succ j=>
   rw [if_neg (by rw [h 0 v (by omega) rfl];decide),ih (j:=j) (by simpa using hw) (fun i u hi hu=>h (i+1) u (by omega) (by simpa using hu)) (k+1)]
   congr 1;omega
theorem Ztj (h:Gr Zg F H pb l d σ) {a:Option Addr} {n c:Nat} {ws:List (List UInt8)} (hr:Reads H a n (ws.map fun w=> .string (bstr w))) (hn:n <= 1000) (hF: ∀x,a=some x->x.block≠pb):
  FnW Tryz.prog Zlk ⟨[.pointer (some ⟨pb,0,none⟩),.slice a n c]⟩ H fun v H'=>v= .int .i64 (Zl l σ ws 0)∧Out Zg F H pb l d (fun F' _ σ'=>F'=F∧σ'=if Zl l σ ws 0= -1 then σ else Zwf σ) v H':=by
 have hlen:ws.length=n:=by have:=hr.len;simpa using this
 refine Zclx pb a n c ?_;unfold Zbty;refine FnW.mono (R:=fun v H'=>v= .int .i64 (Zl l σ ws 0)∧Out Zg F H pb l d (fun F' _ σ'=>F'=F∧σ'=if Zl l σ ws 0= -1 then σ else Zwf σ) v H') ?_ ?_
 rotate_left
 rintro _ H1 ⟨rfl,o⟩;exact ⟨_,rfl,fun H2 hs=>⟨rfl,o.shut hs⟩⟩;refine Zcnb a n c Zfq (.pointer (some ⟨pb,0,none⟩)) ?_;unfold Zbvq;refine Zbt (fun m s Hx=>∃j:Nat,s=((j:Int),())∧m+j=n∧Gr Zg F Hx pb l d σ∧Nx F H F Hx pb∧∀i u,i<j->ws[i]? =some u->isB l σ u=false) n ⟨0,rfl,rfl,h,Nx.refl,fun i u hi=>by omega⟩ ?_
 rintro m s Hx ⟨j,rfl,hm,gx,nx,hno⟩ g;unfold Zbvp;refine IfB.intro (fun e=>?_) fun e=>?_
 ·have e:=of_decide_eq_true e;simp only at e;have hjn:j<n:=by omega
  have hw:ws[j]? =some ws[j]:=List.getElem?_eq_getElem (by omega)
  generalize ws[j]=w at hw;have hrx:=hr.keep nx.kp hF;cases a with
  | none=>have:=hr.2;simp only at this;omega
  | some a=>
   have e2:=(hr.2 (by omega)).1
   obtain ⟨b,o,f⟩:=a;simp only at e2;subst e2;refine NilP.intro _ rfl (InB.intro j rfl hjn ?_);rw [Zud,Nat.mul_one];have hc:=hrx.cell hjn;rw [List.getElem?_map,hw] at hc;refine ⟨_,hc,(Ziu gx w).mono ?_⟩;rintro _ H1 ⟨rfl,F1,s1,g1,n1,rfl,e1⟩;refine ⟨_,rfl,IfB.intro (fun e3 H2 hs=>?_) fun e3=>?_⟩;rw [if_pos e3] at e1;have hp:=Zcdz hw e3 hno 0;rw [Nat.zero_add] at hp;rw [hp];exact ⟨rfl,_,s1,g1.shut hs,(nx.trans n1).shut hs,rfl,by rw [if_neg (by omega)];exact e1⟩
   ·rw [if_neg (by rw [e3];decide)] at e1
    subst e1;refine ⟨m - 1,by omega,j+1,Prod.ext ?_ rfl,by omega,g1,nx.trans n1,fun i u hi hu=>?_⟩
    ·show IntKind.wrap .i64 ((j:Int)+1)=((j+1:Nat):Int);rw [Zbl (by omega) (by omega)];omega
    by_cases hij:i=j;subst hij;rw [hw] at hu;cases hu;exact e3;exact hno i u (by omega) hu
 ·have e:=of_decide_eq_false e;simp only at e;intro H2 hs;have hp:=Zcea (l:=l) (σ:=σ) (ws:=ws) (fun w hw=>by
   obtain ⟨i,hi⟩:=List.mem_iff_getElem?.1 hw;exact hno i w (by have:=(List.getElem?_eq_some_iff.1 hi).1;omega) hi) 0
  rw [hp];exact ⟨rfl,_,σ,gx.shut hs,nx.shut hs,rfl,by simp⟩
end
end Go.Proofs.YtlkdgfolbllngaaGreatDoor
end
section
set_option maxRecDepth 100000
namespace Go.Proofs.YtlkdgfolbllngaaGreatDoor
open Go.Sh Go.Pc
section
variable {F0 H0 F F' H H1 H':Heap} {pb d d':Nat} {l:List Tok} {σ σ' σ1 σ2:Except Nat Nat} {α β:Type}
theorem Zcmg (h:Gr Zg F H pb l d σ):FnW Tryz.prog Zbcb ⟨[.pointer (some ⟨pb,0,none⟩)]⟩ H (CdR Zg F H pb l d σ (Zhu l)):=by
 refine Zcmh pb ?_;unfold Zbun;refine newB fun q H1 hq bq k1=>newB fun r H2 hr br k2=>?_;have b0:=h.start;have b1:=b0.new k1;have b2:=b1.new k2;have tq:=(b0.tm hq bq).nil k2;have tr:=b1.tm hr br;have hqr:q≠r:=fun e=>by subst e;exact bq.some hr
 refine st5 tr.blk fun H3 b3 k3=>?_;have bb:=b2.wr tr k3;have t3:=tr.wr b3;have tq3:=tq.other k3 hqr;refine (Ziu bb.g w_is).mono ?_;rintro _ H4 ⟨rfl,F4,σ4,g4,n4,rfl,e4⟩;have bc:=bb.call g4 n4;have t4:=t3.call bb n4;have tq4:=tq3.call bb n4;refine ⟨_,rfl,IfB.intro (fun e=>?_) fun e=>?_⟩
 ·rw [if_pos e] at e4;obtain ⟨i,rfl,ht⟩:=Zbs e;have e4:σ4= .ok (i+1):=e4;subst e4;refine (Zpg bc.g 4).mono ?_;rintro _ H5 ⟨t,rfl,F5,σ5,g5,n5,rfl,o5⟩;have bd:=bc.call g5 n5;have t5:=t4.call bc n5;have tq5:=tq4.call bc n5;refine ⟨_,_,_,_,_,_,rfl,stL t5.blk (by show 2<5;decide) rfl fun H6 b6 k6=>stL b6 (by show 3<5;decide) rfl fun H7 b7 k7=>?_⟩
  replace b7:Blk H7 r Zba ⟨[.int .i64 5,.slice none 0 0,.int .u32 t.2.2.2.1.toNat,.int .i64 t.2.2.2.2.1,.int .i64 0]⟩:=b7;have be:=bd.wr t5 (k6.trans k7);have tq7:=tq5.other (k6.trans k7) hqr;refine ld5 b7 (ret5 be tq7 (CdAt.leaf 5 _ _ 0) (S:=Zhu l) ?_);show Oc (Zhu l i) _ _;unfold Zhu;rw [if_pos ht];exact Zeb o5 Zeh
 ·rw [if_neg (by rw [e];decide)] at e4
  subst e4;refine (Zjo bc.g w_in).mono ?_;rintro _ H5 ⟨rfl,F5,σ5,g5,n5,rfl,o5⟩;have bd:=bc.call g5 n5;have t5:=t4.call bc n5;have tq5:=tq4.call bc n5;refine ⟨rfl,(Zpg bd.g 4).mono ?_⟩;rintro _ H6 ⟨t,rfl,F6,σ6,g6,n6,rfl,o6⟩;have be:=bd.call g6 n6;have t6:=t5.call bd n6;have tq6:=tq5.call bd n6;refine ⟨_,_,_,_,_,_,rfl,st5 t6.blk fun H7 b7 k7=>?_⟩;have bf:=be.wr t6 k7;have t7:=t6.wr b7;have tq7:=tq6.other k7 hqr;refine (Ziu bf.g w_le).mono ?_;rintro _ H8 ⟨rfl,F8,σ8,g8,n8,rfl,e8⟩;have bg:=bf.call g8 n8;have t8:=t7.call bf n8;have tq8:=tq7.call bf n8;refine ⟨_,rfl,IfB.intro (fun e9=>?_) fun e9=>?_⟩
  ·rw [if_pos e9] at e8;obtain ⟨i,rfl,ht⟩:=Zbs e9;have e8:σ8= .ok (i+1):=e8;subst e8;refine (Zgn bg.g 2).mono ?_;rintro _ H9 ⟨m,rfl,F9,σ9,g9,n9,rfl,o9⟩;have bh:=bg.call g9 n9;have t9:=t8.call bg n9;have tq9:=tq8.call bg n9;refine ⟨_,rfl,stL t9.blk (by show 4<5;decide) rfl fun H10 b10 k10=>?_⟩
   replace b10:Blk H10 r Zba ⟨[.int .i64 4,.slice none 0 0,.int .u32 t.2.2.2.1.toNat,.int .i64 t.2.2.2.2.1,.int .i64 m]⟩:=b10;unfold Zzj;refine ld5 b10 (ret5 (bh.wr t9 k10) (tq9.other k10 hqr) (CdAt.leaf 4 _ _ m) (S:=Zhu l) ?_);refine Zf e (Zcb o5 (Zcb o6 (Zcq ht ?_)));exact Zeb o9 Zeh
  ·rw [if_neg (by rw [e9];decide)] at e8
   subst e8;unfold Zzj;refine ld5 t8.blk (ret5 bg tq8 (CdAt.leaf 4 _ _ 32) (S:=Zhu l) ?_);exact Zf e (Zcb o5 (Zcb o6 (Zf e9 Zeh)))
end
end Go.Proofs.YtlkdgfolbllngaaGreatDoor
end
section
set_option maxRecDepth 100000
namespace Go.Proofs.YtlkdgfolbllngaaGreatDoor
open Go.Sh Go.Pc
section
variable {T:TypeId} {F0 H0 F F' H H1 H':Heap} {pb d d':Nat} {l:List Tok} {σ σ' σ1 σ2:Except Nat Nat} {α β:Type}
theorem Bd.bad (b:Bd T F0 H0 F H pb l d σ) {K:Heap->Prop} (hk: ∀H',Bd T F0 H0 F H' pb l d (Znp σ)->Keep (fun y=>y=pb) H H'->K H'):Za H ⟨pb,3,none⟩ (.bool true) K:=by
 obtain ⟨a,c,i,dp,bad,hb,hr,hi,hσ⟩:=b.g.blk;refine stL hb (by show 3<4;decide) rfl fun H' hb' k'=>hk H' (b.call (b.g.go (σ':=Znp σ) (i':=i) k' hb' hr hi b.g.deep ?_) (Nx.own k')) k'
 cases σ with
 | ok j=>obtain ⟨rfl,_,_⟩:=hσ;exact ⟨rfl,rfl⟩
 | error j=>obtain ⟨rfl,_⟩:=hσ;exact ⟨rfl,rfl⟩
theorem Tm.par {q:Nat} {Tq:TypeId} {vs:List Value} (t:Tm H0 F H q Tq vs) (b:Bd T F0 H0 F H pb l d σ) (k:Keep (fun y=>y=pb) H H'):Tm H0 F H' q Tq vs:=⟨t.new,t.nf,k.blk t.blk (t.ne b)⟩
theorem Zbdw {q:Nat} {Tq:TypeId} {v0 v1 v2 v3 v4:Value} {op k:Int} {S:Nat->Rs Cd} (b:Bd Zg F0 H0 F H pb l d σ1) (t:Tm H0 F H q Tq [v0,v1,v2,v3,v4]) (ho: ∀n σ2,Oc (sB σ1 (Zff l op k)) (.mk op [] 0 0 n) σ2->Oc (sB σ S) (.mk op [] 0 0 n) σ2):
  FnW Tryz.prog Zdm ⟨[.pointer (some ⟨pb,0,none⟩),.int .i64 k]⟩ H fun v H=>∃n:Int,v= .int .i64 n∧
  Za H ⟨q,0,none⟩ (.int .i64 op) fun H1=>Za H1 ⟨q,1,none⟩ (.slice none 0 0) fun H2=>Za H2 ⟨q,2,none⟩ (.int .u32 0) fun H3=>Za H3 ⟨q,3,none⟩ (.int .i64 0) fun H4=>Za H4 ⟨q,4,none⟩ (.int .i64 n) fun H5=>
  ∃x0:Int,H5.cell ⟨q,0,none⟩=some (Value.int .i64 x0)∧∃(x1a:Option Addr) (x1n x1c:Nat),H5.cell ⟨q,1,none⟩=some (Value.slice x1a x1n x1c)∧∃x2:Int,H5.cell ⟨q,2,none⟩=some (Value.int .u32 x2)∧∃x3:Int,H5.cell ⟨q,3,none⟩=some (Value.int .i64 x3)∧∃x4:Int,H5.cell ⟨q,4,none⟩=some (Value.int .i64 x4)∧
   ∀H2,Shut H0 H5 H2->CdR Zg F0 H0 pb l d σ S (.agg ⟨[.int .i64 x0,.slice x1a x1n x1c,.int .u32 x2,.int .i64 x3,.int .i64 x4]⟩) H2:=by
 refine (Zgn b.g k).mono ?_;rintro _ H6 ⟨n,rfl,F6,σ6,g6,n6,rfl,o6⟩;refine ⟨n,rfl,ret5 (b.call g6 n6) (t.call b n6) (CdAt.leaf op 0 0 n) (ho n σ6 ?_)⟩;cases σ1 with
 | error e=>exact o6
 | ok i=>exact Zeb (r:=numS l k i) o6 Zeh
theorem Zbfv {q:Nat} {v0 v1 v2 v3 v4:Value} {S:Nat->Rs Cd} (b:Bd Zg F0 H0 F H pb l d σ1) (t:Tm H0 F H q Zba [v0,v1,v2,v3,v4]) (ho:Oc (sB σ S) (.mk 0 [] 0 0 0) (Znp σ1)):
  Ztk pb q H fun v H1=>∀H2,Shut H0 H1 H2->CdR Zg F0 H0 pb l d σ S v H2:=by
 unfold Ztk;exact b.bad fun H1 b1 k1=>ret5 b1 (t.par b k1) (CdAt.leaf 0 0 0 0) ho
theorem words {q:Nat} {n:Nat} {ws:List (List UInt8)} (hb:Blk H q Zm ⟨ws.map fun w=> .string (bstr w)⟩) (hn:ws.length=n):Reads H (some ⟨q,0,none⟩) n (ws.map fun w=> .string (bstr w)):=
 Reads.blk hb (by simpa using hn) fun j hj=>by rw [Nat.zero_add,List.getElem?_toArray]
theorem Zcdm (l:List Tok) (i:Nat):(∃(k:Nat) (op:Int),Zl l (.ok i) [Zey,Zfo,Zbe,Zgm] 0=k∧IntKind.wrap .i64 (6+(k:Int))=op∧∀(c:Cd) (σ':Except Nat Nat),Oc (Zff l op 2 (i+1)) c σ'->Oc (Zhr l i) c σ')∨(Zl l (.ok i) [Zey,Zfo,Zbe,Zgm] 0= -1∧Zhr l i= .error i):=by
 unfold Zhr;by_cases h0:isT l Zey i=true;exact .inl ⟨0,6,by simp [Zl,isB,h0],by decide,fun c σ' o=>by rw [if_pos h0];exact o⟩
 rw [if_neg h0];by_cases h1:isT l Zfo i=true;exact .inl ⟨1,7,by simp [Zl,isB,h0,h1],by decide,fun c σ' o=>by rw [if_pos h1];exact o⟩
 rw [if_neg h1];by_cases h2:isT l Zbe i=true;exact .inl ⟨2,8,by simp [Zl,isB,h0,h1,h2],by decide,fun c σ' o=>by rw [if_pos h2];exact o⟩
 rw [if_neg h2];by_cases h3:isT l Zgm i=true;exact .inl ⟨3,9,by simp [Zl,isB,h0,h1,h2,h3],by decide,fun c σ' o=>by rw [if_pos h3];exact o⟩
 rw [if_neg h3];exact .inr ⟨by simp [Zl,isB,h0,h1,h2,h3],rfl⟩
theorem Zcdd (l:List Tok) (i:Nat):(∃k:Nat,Zl l (.ok i) [Zgl,Zha,Zhy] 0=k∧Zfj l i= .ok (.mk 11 [] 0 0 k,i+1))∨(Zl l (.ok i) [Zgl,Zha,Zhy] 0= -1∧Zfj l i= .error i):=by
 unfold Zfj;by_cases h0:isT l Zgl i=true;exact .inl ⟨0,by simp [Zl,isB,h0],by rw [if_pos h0];rfl⟩
 rw [if_neg h0];by_cases h1:isT l Zha i=true;exact .inl ⟨1,by simp [Zl,isB,h0,h1],by rw [if_pos h1];rfl⟩
 rw [if_neg h1];by_cases h2:isT l Zhy i=true;exact .inl ⟨2,by simp [Zl,isB,h0,h1,h2],by rw [if_pos h2];rfl⟩
 rw [if_neg h2];exact .inr ⟨by simp [Zl,isB,h0,h1,h2],rfl⟩
theorem Zbhd (h:Gr Zg F H pb l d σ):FnW Tryz.prog Zbca ⟨[.pointer (some ⟨pb,0,none⟩)]⟩ H (CdR Zg F H pb l d σ (Zcz l)):=by
 refine Zcly pb ?_;unfold Zbtz;refine newB fun q H1 hq bq k1=>newB fun r H2 hr br k2=>?_;have b0:=h.start;have b2:=(b0.new k1).new k2;have tq:=(b0.tm hq bq).nil k2;have hrp:r≠pb:=fun e=>by subst e;exact (b0.new k1).g.live hr
 refine (Ztj (ws:=[Zdi,Zbv,Zdh,Zbe,Zbj]) b2.g (words br rfl) (by decide) fun x e=>by cases e;exact hrp).mono ?_
 rintro _ H3 ⟨rfl,F3,σ3,g3,n3,rfl,e3⟩;have b3:=b2.call g3 n3;have t3:=tq.call b2 n3;refine ⟨_,rfl,?_⟩;by_cases p0:isB l σ Zdi=true
 ·have hp:Zl l σ [Zdi,Zbv,Zdh,Zbe,Zbj] 0=0:=by simp [Zl,p0]
  rw [hp] at e3 ⊢;obtain ⟨i,rfl,ht⟩:=Zbs p0;have e3:σ3= .ok (i+1):=e3;subst e3;refine ifT rfl ((Zcmg b3.g).mono ?_);rintro _ H4 ⟨vs,c,rfl,F4,σ4,g4,n4,hc,o4⟩;obtain ⟨_,_,_,_,_,_,_,rfl⟩:=hc.five;refine ⟨_,_,_,_,_,_,_,rfl,ret5 (b3.call g4 n4) (t3.call b3 n4) hc ?_⟩;show Oc (Zcz l i) _ _;unfold Zcz;rw [if_pos ht];exact o4
 have p0:isB l σ Zdi=false:=by simpa using p0
 by_cases p1:isB l σ Zbv=true
 ·have hp:Zl l σ [Zdi,Zbv,Zdh,Zbe,Zbj] 0=1:=by simp [Zl,p0,p1]
  rw [hp] at e3 ⊢;obtain ⟨i,rfl,ht⟩:=Zbs p1;have e3:σ3= .ok (i+1):=e3;subst e3;refine ifF rfl (ifT rfl (newB fun u H4 hu bu k4=>?_));have b4:=b3.new k4;have t4:=t3.nil k4;have hup:u≠pb:=fun e=>by subst e;exact b3.g.live hu
  have up: ∀{c:Cd} {σ':Except Nat Nat},Oc (sB (.ok (i+1)) (Zhr l)) c σ'->Oc (sB (.ok i) (Zcz l)) c σ':=fun {c σ'} o=>by
   refine Zf (T':=fun i=>if isT l Zbv i then _ else _) p0 ?_
   exact Zcq (S':=fun i=>Zhr l (i+1)) ht o
  refine (Ztj (ws:=[Zey,Zfo,Zbe,Zgm]) b4.g (words bu rfl) (by decide) fun x e=>by cases e;exact hup).mono ?_
  rintro _ H5 ⟨rfl,F5,σ5,g5,n5,rfl,e5⟩;have b5:=b4.call g5 n5;have t5:=t4.call b4 n5;refine ⟨_,rfl,?_⟩;rcases Zcdm l (i+1) with ⟨k,op,hk,hop,hpath⟩ | ⟨hk,hpath⟩
  ·rw [hk] at e5 ⊢;have e5:σ5= .ok (i+1+1):=by rw [if_neg (by omega)] at e5;exact e5
   subst e5;refine ifT (decide_eq_true (by omega)) ?_
   rw [hop];exact Zbdw b5 t5 fun n σ2 o=>up (hpath _ _ o)
  ·rw [hk] at e5 ⊢;have e5:σ5= .ok (i+1):=by rw [if_pos rfl] at e5;exact e5
   subst e5;refine ifF rfl (Zbfv b5 t5 (up ?_));show Oc (Zhr l (i+1)) _ _;rw [hpath];rfl
 have p1:isB l σ Zbv=false:=by simpa using p1
 by_cases p2:isB l σ Zdh=true
 ·have hp:Zl l σ [Zdi,Zbv,Zdh,Zbe,Zbj] 0=2:=by simp [Zl,p0,p1,p2]
  rw [hp] at e3 ⊢;obtain ⟨i,rfl,ht⟩:=Zbs p2;have e3:σ3= .ok (i+1):=e3;subst e3;refine ifF rfl (ifF rfl (ifT rfl (Zbdw b3 t3 fun n σ2 o=>Zf (T':=fun i=>if isT l Zbv i then _ else _) p0 (Zf (T':=fun i=>if isT l Zdh i then _ else _) p1 ?_))))
  exact Zcq (S':=fun i=>Zff l 10 5 (i+1)) ht o
 have p2:isB l σ Zdh=false:=by simpa using p2
 by_cases p3:isB l σ Zbe=true
 ·have hp:Zl l σ [Zdi,Zbv,Zdh,Zbe,Zbj] 0=3:=by simp [Zl,p0,p1,p2,p3]
  rw [hp] at e3 ⊢;obtain ⟨i,rfl,ht⟩:=Zbs p3;have e3:σ3= .ok (i+1):=e3;subst e3;refine ifF rfl (ifF rfl (ifF rfl (ifT rfl (newB fun u H4 hu bu k4=>?_))));have b4:=b3.new k4;have t4:=t3.nil k4;have hup:u≠pb:=fun e=>by subst e;exact b3.g.live hu
  have up: ∀{c:Cd} {σ':Except Nat Nat},Oc (Zfj l (i+1)) c σ'->Oc (sB (.ok i) (Zcz l)) c σ':=fun {c σ'} o=>by
   refine Zf (T':=fun i=>if isT l Zbv i then _ else _) p0 (Zf (T':=fun i=>if isT l Zdh i then _ else _) p1 (Zf (T':=fun i=>if isT l Zbe i then _ else _) p2 ?_))
   exact Zcq (S':=fun i=>Zfj l (i+1)) ht o
  refine (Ztj (ws:=[Zgl,Zha,Zhy]) b4.g (words bu rfl) (by decide) fun x e=>by cases e;exact hup).mono ?_
  rintro _ H5 ⟨rfl,F5,σ5,g5,n5,rfl,e5⟩;have b5:=b4.call g5 n5;have t5:=t4.call b4 n5;refine ⟨_,rfl,?_⟩;rcases Zcdd l (i+1) with ⟨k,hk,ho⟩ | ⟨hk,ho⟩
  ·rw [hk] at e5 ⊢;have e5:σ5= .ok (i+1+1):=by rw [if_neg (by omega)] at e5;exact e5
   subst e5;exact ifT (decide_eq_true (by omega)) (ret5 b5 t5 (CdAt.leaf 11 0 0 _) (up (by rw [ho];exact ⟨rfl,rfl⟩)))
  ·rw [hk] at e5 ⊢;have e5:σ5= .ok (i+1):=by rw [if_pos rfl] at e5;exact e5
   subst e5;exact ifF rfl (Zbfv b5 t5 (up (by rw [ho];rfl)))
 have p3:isB l σ Zbe=false:=by simpa using p3
 by_cases p4:isB l σ Zbj=true
 ·have hp:Zl l σ [Zdi,Zbv,Zdh,Zbe,Zbj] 0=4:=by simp [Zl,p0,p1,p2,p3,p4]
  rw [hp] at e3 ⊢;obtain ⟨i,rfl,ht⟩:=Zbs p4;have e3:σ3= .ok (i+1):=e3;subst e3;refine ifF rfl (ifF rfl (ifF rfl (ifF rfl (ifT rfl ((Zjo b3.g Zjn).mono ?_)))));rintro _ H4 ⟨rfl,F4,σ4,g4,n4,rfl,o4⟩;refine ⟨rfl,Zbdw (b3.call g4 n4) (t3.call b3 n4) fun n σ2 o=>Zf (T':=fun i=>if isT l Zbv i then _ else _) p0 (Zf (T':=fun i=>if isT l Zdh i then _ else _) p1 (Zf (T':=fun i=>if isT l Zbe i then _ else _) p2 (Zf (T':=fun i=>if isT l Zbj i then _ else _) p3 ?_)))⟩
  exact Zcq (S':=fun i=>bS (Zcv l Zjn (i+1)) _) ht (Zeb o4 o)
 have p4:isB l σ Zbj=false:=by simpa using p4
 have hp:Zl l σ [Zdi,Zbv,Zdh,Zbe,Zbj] 0= -1:=by simp [Zl,p0,p1,p2,p3,p4]
 rw [hp] at e3 ⊢;have e3:σ3=σ:=e3;subst e3;refine ifF rfl (ifF rfl (ifF rfl (ifF rfl (ifF rfl (Zbfv b3 t3 ?_)))));exact Zf (T':=fun i=>if isT l Zbv i then _ else _) p0 (Zf (T':=fun i=>if isT l Zdh i then _ else _) p1 (Zf (T':=fun i=>if isT l Zbe i then _ else _) p2 (Zf (T':=fun i=>if isT l Zbj i then _ else _) p3 (Zf (T':=fun i=> .error i) p4 Zbdy))))
end
end Go.Proofs.YtlkdgfolbllngaaGreatDoor
end
section
set_option maxRecDepth 100000
namespace Go.Proofs.YtlkdgfolbllngaaGreatDoor
open Go.Sh Go.Pc
section
variable {T:TypeId} {F0 H0 F F' H H1 H':Heap} {pb d d':Nat} {l:List Tok} {σ σ' σ1 σ2:Except Nat Nat} {α β:Type}
structure Gw (P:Heap->List Value->α->Prop) (sz:Nat) (Tq:TypeId) (H0 F H:Heap) (a:Option Addr) (n cap:Nat) (xs:List α):Prop where
 ex: ∃vs:List (List Value),Sh.Own H0 H a n cap sz Tq vs.flatten∧vs.length=n∧∀(i:Nat) (v:List Value) (x:α),vs[i]? =some v->xs[i]? =some x->P F v x
 len:xs.length=n
 nf: ∀y,a=some ⟨y,0,none⟩->F y=none
 lim:n <= 100001
theorem Gw.call {P:Heap->List Value->α->Prop} {sz:Nat} {Tq:TypeId} {a:Option Addr} {n cap:Nat} {xs:List α} (h:Gw P sz Tq H0 F H a n cap xs) (b:Bd T F0 H0 F H pb l d σ) (n':Nx F H F' H' pb) (hP: ∀v x,P F v x->P F' v x):Gw P sz Tq H0 F' H' a n cap xs:=by obtain ⟨vs,ho,hl,hx⟩:=h.ex;refine ⟨⟨vs,ho.keep n'.kp fun y hy e=>b.lv (e▸ho.free hy),hl,fun i v x e1 e2=>hP _ _ (hx i v x e1 e2)⟩,h.len,fun y hy=>?_,h.lim⟩;obtain ⟨_,hb⟩:=ho.live hy;exact n'.none (h.nf y hy) hb.some
theorem Gw.nil {P:Heap->List Value->α->Prop} {sz:Nat} {Tq:TypeId} {a:Option Addr} {n cap:Nat} {xs:List α} (h:Gw P sz Tq H0 F H a n cap xs) (k:Keep Nil H H'):Gw P sz Tq H0 F H' a n cap xs:=by obtain ⟨vs,ho,hl,hx⟩:=h.ex;exact ⟨⟨vs,ho.keep k fun _ _ h=>h,hl,hx⟩,h.len,h.nf,h.lim⟩
theorem Gw.ne {P:Heap->List Value->α->Prop} {sz:Nat} {Tq:TypeId} {a:Option Addr} {n cap:Nat} {xs:List α} (h:Gw P sz Tq H0 F H a n cap xs) {q:Nat} (hq:H q=none):a≠some ⟨q,0,none⟩:=fun e=>by obtain ⟨vs,ho,_⟩:=h.ex;obtain ⟨_,hb⟩:=ho.live e;rw [hb] at hq;cases hq
theorem Gw.done {P:Heap->List Value->α->Prop} {sz:Nat} {Tq:TypeId} {a:Option Addr} {n cap:Nat} {xs:List α} (h:Gw P sz Tq H0 F H a n cap xs) (b:Bd T F0 H0 F H pb l d σ) (hP: ∀F',Keep Nil F F'->∀v x,P F v x->P F' v x):
  ∃F',Bd T F0 H0 F' H pb l d σ∧Keep Nil F F'∧RwAt P sz F' a cap xs∧∀y,F y=none->a≠some ⟨y,0,none⟩->F' y=none:=by
 obtain ⟨vs,ho,hl,hx⟩:=h.ex;have hlen:=h.len;subst hlen;obtain ⟨h1,h2,h3⟩:=ho;rcases h3 with ⟨rfl,e,_⟩ | ⟨m,rest,rfl,h0,hb,hr⟩
 ·have hvs:vs= []:=List.eq_nil_of_length_eq_zero (by omega)
  subst hvs;exact ⟨F,b,Keep.refl _ _,⟨⟨[],by rw [e,Nat.zero_mul];exact Reads.nil,hl,hx⟩,h2,h.lim⟩,fun y hy _=>hy⟩
 ·obtain ⟨F',b',k,hb',ho'⟩:=b.freeze (q:=m) (Tq:=Tq) (vs:=vs.flatten++rest) ⟨h0,h.nf m rfl,hb⟩;refine ⟨F',b',k,⟨⟨vs,Reads.blk hb' h1 fun j hj=>?_,hl,fun i v x e1 e2=>hP F' k _ _ (hx i v x e1 e2)⟩,h2,h.lim⟩,fun y hy hne=>?_⟩;rw [Nat.zero_add,List.getElem?_toArray,List.getElem?_append_left (by omega)]
  ·rw [ho' y fun e=>hne (by rw [e])];exact hy
theorem Gw.push {P:Heap->List Value->α->Prop} {sz by_:Nat} {Tq st t:TypeId} {it:TypeInfo} {a:Option Addr} {n cap:Nat} {xs:List α} (h:Gw P sz Tq H0 F H a n cap xs) (b:Bd T F0 H0 F H pb l d σ) {v z:List Value} {x:α} (hv:P F v x) (hvl:v.length=sz) (hpl: ∀u∈v,Zcy u=true)
  (hu:Tryz.prog.underlying st=some (.slice Tq)) (hi:Tryz.prog.info? Tq=some it) (hsz:it.size=sz) (hby:it.bytes=by_) (hb0:by_≠0) (hz:Zdj Tryz.prog Tq=some z) (hzl:z.length=sz) (hn:n <= 100000) (hby2:by_ <= 1000)
  {K:Value->Heap->Prop} (hK: ∀a' cap' H',Bd T F0 H0 F H' pb l d σ->Gw P sz Tq H0 F H' a' (n+1) cap' (xs++[x])->(∀y,a'=some ⟨y,0,none⟩->a=some ⟨y,0,none⟩∨H y=none)->Keep (fun y=>a=some ⟨y,0,none⟩) H H'->K (.slice a' (n+1) cap') H'):
  NewW H (.cells ⟨v⟩ Tq) fun q H1=>AppW Tryz.prog #[st,st] t [.slice a n cap,.slice (some ⟨q,0,none⟩) 1 1] H1 K:=by
 obtain ⟨vs,ho,hl,hx⟩:=h.ex;refine newB fun q H1 hq b1 k1=>?_;have hr:Reads H1 (some ⟨q,0,none⟩) (1*sz) v:=Reads.blk b1 (by rw [Nat.one_mul];exact hvl) fun j hj=>by rw [Nat.zero_add,List.getElem?_toArray]
 have kE:Keep (fun y=>H0 y≠none) H0 H1:=⟨fun y hy hne=>absurd hne hy,fun y hy=>(b.new k1).n.kp.live y hy⟩;refine Zbof (e:=Tq) (xe:=Tq) (z:=z) hu hu hi hsz hby hb0 hz hzl (ho.keep k1 fun _ _ h=>h) kE (new:=v) hr hpl ?_ fun a' cap' H' _ q1 q2 q3 q4=>?_
 ·have:(2*(n+1)+192)*by_ <= (2*(100000+1)+192)*1000:=Nat.mul_le_mul (by omega) hby2
  omega
 have hne: ∀y,a=some ⟨y,0,none⟩->y≠pb∧F y=none:=fun y hy=>⟨fun e=>b.lv (e▸ho.free hy),h.nf y hy⟩;have b2:=b.new k1;have b3:Bd T F0 H0 F H' pb l d σ:=⟨b2.g.other q3 (fun e=>(hne pb e).1 rfl) fun y hy=>(hne y hy).2,⟨b2.n.ff,b2.n.kp.then q3 fun y hy=> .inr (ho.free hy),b2.n.new⟩,b.lv,b.lv2⟩;have old: ∀y,a'=some ⟨y,0,none⟩->a=some ⟨y,0,none⟩∨H y=none:=fun y hy=>(q2 y hy).imp id fun e=>k1.free e;refine hK a' cap' H' b3 ⟨⟨vs++[v],by rw [List.flatten_append];simpa using q1,by rw [List.length_append,hl];rfl,fun i u y e1 e2=>?_⟩,by rw [List.length_append,h.len];rfl,fun y hy=>?_,by omega⟩ old ⟨fun y hy hne2=>?_,fun y hy=>q3.live y (k1.live y hy)⟩
 ·by_cases hi:i<n
  ·rw [List.getElem?_append_left (by omega)] at e1
   rw [List.getElem?_append_left (by rw [h.len];omega)] at e2
   exact hx i u y e1 e2
  ·rw [List.getElem?_append_right (by omega),hl] at e1
   rw [List.getElem?_append_right (by rw [h.len];omega),h.len] at e2
   have hin:i=n:=by have:=(List.getElem?_eq_some_iff.1 e1).1;simp only [List.length_singleton] at this;omega
   subst hin;simp only [Nat.sub_self,List.getElem?_cons_zero,Option.some.injEq] at e1 e2;subst e1 e2;exact hv
 rcases old y hy with e | e;exact h.nf y e;exact Classical.byContradiction fun e2=>(b.g.fr.live y e2) e;rw [q3.same y hy (k1.live y hne2),k1.same y id hne2]
end
end Go.Proofs.YtlkdgfolbllngaaGreatDoor
end
section
set_option maxRecDepth 100000
namespace Go.Proofs.YtlkdgfolbllngaaGreatDoor
open Go.Sh Go.Pc
theorem Zbxz: ∃it,Tryz.prog.info? Zba=some it∧it.size=5∧it.bytes=56:=by
 have h:(Tryz.prog.info? Zba).map (fun i=>(i.size,i.bytes))=some (5,56):=by kernel_rfl
 cases hi:Tryz.prog.info? Zba with
 | none=>rw [hi] at h;cases h
 | some it=>
  rw [hi] at h;simp only [Option.map_some,Option.some.injEq,Prod.mk.injEq] at h;exact ⟨it,rfl,h.1,h.2⟩
section
variable {T:TypeId} {F0 H0 F F' H H1 H':Heap} {pb d d':Nat} {l:List Tok} {σ σ' σ1 σ2:Except Nat Nat} {α β:Type}
theorem CdAt.plain {v:List Value} {c:Cd} (h:CdAt F v c): ∀u∈v,Zcy u=true:=by obtain ⟨_,_,_,_,_,_,_,rfl⟩:=h.five;intro u hu;simp only [List.mem_cons,List.not_mem_nil,or_false] at hu;rcases hu with rfl | rfl | rfl | rfl | rfl<;>rfl
theorem Zcfe {t:TypeId} {a:Option Addr} {n cap:Nat} {xs:List Cd} (h:Gw CdAt 5 Zba H0 F H a n cap xs) (b:Bd T F0 H0 F H pb l d σ) {v:List Value} {c:Cd} (hv:CdAt F v c) (hn:n <= 100000)
  {K:Value->Heap->Prop} (hK: ∀a' cap' H',Bd T F0 H0 F H' pb l d σ->Gw CdAt 5 Zba H0 F H' a' (n+1) cap' (xs++[c])->(∀y,a'=some ⟨y,0,none⟩->a=some ⟨y,0,none⟩∨H y=none)->Keep (fun y=>a=some ⟨y,0,none⟩) H H'->K (.slice a' (n+1) cap') H'):
  NewW H (.cells ⟨v⟩ Zba) fun q H1=>AppW Tryz.prog #[Zqb,Zqb] t [.slice a n cap,.slice (some ⟨q,0,none⟩) 1 1] H1 K:=by
 obtain ⟨it,i1,i2,i3⟩:=Zbxz;exact h.push b (z:=[.int .i64 0,.slice none 0 0,.int .u32 0,.int .i64 0,.int .i64 0]) hv hv.len hv.plain (by kernel_rfl) i1 i2 i3 (by decide) (by kernel_rfl) rfl hn (by decide) hK
theorem Gw.one {P:Heap->List Value->α->Prop} {sz:Nat} {Tq:TypeId} (b:Bd T F0 H0 F H pb l d σ) {q:Nat} {v:List Value} {x:α} (hq:H q=none) (hb:Blk H' q Tq ⟨v⟩) (hv:P F v x) (hvl:v.length=sz):Gw P sz Tq H0 F H' (some ⟨q,0,none⟩) 1 1 [x]:=by
 refine ⟨⟨[v],Sh.Own.row (b.n.kp.free hq) (by simpa using hb) (by simpa using hvl),rfl,fun i u y e1 e2=>?_⟩,rfl,fun y hy=>?_,by decide⟩
 ·cases i with
  | zero=>
   simp only [List.getElem?_cons_zero,Option.some.injEq] at e1 e2;subst e1 e2;exact hv
  | succ i=>simp at e1
 cases hy;exact Classical.byContradiction fun e=>(b.g.fr.live _ e) hq
theorem CdAt.row {op:Int} {a:Option Addr} {c:Nat} {xs:List Cd} (h:RwAt CdAt 5 F a c xs):CdAt F [.int .i64 op,.slice a xs.length c,.int .u32 0,.int .i64 0,.int .i64 0] (.mk op xs 0 0 0):=by obtain ⟨vs,h1,h2,h3⟩:=h.ex;exact .mk op 0 0 0 a c vs xs h1 h2 h.cap h3
theorem Gw.first {P:Heap->List Value->α->Prop} {sz:Nat} {Tq:TypeId} {a:Option Addr} {n cap:Nat} {x:α} {xs:List α} (h:Gw P sz Tq H0 F H a n cap (x::xs)): ∃v,P F v x∧(v.length=sz->∀K:Addr->Prop,(∀b o,(∀j,j<sz->H.cell ⟨b,o+j,none⟩=v[j]?)->K ⟨b,o,none⟩)->NilP a fun q=>InB 0 n fun m=>elemAt q m sz K):=by
 obtain ⟨vs,ho,hl,hx⟩:=h.ex;have hn:=h.len;cases vs with
 | nil=>simp only [List.length_nil,List.length_cons] at hl hn;omega
 | cons v vs=>
  refine ⟨v,hx 0 v x rfl rfl,fun hvl K hK=>?_⟩;rcases ho.2.2 with ⟨_,e,_⟩ | ⟨m,rest,rfl,h0,hb,hr⟩;simp only [List.length_cons] at hl;omega;refine NilP.intro _ rfl (InB.intro 0 rfl (by simp only [List.length_cons] at hl;omega) ?_)
  rw [Zud];refine hK m _ fun j hj=>?_;rw [show 0+0*sz+j=j by omega,hb.cell,List.getElem?_toArray]
  rw [List.flatten_cons,List.append_assoc,List.getElem?_append_left (by omega)]
theorem ld5c {b o:Nat} {op pa pl m:Int} {a:Option Addr} {n k:Nat} {K:Int->Option Addr->Nat->Nat->Int->Int->Int->Prop} (hc: ∀j,j<5->H.cell ⟨b,o+j,none⟩=([.int .i64 op,.slice a n k,.int .u32 pa,.int .i64 pl,.int .i64 m]:List Value)[j]?) (h:K op a n k pa pl m):
  ∃x0:Int,H.cell ⟨b,o,none⟩=some (Value.int .i64 x0)∧∃(x1a:Option Addr) (x1n x1c:Nat),H.cell ⟨b,o+1,none⟩=some (Value.slice x1a x1n x1c)∧∃x2:Int,H.cell ⟨b,o+2,none⟩=some (Value.int .u32 x2)∧∃x3:Int,H.cell ⟨b,o+3,none⟩=some (Value.int .i64 x3)∧∃x4:Int,H.cell ⟨b,o+4,none⟩=some (Value.int .i64 x4)∧K x0 x1a x1n x1c x2 x3 x4:=
 ⟨_,hc 0 (by decide),_,_,_,hc 1 (by decide),_,hc 2 (by decide),_,hc 3 (by decide),_,hc 4 (by decide),h⟩
theorem Zbuj {f:FuncId} {one:Nat->Rs Cd} (hadv:Adv l one) (hf: ∀{F H:Heap} {σ:Except Nat Nat},Gr Zg F H pb l d σ->FnW Tryz.prog f ⟨[.pointer (some ⟨pb,0,none⟩)]⟩ H (CdR Zg F H pb l d σ one)) (h:Gr Zg F H pb l d σ) (op:Int) (w:List UInt8):
  FnW Tryz.prog Zuw ⟨[.pointer (some ⟨pb,0,none⟩),.int .i64 op,.string (bstr w),.func (.func f) #[.pointer (some ⟨pb,0,none⟩)] #[]]⟩ H (CdR Zg F H pb l d σ (Zii l one w op)):=by
 refine Zcme pb op (bstr w) f (.pointer (some ⟨pb,0,none⟩)) ?_;unfold Zbul;refine newB fun q H1 hq bq k1=>?_;have b1:=h.start.new k1;have t1:=h.start.tm hq bq;refine (hf b1.g).mono ?_;rintro _ H2 ⟨vs0,c0,rfl,F2,σ2,g2,n2,hc0,o2⟩;have b2:=b1.call g2 n2;have t2:=t1.call b1 n2;have hlim:=h.lim;obtain ⟨e0,e1,e2,e3,e4,e5,e6,rfl⟩:=hc0.five;refine ⟨_,_,_,_,_,_,_,rfl,newB fun r H3 hr br k3=>?_⟩;have b3:=b2.new k3;have t3:=t2.nil k3;have w3:Gw CdAt 5 Zba H F2 H3 (some ⟨r,0,none⟩) 1 1 [c0]:=Gw.one b2 hr br hc0 rfl;refine Zbt (fun m s Hx=>∃(a:Option Addr) (n cap:Nat) (Fx:Heap) (σx:Except Nat Nat) (cs:List Cd),s=((a,n,cap),())∧Bd Zg F H Fx Hx pb l d σx∧Tm H Fx Hx q Zba [.int .i64 0,.slice none 0 0,.int .u32 0,.int .i64 0,.int .i64 0]∧Gw CdAt 5 Zba H Fx Hx a n cap (c0::cs)∧a≠some ⟨q,0,none⟩∧
  n+m <= l.length+2∧(∀j,σx= .ok j->j <= l.length∧l.length+1 <= m+j)∧∀cs' σ',Oc (sB σx (Zfs l one w m)) cs' σ'->Oc (sB σ (Zii l one w op)) (Zkg op c0 (cs++cs')) σ') (l.length+1)
  ⟨_,_,_,F2,σ2,[],rfl,b3,t3,w3,fun e=>(by cases e;rw [t2.blk] at hr;cases hr),by omega,fun j hj=>?_,fun cs' σ' o=>?_⟩ ?_
 ·subst hj;cases σ with
  | error e=>cases o2
  | ok i=>
   have o2:Oc (one i) c0 (.ok j):=o2;cases hone:one i with
   | error e=>rw [hone] at o2;cases o2
   | ok z=>
    obtain ⟨z,j'⟩:=z;rw [hone] at o2;obtain ⟨rfl,e⟩:=o2;cases e;have:=hadv _ _ _ hone;omega
 exact Zcb o2 (Zcb o Zeh);rintro m s Hx ⟨a,n,cap,Fx,σx,cs,rfl,bx,tx,wx,hax,hnm,hj,cont⟩ g;unfold Zbuk;refine (Ziu bx.g w).mono ?_;rintro _ H4 ⟨rfl,F4,σ4,g4,n4,rfl,e4⟩;have b4:=bx.call g4 n4;have t4:=tx.call bx n4;have w4:=wx.call bx n4 fun v x h=>h;refine ⟨_,rfl,IfB.intro (fun e=>?_) fun e=>?_⟩
 ·
  rw [if_pos e] at e4;obtain ⟨j,rfl,ht⟩:=Zbs e;have e4:σ4= .ok (j+1):=e4;subst e4;have hjl:=Zkd ht;obtain ⟨_,hjm⟩:=hj j rfl;obtain ⟨m',rfl⟩: ∃m',m=m'+1:=⟨m - 1,by omega⟩
  refine (hf b4.g).mono ?_;rintro _ H5 ⟨vs5,c5,rfl,F5,σ5,g5,n5,hc5,o5⟩;have b5:=b4.call g5 n5;have t5:=t4.call b4 n5;have w5:=w4.call b4 n5 fun v x h=>h.grow n5.ff;have hc5':=hc5;obtain ⟨z0,z1,z2,z3,z4,z5,z6,rfl⟩:=hc5'.five
  refine ⟨_,_,_,_,_,_,_,rfl,(Zcfe w5 b5 hc5 (by omega) (K:=fun v H8=>∃(a:Option Addr) (n c:Nat),v= .slice a n c∧∃k',k'<m'+1∧∃(a':Option Addr) (n' cap':Nat) (Fx:Heap) (σx:Except Nat Nat) (cs:List Cd),(((a,n,c),()):(Option Addr×Nat×Nat)×Unit)=((a',n',cap'),())∧Bd Zg F H Fx H8 pb l d σx∧Tm H Fx H8 q Zba [.int .i64 0,.slice none 0 0,.int .u32 0,.int .i64 0,.int .i64 0]∧Gw CdAt 5 Zba H Fx H8 a' n' cap' (c0::cs)∧a'≠some ⟨q,0,none⟩∧
   n'+k' <= l.length+2∧(∀j,σx= .ok j->j <= l.length∧l.length+1 <= k'+j)∧∀cs' σ',Oc (sB σx (Zfs l one w k')) cs' σ'->Oc (sB σ (Zii l one w op)) (Zkg op c0 (cs++cs')) σ') fun a' cap' H8 b8 w8 old8 k8=>⟨_,_,_,rfl,m',by omega,a',n+1,cap',F5,σ5,cs++[c5],rfl,b8,⟨t5.new,t5.nf,k8.blk t5.blk hax⟩,w8,?_,by omega,fun j' hj'=>?_,fun cs' σ' o=>?_⟩)⟩
  intro e;rcases old8 q e with e | e;exact hax e;exact t5.blk.some e
  ·subst hj';have o5:Oc (one (j+1)) c5 (.ok j'):=o5;cases hone:one (j+1) with
   | error e=>rw [hone] at o5;cases o5
   | ok z=>
    obtain ⟨z,j''⟩:=z;rw [hone] at o5;obtain ⟨rfl,e⟩:=o5;cases e;have:=hadv _ _ _ hone;omega
  rw [List.append_assoc];refine cont (c5::cs') σ' ?_;show Oc (Zfs l one w (m'+1) j) _ _;unfold Zfs;rw [if_pos ht];exact Zeb (r:=one (j+1)) o5 (Zcb o Zeh)
 ·
  rw [if_neg (by rw [e];decide)] at e4
  subst e4;have fin:Oc (sB σ (Zii l one w op)) (Zkg op c0 cs) σ4:=by
   have:=cont [] σ4 ?_;rwa [List.append_nil] at this
   ·cases σ4 with
    | error e=>rfl
    | ok j=>
     obtain ⟨h1,h2⟩:=hj j rfl;obtain ⟨m',rfl⟩: ∃m',m=m'+1:=⟨m - 1,by omega⟩
     have e:isT l w j=false:=e;show Oc (Zfs l one w (m'+1) j) _ _;unfold Zfs;rw [e];exact ⟨rfl,rfl⟩
  have hlen:=w4.len;simp only [List.length_cons] at hlen;refine IfB.intro (fun e1=>?_) fun e1=>?_
  ·have e1:(n:Int)=1:=by simpa using e1
   have hcs:cs= []:=List.eq_nil_of_length_eq_zero (by omega)
   subst hcs;obtain ⟨v,hv,hat⟩:=w4.first;obtain ⟨z0,z1,z2,z3,z4,z5,z6,rfl⟩:=hv.five;exact hat rfl _ fun b o hc=>ld5c hc (ret5 b4 t4 hv fin)
  ·have e1: ¬(n:Int)=1:=by simpa using e1
   obtain ⟨F9,b9,k9,r9,nf9⟩:=w4.done b4 fun F' k v x h=>h.grow k;have t9:Tm H F9 H4 q Zba [.int .i64 0,.slice none 0 0,.int .u32 0,.int .i64 0,.int .i64 0]:=⟨t4.new,nf9 q t4.nf hax,t4.blk⟩;cases cs with
   | nil=>simp only [List.length_nil] at hlen;omega
   | cons d0 cs=>
    have hc:=CdAt.row (op:=op) r9;rw [show (c0::d0::cs).length=n by simp only [List.length_cons] at hlen ⊢;omega] at hc
    exact ret5 b9 t9 hc fin
end
end Go.Proofs.YtlkdgfolbllngaaGreatDoor
end
section
set_option maxRecDepth 100000
namespace Go.Proofs.YtlkdgfolbllngaaGreatDoor
open Go.Sh Go.Pc
section
variable {T:TypeId} {F0 H0 F F' H H1 H':Heap} {pb d d':Nat} {l:List Tok} {σ σ' σ1 σ2:Except Nat Nat} {α β:Type}
theorem Zcng {one:Nat->Rs Cd} (hadv:Adv l one) (hf: ∀{F H:Heap} {σ:Except Nat Nat},Gr Zg F H pb l d σ->FnW Tryz.prog Znh ⟨[.pointer (some ⟨pb,0,none⟩)]⟩ H (CdR Zg F H pb l d σ one)) (h:Gr Zg F H pb l d σ):
  FnW Tryz.prog Zbch ⟨[.pointer (some ⟨pb,0,none⟩)]⟩ H (CdR Zg F H pb l d σ (allW l one)):=by
 refine Zcnh pb ?_;unfold Zbvw;refine newB fun q H1 hq bq k1=>?_;have b1:=h.start.new k1;refine (Zbuj hadv hf b1.g 1 Zfm).mono ?_;rintro _ H2 ⟨vs,c,rfl,F2,σ2,g2,n2,hc,o2⟩;obtain ⟨_,_,_,_,_,_,_,rfl⟩:=hc.five;exact ⟨_,_,_,_,_,_,_,rfl,ret5 (b1.call g2 n2) ((h.start.tm hq bq).call b1 n2) hc o2⟩
theorem Zbug {one:Nat->Rs Cd} (hadv:Adv l one) (hf: ∀{F H:Heap} {σ:Except Nat Nat},Gr Zg F H pb l d σ->FnW Tryz.prog Znh ⟨[.pointer (some ⟨pb,0,none⟩)]⟩ H (CdR Zg F H pb l d σ one)) (h:Gr Zg F H pb l d σ):
  FnW Tryz.prog Znk ⟨[.pointer (some ⟨pb,0,none⟩)]⟩ H (CdR Zg F H pb l d σ (anyW l one)):=by
 refine Zcmd pb ?_;unfold Zbuh;refine newB fun q H1 hq bq k1=>?_;have b1:=h.start.new k1;refine (Zbuj (Zbdl hadv _ _) (fun h=>Zcng hadv hf h) b1.g 2 w_or).mono ?_;rintro _ H2 ⟨vs,c,rfl,F2,σ2,g2,n2,hc,o2⟩;obtain ⟨_,_,_,_,_,_,_,rfl⟩:=hc.five;exact ⟨_,_,_,_,_,_,_,rfl,ret5 (b1.call g2 n2) ((h.start.tm hq bq).call b1 n2) hc o2⟩
theorem Bd.up (b:Bd T F0 H0 F H pb l (d+1) σ) {K:Heap->Prop} (hk: ∀H',Bd T F0 H0 F H' pb l d σ->Keep (fun y=>y=pb) H H'->K H'):
  ∃x:Int,H.cell ⟨pb,2,none⟩=some (.int .i64 x)∧Za H ⟨pb,2,none⟩ (.int .i64 (IntKind.wrap .i64 (x - 1))) K:=by
 obtain ⟨a,c,i,dp,bad,hb,hr,hi,hσ⟩:=b.g.blk;have hd:=b.g.deep;refine ⟨_,cellL hb 2 rfl,stL hb (by show 2<4;decide) rfl fun H' hb' k'=>hk H' (b.call (b.g.go (σ':=σ) (i':=i) (d':=d) k' hb' hr hi (by omega) ?_) (Nx.own k')) k'⟩
 cases σ with
 | ok j=>
  obtain ⟨rfl,rfl,h⟩:=hσ;refine ⟨rfl,?_,h⟩;rw [Zbl (by omega) (by omega)]
  omega
 | error j=>exact hσ
theorem Zbnv {q r:Nat} {v0 v1 v2 v3 v4:Value} {vs:List Value} {c:Cd} {S:Nat->Rs Cd} (b:Bd Zg F0 H0 F H pb l (d+1) σ1) (t:Tm H0 F H q Zba [v0,v1,v2,v3,v4]) (u:Tm H0 F H r Zba vs) (hc:CdAt F vs c) (ho:Oc (sB σ S) c σ1):
  Zza pb q r H fun v H1=>∀H2,Shut H0 H1 H2->CdR Zg F0 H0 pb l d σ S v H2:=by
 unfold Zza;obtain ⟨_,_,_,_,_,_,_,rfl⟩:=hc.five;exact b.up fun H1 b1 k1=>ld5 (u.par b k1).blk (ret5 b1 (t.par b k1) hc ho)
theorem Zbao {f:FuncId} {args:List Value} {q:Nat} {Tq:TypeId} {v0 v1 v2 v3 v4:Value} {S S':Nat->Rs Cd} (b:Bd T F0 H0 F H pb l d σ1) (t:Tm H0 F H q Tq [v0,v1,v2,v3,v4]) (hf:FnW Tryz.prog f ⟨args⟩ H (CdR T F H pb l d σ1 S')) (ho: ∀c σ',Oc (sB σ1 S') c σ'->Oc (sB σ S) c σ'):
  FnW Tryz.prog f ⟨args⟩ H fun v H=>∃(op:Int),∃(a:Option Addr) (n k:Nat),∃pa:Int,∃pl:Int,∃m:Int,v= .agg ⟨[.int .i64 op,.slice a n k,.int .u32 pa,.int .i64 pl,.int .i64 m]⟩∧
  Za H ⟨q,0,none⟩ (.int .i64 op) fun H1=>Za H1 ⟨q,1,none⟩ (.slice a n k) fun H2=>Za H2 ⟨q,2,none⟩ (.int .u32 pa) fun H3=>Za H3 ⟨q,3,none⟩ (.int .i64 pl) fun H4=>Za H4 ⟨q,4,none⟩ (.int .i64 m) fun H5=>
  ∃x0:Int,H5.cell ⟨q,0,none⟩=some (Value.int .i64 x0)∧∃(x1a:Option Addr) (x1n x1c:Nat),H5.cell ⟨q,1,none⟩=some (Value.slice x1a x1n x1c)∧∃x2:Int,H5.cell ⟨q,2,none⟩=some (Value.int .u32 x2)∧∃x3:Int,H5.cell ⟨q,3,none⟩=some (Value.int .i64 x3)∧∃x4:Int,H5.cell ⟨q,4,none⟩=some (Value.int .i64 x4)∧
   ∀H2,Shut H0 H5 H2->CdR T F0 H0 pb l d σ S (.agg ⟨[.int .i64 x0,.slice x1a x1n x1c,.int .u32 x2,.int .i64 x3,.int .i64 x4]⟩) H2:=by
 refine hf.mono ?_;rintro _ H2 ⟨vs,c,rfl,F2,σ2,g2,n2,hc,o2⟩;obtain ⟨_,_,_,_,_,_,_,rfl⟩:=hc.five;exact ⟨_,_,_,_,_,_,_,rfl,ret5 (b.call g2 n2) (t.call b n2) hc (ho _ _ o2)⟩
theorem Zbtu: ∀(f d:Nat) (_:25 <= d+f) {F H:Heap} {σ:Except Nat Nat},Gr Zg F H pb l d σ->FnW Tryz.prog Znh ⟨[.pointer (some ⟨pb,0,none⟩)]⟩ H (CdR Zg F H pb l d σ (oneS l f d))
 | 0,d,hd,F,H,σ,h=>absurd h.deep (by omega)
 | f+1,d,hd,F,H,σ,h=>by
  have ih:=@Zbtu f (d+1) (by omega)
  refine Zclv pb ?_;unfold Zbtv;refine newB fun q H1 hq bq k1=>newB fun r H2 hr br k2=>?_;have b0:=h.start;have b1:=b0.new k1;have b2:=b1.new k2;have tq:=(b0.tm hq bq).nil k2;have tr:=b1.tm hr br;have hqr:q≠r:=fun e=>by subst e;exact bq.some hr
  refine (Zzi b2.g Zgz).mono ?_;rintro v3 H3 (⟨rfl,hn,F3,σ3,g3,n3,rfl,rfl⟩ | ⟨i,rfl,ht,(⟨rfl,rfl,F3,σ3,g3,n3,rfl,rfl⟩ | ⟨hd24,rfl,n3,g3⟩)⟩)
  ·
   have b3:=b2.call g3 n3;have t3:=tq.call b2 n3;have u3:=tr.call b2 n3;refine ⟨_,rfl,ifF rfl ((Zzi b3.g w_lp).mono ?_)⟩;rintro v4 H4 (⟨rfl,hl,F4,σ4,g4,n4,rfl,rfl⟩ | ⟨i,rfl,ht,(⟨rfl,rfl,F4,σ4,g4,n4,rfl,rfl⟩ | ⟨hd24,rfl,n4,g4⟩)⟩);have b4:=b3.call g4 n4;refine ⟨_,rfl,ifF rfl (Zbao b4 (t3.call b3 n4) (Zbhd b4.g) fun c σ' o=>?_)⟩;exact Zf (T':=fun i=>if isT l w_lp i then _ else _) hn (Zf hl o)
   ·have b4:=b3.call g4 n4;refine ⟨_,rfl,ifF rfl (Zbao b4 (t3.call b3 n4) (Zbhd b4.g) fun c σ' o=>?_)⟩;refine Zf (T':=fun i=>if isT l w_lp i then _ else _) hn (Zcq ht ?_)
    rw [if_pos rfl];exact o
   ·have b4:=b3.call g4 n4;have t4:=t3.call b3 n4;have u4:=u3.call b3 n4;refine ⟨_,rfl,ifT rfl ((Zbug (Zrv f (d+1)) ih b4.g).mono ?_)⟩;rintro _ H5 ⟨vs,c,rfl,F5,σ5,g5,n5,hc,o5⟩;have b5:=b4.call g5 n5;have t5:=t4.call b4 n5;have u5:=u4.call b4 n5;obtain ⟨_,_,_,_,_,_,_,rfl⟩:=hc.five;refine ⟨_,_,_,_,_,_,_,rfl,st5 u5.blk fun H6 b6 k6=>?_⟩;have bb:=b5.wr u5 k6;have t6:=t5.other k6 hqr;have u6:=u5.wr b6;refine (Zjo bb.g w_rp).mono ?_;rintro _ H7 ⟨rfl,F7,σ7,g7,n7,rfl,o7⟩;refine ⟨rfl,Zbnv (bb.call g7 n7) (t6.call bb n7) (u6.call bb n7) hc ?_⟩;refine Zf (T':=fun i=>if isT l w_lp i then _ else _) hn (Zcq ht ?_)
    rw [if_neg (by omega)]
    exact Zeb o5 (Zcb o7 Zeh)
  ·
   have b3:=b2.call g3 n3;have t3:=tq.call b2 n3;refine ⟨_,rfl,ifF rfl ((Zzi b3.g w_lp).mono ?_)⟩;rintro v4 H4 (⟨rfl,hl,F4,σ4,g4,n4,rfl,rfl⟩ | ⟨i,e,ht2,_⟩)
   ·have b4:=b3.call g4 n4;refine ⟨_,rfl,ifF rfl (Zbao b4 (t3.call b3 n4) (Zbhd b4.g) fun c σ' o=>?_)⟩;refine Zcq (S':=fun i=>if 24=24 then .error i else _) ht ?_
    exact o
   cases e
  ·
   have b3:=b2.call g3 n3;have t3:=tq.call b2 n3;have u3:=tr.call b2 n3;refine ⟨_,rfl,ifT rfl ((ih b3.g).mono ?_)⟩;rintro _ H5 ⟨vs,c,rfl,F5,σ5,g5,n5,hc,o5⟩;have b5:=b3.call g5 n5;have t5:=t3.call b3 n5;have u5:=u3.call b3 n5;have hc2:=hc;obtain ⟨_,_,_,_,_,_,_,rfl⟩:=hc2.five;refine ⟨_,_,_,_,_,_,_,rfl,newB fun x H6 hx bx k6=>?_⟩;have b6:=b5.new k6;have t6:=t5.nil k6;have u6:=u5.nil k6;have w6:Gw CdAt 5 Zba H F5 H6 (some ⟨x,0,none⟩) 1 1 [c]:=Gw.one b5 hx bx hc rfl;obtain ⟨F9,b9,k9,r9,nf9⟩:=w6.done b6 fun F' k v x h=>h.grow k;have hxq:some (⟨x,0,none⟩:Addr)≠some ⟨q,0,none⟩:=fun e=>by cases e;exact t5.blk.some hx
   have hxr:some (⟨x,0,none⟩:Addr)≠some ⟨r,0,none⟩:=fun e=>by cases e;exact u5.blk.some hx
   have t9:Tm H F9 H6 q _ _:=⟨t6.new,nf9 q t6.nf hxq,t6.blk⟩;have u9:Tm H F9 H6 r _ _:=⟨u6.new,nf9 r u6.nf hxr,u6.blk⟩;refine st5 u9.blk fun H7 b7 k7=>?_;refine Zbnv (b9.wr u9 k7) (t9.other k7 hqr) (u9.wr b7) (CdAt.row (op:=3) r9) ?_;refine Zcq ht ?_;rw [if_neg (by omega)]
   exact Zeb o5 Zeh
theorem Zcmc (h:Gr Zg F H pb l d σ):FnW Tryz.prog Znk ⟨[.pointer (some ⟨pb,0,none⟩)]⟩ H (CdR Zg F H pb l d σ (anyS l d)):=
 Zbug (Zrv _ _) (Zbtu (25 - d) d (by have:=h.deep;omega)) h
end
end Go.Proofs.YtlkdgfolbllngaaGreatDoor
end
section
set_option maxRecDepth 100000
namespace Go.Proofs.YtlkdgfolbllngaaGreatDoor
open Go.Sh Go.Pc
theorem Zchv: ∃it,Tryz.prog.info? Zbf=some it∧it.size=10∧it.bytes=128:=by
 have h:(Tryz.prog.info? Zbf).map (fun i=>(i.size,i.bytes))=some (10,128):=by kernel_rfl
 cases hi:Tryz.prog.info? Zbf with
 | none=>rw [hi] at h;cases h
 | some it=>
  rw [hi] at h;simp only [Option.map_some,Option.some.injEq,Prod.mk.injEq] at h;exact ⟨it,rfl,h.1,h.2⟩
def SmR (T:TypeId) (F H:Heap) (pb:Nat) (l:List Tok) (d:Nat) (σ:Except Nat Nat) (S:Nat->Rs Sm) (v:Value) (H':Heap):Prop:=
 ∃vs s,v= .agg ⟨vs⟩∧Out T F H pb l d (fun F' _ σ'=>SmAt F' vs s∧Oc (sB σ S) s σ') v H'
def RwR (T:TypeId) (F H:Heap) (pb:Nat) (l:List Tok) (d:Nat) (σ:Except Nat Nat) (S:Nat->Rs (List Sm)) (v:Value) (H':Heap):Prop:=
 ∃a c ss,v= .slice a ss.length c∧Out T F H pb l d (fun F' _ σ'=>RwAt SmAt 10 F' a c ss∧Oc (sB σ S) ss σ') v H'
section
variable {T:TypeId} {F0 H0 F F' H H1 H':Heap} {pb d d':Nat} {l:List Tok} {σ σ' σ1 σ2:Except Nat Nat} {α β:Type}
theorem SmAt.ten {v:List Value} {s:Sm} (h:SmAt F v s): ∃(op c0:Int) (ca:Option Addr) (cn ck:Nat) (c2 c3 c4:Int) (a:Option Addr) (an ac:Nat) (b:Option Addr) (bn bc:Nat) (n m:Int),v= [.int .i64 op,.int .i64 c0,.slice ca cn ck,.int .u32 c2,.int .i64 c3,.int .i64 c4,.slice a an ac,.slice b bn bc,.int .i64 n,.int .i64 m]:=by
 cases h with
 | mk op n m cv c a b ac bc vs ws th el hcv=>
  obtain ⟨_,_,_,_,_,_,_,rfl⟩:=hcv.five;exact ⟨_,_,_,_,_,_,_,_,_,_,_,_,_,_,_,_,rfl⟩
theorem SmAt.plain {v:List Value} {s:Sm} (h:SmAt F v s): ∀u∈v,Zcy u=true:=by obtain ⟨_,_,_,_,_,_,_,_,_,_,_,_,_,_,_,_,rfl⟩:=h.ten;intro u hu;simp only [List.mem_cons,List.not_mem_nil,or_false] at hu;rcases hu with rfl | rfl | rfl | rfl | rfl | rfl | rfl | rfl | rfl | rfl<;>rfl
theorem RwAt.nil {P:Heap->List Value->α->Prop} {sz:Nat}:RwAt P sz F none 0 []:=⟨⟨[],by rw [List.length_nil,Nat.zero_mul];exact Reads.nil,rfl,fun i v d h=>by simp at h⟩,Nat.le_refl _,Nat.zero_le _⟩
theorem Gw.empty {P:Heap->List Value->α->Prop} {sz:Nat} {Tq:TypeId}:Gw P sz Tq H0 F H none 0 0 []:=⟨⟨[],Sh.Own.nil,rfl,fun i v d h=>by simp at h⟩,rfl,fun y hy=>(by cases hy),Nat.zero_le _⟩
theorem Zcff {t:TypeId} {a:Option Addr} {n cap:Nat} {xs:List Sm} (h:Gw SmAt 10 Zbf H0 F H a n cap xs) (b:Bd T F0 H0 F H pb l d σ) {v:List Value} {c:Sm} (hv:SmAt F v c) (hn:n <= 100000)
  {K:Value->Heap->Prop} (hK: ∀a' cap' H',Bd T F0 H0 F H' pb l d σ->Gw SmAt 10 Zbf H0 F H' a' (n+1) cap' (xs++[c])->(∀y,a'=some ⟨y,0,none⟩->a=some ⟨y,0,none⟩∨H y=none)->Keep (fun y=>a=some ⟨y,0,none⟩) H H'->K (.slice a' (n+1) cap') H'):
  NewW H (.cells ⟨v⟩ Zbf) fun q H1=>AppW Tryz.prog #[Zqc,Zqc] t [.slice a n cap,.slice (some ⟨q,0,none⟩) 1 1] H1 K:=by
 obtain ⟨it,i1,i2,i3⟩:=Zchv;exact h.push b (z:=[.int .i64 0,.int .i64 0,.slice none 0 0,.int .u32 0,.int .i64 0,.int .i64 0,.slice none 0 0,.slice none 0 0,.int .i64 0,.int .i64 0]) hv hv.len hv.plain (by kernel_rfl) i1 i2 i3 (by decide) (by kernel_rfl) rfl hn (by decide) hK
theorem Zbtj {stmt:Nat->Rs Sm} (hadv:Adv l stmt) (hf: ∀{F H:Heap} {σ:Except Nat Nat},Gr Zg F H pb l d σ->FnW Tryz.prog Znf ⟨[.pointer (some ⟨pb,0,none⟩)]⟩ H (SmR Zg F H pb l d σ stmt)) (h:Gr Zg F H pb l d σ):
  FnW Tryz.prog Zqt ⟨[.pointer (some ⟨pb,0,none⟩)]⟩ H (RwR Zg F H pb l d σ (Zer l stmt (l.length+1))):=by
 refine Zclm pb ?_;unfold Zbtl;have hlim:=h.lim;have hi0: ∀j,σ= .ok j->j <= l.length:=fun j e=>by obtain ⟨a,c,i,dp,bad,hb,hr,hi,hσ⟩:=h.blk;subst e;obtain ⟨rfl,_⟩:=hσ;exact hi
 refine Zbt (fun m s Hx=>∃(a:Option Addr) (n cap:Nat) (Fx:Heap) (σx:Except Nat Nat) (ss:List Sm),s=((a,n,cap),())∧Bd Zg F H Fx Hx pb l d σx∧Gw SmAt 10 Zbf H Fx Hx a n cap ss∧
  n+m <= l.length+1∧(∀j,σx= .ok j->j <= l.length∧l.length+1 <= m+j)∧∀ss' σ',Oc (sB σx (Zer l stmt m)) ss' σ'->Oc (sB σ (Zer l stmt (l.length+1))) (ss++ss') σ') (l.length+1)
  ⟨_,_,_,F,σ,[],rfl,h.start,Gw.empty,by omega,fun j hj=>⟨hi0 j hj,by omega⟩,fun ss' σ' o=>o⟩ ?_
 rintro m s Hx ⟨a,n,cap,Fx,σx,ss,rfl,bx,wx,hnm,hj,cont⟩ g;have stop: ∀{Fy Hy:Heap},Bd Zg F H Fy Hy pb l d σx->Gw SmAt 10 Zbf H Fy Hy a n cap ss->(∀j,σx= .ok j->isT l w_rb j=true)->∀{next:((Option Addr×Nat×Nat)×Unit)->Heap->Prop},Ztg pb a n cap next false Hy fun v H1=>∀H2,Shut H H1 H2->RwR Zg F H pb l d σ (Zer l stmt (l.length+1)) v H2:=fun {Fy Hy} by_ wy hs {next}=>by
  unfold Ztg;refine ifF rfl ((Zjo by_.g w_rb).mono ?_);rintro _ H4 ⟨rfl,F4,σ4,g4,n4,rfl,o4⟩;have b4:=by_.call g4 n4;have w4:=wy.call by_ n4 fun v x h=>h;refine ⟨rfl,fun H5 hs5=>?_⟩;obtain ⟨F9,b9,k9,r9,nf9⟩:=w4.done b4 fun F' k v x h=>h.grow k;have hlen:=w4.len;subst hlen;refine ⟨a,cap,ss,rfl,F9,σ4,b9.g.shut hs5,b9.n.shut hs5,r9,?_⟩;have:=cont [] σ4 ?_;rwa [List.append_nil] at this
  ·cases σx with
   | error e=>exact o4
   | ok j=>
    obtain ⟨h1,h2⟩:=hj j rfl;obtain ⟨m',rfl⟩: ∃m',m=m'+1:=⟨m - 1,by omega⟩
    have ht:=hs j rfl;have o4:Oc (Zcv l w_rb j) () σ4:=o4;unfold Zcv at o4;rw [if_pos ht] at o4;obtain ⟨_,rfl⟩:=o4;show Oc (Zer l stmt (m'+1) j) _ _;unfold Zer;rw [if_pos ht];exact ⟨rfl,rfl⟩
 unfold Zbtk;obtain ⟨pa,pc,i,dp,bad,hb,hr,hi,hσ⟩:=bx.g.blk;refine ⟨bad,cellL hb 3 rfl,?_⟩;cases σx with
 | error j=>
  obtain ⟨rfl,rfl⟩:=hσ;exact ifF rfl (stop bx wx fun j e=>by cases e)
 | ok j=>
  obtain ⟨rfl,rfl,rfl⟩:=hσ;obtain ⟨hjl,hjm⟩:=hj j rfl;refine ifT rfl ((Zbhk bx.g w_rb).mono ?_);rintro _ H4 ⟨rfl,F4,σ4,g4,n4,e4,rfl⟩;subst e4;have b4:=bx.call g4 n4;have w4:=wx.call bx n4 fun v x h=>h;refine ⟨_,rfl,?_⟩;cases e:isB l (.ok j) w_rb with
  | true=>exact stop b4 w4 fun j' e'=>by cases e';exact e
  | false=>
   have e:isT l w_rb j=false:=e;obtain ⟨m',rfl⟩: ∃m',m=m'+1:=⟨m - 1,by omega⟩
   unfold Ztg;refine ifT rfl ((hf b4.g).mono ?_);rintro _ H5 ⟨vs5,s5,rfl,F5,σ5,g5,n5,hc5,o5⟩;have b5:=b4.call g5 n5;have w5:=w4.call b4 n5 fun v x h=>h.grow n5.ff;have hc5':=hc5;obtain ⟨z0,z1,z2,z3,z4,z5,z6,z7,z8,z9,za,zb,zc,zd,ze,zf,rfl⟩:=hc5'.ten;refine ⟨_,_,_,_,_,_,_,_,_,_,_,_,_,_,_,_,rfl,Zcff w5 b5 hc5 (by omega) fun a' cap' H8 b8 w8 old8 k8=>⟨_,_,_,rfl,m',by omega,a',n+1,cap',F5,σ5,ss++[s5],rfl,b8,w8,by omega,fun j' hj'=>?_,fun cs' σ' o=>?_⟩⟩
   ·subst hj';have o5:Oc (stmt j) s5 (.ok j'):=o5;cases hone:stmt j with
    | error e=>rw [hone] at o5;cases o5
    | ok z=>
     obtain ⟨z,j''⟩:=z;rw [hone] at o5;obtain ⟨rfl,e⟩:=o5;cases e;have:=hadv _ _ _ hone;omega
   ·rw [List.append_assoc];refine cont (s5::cs') σ' ?_;show Oc (Zer l stmt (m'+1) j) _ _;unfold Zer;rw [if_neg (by rw [e];decide)]
    exact Zeb (r:=stmt j) o5 (Zcb o Zeh)
theorem Zcmn {stmt:Nat->Rs Sm} (hadv:Adv l stmt) (hf:d<24->∀{F H:Heap} {σ:Except Nat Nat},Gr Zg F H pb l (d+1) σ->FnW Tryz.prog Znf ⟨[.pointer (some ⟨pb,0,none⟩)]⟩ H (SmR Zg F H pb l (d+1) σ stmt)) (h:Gr Zg F H pb l d σ):
  FnW Tryz.prog Zrb ⟨[.pointer (some ⟨pb,0,none⟩)]⟩ H (RwR Zg F H pb l d σ (Zfr l stmt d)):=by
 refine Zcmo pb ?_;unfold Zbva;have b0:=h.start;refine (Zzi b0.g w_lb).mono ?_;rintro v3 H3 (⟨rfl,hn,F3,σ3,g3,n3,rfl,rfl⟩ | ⟨i,rfl,ht,(⟨rfl,rfl,F3,σ3,g3,n3,rfl,rfl⟩ | ⟨hd24,rfl,n3,g3⟩)⟩)
 ·refine ⟨_,rfl,ifT rfl ((b0.call g3 n3).bad fun H4 b4 k4 H5 hs=>⟨none,0,[],rfl,_,_,b4.g.shut hs,b4.n.shut hs,RwAt.nil,?_⟩)⟩;cases σ3 with
  | error e=>rfl
  | ok i=>
   have hn:isT l w_lb i=false:=hn;show Oc (Zfr l stmt d i) _ _;unfold Zfr;rw [hn];rfl
 refine ⟨_,rfl,ifT rfl ((b0.call g3 n3).bad fun H4 b4 k4 H5 hs=>⟨none,0,[],rfl,_,_,b4.g.shut hs,b4.n.shut hs,RwAt.nil,?_⟩)⟩;show Oc (Zfr l stmt 24 i) _ _;unfold Zfr;rw [if_pos ht,if_pos rfl];rfl
 ·have b3:=b0.call g3 n3;refine ⟨_,rfl,ifF rfl ((Zbtj hadv (hf hd24) b3.g).mono ?_)⟩;rintro _ H4 ⟨a,c,ss,rfl,F4,σ4,g4,n4,r4,o4⟩;have b4:=b3.call g4 n4;refine ⟨_,_,_,rfl,b4.up fun H5 b5 k5 H6 hs=>⟨a,c,ss,rfl,F4,σ4,b5.g.shut hs,b5.n.shut hs,r4,?_⟩⟩;show Oc (Zfr l stmt d i) _ _;unfold Zfr;rw [if_pos ht,if_neg (by omega)]
  exact o4
end
end Go.Proofs.YtlkdgfolbllngaaGreatDoor
end
section
set_option maxRecDepth 100000
namespace Go.Proofs.YtlkdgfolbllngaaGreatDoor
open Go.Sh Go.Pc
section
variable {T:TypeId} {F0 H0 F F' H H1 H':Heap} {pb d d':Nat} {l:List Tok} {σ σ' σ1 σ2:Except Nat Nat} {α β:Type}
theorem ld10 {q:Nat} {Tq:TypeId} {op c0 c2 c3 c4 n m:Int} {ca a b:Option Addr} {cn ck an ac bn bc:Nat} {K:Int->Int->Option Addr->Nat->Nat->Int->Int->Int->Option Addr->Nat->Nat->Option Addr->Nat->Nat->Int->Int->Prop} (hb:Blk H q Tq ⟨[.int .i64 op,.int .i64 c0,.slice ca cn ck,.int .u32 c2,.int .i64 c3,.int .i64 c4,.slice a an ac,.slice b bn bc,.int .i64 n,.int .i64 m]⟩) (h:K op c0 ca cn ck c2 c3 c4 a an ac b bn bc n m):
  ∃x0:Int,H.cell ⟨q,0,none⟩=some (Value.int .i64 x0)∧∃x1:Int,H.cell ⟨q,1,none⟩=some (Value.int .i64 x1)∧∃(x2a:Option Addr) (x2n x2c:Nat),H.cell ⟨q,2,none⟩=some (Value.slice x2a x2n x2c)∧∃x3:Int,H.cell ⟨q,3,none⟩=some (Value.int .u32 x3)∧∃x4:Int,H.cell ⟨q,4,none⟩=some (Value.int .i64 x4)∧∃x5:Int,H.cell ⟨q,5,none⟩=some (Value.int .i64 x5)∧∃(x6a:Option Addr) (x6n x6c:Nat),H.cell ⟨q,6,none⟩=some (Value.slice x6a x6n x6c)∧∃(x7a:Option Addr) (x7n x7c:Nat),H.cell ⟨q,7,none⟩=some (Value.slice x7a x7n x7c)∧∃x8:Int,H.cell ⟨q,8,none⟩=some (Value.int .i64 x8)∧∃x9:Int,H.cell ⟨q,9,none⟩=some (Value.int .i64 x9)∧K x0 x1 x2a x2n x2c x3 x4 x5 x6a x6n x6c x7a x7n x7c x8 x9:=
 ⟨_,cellL hb 0 rfl,_,cellL hb 1 rfl,_,_,_,cellL hb 2 rfl,_,cellL hb 3 rfl,_,cellL hb 4 rfl,_,cellL hb 5 rfl,_,_,_,cellL hb 6 rfl,_,_,_,cellL hb 7 rfl,_,cellL hb 8 rfl,_,cellL hb 9 rfl,h⟩
theorem st10 {q:Nat} {Tq:TypeId} {v0 v1 v2 v3 v4 v5 v6 v7 v8 v9:Value} {op c0 c2 c3 c4 n m:Int} {ca a b:Option Addr} {cn ck an ac bn bc:Nat} {K:Heap->Prop} (hb:Blk H q Tq ⟨[v0,v1,v2,v3,v4,v5,v6,v7,v8,v9]⟩) (h: ∀H',Blk H' q Tq ⟨[.int .i64 op,.int .i64 c0,.slice ca cn ck,.int .u32 c2,.int .i64 c3,.int .i64 c4,.slice a an ac,.slice b bn bc,.int .i64 n,.int .i64 m]⟩->Keep (fun y=>y=q) H H'->K H'):
  Za H ⟨q,0,none⟩ (.int .i64 op) fun J1=>Za J1 ⟨q,1,none⟩ (.int .i64 c0) fun J2=>Za J2 ⟨q,2,none⟩ (.slice ca cn ck) fun J3=>Za J3 ⟨q,3,none⟩ (.int .u32 c2) fun J4=>Za J4 ⟨q,4,none⟩ (.int .i64 c3) fun J5=>Za J5 ⟨q,5,none⟩ (.int .i64 c4) fun J6=>Za J6 ⟨q,6,none⟩ (.slice a an ac) fun J7=>Za J7 ⟨q,7,none⟩ (.slice b bn bc) fun J8=>Za J8 ⟨q,8,none⟩ (.int .i64 n) fun J9=>Za J9 ⟨q,9,none⟩ (.int .i64 m) K:=
 stL hb (by simp) rfl fun H1 b1 k1=>stL b1 (by simp) rfl fun H2 b2 k2=>stL b2 (by simp) rfl fun H3 b3 k3=>stL b3 (by simp) rfl fun H4 b4 k4=>stL b4 (by simp) rfl fun H5 b5 k5=>stL b5 (by simp) rfl fun H6 b6 k6=>stL b6 (by simp) rfl fun H7 b7 k7=>stL b7 (by simp) rfl fun H8 b8 k8=>stL b8 (by simp) rfl fun H9 b9 k9=>stL b9 (by simp) rfl fun H10 b10 k10=>h H10 b10 ((((((((((k1).trans k2).trans k3).trans k4).trans k5).trans k6).trans k7).trans k8).trans k9).trans k10)
theorem Zbfe {q:Nat} {Tq:TypeId} {v0 v1 v2 v3 v4 v5 v6 v7 v8 v9:Value} {op c0 c2 c3 c4 n m:Int} {ca a b:Option Addr} {cn ck an ac bn bc:Nat} {S:Nat->Rs Sm} {s:Sm} (bd:Bd T F0 H0 F H pb l d σ') (t:Tm H0 F H q Tq [v0,v1,v2,v3,v4,v5,v6,v7,v8,v9]) (hc:SmAt F [.int .i64 op,.int .i64 c0,.slice ca cn ck,.int .u32 c2,.int .i64 c3,.int .i64 c4,.slice a an ac,.slice b bn bc,.int .i64 n,.int .i64 m] s) (o:Oc (sB σ S) s σ'):
  Za H ⟨q,0,none⟩ (.int .i64 op) fun J1=>Za J1 ⟨q,1,none⟩ (.int .i64 c0) fun J2=>Za J2 ⟨q,2,none⟩ (.slice ca cn ck) fun J3=>Za J3 ⟨q,3,none⟩ (.int .u32 c2) fun J4=>Za J4 ⟨q,4,none⟩ (.int .i64 c3) fun J5=>Za J5 ⟨q,5,none⟩ (.int .i64 c4) fun J6=>Za J6 ⟨q,6,none⟩ (.slice a an ac) fun J7=>Za J7 ⟨q,7,none⟩ (.slice b bn bc) fun J8=>Za J8 ⟨q,8,none⟩ (.int .i64 n) fun J9=>Za J9 ⟨q,9,none⟩ (.int .i64 m) fun J10=>∃x0:Int,J10.cell ⟨q,0,none⟩=some (Value.int .i64 x0)∧∃x1:Int,J10.cell ⟨q,1,none⟩=some (Value.int .i64 x1)∧∃(x2a:Option Addr) (x2n x2c:Nat),J10.cell ⟨q,2,none⟩=some (Value.slice x2a x2n x2c)∧∃x3:Int,J10.cell ⟨q,3,none⟩=some (Value.int .u32 x3)∧∃x4:Int,J10.cell ⟨q,4,none⟩=some (Value.int .i64 x4)∧∃x5:Int,J10.cell ⟨q,5,none⟩=some (Value.int .i64 x5)∧∃(x6a:Option Addr) (x6n x6c:Nat),J10.cell ⟨q,6,none⟩=some (Value.slice x6a x6n x6c)∧∃(x7a:Option Addr) (x7n x7c:Nat),J10.cell ⟨q,7,none⟩=some (Value.slice x7a x7n x7c)∧∃x8:Int,J10.cell ⟨q,8,none⟩=some (Value.int .i64 x8)∧∃x9:Int,J10.cell ⟨q,9,none⟩=some (Value.int .i64 x9)∧∀H2,Shut H0 J10 H2->SmR T F0 H0 pb l d σ S (.agg ⟨[.int .i64 x0,.int .i64 x1,.slice x2a x2n x2c,.int .u32 x3,.int .i64 x4,.int .i64 x5,.slice x6a x6n x6c,.slice x7a x7n x7c,.int .i64 x8,.int .i64 x9]⟩) H2:=
 st10 t.blk fun H5 b5 k5=>ld10 b5 fun H2 hs=>by have bb:=bd.wr t k5;exact ⟨_,s,rfl,F,σ',bb.g.shut hs,bb.n.shut hs,hc,o⟩
theorem SmAt.mk' {op c0 c2 c3 c4 n m:Int} {ca a b:Option Addr} {cn ck ac bc:Nat} {c:Cd} {th el:List Sm} (hc:CdAt F [.int .i64 c0,.slice ca cn ck,.int .u32 c2,.int .i64 c3,.int .i64 c4] c) (h1:RwAt SmAt 10 F a ac th) (h2:RwAt SmAt 10 F b bc el):
  SmAt F [.int .i64 op,.int .i64 c0,.slice ca cn ck,.int .u32 c2,.int .i64 c3,.int .i64 c4,.slice a th.length ac,.slice b el.length bc,.int .i64 n,.int .i64 m] (.mk op c th el n m):=by
 obtain ⟨vs,r1,r2,r3⟩:=h1.ex;obtain ⟨ws,s1,s2,s3⟩:=h2.ex;exact .mk op n m _ c a b ac bc vs ws th el hc r1 r2 h1.cap r3 s1 s2 h2.cap s3
end
end Go.Proofs.YtlkdgfolbllngaaGreatDoor
end
section
set_option maxRecDepth 100000
namespace Go.Proofs.YtlkdgfolbllngaaGreatDoor
open Go.Sh Go.Pc
section
variable {T:TypeId} {F0 H0 F F' H H1 H':Heap} {pb d d':Nat} {l:List Tok} {σ σ' σ1 σ2:Except Nat Nat} {α β:Type}
abbrev Zgj (op n m:Int):List Value:=[.int .i64 op,.int .i64 0,.slice none 0 0,.int .u32 0,.int .i64 0,.int .i64 0,.slice none 0 0,.slice none 0 0,.int .i64 n,.int .i64 m]
abbrev smP (op n m:Int):Sm:= .mk op (.mk 0 [] 0 0 0) [] [] n m
theorem SmAt.simple (op n m:Int):SmAt F (Zgj op n m) (smP op n m):=SmAt.mk' (th:=[]) (el:=[]) (CdAt.leaf 0 0 0 0) RwAt.nil RwAt.nil
theorem Zop {q r:Nat} {v0 v1 v2 v3 v4 v5 v6 v7 v8 v9:Value} {op n m:Int} {S:Nat->Rs Sm} (b:Bd Zg F0 H0 F H pb l d σ1) (t:Tm H0 F H q Zbf [v0,v1,v2,v3,v4,v5,v6,v7,v8,v9]) (u:Tm H0 F H r Zbf (Zgj op n m)) (ho: ∀σ',Oc (sB σ1 (endS l (smP op n m))) (smP op n m) σ'->Oc (sB σ S) (smP op n m) σ'):
  Zkv pb q r H fun v H1=>∀H2,Shut H0 H1 H2->SmR Zg F0 H0 pb l d σ S v H2:=by
 unfold Zkv;refine (Zjo b.g w_sc).mono ?_;rintro _ H1 ⟨rfl,F1,s1,g1,n1,rfl,o1⟩;refine ⟨rfl,?_⟩;unfold Zbtm;exact ld10 (u.call b n1).blk (Zbfe (b.call g1 n1) (t.call b n1) (SmAt.simple op n m) (ho _ (Zcb (S:=Zcv l w_sc) o1 Zeh)))
theorem Zxh {q r:Nat} {v0 v1 v2 v3 v4 v5 v6 v7 v8 v9:Value} {op k:Int} {S:Nat->Rs Sm} (b:Bd Zg F0 H0 F H pb l d σ1) (t:Tm H0 F H q Zbf [v0,v1,v2,v3,v4,v5,v6,v7,v8,v9]) (u:Tm H0 F H r Zbf (Zgj op 0 0)) (hqr:q≠r) (ho: ∀n σ',Oc (sB σ1 fun i=>bS (numS l k i) fun n j=>endS l (smP op n 0) j) (smP op n 0) σ'->Oc (sB σ S) (smP op n 0) σ'):
  FnW Tryz.prog Zdm ⟨[.pointer (some ⟨pb,0,none⟩),.int .i64 k]⟩ H fun v H1=>∃x:Int,v= .int .i64 x∧Za H1 ⟨r,8,none⟩ (.int .i64 x) fun H2=>Zkv pb q r H2 fun v H1=>∀H2,Shut H0 H1 H2->SmR Zg F0 H0 pb l d σ S v H2:=by
 refine (Zgn b.g k).mono ?_;rintro _ H1 ⟨n,rfl,F1,s1,g1,n1,rfl,o1⟩;have b1:=b.call g1 n1;have u1:=u.call b n1;have t1:=t.call b n1;refine ⟨n,rfl,stL u1.blk (by show 8<10;decide) rfl fun H2 b2 k2=>?_⟩
 exact Zop (b1.wr u1 k2) (t1.other k2 hqr) (op:=op) (n:=n) (m:=0) ⟨u1.new,u1.nf,b2⟩ fun σ' o=>ho n σ' (Zcb o1 o)
theorem Zcln {any:Nat->Rs Cd} {inner:Nat->Rs (List Sm)} (ha: ∀{F H:Heap} {σ:Except Nat Nat},Gr Zg F H pb l d σ->FnW Tryz.prog Znk ⟨[.pointer (some ⟨pb,0,none⟩)]⟩ H (CdR Zg F H pb l d σ any))
  (hi: ∀{F H:Heap} {σ:Except Nat Nat},Gr Zg F H pb l d σ->FnW Tryz.prog Zrb ⟨[.pointer (some ⟨pb,0,none⟩)]⟩ H (RwR Zg F H pb l d σ inner)) (h:Gr Zg F H pb l d σ):
  FnW Tryz.prog Znf ⟨[.pointer (some ⟨pb,0,none⟩)]⟩ H (SmR Zg F H pb l d σ (Zhw l any inner)):=by
 refine Zclo pb ?_;unfold Zbtn;refine newB fun q H1 hq bq k1=>?_;have b1:=h.start.new k1;have t1:=h.start.tm hq bq;refine (Ziu b1.g w_if).mono ?_;rintro _ H2 ⟨rfl,F2,σ2,g2,n2,rfl,e2⟩;have b2:=b1.call g2 n2;have t2:=t1.call b1 n2;refine ⟨_,rfl,IfB.intro (fun e=>?_) fun e=>?_⟩
 ·
  rw [if_pos e] at e2;obtain ⟨i,rfl,ht⟩:=Zbs e;have e2:σ2= .ok (i+1):=e2;subst e2;refine (ha b2.g).mono ?_;rintro _ H3 ⟨vs,c,rfl,F3,σ3,g3,n3,hc,o3⟩;have b3:=b2.call g3 n3;have t3:=t2.call b2 n3;have hc':=hc;obtain ⟨x0,x1,x2,x3,x4,x5,x6,rfl⟩:=hc'.five;refine ⟨_,_,_,_,_,_,_,rfl,newB fun r H4 hr br k4=>?_⟩;have b4:=b3.new k4;have t4:=t3.nil k4;have u4:=b3.tm hr br;have hqr:q≠r:=fun e=>by subst e;exact t3.blk.some hr
  refine st10 u4.blk fun H5 b5 k5=>?_;have bb:=b4.wr u4 k5;have t5:=t4.other k5 hqr;have u5:=u4.wr b5;refine (hi bb.g).mono ?_;rintro _ H6 ⟨ta,tc,th,rfl,F6,σ6,g6,n6,r6,o6⟩;have b6:=bb.call g6 n6;have t6:=t5.call bb n6;have u6:=u5.call bb n6;refine ⟨_,_,_,rfl,stL u6.blk (by show 6<10;decide) rfl fun H7 b7 k7=>?_⟩
  replace b7:Blk H7 r Zbf ⟨[.int .i64 1,.int .i64 x0,.slice x1 x2 x3,.int .u32 x4,.int .i64 x5,.int .i64 x6,.slice ta th.length tc,.slice none 0 0,.int .i64 0,.int .i64 0]⟩:=b7;have bc:=b6.wr u6 k7;have t7:=t6.other k7 hqr;have u7:=u6.wr b7;refine (Ziu bc.g Zfy).mono ?_;rintro _ H8 ⟨rfl,F8,σ8,g8,n8,rfl,e8⟩;have b8:=bc.call g8 n8;have t8:=t7.call bc n8;have u8:=u7.call bc n8;refine ⟨_,rfl,IfB.intro (fun e9=>?_) fun e9=>?_⟩
  ·rw [if_pos e9] at e8;obtain ⟨j,rfl,ht2⟩:=Zbs e9;have e8:σ8= .ok (j+1):=e8;subst e8;refine (hi b8.g).mono ?_;rintro _ H9 ⟨ea,ec,el,rfl,F9,σ9,g9,n9,r9,o9⟩;have b9:=b8.call g9 n9;have t9:=t8.call b8 n9;have u9:=u8.call b8 n9;refine ⟨_,_,_,rfl,stL u9.blk (by show 7<10;decide) rfl fun H10 b10 k10=>?_⟩
   replace b10:Blk H10 r Zbf ⟨[.int .i64 1,.int .i64 x0,.slice x1 x2 x3,.int .u32 x4,.int .i64 x5,.int .i64 x6,.slice ta th.length tc,.slice ea el.length ec,.int .i64 0,.int .i64 0]⟩:=b10;unfold Zyz;refine ld10 b10 (Zbfe (b9.wr u9 k10) (t9.other k10 hqr) (SmAt.mk' (hc.grow (n6.ff.trans n9.ff)) (r6.grow n9.ff fun _ _ h=>h.grow n9.ff) r9) ?_);show Oc (Zhw l any inner i) _ _;unfold Zhw;rw [if_pos ht];refine Zeb o3 (Zcb o6 (Zcb (x:=el) (σ1:=σ9) ?_ Zeh));show Oc (Zli l inner j) _ _;unfold Zli;rw [if_pos ht2];exact o9
  ·rw [if_neg (by rw [e9];decide)] at e8
   subst e8;unfold Zyz;refine ld10 u8.blk (Zbfe b8 t8 (SmAt.mk' (el:=[]) (hc.grow n6.ff) r6 RwAt.nil) ?_);show Oc (Zhw l any inner i) _ _;unfold Zhw;rw [if_pos ht];exact Zeb o3 (Zcb o6 (Zcb (x:=[]) (σ1:=σ8) (Zf (T':=fun i=> .ok ([],i)) e9 Zeh) Zeh))
 ·
  rw [if_neg (by rw [e];decide)] at e2
  subst e2;refine newB fun w H3 hw bw k3=>?_;have b3:=b2.new k3;have t3:=t2.nil k3;have hwp:w≠pb:=fun e=>by subst e;exact b2.g.live hw
  have up: ∀{s:Sm} {σ':Except Nat Nat},Oc (sB σ2 (Zki l)) s σ'->Oc (sB σ2 (Zhw l any inner)) s σ':=fun {s σ'} o=>Zf (T':=Zki l) e o;refine (Ztj (ws:=[Zdt,Zce,Zco,Zcu,Zbj,Zee,Zes,Zfn]) b3.g (words bw rfl) (by decide) fun x e=>by cases e;exact hwp).mono ?_
  rintro _ H4 ⟨rfl,F4,σ4,g4,n4,rfl,e4⟩;have b4:=b3.call g4 n4;have t4:=t3.call b3 n4;refine ⟨_,rfl,newB fun r H5 hr br k5=>?_⟩;have b5:=b4.new k5;have t5:=t4.nil k5;have u5:=b4.tm hr br;have hqr:q≠r:=fun e=>by subst e;exact t4.blk.some hr
  refine st10 u5.blk fun H6 b6 k6=>?_;have bb:=b5.wr u5 k6;have t6:=t5.other k6 hqr;refine ⟨_,cellL b6 0 rfl,?_⟩;have pick: ∀{k:Nat} {op:Int},Zl l σ2 [Zdt,Zce,Zco,Zcu,Zbj,Zee,Zes,Zfn] 0=k->IntKind.wrap .i64 (2+(k:Int))=op->∀{i:Nat},σ2= .ok i->IntKind.wrap .i64 (2+Zl l σ2 [Zdt,Zce,Zco,Zcu,Zbj,Zee,Zes,Zfn] 0)=op∧σ4= .ok (i+1):=fun {k op} hk hop {i} hs=>by
   rw [hk] at e4 ⊢;rw [if_neg (by omega)] at e4
   subst hs;exact ⟨hop,e4⟩
  by_cases p0:isB l σ2 Zdt=true
  ·obtain ⟨i,rfl,ht⟩:=Zbs p0;obtain ⟨hop,hs⟩:=pick (k:=0) (op:=2) (by simp [Zl,p0]) (by decide) rfl
   rw [hop] at b6 ⊢;subst hs;have u6:Tm H F4 H6 r Zbf (Zgj 2 0 0):=u5.wr b6;refine ifF rfl (ifF rfl ?_);unfold Ziv;refine ifF rfl (ifF rfl ?_);unfold Zkw;exact ifF rfl (ifF rfl (Zop bb t6 u6 fun σ' o=>up (Zcq (S':=fun i=>endS l (smP 2 0 0) (i+1)) ht o)))
  have p0:isB l σ2 Zdt=false:=by simpa using p0
  by_cases p1:isB l σ2 Zce=true
  ·obtain ⟨i,rfl,ht⟩:=Zbs p1;obtain ⟨hop,hs⟩:=pick (k:=1) (op:=3) (by simp [Zl,p0,p1]) (by decide) rfl
   rw [hop] at b6 ⊢;subst hs;have u6:Tm H F4 H6 r Zbf (Zgj 3 0 0):=u5.wr b6;refine ifF rfl (ifF rfl ?_);unfold Ziv;refine ifF rfl (ifF rfl ?_);unfold Zkw;exact ifF rfl (ifF rfl (Zop bb t6 u6 fun σ' o=>up (Zf (T':=fun i=>if isT l Zce i then _ else _) p0 (Zcq (S':=fun i=>endS l (smP 3 0 0) (i+1)) ht o))))
  have p1:isB l σ2 Zce=false:=by simpa using p1
  by_cases p2:isB l σ2 Zco=true
  ·obtain ⟨i,rfl,ht⟩:=Zbs p2;obtain ⟨hop,hs⟩:=pick (k:=2) (op:=4) (by simp [Zl,p0,p1,p2]) (by decide) rfl
   rw [hop] at b6 ⊢;subst hs;have u6:Tm H F4 H6 r Zbf (Zgj 4 0 0):=u5.wr b6;refine ifT rfl ((Zgn bb.g 2).mono ?_);rintro _ H7 ⟨n,rfl,F7,σ7,g7,n7,rfl,o7⟩;have b7:=bb.call g7 n7;have t7:=t6.call bb n7;have u7:=u6.call bb n7;refine ⟨n,rfl,stL u7.blk (by show 8<10;decide) rfl fun H8 b8 k8=>?_⟩
   replace b8:Blk H8 r Zbf ⟨Zgj 4 n 0⟩:=b8;have bc:=b7.wr u7 k8;have t8:=t7.other k8 hqr;have u8:=u7.wr b8;refine (Zgn bc.g 2).mono ?_;rintro _ H9 ⟨m,rfl,F9,σ9,g9,n9,rfl,o9⟩;have b9:=bc.call g9 n9;have t9:=t8.call bc n9;have u9:=u8.call bc n9;refine ⟨m,rfl,stL u9.blk (by show 9<10;decide) rfl fun H10 b10 k10=>?_⟩
   refine Zop (b9.wr u9 k10) (t9.other k10 hqr) (op:=4) (n:=n) (m:=m) ⟨u9.new,u9.nf,b10⟩ fun σ' o=>up (Zf (T':=fun i=>if isT l Zce i then _ else _) p0 (Zf (T':=fun i=>if isT l Zco i then _ else _) p1 (Zcq (S':=fun i=>bS (numS l 2 (i+1)) _) ht (Zeb o7 (Zcb o9 o)))))
  have p2:isB l σ2 Zco=false:=by simpa using p2
  by_cases p3:isB l σ2 Zcu=true
  ·obtain ⟨i,rfl,ht⟩:=Zbs p3;obtain ⟨hop,hs⟩:=pick (k:=3) (op:=5) (by simp [Zl,p0,p1,p2,p3]) (by decide) rfl
   rw [hop] at b6 ⊢;subst hs;have u6:Tm H F4 H6 r Zbf (Zgj 5 0 0):=u5.wr b6;refine ifF rfl (ifT rfl ?_);unfold Ziv;exact ifT rfl (Zxh bb t6 u6 hqr fun n σ' o=>up (Zf (T':=fun i=>if isT l Zce i then _ else _) p0 (Zf (T':=fun i=>if isT l Zco i then _ else _) p1 (Zf (T':=fun i=>if isT l Zcu i then _ else _) p2 (Zcq (S':=fun i=>bS (numS l 2 (i+1)) fun n j=>endS l (smP 5 n 0) j) ht o)))))
  have p3:isB l σ2 Zcu=false:=by simpa using p3
  by_cases p4:isB l σ2 Zbj=true
  ·obtain ⟨i,rfl,ht⟩:=Zbs p4;obtain ⟨hop,hs⟩:=pick (k:=4) (op:=6) (by simp [Zl,p0,p1,p2,p3,p4]) (by decide) rfl
   rw [hop] at b6 ⊢;subst hs;have u6:Tm H F4 H6 r Zbf (Zgj 6 0 0):=u5.wr b6;refine ifF rfl (ifF rfl ?_);unfold Ziv;exact ifT rfl (Zxh bb t6 u6 hqr fun n σ' o=>up (Zf (T':=fun i=>if isT l Zce i then _ else _) p0 (Zf (T':=fun i=>if isT l Zco i then _ else _) p1 (Zf (T':=fun i=>if isT l Zcu i then _ else _) p2 (Zf (T':=fun i=>if isT l Zbj i then _ else _) p3 (Zcq (S':=fun i=>bS (numS l 2 (i+1)) fun n j=>endS l (smP 6 n 0) j) ht o))))))
  have p4:isB l σ2 Zbj=false:=by simpa using p4
  by_cases p5:isB l σ2 Zee=true
  ·obtain ⟨i,rfl,ht⟩:=Zbs p5;obtain ⟨hop,hs⟩:=pick (k:=5) (op:=7) (by simp [Zl,p0,p1,p2,p3,p4,p5]) (by decide) rfl
   rw [hop] at b6 ⊢;subst hs;have u6:Tm H F4 H6 r Zbf (Zgj 7 0 0):=u5.wr b6;refine ifF rfl (ifF rfl ?_);unfold Ziv;refine ifF rfl (ifT rfl ?_);unfold Zkw;exact ifT rfl (Zxh bb t6 u6 hqr fun n σ' o=>up (Zf (T':=fun i=>if isT l Zce i then _ else _) p0 (Zf (T':=fun i=>if isT l Zco i then _ else _) p1 (Zf (T':=fun i=>if isT l Zcu i then _ else _) p2 (Zf (T':=fun i=>if isT l Zbj i then _ else _) p3 (Zf (T':=fun i=>if isT l Zee i then _ else _) p4 (Zcq (S':=fun i=>bS (numS l 5 (i+1)) fun n j=>endS l (smP 7 n 0) j) ht o)))))))
  have p5:isB l σ2 Zee=false:=by simpa using p5
  by_cases p6:isB l σ2 Zes=true
  ·obtain ⟨i,rfl,ht⟩:=Zbs p6;obtain ⟨hop,hs⟩:=pick (k:=6) (op:=8) (by simp [Zl,p0,p1,p2,p3,p4,p5,p6]) (by decide) rfl
   rw [hop] at b6 ⊢;subst hs;have u6:Tm H F4 H6 r Zbf (Zgj 8 0 0):=u5.wr b6;refine ifF rfl (ifF rfl ?_);unfold Ziv;refine ifF rfl (ifF rfl ?_);unfold Zkw;exact ifT rfl (Zxh bb t6 u6 hqr fun n σ' o=>up (Zf (T':=fun i=>if isT l Zce i then _ else _) p0 (Zf (T':=fun i=>if isT l Zco i then _ else _) p1 (Zf (T':=fun i=>if isT l Zcu i then _ else _) p2 (Zf (T':=fun i=>if isT l Zbj i then _ else _) p3 (Zf (T':=fun i=>if isT l Zee i then _ else _) p4 (Zf (T':=fun i=>if isT l Zes i then _ else _) p5 (Zcq (S':=fun i=>bS (numS l 5 (i+1)) fun n j=>endS l (smP 8 n 0) j) ht o))))))))
  have p6:isB l σ2 Zes=false:=by simpa using p6
  by_cases p7:isB l σ2 Zfn=true
  ·obtain ⟨i,rfl,ht⟩:=Zbs p7;obtain ⟨hop,hs⟩:=pick (k:=7) (op:=9) (by simp [Zl,p0,p1,p2,p3,p4,p5,p6,p7]) (by decide) rfl
   rw [hop] at b6 ⊢;subst hs;have u6:Tm H F4 H6 r Zbf (Zgj 9 0 0):=u5.wr b6;refine ifF rfl (ifF rfl ?_);unfold Ziv;refine ifF rfl (ifF rfl ?_);unfold Zkw;exact ifF rfl (ifF rfl (Zop bb t6 u6 fun σ' o=>up (Zf (T':=fun i=>if isT l Zce i then _ else _) p0 (Zf (T':=fun i=>if isT l Zco i then _ else _) p1 (Zf (T':=fun i=>if isT l Zcu i then _ else _) p2 (Zf (T':=fun i=>if isT l Zbj i then _ else _) p3 (Zf (T':=fun i=>if isT l Zee i then _ else _) p4 (Zf (T':=fun i=>if isT l Zes i then _ else _) p5 (Zf (T':=fun i=>if isT l Zfn i then _ else _) p6 (Zcq (S':=fun i=>endS l (smP 9 0 0) (i+1)) ht o))))))))))
  have p7:isB l σ2 Zfn=false:=by simpa using p7
  have hp:Zl l σ2 [Zdt,Zce,Zco,Zcu,Zbj,Zee,Zes,Zfn] 0= -1:=by simp [Zl,p0,p1,p2,p3,p4,p5,p6,p7]
  rw [hp] at e4 b6 ⊢;have e4:σ4=σ2:=e4;subst e4;have h1:IntKind.wrap .i64 (2+(-1:Int))=1:=by decide
  rw [h1] at b6 ⊢;have u6:Tm H F4 H6 r Zbf (Zgj 1 0 0):=u5.wr b6;refine ifF rfl (ifF rfl ?_);unfold Ziv;refine ifF rfl (ifF rfl ?_);unfold Zkw;refine ifF rfl (ifT rfl (bb.bad fun H7 b7 k7=>?_));refine Zop b7 (t6.par bb k7) (u6.par bb k7) fun σ' o=>up ?_;have hσ:σ'=Znp σ4:=by cases σ4<;>exact o
  subst hσ;exact Zf (T':=fun i=>if isT l Zce i then _ else _) p0 (Zf (T':=fun i=>if isT l Zco i then _ else _) p1 (Zf (T':=fun i=>if isT l Zcu i then _ else _) p2 (Zf (T':=fun i=>if isT l Zbj i then _ else _) p3 (Zf (T':=fun i=>if isT l Zee i then _ else _) p4 (Zf (T':=fun i=>if isT l Zes i then _ else _) p5 (Zf (T':=fun i=>if isT l Zfn i then _ else _) p6 (Zf (T':=fun i=> .error i) p7 Zbdy)))))))
theorem Zblc: ∀(f d:Nat) (_:25 <= d+f) {F H:Heap} {σ:Except Nat Nat},Gr Zg F H pb l d σ->FnW Tryz.prog Znf ⟨[.pointer (some ⟨pb,0,none⟩)]⟩ H (SmR Zg F H pb l d σ (smS l f d))
 | 0,d,hd,F,H,σ,h=>absurd h.deep (by omega)
 | f+1,d,hd,F,H,σ,h=>Zcln (fun h=>Zcmc h) (fun h=>Zcmn (Zxf f (d+1)) (fun _ {F H σ} h=>Zblc f (d+1) (by omega) h) h) h
theorem Zbzl (h:Gr Zg F H pb l d σ):FnW Tryz.prog Zqt ⟨[.pointer (some ⟨pb,0,none⟩)]⟩ H (RwR Zg F H pb l d σ (Zmv l d)):=
 Zbtj (Zxf _ _) (fun h=>Zblc (25 - d) d (by have:=h.deep;omega) h) h
end
end Go.Proofs.YtlkdgfolbllngaaGreatDoor
end
section
set_option maxRecDepth 100000
namespace Go.Proofs.YtlkdgfolbllngaaGreatDoor
open Go.Sh Go.Pc
def PrR (T:TypeId) (F H:Heap) (pb:Nat) (l:List Tok) (d:Nat) (σ:Except Nat Nat) (S:Nat->Rs Pr) (v:Value) (H':Heap):Prop:=
 ∃vs p,v= .agg ⟨vs⟩∧Out T F H pb l d (fun F' _ σ'=>PrAt F' vs p∧Oc (sB σ S) p σ') v H'
section
variable {T:TypeId} {F0 H0 F F' H H1 H':Heap} {pb d d':Nat} {l:List Tok} {σ σ' σ1 σ2:Except Nat Nat} {α β:Type}
abbrev prL (nm:List UInt8) (ad as_:Int) (wt:Bool) (mx:Int) (i_ o_:List UInt8):List Value:=[.string (bstr nm),.int .u32 ad,.int .u32 as_,.bool wt,.int .i64 mx,.string (bstr i_),.string (bstr o_)]
theorem ld7 {q:Nat} {Tq:TypeId} {nm i_ o_:List UInt8} {ad as_ mx:Int} {wt:Bool} {K:ByteArray->Int->Int->Bool->Int->ByteArray->ByteArray->Prop} (hb:Blk H q Tq ⟨prL nm ad as_ wt mx i_ o_⟩) (h:K (bstr nm) ad as_ wt mx (bstr i_) (bstr o_)):
  ∃x0:ByteArray,H.cell ⟨q,0,none⟩=some (Value.string x0)∧∃x1:Int,H.cell ⟨q,1,none⟩=some (Value.int .u32 x1)∧∃x2:Int,H.cell ⟨q,2,none⟩=some (Value.int .u32 x2)∧∃x3:Bool,H.cell ⟨q,3,none⟩=some (Value.bool x3)∧∃x4:Int,H.cell ⟨q,4,none⟩=some (Value.int .i64 x4)∧∃x5:ByteArray,H.cell ⟨q,5,none⟩=some (Value.string x5)∧∃x6:ByteArray,H.cell ⟨q,6,none⟩=some (Value.string x6)∧K x0 x1 x2 x3 x4 x5 x6:=
 ⟨_,cellL hb 0 rfl,_,cellL hb 1 rfl,_,cellL hb 2 rfl,_,cellL hb 3 rfl,_,cellL hb 4 rfl,_,cellL hb 5 rfl,_,cellL hb 6 rfl,h⟩
theorem st7 {q:Nat} {Tq:TypeId} {v0 v1 v2 v3 v4 v5 v6:Value} {nm i_ o_:List UInt8} {ad as_ mx:Int} {wt:Bool} {K:Heap->Prop} (hb:Blk H q Tq ⟨[v0,v1,v2,v3,v4,v5,v6]⟩) (h: ∀H',Blk H' q Tq ⟨prL nm ad as_ wt mx i_ o_⟩->Keep (fun y=>y=q) H H'->K H'):
  Za H ⟨q,0,none⟩ (.string (bstr nm)) fun J1=>Za J1 ⟨q,1,none⟩ (.int .u32 ad) fun J2=>Za J2 ⟨q,2,none⟩ (.int .u32 as_) fun J3=>Za J3 ⟨q,3,none⟩ (.bool wt) fun J4=>Za J4 ⟨q,4,none⟩ (.int .i64 mx) fun J5=>Za J5 ⟨q,5,none⟩ (.string (bstr i_)) fun J6=>Za J6 ⟨q,6,none⟩ (.string (bstr o_)) K:=
 stL hb (by simp) rfl fun H1 b1 k1=>stL b1 (by simp) rfl fun H2 b2 k2=>stL b2 (by simp) rfl fun H3 b3 k3=>stL b3 (by simp) rfl fun H4 b4 k4=>stL b4 (by simp) rfl fun H5 b5 k5=>stL b5 (by simp) rfl fun H6 b6 k6=>stL b6 (by simp) rfl fun H7 b7 k7=>h H7 b7 (((((((k1).trans k2).trans k3).trans k4).trans k5).trans k6).trans k7)
theorem ret7 {q:Nat} {Tq:TypeId} {v0 v1 v2 v3 v4 v5 v6:Value} {nm i_ o_:List UInt8} {ad as_ mx:Int} {wt:Bool} {S:Nat->Rs Pr} (bd:Bd T F0 H0 F H pb l d σ') (t:Tm H0 F H q Tq [v0,v1,v2,v3,v4,v5,v6]) (o:Oc (sB σ S) ⟨nm,ad,as_,wt,mx,i_,o_⟩ σ'):
  Za H ⟨q,0,none⟩ (.string (bstr nm)) fun J1=>Za J1 ⟨q,1,none⟩ (.int .u32 ad) fun J2=>Za J2 ⟨q,2,none⟩ (.int .u32 as_) fun J3=>Za J3 ⟨q,3,none⟩ (.bool wt) fun J4=>Za J4 ⟨q,4,none⟩ (.int .i64 mx) fun J5=>Za J5 ⟨q,5,none⟩ (.string (bstr i_)) fun J6=>Za J6 ⟨q,6,none⟩ (.string (bstr o_)) fun J7=>∃x0:ByteArray,J7.cell ⟨q,0,none⟩=some (Value.string x0)∧∃x1:Int,J7.cell ⟨q,1,none⟩=some (Value.int .u32 x1)∧∃x2:Int,J7.cell ⟨q,2,none⟩=some (Value.int .u32 x2)∧∃x3:Bool,J7.cell ⟨q,3,none⟩=some (Value.bool x3)∧∃x4:Int,J7.cell ⟨q,4,none⟩=some (Value.int .i64 x4)∧∃x5:ByteArray,J7.cell ⟨q,5,none⟩=some (Value.string x5)∧∃x6:ByteArray,J7.cell ⟨q,6,none⟩=some (Value.string x6)∧∀H2,Shut H0 J7 H2->PrR T F0 H0 pb l d σ S (.agg ⟨[.string x0,.int .u32 x1,.int .u32 x2,.bool x3,.int .i64 x4,.string x5,.string x6]⟩) H2:=
 st7 t.blk fun H5 b5 k5=>ld7 b5 fun H2 hs=>by have bb:=bd.wr t k5;exact ⟨_,⟨nm,ad,as_,wt,mx,i_,o_⟩,rfl,F,σ',bb.g.shut hs,bb.n.shut hs,rfl,o⟩
theorem Zbmc {b:Nat} {S:Nat->Prop} (h:H b≠none) (k:Keep S H H') (hs: ¬S b):Zdw [b] H H':=fun y hy=>by
 rw [List.mem_singleton.1 hy];cases e:H b with
 | none=>exact absurd e h
 | some o=>exact ⟨⟨o,rfl⟩,by rw [← e];exact k.same b hs h⟩
theorem Zbdz {w:List UInt8} {f:Nat->Rs α} {x:α} (e:isB l σ w=false):Oc (sB σ (mayS l w f x)) x σ:=Zf (S':=fun i=>f (i+1)) (T':=fun i=> .ok (x,i)) e Zeh
theorem Zbdx {w:List UInt8} {f:Nat->Rs α} {x y:α} {i:Nat} (e:isT l w i=true) (h:Oc (f (i+1)) y σ'):Oc (sB (.ok i) (mayS l w f x)) y σ':=Zcq (S':=fun i=>f (i+1)) (T':=fun i=> .ok (x,i)) e h
theorem Zccq {w:List UInt8}:Oc (sB σ (mayS l w (fun k=> .ok (true,k)) false)) (isB l σ w) (if isB l σ w then Zwf σ else σ):=by
 cases e:isB l σ w with
 | false=>exact Zbdz e
 | true=>
  obtain ⟨i,rfl,ht⟩:=Zbs e;exact Zbdx ht ⟨rfl,rfl⟩
end
end Go.Proofs.YtlkdgfolbllngaaGreatDoor
end
section
set_option maxRecDepth 100000
namespace Go.Proofs.YtlkdgfolbllngaaGreatDoor
open Go.Sh Go.Pc
section
variable {T:TypeId} {F0 H0 F F' H H1 H':Heap} {pb d d':Nat} {l:List Tok} {σ σ' σ1 σ2:Except Nat Nat} {α β:Type}
theorem Zbol {w:List UInt8} {r q z ci:Nat} {vs zs qs:List Value} (b:Bd Zg F0 H0 F H pb l d σ) (t:Tm H0 F H r Zbh vs) (tz:Tm H0 F H z Zmq zs) (tq:Tm H0 F H q Zbh qs) (hrz:r≠z) (hrq:r≠q) (hci:vs[ci]? =some (.string (bstr []))) {K:Heap->Prop}
  (hK: ∀F' H' σ' (x:List UInt8),Bd Zg F0 H0 F' H' pb l d σ'->Tm H0 F' H' r Zbh (vs.set ci (.string (bstr x)))->Tm H0 F' H' z Zmq zs->Tm H0 F' H' q Zbh qs->Oc (sB σ (mayS l w (txtS l 1) [])) x σ'->K H'):
  NewW H (Obj.cells ⟨[.string (ByteArray.mk #[]),.pointer none]⟩ Zmq) fun s H24=>Za H24 ⟨s,0,none⟩ (.string (bstr w)) fun H25=>Za H25 ⟨s,1,none⟩ (.pointer (some ⟨r,ci,none⟩)) fun H26=>
  ∃x40:ByteArray,H26.cell ⟨s,0,none⟩=some (.string x40)∧FnW Tryz.prog Zfq ⟨[.pointer (some ⟨pb,0,none⟩),.string x40]⟩ H26 fun x41v H27=>∃x41:Bool,x41v= .bool x41∧
  IfB x41 (∃bs:List Nat,(∀b∈bs,∃o,H27 b=some o)∧s∈bs∧∃x43:Option Addr,H27.cell ⟨s,1,none⟩=some (.pointer x43)∧FnW Tryz.prog Zje ⟨[.pointer (some ⟨pb,0,none⟩),.int .i64 1]⟩ H27 fun x45v H28=>
   ∃x45c0:Int,∃x45c1:ByteArray,∃x45c2:Int,∃x45c3:Int,∃x45c4:Int,∃x45c5:Int,x45v= .agg ⟨[.int .i64 x45c0,.string x45c1,.int .i64 x45c2,.int .u32 x45c3,.int .i64 x45c4,.int .i64 x45c5]⟩∧Zdw bs H27 H28∧NilP x43 fun x47p=>Za H28 x47p (.string x45c1) K) (K H27):=by
 have hil:ci<vs.length:=(List.getElem?_eq_some_iff.1 hci).1;refine newB fun s H1 hs bs k1=>stL bs (by simp) rfl fun H2 b2 k2=>stL b2 (by simp) rfl fun H3 b3 k3=>?_
 have bd1:=b.new k1;have ts:=b.tm hs bs;have bd3:=bd1.wr ts (k2.trans k3);have ne: ∀{y:Nat},H y≠none->y≠s:=fun hy e=>hy (e▸hs);have t3:=(t.nil k1).other (k2.trans k3) (ne t.blk.some);have tz3:=(tz.nil k1).other (k2.trans k3) (ne tz.blk.some);have tq3:=(tq.nil k1).other (k2.trans k3) (ne tq.blk.some);have ts3:=ts.wr b3;refine ⟨_,cellL b3 0 rfl,(Ziu bd3.g w).mono ?_⟩;rintro _ H4 ⟨rfl,F4,σ4,g4,n4,rfl,e4⟩;have bd4:=bd3.call g4 n4;have t4:=t3.call bd3 n4;have tz4:=tz3.call bd3 n4;have tq4:=tq3.call bd3 n4;have ts4:=ts3.call bd3 n4;refine ⟨_,rfl,IfB.intro (fun e=>?_) fun e=>?_⟩;rw [if_pos e] at e4;obtain ⟨i,rfl,ht⟩:=Zbs e;have e4:σ4= .ok (i+1):=e4;subst e4;refine ⟨[s],Zrj ts4.blk.some,List.mem_singleton.2 rfl,_,cellL ts4.blk 1 rfl,(Zpg bd4.g 1).mono ?_⟩;rintro _ H5 ⟨x,rfl,F5,σ5,g5,n5,rfl,o5⟩;have bd5:=bd4.call g5 n5;have t5:=t4.call bd4 n5;refine ⟨_,_,_,_,_,_,rfl,Zbmc ts4.blk.some n5.kp (ts4.ne bd4),NilP.intro _ rfl (stL t5.blk hil rfl fun H6 b6 k6=>hK _ H6 σ5 x.2.1 (bd5.wr t5 k6) (t5.wr b6) ((tz4.call bd4 n5).other k6 hrz.symm) ((tq4.call bd4 n5).other k6 hrq.symm) ?_)⟩;exact Zbdx ht (Zwv (σ:= .ok (i+1)) (S:=tokS l 1) (f:=fun t:Tok=>t.2.1) o5)
 ·rw [if_neg (by rw [e];decide)] at e4
  subst e4;refine hK _ H4 σ4 [] bd4 ?_ tz4 tq4 (Zbdz e);have hv:vs.set ci (.string (bstr []))=vs:=by
   apply List.ext_getElem?
   intro j;rw [List.getElem?_set];split;rename_i h;subst h;exact hci.symm;rfl
  rw [hv];exact t4
theorem Zcli (h:Gr Zg F H pb l d σ):FnW Tryz.prog Zbbx ⟨[.pointer (some ⟨pb,0,none⟩)]⟩ H (PrR Zg F H pb l d σ (Zhs l)):=by
 refine Zclj pb ?_;unfold Zbtd;refine newB fun q H1 hq bq k1=>?_;have b1:=h.start.new k1;have t1:=h.start.tm hq bq;refine (Zpg b1.g 1).mono ?_;rintro _ H2 ⟨tk,rfl,F2,σ2,g2,n2,rfl,o2⟩;have b2:=b1.call g2 n2;have t2:=t1.call b1 n2;refine ⟨_,_,_,_,_,_,rfl,newB fun r H3 hr br k3=>?_⟩;have b3:=b2.new k3;have t3:=t2.nil k3;have u3:=b2.tm hr br;have hqr:q≠r:=fun e=>by subst e;exact t2.blk.some hr
 refine st7 (nm:=tk.2.1) (i_:=[]) (o_:=[]) u3.blk fun H4 b4 k4=>?_;have bb:=b3.wr u3 k4;have t4:=t3.other k4 hqr;have u4:=u3.wr b4;refine (Zgn bb.g 3).mono ?_;rintro _ H5 ⟨ad,rfl,F5,σ5,g5,n5,rfl,o5⟩;have b5:=bb.call g5 n5;have t5:=t4.call bb n5;have u5:=u4.call bb n5;refine ⟨_,rfl,stL u5.blk (by show 1<7;decide) rfl fun H6 b6 k6=>?_⟩
 replace b6:Blk H6 r Zbh ⟨prL tk.2.1 (IntKind.wrap .u32 ad) 0 false 0 [] []⟩:=b6;have bc:=b5.wr u5 k6;have t6:=t5.other k6 hqr;have u6:=u5.wr b6;refine (Zjo bc.g w_as).mono ?_;rintro _ H7 ⟨rfl,F7,σ7,g7,n7,rfl,o7⟩;have b7:=bc.call g7 n7;have t7:=t6.call bc n7;have u7:=u6.call bc n7;refine ⟨rfl,(Zgn b7.g 2).mono ?_⟩;rintro _ H8 ⟨as_,rfl,F8,σ8,g8,n8,rfl,o8⟩;have b8:=b7.call g8 n8;have t8:=t7.call b7 n8;have u8:=u7.call b7 n8;refine ⟨_,rfl,stL u8.blk (by show 2<7;decide) rfl fun H9 b9 k9=>?_⟩
 replace b9:Blk H9 r Zbh ⟨prL tk.2.1 (IntKind.wrap .u32 ad) (IntKind.wrap .u32 as_) false 0 [] []⟩:=b9;have bd:=b8.wr u8 k9;have t9:=t8.other k9 hqr;have u9:=u8.wr b9;refine (Ziu bd.g Zit).mono ?_;rintro _ H10 ⟨rfl,F10,σ10,g10,n10,rfl,e10⟩;have b10:=bd.call g10 n10;have t10:=t9.call bd n10;have u10:=u9.call bd n10;have o10:=Zccq (l:=l) (w:=Zit) (σ:=σ8);rw [← e10] at o10;refine ⟨_,rfl,stL u10.blk (by show 3<7;decide) rfl fun H11 b11 k11=>?_⟩
 generalize isB l σ8 Zit=wt at b11 o10;replace b11:Blk H11 r Zbh ⟨prL tk.2.1 (IntKind.wrap .u32 ad) (IntKind.wrap .u32 as_) wt 0 [] []⟩:=b11;have be:=b10.wr u10 k11;have t11:=t10.other k11 hqr;have u11:=u10.wr b11;refine (Ziu be.g Zfz).mono ?_;rintro _ H12 ⟨rfl,F12,σ12,g12,n12,rfl,e12⟩;have b12:=be.call g12 n12;have t12:=t11.call be n12;have u12:=u11.call be n12;have rest: ∀{Fx Hx:Heap} {σx:Except Nat Nat} {mx:Int},Bd Zg F12 H Fx Hx pb l d σx->Tm H Fx Hx q Zbh (prL [] 0 0 false 0 [] [])->Tm H Fx Hx r Zbh (prL tk.2.1 (IntKind.wrap .u32 ad) (IntKind.wrap .u32 as_) wt mx [] [])->Oc (sB σ10 (mayS l Zfz (numS l 2) 0)) mx σx->Zyx pb q r Hx fun v H1=>∀H2,Shut H H1 H2->PrR Zg F12 H pb l d σ (Zhs l) v H2:=fun {Fx Hx σx mx} bx tx ux ox=>by
  unfold Zyx;refine newB fun z H13 hz bz k13=>?_;have b13:=bx.new k13;have t13:=tx.nil k13;have u13:=ux.nil k13;have tz:=bx.tm hz bz;have hzr:r≠z:=fun e=>by subst e;exact ux.blk.some hz
  have up: ∀{i_ o_:List UInt8} {σ':Except Nat Nat},Oc (sB σx fun j=>bS (mayS l w_in (txtS l 1) [] j) fun i_ j=>bS (mayS l Zcn (txtS l 1) [] j) fun o_ j=>endS l (⟨tk.2.1,IntKind.wrap .u32 ad,IntKind.wrap .u32 as_,wt,mx,i_,o_⟩:Pr) j) ⟨tk.2.1,IntKind.wrap .u32 ad,IntKind.wrap .u32 as_,wt,mx,i_,o_⟩ σ'->Oc (sB σ (Zhs l)) ⟨tk.2.1,IntKind.wrap .u32 ad,IntKind.wrap .u32 as_,wt,mx,i_,o_⟩ σ':=fun {i_ o_ σ'} o=>
   Zcb (S:=txtS l 1) (Zwv (S:=tokS l 1) (f:=fun t:Tok=>t.2.1) o2) (Zcb o5 (Zcb o7 (Zcb o8 (Zcb o10 (Zcb ox o)))))
  refine Zbt (fun m s Hy=>∃(j:Nat) (Fy:Heap) (σy:Except Nat Nat) (i_ o_:List UInt8),s=((j:Int),())∧m+j=2∧Bd Zg F12 H Fy Hy pb l d σy∧Tm H Fy Hy q Zbh (prL [] 0 0 false 0 [] [])∧Tm H Fy Hy r Zbh (prL tk.2.1 (IntKind.wrap .u32 ad) (IntKind.wrap .u32 as_) wt mx i_ o_)∧Tm H Fy Hy z Zmq [.string (bstr w_in),.pointer (some ⟨r,5,none⟩),.string (bstr Zcn),.pointer (some ⟨r,6,none⟩)]∧
   ((j=0∧i_= []∧o_= []∧σy=σx)∨(j=1∧o_= []∧Oc (sB σx (mayS l w_in (txtS l 1) [])) i_ σy)∨(j=2∧∃s1,Oc (sB σx (mayS l w_in (txtS l 1) [])) i_ s1∧Oc (sB s1 (mayS l Zcn (txtS l 1) [])) o_ σy))) 2
   ⟨0,_,_,[],[],rfl,rfl,b13,t13,u13,tz,.inl ⟨rfl,rfl,rfl,rfl⟩⟩ ?_
  rintro m s Hy ⟨j,Fy,σy,i_,o_,rfl,hm,by_,ty,uy,tzy,hcase⟩ g;unfold Zbtc;rcases hcase with ⟨rfl,rfl,rfl,rfl⟩ | ⟨rfl,rfl,oy⟩ | ⟨rfl,s1,o1,oy⟩
  ·refine ifT rfl (InB.intro 0 rfl (by decide) ⟨_,cellL tzy.blk 0 rfl,_,cellL tzy.blk 1 rfl,?_⟩)
   refine Zbol (w:=w_in) (ci:=5) by_ uy tzy ty hzr hqr.symm rfl fun F' H' σ' x b' t' tz' tq' o'=>?_;unfold Zyy;exact ⟨m - 1,by omega,1,F',σ',x,[],rfl,by omega,b',tq',t',tz',.inr (.inl ⟨rfl,rfl,o'⟩)⟩
  ·refine ifT rfl (InB.intro 1 rfl (by decide) ⟨_,cellL tzy.blk 2 rfl,_,cellL tzy.blk 3 rfl,?_⟩)
   refine Zbol (w:=Zcn) (ci:=6) by_ uy tzy ty hzr hqr.symm rfl fun F' H' σ' x b' t' tz' tq' o'=>?_;unfold Zyy;exact ⟨m - 1,by omega,2,F',σ',i_,x,rfl,by omega,b',tq',t',tz',.inr (.inr ⟨rfl,σy,oy,o'⟩)⟩
  refine ifF rfl ((Zjo by_.g w_sc).mono ?_);rintro _ H14 ⟨rfl,F14,σ14,g14,n14,rfl,o14⟩;refine ⟨rfl,ld7 (uy.call by_ n14).blk (ret7 (by_.call g14 n14) (ty.call by_ n14) (up ?_))⟩;exact Zcb o1 (Zcb oy (Zcb (S:=Zcv l w_sc) o14 Zeh))
 refine ⟨_,rfl,IfB.intro (fun e=>?_) fun e=>?_⟩
 ·rw [if_pos e] at e12;obtain ⟨i,rfl,ht⟩:=Zbs e;have e12:σ12= .ok (i+1):=e12;subst e12;refine (Zgn b12.g 2).mono ?_;rintro _ H13 ⟨mx,rfl,F13,σ13,g13,n13,rfl,o13⟩;have b13:=b12.call g13 n13;have t13:=t12.call b12 n13;have u13:=u12.call b12 n13;refine ⟨_,rfl,stL u13.blk (by show 4<7;decide) rfl fun H14 b14 k14=>?_⟩
  exact rest (b13.wr u13 k14) (t13.other k14 hqr) (mx:=mx) ⟨u13.new,u13.nf,b14⟩ (Zbdx ht o13)
 ·rw [if_neg (by rw [e];decide)] at e12
  subst e12;exact rest b12 t12 u12 (Zbdz e)
end
end Go.Proofs.YtlkdgfolbllngaaGreatDoor
end
section
set_option maxRecDepth 100000
namespace Go.Proofs.YtlkdgfolbllngaaGreatDoor
open Go.Sh Go.Pc
theorem Zcem: ∃it,Tryz.prog.info? Zdx=some it∧it.size=2∧it.bytes=40:=by
 have h:(Tryz.prog.info? Zdx).map (fun i=>(i.size,i.bytes))=some (2,40):=by kernel_rfl
 cases hi:Tryz.prog.info? Zdx with
 | none=>rw [hi] at h;cases h
 | some it=>
  rw [hi] at h;simp only [Option.map_some,Option.some.injEq,Prod.mk.injEq] at h;exact ⟨it,rfl,h.1,h.2⟩
theorem Zcdr: ∃it,Tryz.prog.info? Zbh=some it∧it.size=7∧it.bytes=72:=by
 have h:(Tryz.prog.info? Zbh).map (fun i=>(i.size,i.bytes))=some (7,72):=by kernel_rfl
 cases hi:Tryz.prog.info? Zbh with
 | none=>rw [hi] at h;cases h
 | some it=>
  rw [hi] at h;simp only [Option.map_some,Option.some.injEq,Prod.mk.injEq] at h;exact ⟨it,rfl,h.1,h.2⟩
section
variable {T:TypeId} {F0 H0 F F' H H1 H':Heap} {pb sb d d':Nat} {l:List Tok} {σ σ' σ1 σ2:Except Nat Nat} {α β:Type}
abbrev spL (sp:Sp) (a:Option Addr) (ac:Nat) (b:Option Addr) (bc:Nat):List Value:=[.int .u32 sp.as_,.int .u32 sp.router,.int .i64 sp.hold,.int .i64 sp.retry,.int .i64 sp.grace,.slice a sp.pols.length ac,.slice b sp.peers.length bc]
structure SpS (H0 F H:Heap) (sb:Nat) (sp:Sp) (a:Option Addr) (ac:Nat) (b:Option Addr) (bc:Nat):Prop where
 blk:Tm H0 F H sb Zcc (spL sp a ac b bc)
 pols:Gw PlAt 2 Zdx H0 F H a sp.pols.length ac sp.pols
 peers:Gw PrAt 7 Zbh H0 F H b sp.peers.length bc sp.peers
theorem Gw.apart {P:Heap->List Value->α->Prop} {sz:Nat} {Tq Tr:TypeId} {a:Option Addr} {n cap r:Nat} {xs:List α} {c:Array Value} (h:Gw P sz Tq H0 F H a n cap xs) (hb:Blk H r Tr c) (hT:Tq≠Tr): ∀y,a=some ⟨y,0,none⟩->y≠r:=fun y hy e=>by obtain ⟨vs,ho,_⟩:=h.ex;obtain ⟨_,hb2⟩:=ho.live hy;subst e;unfold Blk at hb hb2;rw [hb] at hb2;simp only [Option.some.injEq,Obj.cells.injEq] at hb2;exact hT hb2.2.1.symm
theorem Gw.other {P:Heap->List Value->α->Prop} {sz:Nat} {Tq:TypeId} {a:Option Addr} {n cap:Nat} {xs:List α} {S:Nat->Prop} (h:Gw P sz Tq H0 F H a n cap xs) (k:Keep S H H') (hs: ∀y,a=some ⟨y,0,none⟩->¬S y):Gw P sz Tq H0 F H' a n cap xs:=by obtain ⟨vs,ho,hl,hx⟩:=h.ex;exact ⟨⟨vs,ho.keep k hs,hl,hx⟩,h.len,h.nf,h.lim⟩
variable {sp:Sp} {a b:Option Addr} {ac bc:Nat}
theorem SpS.call (h:SpS H0 F H sb sp a ac b bc) (bd:Bd T F0 H0 F H pb l d σ) (n:Nx F H F' H' pb):SpS H0 F' H' sb sp a ac b bc:=
 ⟨h.blk.call bd n,h.pols.call bd n fun v x h=>PlAt.grow h n.ff,h.peers.call bd n fun v x h=>h⟩
theorem SpS.nil (h:SpS H0 F H sb sp a ac b bc) (k:Keep Nil H H'):SpS H0 F H' sb sp a ac b bc:=⟨h.blk.nil k,h.pols.nil k,h.peers.nil k⟩
theorem SpS.wr (h:SpS H0 F H sb sp a ac b bc) {r:Nat} {Tr:TypeId} {c:Array Value} (hb:Blk H r Tr c) (k:Keep (fun y=>y=r) H H') (h1:Zcc≠Tr) (h2:Zdx≠Tr) (h3:Zbh≠Tr):SpS H0 F H' sb sp a ac b bc:=by refine ⟨h.blk.other k fun e=>?_,h.pols.other k fun y hy=>h.pols.apart hb h2 y hy,h.peers.other k fun y hy=>h.peers.apart hb h3 y hy⟩;have hb2:=h.blk.blk;subst e;unfold Blk at hb hb2;rw [hb] at hb2;simp only [Option.some.injEq,Obj.cells.injEq] at hb2;exact h1 hb2.2.1.symm
theorem SpS.set (h:SpS H0 F H sb sp a ac b bc) {sp':Sp} (k:Keep (fun y=>y=sb) H H') (hb:Blk H' sb Zcc ⟨spL sp' a ac b bc⟩) (e1:sp'.pols=sp.pols) (e2:sp'.peers=sp.peers):SpS H0 F H' sb sp' a ac b bc:=by
 refine ⟨h.blk.wr hb,?_,?_⟩;rw [e1];exact h.pols.other k fun y hy=>h.pols.apart h.blk.blk (by decide) y hy
 rw [e2];exact h.peers.other k fun y hy=>h.peers.apart h.blk.blk (by decide) y hy
theorem Bd.shut {Hs:Heap} (bd:Bd T F0 H0 F H pb l d σ) (kk:Keep (fun y=>y=pb) H0 Hs∨∀y,Hs y=none->H0 y=none) (hs:Shut Hs H H'):Bd T F0 H0 F H' pb l d σ:=by have hf: ∀y,Hs y=none->H0 y=none:=kk.elim (fun k y hy=>k.free hy) id;have hs':Shut H0 H H':=fun y=>(hs y).imp id fun ⟨e,r⟩=>⟨hf y e,r⟩;exact ⟨bd.g.shut hs',bd.n.shut hs',bd.lv,bd.lv2⟩
theorem SpS.shut {Hs:Heap} (h:SpS H0 F H sb sp a ac b bc) (hs:Shut Hs H H'):SpS H0 F H' sb sp a ac b bc:=by
 have own: ∀{α:Type} {P:Heap->List Value->α->Prop} {sz:Nat} {Tq:TypeId} {a:Option Addr} {n cap:Nat} {xs:List α},Gw P sz Tq H0 F H a n cap xs->Gw P sz Tq H0 F H' a n cap xs:=fun {α P sz Tq a n cap xs} g=>by obtain ⟨vs,ho,hl,hx⟩:=g.ex;obtain ⟨h1,h2,h3⟩:=ho;refine ⟨⟨vs,⟨h1,h2,?_⟩,hl,hx⟩,g.len,g.nf,g.lim⟩;rcases h3 with h | ⟨m,rest,rfl,h0,hb,hr⟩;exact .inl h;exact .inr ⟨m,rest,rfl,h0,Zol hb hs,hr⟩
 exact ⟨⟨h.blk.new,h.blk.nf,Zol h.blk.blk hs⟩,own h.pols,own h.peers⟩
end
end Go.Proofs.YtlkdgfolbllngaaGreatDoor
end
section
set_option maxRecDepth 100000
namespace Go.Proofs.YtlkdgfolbllngaaGreatDoor
open Go.Sh Go.Pc
section
variable {T:TypeId} {F0 H0 F F' H H1 H':Heap} {pb sb d d':Nat} {l:List Tok} {σ σ' σ1 σ2:Except Nat Nat} {α β:Type} {sp sp':Sp} {a b:Option Addr} {ac bc:Nat}
def ItR (T:TypeId) (F0 H0:Heap) (pb sb:Nat) (l:List Tok) (σ:Except Nat Nat) (sp:Sp) (v:Value) (H':Heap):Prop:=
 v= .tuple ⟨[]⟩∧∃F' σ' sp' a b ac bc,Bd T F0 H0 F' H' pb l 0 σ'∧SpS H0 F' H' sb sp' a ac b bc∧Oc (sB σ (Zcl l sp)) sp' σ'∧sp'.pols.length <= sp.pols.length+1∧sp'.peers.length <= sp.peers.length+1
theorem Znw (bd:Bd Zg F0 H0 F H pb l 0 σ1) (s:SpS H0 F H sb sp' a ac b bc) (hf: ∀y,H1 y=none->H0 y=none) (ho: ∀σ',Oc (sB σ1 (endS l sp')) sp' σ'->Oc (sB σ (Zcl l sp)) sp' σ') (h1:sp'.pols.length <= sp.pols.length+1) (h2:sp'.peers.length <= sp.peers.length+1):
  Zky pb H fun v H2=>∀H3,Shut H1 H2 H3->ItR Zg F0 H0 pb sb l σ sp v H3:=by
 unfold Zky;refine (Zjo bd.g w_sc).mono ?_;rintro _ H4 ⟨rfl,F4,s4,g4,n4,rfl,o4⟩;have b4:=bd.call g4 n4;have s5:=s.call bd n4;exact ⟨rfl,fun H5 hs=>⟨rfl,F4,s4,sp',a,b,ac,bc,b4.shut (.inr hf) hs,s5.shut hs,ho _ (Zcb (S:=Zcv l w_sc) o4 Zeh),h1,h2⟩⟩
theorem SpS.wr' (h:SpS H0 F H sb sp a ac b bc) {r:Nat} {Tr:TypeId} {c:Array Value} (hb:Blk H r Tr c) (k:Keep (fun y=>y=r) H H') (h1:Zcc≠Tr) (h2:a≠some ⟨r,0,none⟩) (h3:Zbh≠Tr):SpS H0 F H' sb sp a ac b bc:=by
 refine ⟨h.blk.other k fun e=>?_,h.pols.other k fun y hy e=>h2 (by rw [hy,e]),h.peers.other k fun y hy=>h.peers.apart hb h3 y hy⟩
 have hb2:=h.blk.blk;subst e;unfold Blk at hb hb2;rw [hb] at hb2;simp only [Option.some.injEq,Obj.cells.injEq] at hb2;exact h1 hb2.2.1.symm
theorem PlAt.len {v:List Value} {p:Pl} (h:PlAt F v p):v.length=2:=by obtain ⟨_,_,rfl,_⟩:=h;rfl
theorem Zcls (bd:Bd Zg F0 H0 F H pb l 0 σ) (s:SpS H0 F H sb sp a ac b bc) (hl:sp.pols.length <= 5000∧sp.peers.length <= 5000):
  FnW Tryz.prog Zbbz ⟨[.pointer (some ⟨pb,0,none⟩),.pointer (some ⟨sb,0,none⟩)]⟩ H (ItR Zg F0 H0 pb sb l σ sp):=by
 have hf: ∀y,H y=none->H0 y=none:=fun y hy=>bd.n.kp.free hy;refine Zclt pb sb ?_;unfold Zbtr;refine newB fun w H1 hw bw k1=>?_;have b1:=bd.new k1;have s1:=s.nil k1;have hwp:w≠pb:=fun e=>by subst e;exact bd.g.live hw
 refine (Ztj (ws:=[Zcr,Zbx,Zcs,Zda,Zdv,Zej,Zdu]) b1.g (words bw rfl) (by decide) fun x e=>by cases e;exact hwp).mono ?_
 rintro _ H2 ⟨rfl,F2,σ2,g2,n2,rfl,e2⟩;have b2:=b1.call g2 n2;have s2:=s1.call b1 n2;refine ⟨_,rfl,?_⟩;by_cases p0:isB l σ Zcr=true
 ·have hp:Zl l σ [Zcr,Zbx,Zcs,Zda,Zdv,Zej,Zdu] 0=0:=by simp [Zl,p0]
  rw [hp] at e2 ⊢;obtain ⟨i,rfl,ht⟩:=Zbs p0;have e2:σ2= .ok (i+1):=e2;subst e2;refine ifT rfl ((Zpg b2.g 1).mono ?_);rintro _ H3 ⟨tk,rfl,F3,σ3,g3,n3,rfl,o3⟩;have b3:=b2.call g3 n3;have s3:=s2.call b2 n3;refine ⟨_,_,_,_,_,_,rfl,newB fun x H4 hx bx k4=>stL bx (by simp) rfl fun H5 b5 k5=>stL b5 (by simp) rfl fun H6 b6 k6=>?_⟩
  have tx:=b3.tm hx bx;have bb:=(b3.new k4).wr tx (k5.trans k6);have hax:a≠some ⟨x,0,none⟩:=s3.pols.ne hx;have s4:=s3.nil k4;have s6:=s4.wr' bx (k5.trans k6) (by decide) hax (by decide)
  have t6:=tx.wr b6;refine (Zjo bb.g w_lb).mono ?_;rintro _ H7 ⟨rfl,F7,σ7,g7,n7,rfl,o7⟩;have b7:=bb.call g7 n7;have s7:=s6.call bb n7;have t7:=t6.call bb n7;refine ⟨rfl,(Zbzl b7.g).mono ?_⟩;rintro _ H8 ⟨ra,rc,ss,rfl,F8,σ8,g8,n8,r8,o8⟩;have b8:=b7.call g8 n8;have s8:=s7.call b7 n8;have t8:=t7.call b7 n8;refine ⟨_,_,_,rfl,stL t8.blk (by simp) rfl fun H9 b9 k9=>?_⟩
  replace b9:Blk H9 x Zdx ⟨[.string (bstr tk.2.1),.slice ra ss.length rc]⟩:=b9;have bc':=b8.wr t8 k9;have t9:=t8.wr b9;have s9:=s8.wr' t8.blk k9 (by decide) hax (by decide)
  refine ⟨_,_,_,cellL s9.blk.blk 5 rfl,_,cellL b9 0 rfl,_,_,_,cellL b9 1 rfl,?_⟩;obtain ⟨it,i1,i2,i3⟩:=Zcem;have hpl:PlAt F8 [.string (bstr tk.2.1),.slice ra ss.length rc] ⟨tk.2.1,ss⟩:=⟨ra,rc,rfl,r8⟩;refine s9.pols.push bc' (z:=[.string ⟨#[]⟩,.slice none 0 0]) hpl rfl (fun u hu=>?_) (by kernel_rfl) i1 i2 i3 (by decide) (by kernel_rfl) rfl (by omega) (by decide) fun a' cap' H10 b10 w10 old10 k10=>⟨_,_,_,rfl,?_⟩
  simp only [List.mem_cons,List.not_mem_nil,or_false] at hu;rcases hu with rfl | rfl<;>rfl;have tb10:Tm H0 F8 H10 sb Zcc (spL sp a ac b bc):=⟨s9.blk.new,s9.blk.nf,k10.blk s9.blk.blk fun e=>s9.pols.apart s9.blk.blk (by decide) sb e rfl⟩
  have pe10:Gw PrAt 7 Zbh H0 F8 H10 b sp.peers.length bc sp.peers:=s9.peers.other k10 fun y hy e=>by obtain ⟨vs,ho,_⟩:=s9.peers.ex;obtain ⟨_,hb⟩:=ho.live hy;exact s9.pols.apart hb (by decide) y e rfl
  refine stL tb10.blk (by show 5<7;decide) rfl fun H11 b11 k11 H12 hs=>?_
  have hlen:sp.pols.length+1=(sp.pols++[(⟨tk.2.1,ss⟩:Pl)]).length:=by rw [List.length_append];rfl
  have s11:SpS H0 F8 H11 sb { sp with pols:=sp.pols++[⟨tk.2.1,ss⟩] } a' cap' b bc:=by
   refine ⟨tb10.wr ?_,?_,pe10.other k11 fun y hy=>pe10.apart tb10.blk (by decide) y hy⟩
   show Blk H11 sb Zcc ⟨[.int .u32 sp.as_,.int .u32 sp.router,.int .i64 sp.hold,.int .i64 sp.retry,.int .i64 sp.grace,.slice a' (sp.pols++[(⟨tk.2.1,ss⟩:Pl)]).length cap',.slice b sp.peers.length bc]⟩;rw [← hlen];exact b11;show Gw PlAt 2 Zdx H0 F8 H11 a' (sp.pols++[(⟨tk.2.1,ss⟩:Pl)]).length cap' (sp.pols++[⟨tk.2.1,ss⟩]);rw [← hlen];exact w10.other k11 fun y hy=>w10.apart tb10.blk (by decide) y hy
  refine ⟨rfl,F8,σ8,_,a',b,cap',bc,(b10.wr tb10 k11).shut (.inr hf) hs,s11.shut hs,?_,by rw [← hlen];exact Nat.le_refl _,Nat.le_succ _⟩
  show Oc (Zcl l sp i) _ _;unfold Zcl;rw [if_pos ht];exact Zeb (r:=txtS l 1 (i+1)) (Zwv (σ:= .ok (i+1)) (S:=tokS l 1) (f:=fun t:Tok=>t.2.1) o3) (Zcb o7 (Zcb o8 Zeh))
 have p0:isB l σ Zcr=false:=by simpa using p0
 by_cases p1:isB l σ Zbx=true
 ·have hp:Zl l σ [Zcr,Zbx,Zcs,Zda,Zdv,Zej,Zdu] 0=1:=by simp [Zl,p0,p1]
  rw [hp] at e2 ⊢;obtain ⟨i,rfl,ht⟩:=Zbs p1;have e2:σ2= .ok (i+1):=e2;subst e2;have hsb:=s2.blk.blk.some;refine ifF rfl (ifT rfl ⟨[sb],Zrj hsb,List.mem_singleton.2 rfl,_,_,_,cellL s2.blk.blk 6 rfl,(Zcli b2.g).mono ?_⟩);rintro _ H3 ⟨vs,p,rfl,F3,σ3,g3,n3,hv,o3⟩;have b3:=b2.call g3 n3;have s3:=s2.call b2 n3;have hv':vs=_:=hv;subst hv';have kk:Zdw [sb] H2 H3:=Zbmc hsb n3.kp (s2.blk.ne b2);refine ⟨_,_,_,_,_,_,_,rfl,kk,?_⟩;obtain ⟨it,i1,i2,i3⟩:=Zcdr;refine s3.peers.push b3 (z:=[.string ⟨#[]⟩,.int .u32 0,.int .u32 0,.bool false,.int .i64 0,.string ⟨#[]⟩,.string ⟨#[]⟩]) (x:=p) rfl rfl (fun u hu=>?_) (by kernel_rfl) i1 i2 i3 (by decide) (by kernel_rfl) rfl (by omega) (by decide) fun a' cap' H10 b10 w10 old10 k10=>⟨_,_,_,rfl,?_⟩
  simp only [List.mem_cons,List.not_mem_nil,or_false] at hu;rcases hu with rfl | rfl | rfl | rfl | rfl | rfl | rfl<;>rfl;have hbs: ∀y,b=some ⟨y,0,none⟩->y≠sb:=fun y hy=>s3.peers.apart s3.blk.blk (by decide) y hy
  have tb10:Tm H0 F3 H10 sb Zcc (spL sp a ac b bc):=⟨s3.blk.new,s3.blk.nf,k10.blk s3.blk.blk fun e=>hbs sb e rfl⟩;have po10:Gw PlAt 2 Zdx H0 F3 H10 a sp.pols.length ac sp.pols:=s3.pols.other k10 fun y hy e=>by obtain ⟨vs,ho,_⟩:=s3.pols.ex;obtain ⟨_,hb⟩:=ho.live hy;exact s3.peers.apart hb (by decide) y e rfl
  refine ⟨fun y hy=>?_,stL tb10.blk (by show 6<7;decide) rfl fun H11 b11 k11 H12 hs=>?_⟩
  ·rw [List.mem_singleton.1 hy];cases e:H2 sb with
   | none=>exact absurd e hsb
   | some o=>exact ⟨⟨o,rfl⟩,by rw [k10.same sb (fun e=>hbs sb e rfl) s3.blk.blk.some,← e];exact n3.kp.same sb (s2.blk.ne b2) hsb⟩
  have hlen:sp.peers.length+1=(sp.peers++[p]).length:=by rw [List.length_append];rfl
  have s11:SpS H0 F3 H11 sb { sp with peers:=sp.peers++[p] } a ac a' cap':=by
   refine ⟨tb10.wr ?_,po10.other k11 fun y hy=>po10.apart tb10.blk (by decide) y hy,?_⟩
   show Blk H11 sb Zcc ⟨[.int .u32 sp.as_,.int .u32 sp.router,.int .i64 sp.hold,.int .i64 sp.retry,.int .i64 sp.grace,.slice a sp.pols.length ac,.slice a' (sp.peers++[p]).length cap']⟩;rw [← hlen];exact b11;show Gw PrAt 7 Zbh H0 F3 H11 a' (sp.peers++[p]).length cap' (sp.peers++[p]);rw [← hlen];exact w10.other k11 fun y hy=>w10.apart tb10.blk (by decide) y hy
  refine ⟨rfl,F3,σ3,_,a,a',ac,cap',(b10.wr tb10 k11).shut (.inr hf) hs,s11.shut hs,?_,Nat.le_succ _,by rw [← hlen];exact Nat.le_refl _⟩
  exact Zf (T':=fun i=>if isT l Zbx i then _ else _) p0 (Zcq (S':=fun i=>bS (Zhs l (i+1)) _) ht (Zeb o3 Zeh))
 have p1:isB l σ Zbx=false:=by simpa using p1
 by_cases p2:isB l σ Zcs=true
 ·have hp:Zl l σ [Zcr,Zbx,Zcs,Zda,Zdv,Zej,Zdu] 0=2:=by simp [Zl,p0,p1,p2]
  rw [hp] at e2 ⊢;obtain ⟨i,rfl,ht⟩:=Zbs p2;have e2:σ2= .ok (i+1):=e2;subst e2;refine ifF rfl (ifF rfl (ifT rfl ((Zgn b2.g 2).mono ?_)));rintro _ H3 ⟨n,rfl,F3,σ3,g3,n3,rfl,o3⟩;have b3:=b2.call g3 n3;have s3:=s2.call b2 n3;refine ⟨_,rfl,stL s3.blk.blk (by show 0<7;decide) rfl fun H4 b4 k4=>?_⟩
  refine Znw (b3.wr s3.blk k4) (s3.set (sp':={ sp with as_:=IntKind.wrap .u32 n }) k4 b4 rfl rfl) hf (fun σ' o=>?_) (Nat.le_succ _) (Nat.le_succ _)
  exact Zf (T':=fun i=>if isT l Zbx i then _ else _) p0 (Zf (T':=fun i=>if isT l Zcs i then _ else _) p1 (Zcq (S':=fun i=>setS l 2 (fun n=>{ sp with as_:=IntKind.wrap .u32 n }) (i+1)) ht (Zeb o3 o)))
 have p2:isB l σ Zcs=false:=by simpa using p2
 by_cases p3:isB l σ Zda=true
 ·have hp:Zl l σ [Zcr,Zbx,Zcs,Zda,Zdv,Zej,Zdu] 0=3:=by simp [Zl,p0,p1,p2,p3]
  rw [hp] at e2 ⊢;obtain ⟨i,rfl,ht⟩:=Zbs p3;have e2:σ2= .ok (i+1):=e2;subst e2;refine ifF rfl (ifF rfl (ifF rfl (ifT rfl ((Zgn b2.g 3).mono ?_))));rintro _ H3 ⟨n,rfl,F3,σ3,g3,n3,rfl,o3⟩;have b3:=b2.call g3 n3;have s3:=s2.call b2 n3;refine ⟨_,rfl,stL s3.blk.blk (by show 1<7;decide) rfl fun H4 b4 k4=>?_⟩
  refine Znw (b3.wr s3.blk k4) (s3.set (sp':={ sp with router:=IntKind.wrap .u32 n }) k4 b4 rfl rfl) hf (fun σ' o=>?_) (Nat.le_succ _) (Nat.le_succ _)
  exact Zf (T':=fun i=>if isT l Zbx i then _ else _) p0 (Zf (T':=fun i=>if isT l Zcs i then _ else _) p1 (Zf (T':=fun i=>if isT l Zda i then _ else _) p2 (Zcq (S':=fun i=>setS l 3 (fun n=>{ sp with router:=IntKind.wrap .u32 n }) (i+1)) ht (Zeb o3 o))))
 have p3:isB l σ Zda=false:=by simpa using p3
 by_cases p4:isB l σ Zdv=true
 ·have hp:Zl l σ [Zcr,Zbx,Zcs,Zda,Zdv,Zej,Zdu] 0=4:=by simp [Zl,p0,p1,p2,p3,p4]
  rw [hp] at e2 ⊢;obtain ⟨i,rfl,ht⟩:=Zbs p4;have e2:σ2= .ok (i+1):=e2;subst e2;refine ifF rfl (ifF rfl (ifF rfl (ifF rfl (ifT rfl ((Zgn b2.g 2).mono ?_)))));rintro _ H3 ⟨n,rfl,F3,σ3,g3,n3,rfl,o3⟩;have b3:=b2.call g3 n3;have s3:=s2.call b2 n3;refine ⟨_,rfl,stL s3.blk.blk (by show 2<7;decide) rfl fun H4 b4 k4=>?_⟩
  refine Znw (b3.wr s3.blk k4) (s3.set (sp':={ sp with hold:=n }) k4 b4 rfl rfl) hf (fun σ' o=>?_) (Nat.le_succ _) (Nat.le_succ _)
  exact Zf (T':=fun i=>if isT l Zbx i then _ else _) p0 (Zf (T':=fun i=>if isT l Zcs i then _ else _) p1 (Zf (T':=fun i=>if isT l Zda i then _ else _) p2 (Zf (T':=fun i=>if isT l Zdv i then _ else _) p3 (Zcq (S':=fun i=>setS l 2 (fun n=>{ sp with hold:=n }) (i+1)) ht (Zeb o3 o)))))
 have p4:isB l σ Zdv=false:=by simpa using p4
 by_cases p5:isB l σ Zej=true
 ·have hp:Zl l σ [Zcr,Zbx,Zcs,Zda,Zdv,Zej,Zdu] 0=5:=by simp [Zl,p0,p1,p2,p3,p4,p5]
  rw [hp] at e2 ⊢;obtain ⟨i,rfl,ht⟩:=Zbs p5;have e2:σ2= .ok (i+1):=e2;subst e2;refine ifF rfl (ifF rfl (ifF rfl (ifF rfl (ifF rfl (ifT rfl ((Zgn b2.g 2).mono ?_))))));rintro _ H3 ⟨n,rfl,F3,σ3,g3,n3,rfl,o3⟩;have b3:=b2.call g3 n3;have s3:=s2.call b2 n3;refine ⟨_,rfl,stL s3.blk.blk (by show 3<7;decide) rfl fun H4 b4 k4=>?_⟩
  refine Znw (b3.wr s3.blk k4) (s3.set (sp':={ sp with retry:=n }) k4 b4 rfl rfl) hf (fun σ' o=>?_) (Nat.le_succ _) (Nat.le_succ _)
  exact Zf (T':=fun i=>if isT l Zbx i then _ else _) p0 (Zf (T':=fun i=>if isT l Zcs i then _ else _) p1 (Zf (T':=fun i=>if isT l Zda i then _ else _) p2 (Zf (T':=fun i=>if isT l Zdv i then _ else _) p3 (Zf (T':=fun i=>if isT l Zej i then _ else _) p4 (Zcq (S':=fun i=>setS l 2 (fun n=>{ sp with retry:=n }) (i+1)) ht (Zeb o3 o))))))
 have p5:isB l σ Zej=false:=by simpa using p5
 by_cases p6:isB l σ Zdu=true
 ·have hp:Zl l σ [Zcr,Zbx,Zcs,Zda,Zdv,Zej,Zdu] 0=6:=by simp [Zl,p0,p1,p2,p3,p4,p5,p6]
  rw [hp] at e2 ⊢;obtain ⟨i,rfl,ht⟩:=Zbs p6;have e2:σ2= .ok (i+1):=e2;subst e2;refine ifF rfl (ifF rfl (ifF rfl (ifF rfl (ifF rfl (ifF rfl (ifT rfl ((Zgn b2.g 2).mono ?_)))))));rintro _ H3 ⟨n,rfl,F3,σ3,g3,n3,rfl,o3⟩;have b3:=b2.call g3 n3;have s3:=s2.call b2 n3;refine ⟨_,rfl,stL s3.blk.blk (by show 4<7;decide) rfl fun H4 b4 k4=>?_⟩
  refine Znw (b3.wr s3.blk k4) (s3.set (sp':={ sp with grace:=n }) k4 b4 rfl rfl) hf (fun σ' o=>?_) (Nat.le_succ _) (Nat.le_succ _)
  exact Zf (T':=fun i=>if isT l Zbx i then _ else _) p0 (Zf (T':=fun i=>if isT l Zcs i then _ else _) p1 (Zf (T':=fun i=>if isT l Zda i then _ else _) p2 (Zf (T':=fun i=>if isT l Zdv i then _ else _) p3 (Zf (T':=fun i=>if isT l Zej i then _ else _) p4 (Zf (T':=fun i=>if isT l Zdu i then _ else _) p5 (Zcq (S':=fun i=>setS l 2 (fun n=>{ sp with grace:=n }) (i+1)) ht (Zeb o3 o)))))))
 have p6:isB l σ Zdu=false:=by simpa using p6
 have hp:Zl l σ [Zcr,Zbx,Zcs,Zda,Zdv,Zej,Zdu] 0= -1:=by simp [Zl,p0,p1,p2,p3,p4,p5,p6]
 rw [hp] at e2 ⊢;have e2:σ2=σ:=e2;subst e2;refine ifF rfl (ifF rfl (ifF rfl (ifF rfl (ifF rfl (ifF rfl (ifF rfl (b2.bad fun H3 b3 k3=>?_)))))));have s3:=s2.call b2 (Nx.own k3);refine Znw b3 s3 hf (fun σ' o=>?_) (Nat.le_succ _) (Nat.le_succ _);have hσ:σ'=Znp σ2:=by cases σ2<;>exact o
 subst hσ;exact Zf (T':=fun i=>if isT l Zbx i then _ else _) p0 (Zf (T':=fun i=>if isT l Zcs i then _ else _) p1 (Zf (T':=fun i=>if isT l Zda i then _ else _) p2 (Zf (T':=fun i=>if isT l Zdv i then _ else _) p3 (Zf (T':=fun i=>if isT l Zej i then _ else _) p4 (Zf (T':=fun i=>if isT l Zdu i then _ else _) p5 (Zf (T':=fun i=> .error i) p6 Zbdy))))))
end
end Go.Proofs.YtlkdgfolbllngaaGreatDoor
end
section
set_option maxRecDepth 100000
namespace Go.Proofs.YtlkdgfolbllngaaGreatDoor
open Go.Sh Go.Pc
structure Lyd (H:Heap):Prop where
 live: ∀b,Laid.blocks b=true->H b≠none
 ok:Laid.ok (layH H)
theorem Lyd.keep {H H':Heap} (h:Lyd H) (k:Keep Nil H H'):Lyd H':=by
 refine ⟨fun b hb=>k.live b (h.live b hb),?_⟩;have e:layH H'=layH H:=by
  funext b;unfold layH;cases hb:Laid.blocks b with
  | true=>exact k.same b (fun h=>h.elim) (h.live b hb)
  | false=>rfl
 rw [e];exact h.ok
def lexR (s:List UInt8):LexR:=if 65536<s.length then ([],0,3) else lex s 1 []
def SplR (H:Heap) (s:List UInt8) (v:Value) (H':Heap):Prop:=
 Keep Nil H H'∧∃(a:Option Addr) (c:Nat),v= .tuple ⟨[.slice a (lexR s).1.length c,.int .i64 (lexR s).2.1,.int .i64 (lexR s).2.2]⟩∧Reads H' a ((lexR s).1.length*6) (rowL tokL (lexR s).1)∧(lexR s).1.length <= c∧∀x,a=some x->0<(lexR s).1.length->H x.block=none
theorem Zcjc {Z:Nat->Prop} {H:Heap} {l:List Tok} {v:Value} (h:Zh Z H (.lst [.int .i64,.str,.int .i64,.int .u32,.int .i64,.int .i64]) l v): ∃(a:Option Addr) (c:Nat),v= .slice a l.length c∧Reads H a (l.length*6) (rowL tokL l)∧l.length <= c∧∀x,a=some x->0<l.length->Z x.block:=by
 have rl: ∀l:List Tok,(rowL tokL l).length=l.length*6:=fun l=>by
  induction l with
  | nil=>rfl
  | cons t l ih=>
   show (tokL t++rowL tokL l).length=_;rw [List.length_append,ih,List.length_cons];show 6+_=_;omega
 simp only [Zh] at h;obtain ⟨a,n,c,rfl,hl,hc,_,hat⟩:=h;have hl:l.length=n:=hl;subst hl;refine ⟨a,c,rfl,?_,hc,fun x hx h0=>?_⟩
 ·cases a with
  | none=>
   have: ¬0<l.length:=fun h0=>by obtain ⟨_,_,e,_⟩:=hat h0;cases e
   exact ⟨rl l,by omega⟩
  | some x=>
   refine ⟨rl l,fun h0=>?_⟩;obtain ⟨b,o,e,hz,cs,T,fr,hb,hcs⟩:=hat (by omega)
   cases e;refine ⟨rfl,cs,T,fr,hb,fun j hj=>?_⟩;have hi:j/6<l.length:=by omega
   have hx:=List.getElem?_eq_getElem hi;have h6:=hcs (j/6) _ hx;have hr:=row6 tokL 6 (fun _=>rfl) l (j/6) (j%6) _ hx (Nat.mod_lt _ (by decide))
   rw [show j/6*6+j%6=j by omega] at hr
   rw [hr];generalize l[j/6]=t at h6;obtain ⟨t0,t1,t2,t3,t4,t5⟩:=t;simp only [Zc,Zh,hdT,tlT] at h6;obtain ⟨⟨v0,g0,rfl,_⟩,⟨v1,g1,rfl,_⟩,⟨v2,g2,rfl,_⟩,⟨v3,g3,rfl,_⟩,⟨v4,g4,rfl,_⟩,⟨v5,g5,rfl,_⟩,_⟩:=h6;have hm:j%6<6:=Nat.mod_lt _ (by decide)
   have ej:o+j=o+j/6*6+j%6:=by omega
   have e6:j%6=0∨j%6=1∨j%6=2∨j%6=3∨j%6=4∨j%6=5:=by omega
   rw [ej];rcases e6 with e | e | e | e | e | e<;>rw [e];exact g0;exact g1;exact g2;exact g3;exact g4;exact g5
 obtain ⟨b,o,e,hz,_⟩:=hat h0;rw [hx] at e;cases e;exact hz
theorem Zchq {H:Heap} {s:List UInt8} (hy:Lyd H) (hs:s.length <= 140000000000000):FnW Tryz.prog Zuj ⟨[.string (bstr s)]⟩ H (SplR H s):=by
 refine (FnQ.runZ (x:=(s,())) Zcko rfl rfl (Z:=fun _=>False) ?_ (fun _ h=>h.elim) hy.live hy.ok (K:=fun r=>(r.1,r.2.1,r.2.2.1)=lexR s) (Zbwr s _ (fun h=>?_) fun h=>?_)).mono fun r H' hk=>?_;simp only [pksA,pkA,SimL,SimV,and_true];exact ⟨trivial,Nat.le_trans hs (by decide)⟩
 ·show _=lexR s;unfold lexR;rw [if_neg (by omega)]
  rfl
 show _=lexR s;unfold lexR;rw [if_pos h];rfl
 ·obtain ⟨k,y,Zn,h1,_,hf,h3⟩:=hk;obtain ⟨toks,line,e,u⟩:=y;simp only [pksA,pkA,outA,SimV,SimL] at h3 h1;obtain ⟨vs,rfl,hvs⟩:=h3
  match vs,hvs with
  | [v1,v2,v3],hvs=>
   simp only [SimL,SimV,and_true] at hvs;obtain ⟨ha,⟨rfl,_⟩,rfl,_⟩:=hvs;obtain ⟨a,c,rfl,hr,hc,hz⟩:=Zcjc ha;refine ⟨k,a,c,?_⟩;rw [← h1];refine ⟨rfl,hr,hc,fun x hx h0=>?_⟩;rcases hz x hx h0 with h | h;exact h.elim;exact (hf _ h).1
end Go.Proofs.YtlkdgfolbllngaaGreatDoor
end
section
set_option maxRecDepth 100000
namespace Go.Proofs.YtlkdgfolbllngaaGreatDoor
open Go.Sh Go.Pc
def finS (l:List Tok):Except (Int×Int) Sp:=match Zcx l (l.length+1) Zhv 0 with
 | .ok sp=> .ok sp
 | .error i=> .error (Zvx l i,250)
theorem Zbkj {l:List Tok} {sp:Sp} (h:Zcx l (l.length+1) Zhv 0= .ok sp):finS l= .ok sp:=by unfold finS;rw [h]
theorem Zbyz {l:List Tok} {i:Nat} (h:Zcx l (l.length+1) Zhv 0= .error i):finS l= .error (Zvx l i,250):=by unfold finS;rw [h]
def Zdr (s:List UInt8):Except (Int×Int) Sp:=if (lexR s).2.2≠0 then .error ((lexR s).2.1,(lexR s).2.2) else finS (lexR s).1
structure SpV (F:Heap) (v:List Value) (sp:Sp):Prop where
 ex: ∃(a b:Option Addr) (ac bc:Nat),v=spL sp a ac b bc∧RwAt PlAt 2 F a ac sp.pols∧RwAt PrAt 7 F b bc sp.peers
abbrev spZ:List Value:=[.int .u32 0,.int .u32 0,.int .i64 0,.int .i64 0,.int .i64 0,.slice none 0 0,.slice none 0 0]
def ParR (H:Heap) (s:List UInt8) (v:Value) (H':Heap):Prop:=Keep Nil H H'∧match Zdr s with
 | .ok sp=>∃(F:Heap) (vs:List Value),v= .tuple ⟨[.agg ⟨vs⟩,.int .i64 0,.int .i64 0]⟩∧SpV F vs sp∧Keep Nil F H'∧(∀b,F b≠none->H b=none)∧∀b,F b≠none->∃c T fr,F b=some (.cells c T fr)
 | .error (ln,e)=>v= .tuple ⟨[.agg ⟨spZ⟩,.int .i64 ln,.int .i64 e]⟩∧e≠0
theorem Zxb {H H2:Heap} (hs:Shut H H H2):H2=H:=Heap.ext fun b=>by rcases hs b with h | ⟨h1,h2,_⟩;exact h;rw [h1] at h2;cases h2
section
variable {T:TypeId} {F0 H0 F F' H H1 H':Heap} {pb sb d d':Nat} {l:List Tok} {σ σ' σ1 σ2:Except Nat Nat} {α β:Type} {sp sp':Sp} {a b:Option Addr} {ac bc:Nat}
theorem Zcmy {i:Nat} (h:Gr Zg F H pb l d (.error i)):FnW Tryz.prog Zbcf ⟨[.pointer (some ⟨pb,0,none⟩)]⟩ H fun v H'=>v= .int .i64 (Zvx l i)∧H'=H:=by
 refine Zcmz pb ?_;unfold Zbvm;obtain ⟨a,c,i,dp,bad,hb,hr,hi,rfl,rfl⟩:=h.blk;have hlim:=h.lim;unfold Zvx;refine ⟨_,_,_,cellL hb 0 rfl,IfB.intro (fun e H2 hs=>?_) fun e=>⟨_,_,_,cellL hb 0 rfl,_,cellL hb 1 rfl,_,_,_,cellL hb 0 rfl,?_⟩⟩
 ·have e:(l.length:Int)=0:=by simpa using e
  rw [if_pos (by omega)]
  exact ⟨rfl,Zxb hs⟩
 ·have e: ¬(l.length:Int)=0:=by simpa using e
  rw [if_neg (by omega)]
  have hj:min i (l.length - 1)<l.length:=by omega
  have ht:=List.getElem?_eq_getElem hj;generalize l[min i (l.length - 1)]=t at ht;rw [ht];rw [Zbl (by omega) (by omega)]
  refine Zxt h.fr hr ht (by omega) fun b o hc=>⟨_,hc 5 (by decide),fun H2 hs=>⟨rfl,Zxb hs⟩⟩
theorem ld7s {q:Nat} {Tq:TypeId} {i0 i1 i2 i3 i4:Int} {a b:Option Addr} {an ac bn bc:Nat} {K:Int->Int->Int->Int->Int->Option Addr->Nat->Nat->Option Addr->Nat->Nat->Prop} (hb:Blk H q Tq ⟨[.int .u32 i0,.int .u32 i1,.int .i64 i2,.int .i64 i3,.int .i64 i4,.slice a an ac,.slice b bn bc]⟩) (h:K i0 i1 i2 i3 i4 a an ac b bn bc):
  ∃x0:Int,H.cell ⟨q,0,none⟩=some (Value.int .u32 x0)∧∃x1:Int,H.cell ⟨q,1,none⟩=some (Value.int .u32 x1)∧∃x2:Int,H.cell ⟨q,2,none⟩=some (Value.int .i64 x2)∧∃x3:Int,H.cell ⟨q,3,none⟩=some (Value.int .i64 x3)∧∃x4:Int,H.cell ⟨q,4,none⟩=some (Value.int .i64 x4)∧∃(x5a:Option Addr) (x5n x5c:Nat),H.cell ⟨q,5,none⟩=some (Value.slice x5a x5n x5c)∧∃(x6a:Option Addr) (x6n x6c:Nat),H.cell ⟨q,6,none⟩=some (Value.slice x6a x6n x6c)∧K x0 x1 x2 x3 x4 x5a x5n x5c x6a x6n x6c:=
 ⟨_,cellL hb 0 rfl,_,cellL hb 1 rfl,_,cellL hb 2 rfl,_,cellL hb 3 rfl,_,cellL hb 4 rfl,_,_,_,cellL hb 5 rfl,_,_,_,cellL hb 6 rfl,h⟩
theorem st7s {q:Nat} {Tq:TypeId} {v0 v1 v2 v3 v4 v5 v6:Value} {i0 i1 i2 i3 i4:Int} {a b:Option Addr} {an ac bn bc:Nat} {K:Heap->Prop} (hb:Blk H q Tq ⟨[v0,v1,v2,v3,v4,v5,v6]⟩) (h: ∀H',Blk H' q Tq ⟨[.int .u32 i0,.int .u32 i1,.int .i64 i2,.int .i64 i3,.int .i64 i4,.slice a an ac,.slice b bn bc]⟩->Keep (fun y=>y=q) H H'->K H'):
  Za H ⟨q,0,none⟩ (.int .u32 i0) fun H1=>Za H1 ⟨q,1,none⟩ (.int .u32 i1) fun H2=>Za H2 ⟨q,2,none⟩ (.int .i64 i2) fun H3=>Za H3 ⟨q,3,none⟩ (.int .i64 i3) fun H4=>Za H4 ⟨q,4,none⟩ (.int .i64 i4) fun H5=>Za H5 ⟨q,5,none⟩ (.slice a an ac) fun H6=>Za H6 ⟨q,6,none⟩ (.slice b bn bc) K:=
 stL hb (by simp) rfl fun H1 b1 k1=>stL b1 (by simp) rfl fun H2 b2 k2=>stL b2 (by simp) rfl fun H3 b3 k3=>stL b3 (by simp) rfl fun H4 b4 k4=>stL b4 (by simp) rfl fun H5 b5 k5=>stL b5 (by simp) rfl fun H6 b6 k6=>stL b6 (by simp) rfl fun H7 b7 k7=>h H7 b7 ((((((k1.trans k2).trans k3).trans k4).trans k5).trans k6).trans k7)
def emp:Heap:=⟨fun _=>none,0,fun _ _=>rfl⟩
theorem Zbza {a:Option Addr} {n:Nat} {vs:List Value} {Hs:Heap} (hr:Reads H a n vs) (hn: ∀x,a=some x->0<n->Hs x.block=none): ∃F:Heap,Keep Nil F H∧Reads F a n vs∧(∀b,F b≠none->Hs b=none)∧∀b,F b≠none->∃c T fr,F b=some (.cells c T fr):=by
 have hemp: ∀b,emp b=none:=fun b=>rfl;cases a with
 | none=>exact ⟨emp,⟨fun b _ h=>absurd (hemp b) h,fun b h=>absurd (hemp b) h⟩,hr,fun b h=>absurd (hemp b) h,fun b h=>absurd (hemp b) h⟩
 | some x=>
  by_cases h0:0<n;obtain ⟨hl,c,T,fr,hb,hc⟩:=hr.2 h0;refine ⟨emp.upd x.block (.cells c T fr),⟨fun b _ h=>?_,fun b h=>?_⟩,⟨hr.1,fun _=>⟨hl,c,T,fr,upd_eq,hc⟩⟩,fun b h=>?_,fun b h=>?_⟩;by_cases e:b=x.block;subst e;rw [upd_eq];exact hb;rw [upd_ne e] at h;exact absurd (hemp b) h;by_cases e:b=x.block;subst e;rw [hb];simp;rw [upd_ne e] at h;exact absurd (hemp b) h;by_cases e:b=x.block;subst e;exact hn x rfl h0;rw [upd_ne e] at h;exact absurd (hemp b) h;by_cases e:b=x.block;subst e;exact ⟨c,T,fr,upd_eq⟩;rw [upd_ne e] at h;exact absurd (hemp b) h;exact ⟨emp,⟨fun b _ h=>absurd (hemp b) h,fun b h=>absurd (hemp b) h⟩,⟨hr.1,fun h=>absurd h h0⟩,fun b h=>absurd (hemp b) h,fun b h=>absurd (hemp b) h⟩
theorem Zyw {s:List UInt8} (hy:Lyd H) (hs:s.length <= 140000000000000):FnW Tryz.prog Zlj ⟨[.string (bstr s)]⟩ H (ParR H s):=by
 refine Zclg (bstr s) ?_;unfold Zbta;refine newB fun q H1 hq bq k1=>(Zchq (hy.keep k1) hs).mono ?_;rintro _ H2 ⟨k2,a,c,rfl,hr,hc,hn⟩;have bq2:=k2.blk bq fun h=>h;have hlim:(lexR s).1.length <= 4096:=by unfold lexR;split;exact Nat.zero_le _;exact Zcbu _ s 1 [] (Nat.le_refl _) (Nat.zero_le _)
 refine ⟨_,_,_,_,_,rfl,IfB.intro (fun e=>?_) fun e=>?_⟩
 ·have e:(lexR s).2.2≠0:=by simpa using e
  refine st7s bq2 fun H3 b3 k3=>ld7s b3 fun H4 hs4=>⟨Zi ((k1.trans k2).then k3 fun y hy=> .inr (hy▸hq)) hs4,?_⟩;unfold Zdr;rw [if_pos e];exact ⟨rfl,e⟩
 have e:(lexR s).2.2=0:=by simpa using e
 have hps:Zdr s=finS (lexR s).1:=by unfold Zdr;rw [if_neg (by rw [e];simp)]
 rw [e];generalize (lexR s).1=l at hr hc hn hlim hps ⊢;refine newB fun pb H3 hpb bpb k3=>newB fun sb H4 hsb bsb k4=>st7s bsb fun H5 b5 k5=>?_;obtain ⟨F,kF,rF,nF,cF⟩:=Zbza (Hs:=H1) hr fun x hx h0=>hn x hx (by omega)
 have k03:Keep Nil H H3:=(k1.trans k2).trans k3;have hpsb:pb≠sb:=fun e=>by subst e;rw [bpb] at hsb;cases hsb
 have hqsb:q≠sb:=fun e=>by subst e;exact ((k3.blk bq2 fun h=>h).some hsb)
 have hqpb:q≠pb:=fun e=>by subst e;exact bq2.some hpb
 have gr:Gr Zg F H3 pb l 0 (.ok 0):=⟨kF.trans k3,cF,Classical.byContradiction fun e=>(kF.live pb e) hpb,hlim,by decide,a,c,0,0,false,bpb,rF,Nat.zero_le _,rfl,rfl,rfl⟩
 have b3:=gr.start;have b4:=b3.new k4;have ts:=b3.tm hsb bsb;have bb:=b4.wr ts k5;have s5:SpS H3 F H5 sb Zhv none 0 none 0:=⟨ts.wr b5,Gw.empty,Gw.empty⟩;refine Zbt (fun m x Hx=>∃(Fx:Heap) (σx:Except Nat Nat) (spx:Sp) (ax bx:Option Addr) (acx bcx:Nat),Bd Zg F H3 Fx Hx pb l 0 σx∧SpS H3 Fx Hx sb spx ax acx bx bcx∧spx.pols.length+m <= l.length+1∧spx.peers.length+m <= l.length+1∧(∀j,σx= .ok j->j <= l.length∧l.length+1 <= m+j∧Zcx l m spx j=Zcx l (l.length+1) Zhv 0)∧(∀j,σx= .error j->Zcx l (l.length+1) Zhv 0= .error j)) (l.length+1)
  ⟨F,.ok 0,Zhv,none,none,0,0,bb,s5,(by show 0+_ <= _;omega),(by show 0+_ <= _;omega),fun j hj=>by cases hj;exact ⟨Nat.zero_le _,by omega,rfl⟩,fun j hj=>by cases hj⟩ ?_
 rintro m _ Hx ⟨Fx,σx,spx,ax,bx,acx,bcx,bdx,sx,hm1,hm2,hok,herr⟩ g;unfold Zbsz;have hx:=bdx.g.blk;obtain ⟨pa,pc,i,dp,bad,hb,hrr,hi,hσ⟩:=hx;have bq3:Blk Hx q Zcc ⟨spZ⟩:=bdx.n.kp.blk (k3.blk bq2 fun h=>h) hqpb;have hHpb:H pb=none:=(k1.trans k2).free hpb;have kH:Keep Nil H Hx:=k03.then bdx.n.kp fun y hy=> .inr (hy▸hHpb);have stop: ∀{next:Unit->Heap->Prop},(∀j,σx= .ok j->¬j<l.length)->Ztf q a l.length c 0 pb sb next false Hx fun v H1=>∀H2,Shut H H1 H2->ParR H s v H2:=fun {next} hstop=>by
  unfold Ztf;refine ifF rfl ⟨bad,cellL hb 3 rfl,?_⟩;cases σx with
  | error j=>
   obtain ⟨rfl,rfl⟩:=hσ;refine ifT rfl ((Zcmy bdx.g).mono ?_);rintro _ _ ⟨rfl,e2⟩;rw [e2];refine ⟨_,rfl,st7s bq3 fun H7 b7 k7=>ld7s b7 fun H8 hs8=>⟨Zi (kH.then k7 fun y hy=> .inr (hy▸hq)) hs8,?_⟩⟩;rw [hps,Zbyz (herr j rfl)];exact ⟨rfl,by decide⟩
  | ok j=>
   obtain ⟨rfl,rfl,rfl⟩:=hσ;obtain ⟨h1,h2,h3⟩:=hok j rfl;obtain ⟨m',rfl⟩: ∃m',m=m'+1:=⟨m - 1,by omega⟩
   have h3:Zcx l (l.length+1) Zhv 0= .ok spx:=by rw [← h3];unfold Zcx;rw [if_neg (hstop j rfl)]
   obtain ⟨F8,b8,k8,r8,nf8⟩:=sx.pols.done bdx fun F' k v x h=>PlAt.grow h k;have pe8:Gw PrAt 7 Zbh H3 F8 Hx bx spx.peers.length bcx spx.peers:=by obtain ⟨vs,ho,hl,hxx⟩:=sx.peers.ex;refine ⟨⟨vs,ho,hl,hxx⟩,sx.peers.len,fun y hy=>nf8 y (sx.peers.nf y hy) fun e=>?_,sx.peers.lim⟩;obtain ⟨_,hbb⟩:=ho.live hy;exact sx.pols.apart hbb (by decide) y e rfl
   obtain ⟨F9,b9,k9,r9,nf9⟩:=pe8.done b8 fun F' k v x h=>h;have hFq:F q=none:=Classical.byContradiction fun e=>bq.some (nF q e);have hF9q:F9 q=none:=by
    refine nf9 q (nf8 q (bdx.n.none hFq (k3.live q bq2.some)) fun e=>?_) fun e=>?_;exact sx.pols.apart bq3 (by decide) q e rfl
    exact sx.peers.apart bq3 (by decide) q e rfl
   refine ifF rfl (ld7s sx.blk.blk (st7s bq3 fun H7 b7 k7=>ld7s b7 fun H8 hs8=>⟨Zi (kH.then k7 fun y hy=> .inr (hy▸hq)) hs8,?_⟩));rw [hps,Zbkj h3];refine ⟨F9,_,rfl,⟨ax,bx,acx,bcx,rfl,r8.grow k9 fun v x h=>PlAt.grow h k9,r9⟩,((b9.g.other k7 (fun e=>hqpb e.symm) fun y hy=>hy▸hF9q).shut hs8).fr,fun y hy=>?_,b9.g.cells⟩;rcases b9.n.new y hy with h | h;exact k1.free (nF y h);exact k03.free h
 refine ⟨bad,cellL hb 3 rfl,?_⟩;cases σx with
 | error j=>
  obtain ⟨rfl,rfl⟩:=hσ;exact ifF rfl (stop fun j e=>by cases e)
 | ok j=>
  obtain ⟨rfl,rfl,rfl⟩:=hσ;obtain ⟨h1,h2,h3⟩:=hok j rfl;refine ifT rfl ⟨_,cellL hb 1 rfl,?_⟩;by_cases hj:j<l.length
  ·rw [decide_eq_true (show (j:Int)<(l.length:Int) by omega)]
   obtain ⟨m',rfl⟩: ∃m',m=m'+1:=⟨m - 1,by omega⟩
   unfold Ztf;refine ifT rfl ((Zcls bdx sx ⟨by omega,by omega⟩).mono ?_)
   rintro _ H6 ⟨rfl,F6,σ6,sp6,a6,b6,ac6,bc6,bd6,s6,o6,l1,l2⟩;refine ⟨rfl,m',by omega,F6,σ6,sp6,a6,b6,ac6,bc6,bd6,s6,by omega,by omega,?_⟩
   have o6:Oc (Zcl l spx j) sp6 σ6:=o6;unfold Zcx at h3;rw [if_pos hj] at h3;cases hit:Zcl l spx j with
   | error e2=>
    rw [hit] at h3 o6;have o6:σ6= .error e2:=o6;subst o6;refine ⟨fun j' e=>(by cases e),fun j' e=>?_⟩
    cases e;exact h3.symm
   | ok z=>
    obtain ⟨z,j'⟩:=z;rw [hit] at h3 o6;obtain ⟨rfl,rfl⟩:=(show sp6=z∧σ6= .ok j' from o6)
    have:=Zcah spx j _ _ hit;refine ⟨fun j'' e=>?_,fun j'' e=>(by cases e)⟩
    cases e;exact ⟨by omega,by omega,h3⟩
  ·rw [decide_eq_false (show ¬(j:Int)<(l.length:Int) by omega)]
   exact stop fun j' e=>by cases e;exact hj
end
end Go.Proofs.YtlkdgfolbllngaaGreatDoor
end
