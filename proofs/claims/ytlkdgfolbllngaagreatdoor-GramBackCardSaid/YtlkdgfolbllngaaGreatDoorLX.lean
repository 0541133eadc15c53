/-
  The first bits of an address,in numbers.
-/
import Derived.Test.YtlkdgfolbllngaaGreatDoorED
import Derived.Test.YtlkdgfolbllngaaGreatDoorQ
set_option linter.all false
section
namespace Go.Proofs.YtlkdgfolbllngaaGreatDoor
open Go.Sh
theorem Zrr (a:Nat) (h:a <= 9223372036854775807):IntKind.wrap .i64 (a:Int)=(a:Int):=Zgu (by omega) (by omega)
theorem Zbzf (n a:Nat) (ha:a<2^n) (k:Nat) (hk:k <= n):a&&& (2^n - 1 - (2^k - 1))=a - a%2^k:=by
  have hpk:2^k <= 2^n:=Nat.pow_le_pow_right (by decide) hk
  have h0:0<2^k:=Nat.two_pow_pos k;apply Nat.eq_of_testBit_eq;intro i;rw [Nat.testBit_and,show 2^n - 1 - (2^k - 1)=2^n - ((2^k - 1)+1) by omega,Nat.testBit_two_pow_sub_succ (by omega),Nat.testBit_two_pow_sub_one]
  have e:a - a%2^k=2^k*(a/2^k):=by have:=Nat.div_add_mod a (2^k);omega
  rw [e,Nat.testBit_two_pow_mul];by_cases hi:i<k;simp [hi];intro _;omega
  . rw [Nat.testBit_div_two_pow,show i - k+k=i by omega]
    by_cases hn:i<n;simp [hi,hn];omega
    . have:a.testBit i=false:=Nat.testBit_lt_two_pow (Nat.lt_of_lt_of_le ha (Nat.pow_le_pow_right (by decide) (by omega)))
      simp [this]
theorem Zbub (a:Nat) (ha:a<4294967296) (k:Nat) (hk:k <= 32):Zsw .u32 (a:Int) ((2^k - 1:Nat):Int)=((a - a%2^k:Nat):Int):=by
  have hp:2^k <= 2^32:=Nat.pow_le_pow_right (by decide) hk
  have h0:0<2^k:=Nat.two_pow_pos k;have e32:(2:Nat)^32=4294967296:=rfl;unfold Zsw;have hb:IntKind.bits .u32=32:=rfl;rw [hb,Zme 32 a (by omega),Zme 32 (2^k - 1) (by omega),BitVec.toNat_and,BitVec.toNat_not,BitVec.toNat_ofNat,BitVec.toNat_ofNat,Nat.mod_eq_of_lt (by omega),Nat.mod_eq_of_lt (by omega)]
  rw [Zbzf 32 a (by omega) k hk,wu32 (by omega)]
def Zkt (n:Nat):Nat:=2^(32 - n)
theorem Zbop (a:Nat) (h:a<18446744073709551616):IntKind.wrap .u64 (a:Int)=(a:Int):=by rw [Zcgf];omega
end Go.Proofs.YtlkdgfolbllngaaGreatDoor
end
section
namespace Go.Proofs.YtlkdgfolbllngaaGreatDoor
open Go.Sh
theorem Zbyy (a n:Nat) (K:Int->Prop) (ha:a<4294967296) (hn:n <= 32) (hk:K ((a - a%Zkt n:Nat):Int)):Zxg a n K:=by
  unfold Zxg;have e1:IntKind.wrap .i64 (32 - (n:Int))=((32 - n:Nat):Int):=by rw [Zgu (by omega) (by omega)];omega
  rw [e1];refine ⟨by omega,?_⟩
  have hp:2^(32 - n) <= 2^32:=Nat.pow_le_pow_right (by decide) (by omega)
  have h0:0<2^(32 - n):=Nat.two_pow_pos _;have e32:(2:Nat)^32=4294967296:=rfl;have e2:(min ((32 - n:Nat):Int).toNat (IntKind.bits .u64))=32 - n:=by rw [Int.toNat_natCast];have:IntKind.bits .u64=64:=rfl;rw [this];omega
  have e3:(1*(2^(32 - n)):Int)=((2^(32 - n):Nat):Int):=by rw [Int.one_mul];norm_cast
  rw [e2,e3,Zbop _ (by omega),show (((2^(32 - n):Nat):Int) - 1)=((2^(32 - n) - 1:Nat):Int) by omega,Zbop _ (by omega),wu32 (by omega),Zbub a ha _ (by omega)]
  exact hk
def right (a:Nat) (n:Int):Bool:=decide (0 <= n)&&(decide (n <= 32)&&(a%Zkt n.toNat==0))
theorem Zbdn {a:Nat} {n:Int}:right a n=true↔0 <= n∧n <= 32∧a%Zkt n.toNat=0:=by simp [right]
theorem Zbmq (a:UInt32) (n:Int) (K:Bool->Prop) (hk:K (right a.toNat n)):Zsn (a,n) K:=by
  unfold Zsn;have ha:=Zcfj a;refine IfB.intro (fun h=>IfB.intro (fun h2=>?_) (fun h2=>of_eq hk ?_)) (fun h=>of_eq hk ?_)
  . have h0:0 <= n:=by simpa using h
    have h1:n <= 32:=by simpa using h2
    obtain ⟨m,rfl⟩:=Int.eq_ofNat_of_zero_le h0;intro _;refine Zbyy a.toNat m _ ha (by omega) fun _=>of_eq hk ?_
    have hle:a.toNat%Zkt m <= a.toNat:=Nat.mod_le _ _;unfold right;rw [decide_eq_true h0,decide_eq_true h1,Bool.true_and,Bool.true_and,Int.toNat_natCast];by_cases e:a.toNat%Zkt m=0;rw [e];simp
    . have e1:(a.toNat%Zkt m==0)=false:=beq_eq_false_iff_ne.2 e;have e2:(((a.toNat - a.toNat%Zkt m:Nat):Int)==(a.toNat:Int))=false:=beq_eq_false_iff_ne.2 (by omega)
      rw [e1,e2]
  . unfold right;simp at h2;rw [decide_eq_false (show ¬n <= 32 by omega)];simp
  . unfold right;simp at h;rw [decide_eq_false (show ¬0 <= n by omega)];simp
end Go.Proofs.YtlkdgfolbllngaaGreatDoor
end
section
namespace Go.Proofs.YtlkdgfolbllngaaGreatDoor
open Go.Sh
def Zcr (w:List UInt8):Bool:=decide (val w <= 255)&&(Lib.decDigits (val w)==w)
theorem Zku {w:List UInt8}:Zcr w=true↔val w <= 255∧Lib.decDigits (val w)=w:=by simp [Zcr]
def pv (l:List (List UInt8)):Nat:=l.foldl (fun a w=>a*256+val w) 0
theorem Zvo (l:List (List UInt8)) (w:List UInt8):pv (l++[w])=pv l*256+val w:=by simp [pv]
def prs (s:List UInt8):Nat×Int:=if (spl 46 s).length=4∧(spl 46 s).all Zcr=true then (pv (spl 46 s),0) else (0,2)
theorem Zbnn {c:UInt8} {s w:List UInt8} (h:w∈spl c s):w.length <= s.length:=by rw [← Zbbx] at h;exact Zbno _ _ _ _ h
end Go.Proofs.YtlkdgfolbllngaaGreatDoor
end
section
namespace Go.Proofs.YtlkdgfolbllngaaGreatDoor
open Go.Sh
theorem Zbzi (s:List UInt8) (K:Int->Prop) (hl:s.length <= 281474976710656) (h1:Zcr s=true->K (val s)) (h2:Zcr s=false->∀v:Int,v<0->K v):Zxd s K:=by
  have hA:Zcr s=true->Lib.atoiAll s= .ok (val s:Int):=fun h=>by
    obtain ⟨h3,h4⟩:=Zku.1 h;have:=Zbgg (u:=val s) (by omega)
    rwa [h4] at this
  have hno:Zcr s=false->Zry 0 true K:=fun h=>ifT rfl (h2 h _ (by decide))
  have hN:Lib.atoiAll s≠ .ok (val s:Int)->Zcr s=false:=fun h=>by
    cases ho:Zcr s with
    | false=>rfl
    | true=>exact absurd (hA ho) h
  unfold Zxd;intro _;unfold Zjm;refine ⟨hl,fun _=>?_⟩;cases ha:Lib.atoiAll s with
  | ok v=>
    simp only [Zej,ha];refine ifF rfl (IfB.intro (fun h=>?_) (fun h=>?_))
    . refine ifT rfl (h2 ?_ _ (by decide))
      cases ho:Zcr s with
      | false=>rfl
      | true=>
        have:=hA ho;rw [ha] at this;injection this with this
        have h3:=(Zku.1 ho).1;simp at h;omega
    . have hv:v <= 255:=by simp at h;omega
      intro _;unfold Zey;intro _;unfold Zry;refine IfB.intro (fun h=>?_) (fun h=>?_)
      . refine h2 ?_ _ (by decide)
        cases ho:Zcr s with
        | false=>rfl
        | true=>
          have:=hA ho;rw [ha] at this;injection this with this
          subst this;rw [Znc,(Zku.1 ho).2] at h;simp at h
      . have hs:Lib.itoa v=s:=by simpa using h
        by_cases h0:0 <= v
        . obtain ⟨n,rfl⟩:=Int.eq_ofNat_of_zero_le h0;rw [Znc] at hs;have hvn:val s=n:=by rw [← hs,Zbeg]
          have ho:Zcr s=true:=Zku.2 ⟨by omega,by rw [hvn];exact hs⟩
          have:=h1 ho;rwa [hvn] at this
        . refine h2 (hN fun e=>?_) v (by omega)
          rw [ha] at e;injection e with e;omega
  | range=>
    simp only [Zej,ha];exact ifT rfl (ifT rfl (h2 (hN (by rw [ha];exact fun e=>by cases e)) _ (by decide)))
  | _ =>
    simp only [Zej,ha];exact ifT rfl (ifT rfl (h2 (hN (by rw [ha];exact fun e=>by cases e)) _ (by decide)))
theorem Zbzu (s:List UInt8) (K:Int->Int->Prop) (hl:s.length <= 1000000) (hk:K (prs s).1 (prs s).2):Zym s K:=by
  unfold Zym;intro _;unfold Zlk;refine ⟨by omega,by decide,?_⟩
  rw [Zbbx];intro _;have hpl:=fun w (h:w∈spl 46 s)=>Zbnn h;have hbad: ¬((spl 46 s).length=4∧(spl 46 s).all Zcr=true)->K 0 2:=fun h=>by rw [prs,if_neg h] at hk;exact hk
  have hok:(spl 46 s).length=4->(spl 46 s).all Zcr=true->K (pv (spl 46 s)) 0:=fun h1 h2=>by rw [prs,if_pos ⟨h1,h2⟩] at hk;exact hk
  generalize spl 46 s=l at*;refine IfB.intro (fun h=>hbad fun h4=>by simp at h;omega) (fun h=>?_)
  have h4:l.length=4:=by simp at h;omega
  refine Zcn.over l (fun pre=>((pv pre:Int),(pre.length:Int),())) (fun pre=>pre.all Zcr=true∧pv pre<256^pre.length) rfl ⟨rfl,by decide⟩ (fun pre w post hp hn hP next hx=>?_) (fun hP next=>?_)
  . intro _;dsimp only [Zbfs];refine ifT (decide_eq_true (by omega)) ⟨by omega,by omega,AtN.of (Zbgf hp) fun _ _=>?_⟩
    refine Zbzi w _ (by have:=hpl w (by rw [hp];simp);omega) (fun ho _=>?_) (fun ho v hv _=>?_)
    . obtain ⟨h5,h6⟩:=Zku.1 ho;have hb:pv pre<16777216:=by
        have h7:pre.length <= 3:=by omega
        have:256^pre.length <= 256^3:=Nat.pow_le_pow_right (by decide) h7
        omega
      refine ifF (decide_eq_false (by omega)) ⟨by decide,of_eq (hx ⟨by rw [List.all_append,hP.1];simp [ho],?_⟩) ?_⟩
      rw [Zvo,List.length_append,List.length_singleton,Nat.pow_succ];have:=hP.2;omega
      . rw [Zvo,show ((pv pre:Nat):Int)*256=((pv pre*256:Nat):Int) by omega,wu32 (by omega),wu32 (by omega),Zbcn .u32 _ _ (Zjb (by omega)) (Zjb (by omega)),Zblh _ _ (by omega),wu32 (by omega),Zgu (by omega) (by omega)]
        simp
    . refine ifT (decide_eq_true hv) (hbad fun h5=>?_);have:=List.all_eq_true.1 h5.2 w (by rw [hp];simp)
      rw [ho] at this;cases this
  intro _;dsimp only [Zbfs];exact ifF (decide_eq_false (by omega)) (hok h4 hP.1)
end Go.Proofs.YtlkdgfolbllngaaGreatDoor
end
section
namespace Go.Proofs.YtlkdgfolbllngaaGreatDoor
open Go.Sh
def Zbp (m:Nat) (w:List UInt8):Bool:=decide (val w <= m)&&(Lib.decDigits (val w)==w)
theorem Zhc {m:Nat} {w:List UInt8}:Zbp m w=true↔val w <= m∧Lib.decDigits (val w)=w:=by simp [Zbp]
theorem Zbxg {m:Nat} {w:List UInt8}:Zbp m w=true↔val w <= m∧canon w:=by rw [Zhc,Zbus]
theorem Zbji {m:Nat} {w:List UInt8} {c:UInt8} (h:Zbp m w=true) (hc:c.toNat<48∨57<c.toNat):c∉w:=fun hm=>by have:=(Zbxg.1 h).2.2.1 c hm;omega
theorem Zbjk {v:Int} {s:List UInt8} (h0:0 <= v) (h:Lib.itoa v=s):v=(val s:Nat)∧Lib.decDigits (val s)=s:=by
  obtain ⟨n,rfl⟩:=Int.eq_ofNat_of_zero_le h0;rw [Znc] at h;have hv:val s=n:=by rw [← h,Zbeg]
  exact ⟨by omega,by rw [hv];exact h⟩
theorem Zki {m:Nat} {s:List UInt8} (hm:m<9223372036854775808) (h:Zbp m s=true):Lib.atoiAll s= .ok (val s:Int):=by
  obtain ⟨h3,h4⟩:=Zhc.1 h;have:=Zbgg (u:=val s) (by omega)
  rwa [h4] at this
theorem Zbky (s:List UInt8) (m:Nat) (K:Int->Prop) (hm:m<9223372036854775808) (hl:s.length <= 281474976710656) (h1:Zbp m s=true->K (val s)) (h2:Zbp m s=false->∀v:Int,(v<0∨v>m)->K v):Zol s K:=by
  have hN: ∀v:Int,Lib.atoiAll s= .ok v->v≠(val s:Int)->Zbp m s=false:=fun v hv hne=>by
    cases ho:Zbp m s with
    | false=>rfl
    | true=>rw [Zki hm ho] at hv;injection hv with hv;exact absurd hv.symm hne
  have hno:(∀v,Lib.atoiAll s≠ .ok v)->Zyj 0 true K:=fun h=>ifT rfl (h2 (by
    cases ho:Zbp m s with
    | false=>rfl
    | true=>exact absurd (Zki hm ho) (h _)) _ (.inl (by decide)))
  unfold Zol;intro _;unfold Zjm;refine ⟨hl,fun _=>?_⟩;cases ha:Lib.atoiAll s with
  | ok v=>
    simp only [Zej,ha];refine ifF rfl fun _=>?_;unfold Zey;intro _;unfold Zyj;refine IfB.intro (fun h=>?_) (fun h=>?_)
    . refine h2 ?_ _ (.inl (by decide))
      cases ho:Zbp m s with
      | false=>rfl
      | true=>
        rw [Zki hm ho] at ha;injection ha with ha
        subst ha;rw [Znc,(Zhc.1 ho).2] at h;simp at h
    . have hs:Lib.itoa v=s:=by simpa using h
      by_cases h0:0 <= v
      . obtain ⟨h3,h4⟩:=Zbjk h0 hs;by_cases h5:val s <= m;have:=h1 (Zhc.2 ⟨h5,h4⟩);rwa [← h3] at this
        . refine h2 ?_ v (.inr (by omega))
          cases ho:Zbp m s with
          | false=>rfl
          | true=>exact absurd (Zhc.1 ho).1 h5
      . exact h2 (hN v ha (by omega)) v (.inl (by omega))
  | range=>
    simp only [Zej,ha];exact ifT rfl (hno fun v e=>by rw [ha] at e;cases e)
  | _ =>
    simp only [Zej,ha];exact ifT rfl (hno fun v e=>by rw [ha] at e;cases e)
theorem Zqs {c:UInt8} {s:List UInt8} (h:c∈s): ∃pre rest,s=pre++c::rest∧c∉pre:=by
  induction s with
  | nil=>simp at h
  | cons x s ih=>
    by_cases e:x=c;subst e;exact ⟨[],s,rfl,by simp⟩
    . have hm:c∈s:=by rcases List.mem_cons.1 h with h | h;exact absurd h.symm e;exact h
      obtain ⟨pre,rest,rfl,hp⟩:=ih hm;exact ⟨x::pre,rest,rfl,by simp only [List.mem_cons,not_or];exact ⟨fun h=>e h.symm,hp⟩⟩
theorem index_none {c:UInt8}: ∀{s:List UInt8},c∉s->Lib.index s [c]= -1
  | [],_=>rfl
  | x::s,h=>by
    simp only [List.mem_cons,not_or] at h;have hp:([c]:List UInt8).isPrefixOf (x::s)=false:=by simp [List.isPrefixOf,h.1]
    rw [Lib.index,hp,if_neg (by decide),index_none h.2];rfl
theorem Zbvr {c:UInt8} {s:List UInt8} (h:c∉s):Lib.cut s [c]=(s,[],false):=by unfold Lib.cut;rw [index_none h,if_neg (by decide)]
theorem Zbht {c:UInt8} {pre rest:List UInt8} (h:c∉pre):Lib.cut (pre++c::rest) [c]=(pre,rest,true):=by
  unfold Lib.cut;rw [Zbbm h,if_pos (by omega)]
  simp
theorem Zzr {c:UInt8} (s:List UInt8):Lib.contains s [c]=decide (c∈s):=by unfold Lib.contains;by_cases h:c∈s;obtain ⟨pre,rest,rfl,hp⟩:=Zqs h;rw [Zbbm hp,decide_eq_true h];simp;rw [index_none h,decide_eq_false h];rfl
def pfx (s:List UInt8):Option (Nat×Nat):=match spl 47 s with
  | [a,b]=>if (prs a).2=0∧Zbp 32 b=true∧right (prs a).1 (val b)=true then some ((prs a).1,val b) else none
  | _=>none
theorem Zbmj: ∀(l:List (List UInt8)) (a:Nat),l.all Zcr=true->l.foldl (fun a w=>a*256+val w) a<(a+1)*256^l.length
  | [],a,_=>by simp
  | w::l,a,h=>by
    simp only [List.all_cons,Bool.and_eq_true] at h;have ih:=Zbmj l (a*256+val w) h.2;have hw:=(Zku.1 h.1).1;simp only [List.foldl_cons,List.length_cons,Nat.pow_succ];have h3:(a*256+val w+1)*256^l.length <= ((a+1)*256)*256^l.length:=Nat.mul_le_mul_right _ (by omega)
    have h4:(a+1)*256*256^l.length=(a+1)*(256^l.length*256):=by rw [Nat.mul_assoc,Nat.mul_comm 256]
    omega
theorem Zcaw (s:List UInt8):(prs s).1<4294967296:=by unfold prs;split;rename_i h;have:=Zbmj (spl 46 s) 0 h.2;rw [h.1] at this;exact this;decide
theorem Zcad (s:List UInt8) (K:UInt32×Int->Int->Prop) (hl:s.length <= 1000000) (h1: ∀a n,pfx s=some (a,n)->K (UInt32.ofNat a,(n:Int)) 0) (h2:pfx s=none->K (0,0) 5):Zxt s K:=by
  unfold Zxt;intro _;unfold Znr;refine ⟨by omega,?_⟩
  have step: ∀(p q:List UInt8) (b:Bool),p.length <= 1000000->q.length <= 1000000->(b=true->47∉q->pfx s=if (prs p).2=0∧Zbp 32 q=true∧right (prs p).1 (val q)=true then some ((prs p).1,val q) else none)->(b=false∨47∈q->pfx s=none)->
      (WfPs Zrh (p,([46]:List UInt8),())->Zlk p ([46]:List UInt8) (fun x19=>WfPs Zri (x19,())->(WfPs Zok (q,())->Zol q (fun x21=>WfPs Zom (x21,())->IfB (!b) (Zlq x21 x19 true K) (Zlq x21 x19 (((x19.length:Int):Int) !=4) K))))):=by
    intro p q b hp hq hb hn _;unfold Zlk;refine ⟨by omega,by decide,?_⟩
    rw [Zbbx];intro _ _;have hpr:prs p=if (spl 46 p).length=4∧(spl 46 p).all Zcr=true then (pv (spl 46 p),0) else (0,2):=rfl
    have hpl:=fun w (h:w∈spl 46 p)=>Zbnn h;generalize spl 46 p=l at*;have key: ∀v:Int,(Zbp 32 q=true∧v=(val q:Int))∨(Zbp 32 q=false∧(v<0∨v>32))->IfB (!b) (Zlq v l true K) (Zlq v l (((l.length:Int):Int) !=4) K):=by
      intro v hv;have bad:(b=true->47∉q->¬((prs p).2=0∧Zbp 32 q=true∧right (prs p).1 (val q)=true))->K (0,0) 5:=fun h=>h2 (by
        by_cases hbq:b=true∧47∉q;rw [hb hbq.1 hbq.2,if_neg (h hbq.1 hbq.2)]
        . refine hn ?_;rcases Bool.eq_false_or_eq_true b with e | e;exact .inr (Classical.byContradiction fun hh=>hbq ⟨e,hh⟩)
          . exact .inl e)
      refine IfB.intro (fun h=>ifT rfl (bad fun hbt=>by rw [hbt] at h;cases h)) (fun h=>?_)
      have hbt:b=true:=by simpa using h
      unfold Zlq;refine IfB.intro (fun h4=>bad fun _ _ hc=>?_) (fun h4=>?_)
      . rw [hpr,if_neg (by intro hx;rw [hx.1] at h4;simp at h4)] at hc
        exact absurd hc.1 (by decide)
      have h4l:l.length=4:=by simp at h4;omega
      refine Zcn.over l (fun pre=>((pre.length:Int),(pv pre:Int),v,())) (fun pre=>pre.all Zcr=true∧pv pre<256^pre.length) rfl ⟨rfl,by decide⟩ (fun pre w post hpp hnn hP next hx=>?_) (fun hP next=>?_)
      . intro _;dsimp only [Zbes];have hno:Zcr w=false->K (0,0) 5:=fun ho=>bad fun _ _ hc=>by
          rw [hpr,if_neg (fun h5=>by have:=List.all_eq_true.1 h5.2 w (by rw [hpp];simp);rw [ho] at this;cases this)] at hc
          exact absurd hc.1 (by decide)
        refine ifT (decide_eq_true (by omega)) ⟨by omega,by omega,AtN.of (Zbgf hpp) fun _ _=>?_⟩
        refine Zbky w 255 _ (by decide) (by have:=hpl w (by rw [hpp];simp);omega) (fun ho _=>?_) (fun ho x hx0 _=>?_)
        . obtain ⟨h5,h6⟩:=Zku.1 ho;have hb2:pv pre<16777216:=by
            have h7:pre.length <= 3:=by omega
            have:256^pre.length <= 256^3:=Nat.pow_le_pow_right (by decide) h7
            omega
          refine ifF (decide_eq_false (by omega)) (ifF (decide_eq_false (by omega)) ⟨by decide,of_eq (hx ⟨by rw [List.all_append,hP.1];simp [show Zcr w=true from ho],?_⟩) ?_⟩)
          rw [Zvo,List.length_append,List.length_singleton,Nat.pow_succ];have:=hP.2;omega
          . rw [Zvo,show ((pv pre:Nat):Int)*256=((pv pre*256:Nat):Int) by omega,wu32 (by omega),wu32 (by omega),Zbcn .u32 _ _ (Zjb (by omega)) (Zjb (by omega)),Zblh _ _ (by omega),wu32 (by omega),Zgu (by omega) (by omega)]
            simp
        . have ho':Zcr w=false:=ho;first | unfold Zber | unfold Zbep
          refine IfB.intro (fun _=>ifT rfl (hno ho')) (fun h5=>ifT ?_ (hno ho'));simp at h5;simp;omega
      . intro _;dsimp only [Zbes];have hlt:pv l<4294967296:=by have:=hP.2;rw [h4l] at this;exact this
        have eU:ofI .u32 ((pv l:Nat):Int)=UInt32.ofNat (pv l):=rfl;have eN:(UInt32.ofNat (pv l)).toNat=pv l:=by simp;omega
        have hpr2:prs p=(pv l,0):=by rw [hpr,if_pos ⟨h4l,hP.1⟩]
        refine ifF (decide_eq_false (by omega)) fun _=>Zbmq _ _ _ fun _=>?_
        rw [eU,eN];unfold Zbeq;refine IfB.intro (fun hr=>?_) (fun hr=>bad fun _ _ hc=>?_)
        . rcases hv with ⟨h6,rfl⟩ | ⟨_,h6⟩
          . have hq47:47∉q:=Zbji h6 (.inl (by decide))
            refine h1 _ _ ?_;rw [hb hbt hq47,hpr2,if_pos ⟨rfl,h6,hr⟩]
          have:=Zbdn.1 hr;omega
        rw [hpr2] at hc;rcases hv with ⟨h6,rfl⟩ | ⟨h6,_⟩;rw [hc.2.2] at hr;cases hr;rw [h6] at hc;exact absurd hc.2.1 (by decide)
    refine Zbky q 32 _ (by decide) (by omega) (fun h _=>key _ (.inl ⟨h,rfl⟩)) (fun h v hv _=>key v (.inr ⟨h,hv⟩))
  by_cases hm:47∈s
  . obtain ⟨p,q,rfl,hp⟩:=Zqs hm;rw [Zbht hp];intro _;simp only [List.length_append,List.length_cons] at hl;refine step p q true (by omega) (by omega) (fun _ hq=>?_) (fun h=>?_)
    unfold pfx;rw [Znl hp,Zwb hq]
    . rcases h with h | h;cases h
      . obtain ⟨u,v,rfl,hu⟩:=Zqs h;unfold pfx;rw [Znl hp,Znl hu];have:spl 47 v≠[]:=by unfold spl;simp
        cases hv:spl 47 v with
        | nil=>exact absurd hv this
        | cons=>rfl
  . rw [Zbvr hm];intro _;refine step s [] false hl (by simp) (fun h=>by cases h) (fun _=>?_)
    unfold pfx;rw [Zwb hm]
end Go.Proofs.YtlkdgfolbllngaaGreatDoor
end
section
namespace Go.Proofs.YtlkdgfolbllngaaGreatDoor
open Go.Sh
abbrev Tok:=Int×List UInt8×Int×UInt32×Int×Int
def Zqh (x:UInt8):Bool:=decide (48 <= x.toNat)&&decide (x.toNat <= 57)
def isLet (x:UInt8):Bool:=(decide (97 <= x.toNat)&&decide (x.toNat <= 122))||(decide (65 <= x.toNat)&&decide (x.toNat <= 90))
def Zcz (x:UInt8):Bool:=Zqh x||isLet x||x==95||x==45||x==46||x==58||x==47
def Zun (x:UInt8):Bool:=x==123||x==125||x==40||x==41||x==59
def Zid (x:UInt8):Bool:=(decide (32 <= x.toNat)&&decide (x.toNat <= 126))||x==9
def comm (s:List UInt8):Option Nat:=match spl 58 s with
  | [a,b]=>if Zbp 65535 a=true∧Zbp 65535 b=true then some (65536*val a+val b) else none
  | _=>none
def word (s:List UInt8):Option Tok:=
  if s.all Zqh=true then (if Zbp 4294967295 s=true then some (2,s,(val s:Int),0,0,0) else none)
  else if 47∈s then (match pfx s with
    | some r=>some (4,s,0,UInt32.ofNat r.1,(r.2:Int),0)
    | none=>none)
  else if 58∈s then (match comm s with
    | some n=>some (5,s,(n:Int),0,0,0)
    | none=>none)
  else if s.all (fun x=>Zqh x||x==46)=true then (if (prs s).2=0 then some (3,s,((prs s).1:Int),0,0,0) else none)
  else if s.head?.any isLet=true∧46∉s∧s.length <= 32 then some (1,s,0,0,0,0) else none
theorem Zma {P:UInt8->Prop} (h: ∀n:Fin 256,P (UInt8.ofNat n.val)) (x:UInt8):P x:=by have:=h ⟨x.toNat,Zcfk x⟩;rwa [show UInt8.ofNat x.toNat=x by simp] at this
theorem Zbjx (x:UInt8) (K:Bool->Prop) (hk:K (isLet x)):Zrw (x.toNat:Int) K:=by
  have h: ∀x:UInt8,isLet x=(if decide ((Zfw .u8 (x.toNat:Int) 32)≥97)=true then decide ((Zfw .u8 (x.toNat:Int) 32) <= 122) else false):=Zma (by decide+kernel)
  unfold Zrw;rw [h] at hk;refine IfB.intro (fun h1=>?_) (fun h1=>?_);rw [if_pos h1] at hk;exact hk
  . rw [if_neg (by rw [h1];decide)] at hk;exact hk
theorem Zbln (x:UInt8) (K:Bool->Prop) (hk:K (Zcz x)):Zsa (x.toNat:Int) K:=by
  have h: ∀x:UInt8,Zcz x=(isLet x||(decide ((x.toNat:Int)≥48)&&decide ((x.toNat:Int) <= 57))||decide (Lib.indexByte [95,45,46,58,47] (x.toNat:Int).toNat.toUInt8≥0)):=Zma (by decide+kernel)
  rw [h] at hk;have hi:(WfPs Zns (([95,45,46,58,47]:List UInt8),(x.toNat:Int),())->Zhr ([95,45,46,58,47]:List UInt8) (x.toNat:Int) (fun x15=>WfPs Znt (x15,())->isLet x=false->(decide ((x.toNat:Int)≥48)&&decide ((x.toNat:Int) <= 57))=false->K (decide ((x15:Int)≥0)))):=by intro _;unfold Zhr;intro _ h1 h2;rw [h1,h2] at hk;exact hk
  unfold Zsa;refine fun _=>Zbjx x _ fun _=>IfB.intro (fun h1=>?_) (fun h1=>IfB.intro (fun h2=>IfB.intro (fun h3=>?_) (fun h3=>?_)) (fun h2=>?_));rw [h1] at hk;exact hk;rw [h1,h2,h3] at hk;exact hk;intro h4;have h5:=hi h4;unfold Zhr at h5 ⊢;exact fun w=>h5 w h1 (by rw [h2,h3];rfl)
  intro h4;have h5:=hi h4;unfold Zhr at h5 ⊢;exact fun w=>h5 w h1 (by rw [h2];rfl)
theorem Zcdm (x:UInt8):decide (Lib.indexByte [123,125,40,41,59] (x.toNat:Int).toNat.toUInt8≥0)=Zun x:=by revert x;exact Zma (by decide+kernel)
theorem Zbyz (x:UInt8) (K:Bool->Prop) (hk:K (Zid x)):Zuw (x.toNat:Int) K:=by
  have hb: ∀x:UInt8,((x.toNat:Int)==9)=(x==9):=Zma (by decide+kernel)
  unfold Zid at hk;unfold Zuw;refine IfB.intro (fun h1=>IfB.intro (fun h2=>?_) (fun h2=>of_eq hk ?_)) (fun h1=>of_eq hk ?_)
  . simp at h1 h2;rw [decide_eq_true (show 32 <= x.toNat by omega),decide_eq_true (show x.toNat <= 126 by omega)] at hk;exact hk
  simp at h2;rw [decide_eq_false (show ¬x.toNat <= 126 by omega),Bool.and_false,Bool.false_or,hb]
  simp at h1;rw [decide_eq_false (show ¬32 <= x.toNat by omega),Bool.false_and,Bool.false_or,hb]
theorem Zvb (s:List UInt8) (m:Nat) (K:Int->Bool->Prop) (hm:m<9223372036854775808) (hl:s.length <= 281474976710656) (h1:Zbp m s=true->K (val s) true) (h2:Zbp m s=false->∀v:Int,K v false):Zoq s m K:=by
  have hN:(∀v,Lib.atoiAll s≠ .ok v)->Zbp m s=false:=fun h=>by
    cases ho:Zbp m s with
    | false=>rfl
    | true=>exact absurd (Zki hm ho) (h _)
  unfold Zoq;intro _;unfold Zjm;refine ⟨hl,fun _=>?_⟩;cases ha:Lib.atoiAll s with
  | ok v=>
    simp only [Zej,ha];have hV:v≠(val s:Int)->Zbp m s=false:=fun hne=>by
      cases ho:Zbp m s with
      | false=>rfl
      | true=>rw [Zki hm ho] at ha;injection ha with ha;exact absurd ha.symm hne
    refine ifT rfl (IfB.intro (fun h=>IfB.intro (fun h3=>?_) (fun h3=>?_)) (fun h=>?_))
    . have h0:0 <= v:=by simpa using h
      have h3':v <= m:=by simpa using h3
      intro _;unfold Zey;intro _;by_cases e:Lib.itoa v=s
      . obtain ⟨h5,h6⟩:=Zbjk h0 e;have:=h1 (Zhc.2 ⟨by omega,h6⟩)
        rw [e,← h5] at*;simpa using this
      . have e2:(Lib.itoa v==s)=false:=beq_eq_false_iff_ne.2 e;rw [e2];refine h2 ?_ v;cases ho:Zbp m s with
        | false=>rfl
        | true=>
          rw [Zki hm ho] at ha;injection ha with ha
          subst ha;rw [Znc,(Zhc.1 ho).2] at e;exact absurd rfl e
    . refine h2 ?_ v;cases ho:Zbp m s with
      | false=>rfl
      | true=>
        have:=Zhc.1 ho;rw [Zki hm ho] at ha;injection ha with ha
        simp at h3;omega
    . exact h2 (hV (by simp at h;omega)) v
  | range=>
    simp only [Zej,ha];exact ifF rfl (h2 (hN fun v e=>by rw [ha] at e;cases e) _)
  | _ =>
    simp only [Zej,ha];exact ifF rfl (h2 (hN fun v e=>by rw [ha] at e;cases e) _)
theorem or16 (a b:Nat) (hb:b<65536) (ha:a<65536):Zfw .i64 ((a:Int)*65536) (b:Int)=((65536*a+b:Nat):Int):=by
  rw [show ((a:Int)*65536)=((a*65536:Nat):Int) by omega,Zbcn .i64 _ _ (Zbki (by omega)) (Zbki (by omega)),Zbzp _ _ hb,Zrr _ (by omega)]
  omega
theorem Zbve {p q:List UInt8} (hp:58∉p):comm (p++58::q)=if Zbp 65535 p=true∧Zbp 65535 q=true then some (65536*val p+val q) else none:=by
  unfold comm;rw [Znl hp];by_cases hq:58∈q
  . have hn: ¬(Zbp 65535 p=true∧Zbp 65535 q=true):=fun h=>Zbji h.2 (.inr (by decide)) hq
    rw [if_neg hn];obtain ⟨u,v,rfl,hu⟩:=Zqs hq;rw [Znl hu];have:spl 58 v≠[]:=by unfold spl;simp
    cases hv:spl 58 v with
    | nil=>exact absurd hv this
    | cons=>rfl
  rw [Zwb hq]
theorem Zbwv (s:List UInt8) (K:Int->Bool->Prop) (hl:s.length <= 1000000) (hm:58∈s) (h1: ∀n,comm s=some n->K (n:Int) true) (h2:comm s=none->∀v:Int,K v false):Zxj s K:=by
  obtain ⟨p,q,rfl,hp⟩:=Zqs hm;rw [Zbve hp] at h1 h2;simp only [List.length_append,List.length_cons] at hl;unfold Zxj;intro _;unfold Znr;refine ⟨by simp only [List.length_append,List.length_cons];omega,?_⟩
  rw [Zbht hp];refine fun _ _=>Zvb p 65535 _ (by decide) (by omega) (fun hA _ _=>Zvb q 65535 _ (by decide) (by omega) (fun hB _=>⟨by decide,ifT rfl ?_⟩) (fun hB v _=>⟨by decide,ifT rfl (h2 (if_neg fun h=>?_) _)⟩)) (fun hA v _ _=>?_)
  . have ha:=(Zhc.1 hA).1;have hb:=(Zhc.1 hB).1;rw [show ((val p:Nat):Int)*65536=((val p*65536:Nat):Int) by omega,Zrr _ (by omega),show ((val p*65536:Nat):Int)=((val p:Nat):Int)*65536 by omega,or16 _ _ (by omega) (by omega)]
    exact h1 _ (if_pos ⟨hA,hB⟩)
  rw [hB] at h;exact absurd h.2 (by decide)
  . have hn:=h2 (if_neg fun h=>by rw [hA] at h;exact absurd h.1 (by decide))
    exact Zvb q 65535 _ (by decide) (by omega) (fun _ _=>⟨by decide,ifF rfl (hn _)⟩) (fun _ _ _=>⟨by decide,ifF rfl (hn _)⟩)
theorem Zbvw {p:UInt8->Bool} {l:List UInt8}:l.dropWhile p= []↔∀x∈l,p x=true:=by
  induction l with
  | nil=>simp
  | cons y l ih=>
    rw [List.dropWhile_cons];split;rename_i h;simp [ih,h];rename_i h;simp [h]
theorem Zbnx (s t:List UInt8):(Lib.trimS s t==[])=s.all (fun x=>t.contains x):=by
  have h:Lib.trimS s t= []↔s.all (fun x=>t.contains x)=true:=by
    unfold Lib.trimS Lib.trimLeftS Lib.trimRightS;rw [Zbvw];constructor
    . intro h;rw [List.all_eq_true];intro x hx;have hdw: ∀(l:List UInt8),(∀x∈(l.dropWhile (t.contains ·)),t.contains x=true)->∀x∈l,t.contains x=true:=by
        intro l;induction l with
        | nil=>intro _ x hx;simp at hx
        | cons y l ih=>
          intro h2 x hx;rw [List.dropWhile_cons] at h2;split at h2;rename_i hy;rcases List.mem_cons.1 hx with rfl | hx;exact hy;exact ih h2 x hx;exact h2 x hx
      exact hdw s.reverse (fun x hx=>h x (List.mem_reverse.2 hx)) x (List.mem_reverse.2 hx)
    intro h x hx;rw [List.all_eq_true] at h;have hsub: ∀(l:List UInt8),∀x∈l.dropWhile (t.contains ·),x∈l:=fun l x hx=>(List.dropWhile_sublist (l:=l) _).mem hx;exact h x (List.mem_reverse.1 (hsub _ _ (List.mem_reverse.1 hx)))
  cases hb:s.all (fun x=>t.contains x) with
  | true=>rw [h.2 hb];rfl
  | false=>
    refine beq_eq_false_iff_ne.2 fun e=>?_;rw [h.1 e] at hb;cases hb
theorem digs (x:UInt8):([48,49,50,51,52,53,54,55,56,57]:List UInt8).contains x=Zqh x:=by revert x;exact Zma (by decide+kernel)
theorem Zbvv (x:UInt8):([48,49,50,51,52,53,54,55,56,57,46]:List UInt8).contains x=(Zqh x||x==46):=by revert x;exact Zma (by decide+kernel)
theorem Zcbv (s:List UInt8) (K:Tok->Bool->Prop) (hl:s.length <= 100000) (h1: ∀t,word s=some t->K t true) (h2:word s=none->∀t,K t false):Zyb s K:=by
  unfold Zyb;have e1:=Zbnx s [48,49,50,51,52,53,54,55,56,57];have e2:=Zbnx s [48,49,50,51,52,53,54,55,56,57,46];simp only [digs] at e1;simp only [Zbvv] at e2;unfold word at h1 h2;intro _;unfold Zrj;refine ⟨by decide,by decide,fun _=>?_⟩
  rw [e1];refine IfB.intro (fun ha=>?_) (fun ha=>?_)
  . simp only [ha,if_true] at h1 h2;unfold Zgg;refine fun _=>Zvb s 4294967295 _ (by decide) (by omega) (fun hA _=>?_) (fun hA v _=>?_)
    exact h1 _ (if_pos hA);exact h2 (if_neg (by rw [hA];decide)) _
  simp only [ha,Bool.false_eq_true,if_false] at h1 h2;intro _;unfold Znq;refine ⟨by omega,fun _=>?_⟩
  rw [Zzr];refine IfB.intro (fun hb=>?_) (fun hb=>?_)
  . have hb:=of_decide_eq_true hb;rw [if_pos hb] at h1 h2;unfold Zgg;refine fun _=>Zcad s _ (by omega) (fun a n hp _=>?_) (fun hp _=>?_)
    rw [hp] at h1;refine Zbzk (h1 _ rfl) ?_;simp only [Zbcl];rw [hp] at h2;exact h2 rfl _
  have hb:=of_decide_eq_false hb;rw [if_neg hb] at h1 h2;intro _;refine ⟨by omega,fun _=>?_⟩
  rw [Zzr];refine IfB.intro (fun hc=>?_) (fun hc=>?_)
  . have hc:=of_decide_eq_true hc;rw [if_pos hc] at h1 h2;unfold Zgg;refine fun _=>Zbwv s _ (by omega) hc (fun n hn _=>?_) (fun hn v _=>?_)
    rw [hn] at h1;exact h1 _ rfl;rw [hn] at h2;exact h2 rfl _
  have hc:=of_decide_eq_false hc;rw [if_neg hc] at h1 h2;intro _;refine ⟨by decide,by decide,fun _=>?_⟩
  rw [e2];refine IfB.intro (fun hd=>?_) (fun hd=>?_)
  . simp only [hd,if_true] at h1 h2;unfold Zgg;refine fun _=>Zbzu s _ (by omega) fun _=>?_
    have hlt:=Zcaw s;rw [Zrr _ (by omega)]
    by_cases h0:(prs s).2=0;rw [h0];exact h1 _ (if_pos h0)
    . rw [show ((prs s).2==0)=false from beq_eq_false_iff_ne.2 h0]
      exact h2 (if_neg h0) _
  simp only [hd,Bool.false_eq_true,if_false] at h1 h2;cases s with
  | nil=>simp at ha
  | cons x r=>
    simp only [List.head?_cons,Option.any_some] at h1 h2;have hno: ¬(isLet x=true∧46∉(x::r)∧(x::r).length <= 32)->Zgg (x::r) 1 0 0 0 false K:=fun hn=>h2 (if_neg hn) _;refine ⟨by decide,AtN.of rfl fun _=>Zbjx x _ fun _=>IfB.intro (fun hx=>IfB.intro (fun h32=>?_) (fun h32=>hno fun hn=>?_)) (fun hx=>hno fun hn=>?_)⟩
    . intro _;refine ⟨by omega,fun _=>?_⟩
      rw [Zzr];by_cases h46:46∈(x::r);rw [decide_eq_true h46];exact hno fun hn=>hn.2.1 h46;rw [decide_eq_false h46];exact h1 _ (if_pos ⟨hx,h46,by simp at h32 ⊢;omega⟩)
    simp at h32 hn;omega;rw [hn.1] at hx;cases hx
end Go.Proofs.YtlkdgfolbllngaaGreatDoor
end
section
namespace Go.Proofs.YtlkdgfolbllngaaGreatDoor
open Go.Sh
def Zdy (x:UInt8):Bool:=!(x==10)
def Zbnf (t:Tok) (line:Int):Tok:=(t.1,t.2.1,t.2.2.1,t.2.2.2.1,t.2.2.2.2.1,line)
abbrev LexR:=List Tok×Int×Int
def Zhn (l:List Tok) (line:Int) (k:List Tok->LexR) (t:Tok):LexR:=if l.length=4096 then ([],line,3) else k (l++[Zbnf t line])
def lexF:Nat->List UInt8->Int->List Tok->LexR
  | 0,_,line,_=>([],line,240)
  | _+1,[],_,l=>(l,0,0)
  | f+1,c::r,line,l=>
    if c=10 then lexF f r (line+1) l
    else if c=32∨c=9 then lexF f r line l
    else if c=35 then (if ((c::r).takeWhile Zdy).all Zid=true then lexF f (r.dropWhile Zdy) line l else ([],line,240))
    else if Zun c=true then Zhn l line (lexF f r line) (6,[c],0,0,0,0)
    else if Zcz c=true then (match word ((c::r).takeWhile Zcz) with
      | some t=>Zhn l line (lexF f (r.dropWhile Zcz) line) t
      | none=>([],line,240))
    else ([],line,240)
theorem Zpg {p:UInt8->Bool}: ∀l:List UInt8,(l.dropWhile p).length <= l.length
  | []=>by simp
  | x::l=>by rw [List.dropWhile_cons];split;have:=Zpg (p:=p) l;simp;omega;exact Nat.le_refl _
theorem Zbjy: ∀(f:Nat) (s:List UInt8) (line:Int) (l:List Tok) (g:Nat),s.length<f->s.length<g->lexF f s line l=lexF g s line l:=by
  intro f;induction f with
  | zero=>intro s line l g h;omega
  | succ f ih=>
    intro s line l g hf hg;cases g with
    | zero=>omega
    | succ g=>
      cases s with
      | nil=>rfl
      | cons c r=>
        simp only [List.length_cons] at hf hg;have hr:=fun line l=>ih r line l g (by omega) (by omega)
        have hd:=fun (p:UInt8->Bool) line l=>ih (r.dropWhile p) line l g (by have:=Zpg (p:=p) r;omega) (by have:=Zpg (p:=p) r;omega)
        simp only [lexF,Zhn,hr,hd]
def lex (s:List UInt8) (line:Int) (l:List Tok):LexR:=lexF (s.length+1) s line l
theorem Zbbw (line:Int) (l:List Tok):lex [] line l=(l,0,0):=rfl
theorem Zbjz (c:UInt8) (r:List UInt8) (line:Int) (l:List Tok):lex (c::r) line l=
    if c=10 then lex r (line+1) l
    else if c=32∨c=9 then lex r line l
    else if c=35 then (if ((c::r).takeWhile Zdy).all Zid=true then lex (r.dropWhile Zdy) line l else ([],line,240))
    else if Zun c=true then Zhn l line (lex r line) (6,[c],0,0,0,0)
    else if Zcz c=true then (match word ((c::r).takeWhile Zcz) with
      | some t=>Zhn l line (lex (r.dropWhile Zcz) line) t
      | none=>([],line,240))
    else ([],line,240):=by
  have hr:=fun line l=>Zbjy (r.length+1) r line l (r.length+1) (by omega) (by omega)
  have hd:=fun (p:UInt8->Bool) line l=>Zbjy (r.length+1) (r.dropWhile p) line l ((r.dropWhile p).length+1) (by have:=Zpg (p:=p) r;omega) (by omega)
  simp only [lex,List.length_cons,lexF,Zhn,hd]
end Go.Proofs.YtlkdgfolbllngaaGreatDoor
end
section
namespace Go.Proofs.YtlkdgfolbllngaaGreatDoor
open Go.Sh
theorem Zyq {T:Type} {x0:T} {body:T->(T->Prop)->Prop} (I:Nat->T->Prop) (k0:Nat) (h0:I k0 x0) (hr: ∀k y,I k y->∀next:T->Prop,(∀k' y',k'<k->I k' y'->next y')->body y next):Zcn T x0 body:=
  ⟨I,k0,h0,fun k y h=>hr k y h _ fun k' y' hlt h'=>⟨k',hlt,h'⟩⟩
theorem drop_at {text:List UInt8} {j:Nat} {x:UInt8} {r:List UInt8} (h:text.drop j=x::r):text[j]? =some x∧text.drop (j+1)=r∧j<text.length:=by
  have h1:text[j]? =some x:=by
    have:(text.drop j)[0]? =some x:=by rw [h];rfl
    rwa [List.getElem?_drop] at this
  refine ⟨h1,?_,?_⟩;have:=congrArg (List.drop 1) h;rw [List.drop_drop] at this;exact this;rcases Nat.lt_or_ge j text.length with h2 | h2;exact h2;rw [List.getElem?_eq_none h2] at h1;cases h1
theorem Zbae (text:List UInt8) (j:Nat) (hj:j <= text.length):(j=text.length∧text.drop j= [])∨∃x r,text.drop j=x::r∧text[((j:Nat):Int).toNat]? =some x∧text.drop (j+1)=r∧j<text.length:=by
  cases h:text.drop j with
  | nil=>
    have:=congrArg List.length h;simp at this;exact .inl ⟨by omega,rfl⟩
  | cons x r=>
    obtain ⟨h1,h2,h3⟩:=drop_at h;exact .inr ⟨x,r,rfl,h1,h2,h3⟩
theorem eqI {x n:UInt8} {m:Int} (hm:(n.toNat:Int)=m):((x.toNat:Int)==m)=(x==n):=by subst hm;by_cases e:x=n;subst e;simp;rw [beq_eq_false_iff_ne.2 e];exact beq_eq_false_iff_ne.2 fun h=>e (UInt8.toNat_inj.1 (by omega))
theorem Zrm {x n:UInt8} {m:Int} (h:((x.toNat:Int)==m)=true) (hm:(n.toNat:Int)=m):x=n:=by rw [eqI hm] at h;exact eq_of_beq h
theorem Zbny {x n:UInt8} {m:Int} (h:((x.toNat:Int) !=m)=false) (hm:(n.toNat:Int)=m):x=n:=by refine Zrm (m:=m) ?_ hm;simpa using h
theorem take_drop_succ {text:List UInt8} {a e:Nat} {x:UInt8} (h:text[e]? =some x) (ha:a <= e):(text.take (e+1)).drop a=(text.take e).drop a++[x]:=by
  have hl:e<text.length:=(List.getElem?_eq_some_iff.1 h).1;rw [List.take_add_one,h];rw [List.drop_append_of_le_length (by rw [List.length_take];omega)]
  rfl
theorem Zbtx (text:List UInt8) (K:List Tok->Int->Int->Prop) (hk:text.length <= 65536->K (lex text 1 []).1 (lex text 1 []).2.1 (lex text 1 []).2.2) (hlong:65536<text.length->K [] 0 3):Zbem text K:=by
  unfold Zbem;refine IfB.intro (fun h=>hlong (by simp at h;omega)) (fun h=>?_)
  have hlen:text.length <= 65536:=by simp at h;omega
  replace hk:=hk hlen;generalize hR0:lex text 1 []=R at hk;refine Zyq (fun k y=>∃(l:List Tok) (line e c0:Int) (c1:List UInt8) (c2 c3 c4 c5:Int) (j:Nat),y=(l,(j:Int),line,e,c0,c1,c2,c3,c4,c5,())∧j <= text.length∧k=text.length - j∧l.length <= 4096∧1 <= line∧line <= j+1∧lex (text.drop j) line l=R) text.length ⟨[],1,0,0,[],0,0,0,0,0,rfl,by omega,by omega,by simp,by decide,by decide,hR0⟩ ?_
  rintro k y ⟨l,line,e,c0,c1,c2,c3,c4,c5,j,rfl,hj,rfl,hl,hl1,hl2,hR⟩ next hnx
  intro _;dsimp only [Zbpd];have go: ∀(l':List Tok) (line' e' d0:Int) (d1:List UInt8) (d2 d3 d4 d5:Int) (i:Nat),j<i->i <= text.length->l'.length <= 4096->1 <= line'->line' <= i+1->lex (text.drop i) line' l'=R->next (l',(i:Int),line',e',d0,d1,d2,d3,d4,d5,()):=by intro l' line' e' d0 d1 d2 d3 d4 d5 i h1 h2 h3 h4 h5 h6;exact hnx (text.length - i) _ (by omega) ⟨l',line',e',d0,d1,d2,d3,d4,d5,i,rfl,h2,rfl,h3,h4,h5,h6⟩
  have w1: ∀i:Nat,i<text.length->IntKind.wrap .i64 ((i:Int)+1)=((i+1:Nat):Int):=fun i hi=>by rw [Zgu (by omega) (by omega)];omega
  rcases Zbae text j hj with ⟨he,hd⟩ | ⟨c,r,hd,hat,hdr,hlt⟩
  . refine ifT (by simp [he]) ?_
    rw [hd,Zbbw] at hR;subst hR;exact hk
  refine ifF (by simp;omega) ⟨by omega,AtN.of hat ?_⟩
  rw [hd,Zbjz] at hR;refine IfB.intro (fun h10=>?_) (fun h10=>?_)
  . have h10:c=10:=Zrm h10 rfl;rw [if_pos h10] at hR;rw [w1 j hlt,Zgu (n:=line+1) (by omega) (by omega)]
    exact go l (line+1) e c0 c1 c2 c3 c4 c5 (j+1) (by omega) (by omega) hl (by omega) (by omega) (by rw [hdr];exact hR)
  have h10:c≠10:=fun e=>by subst e;simp at h10
  rw [if_neg h10] at hR;have blank:(c=32∨c=9)->next (l,(IntKind.wrap .i64 ((j:Int)+1)),line,e,c0,c1,c2,c3,c4,c5,()):=fun hb=>by rw [if_pos hb] at hR;rw [w1 j hlt];exact go _ _ _ _ _ _ _ _ _ (j+1) (by omega) (by omega) hl (by omega) (by omega) (by rw [hdr];exact hR)
  refine IfB.intro (fun h32=>?_) (fun h32=>?_);exact ifT rfl (blank (.inl (Zrm h32 rfl)));have h32:c≠32:=fun e=>by subst e;simp at h32
  unfold Zbek;refine IfB.intro (fun h9=>?_) (fun h9=>?_);exact blank (.inr (Zrm h9 rfl));have h9:c≠9:=fun e=>by subst e;simp at h9
  rw [if_neg (by rintro (h | h);exact h32 h;exact h9 h)] at hR
  refine IfB.intro (fun h35=>?_) (fun h35=>?_)
  ·
    have h35:c=35:=Zrm h35 rfl;rw [if_pos h35] at hR;have hcn:Zdy c=true:=by rw [h35];rfl
    have hdw:r.dropWhile Zdy=(text.drop j).dropWhile Zdy:=by rw [hd,List.dropWhile_cons,if_pos hcn]
    rw [hdw,← hd] at hR;refine Zyq (fun k' y'=>∃i:Nat,y'=((i:Int),())∧j <= i∧i <= text.length∧k'=text.length - i∧(text.drop i).dropWhile Zdy=(text.drop j).dropWhile Zdy∧((text.drop i).takeWhile Zdy).all Zid=((text.drop j).takeWhile Zdy).all Zid) (text.length - j) ⟨j,rfl,by omega,hj,rfl,rfl,rfl⟩ ?_
    rintro k' y' ⟨i,rfl,hi1,hi2,rfl,hi3,hi4⟩ nx hx0;intro _;dsimp only [Zbpc];have leave:(text.drop i).takeWhile Zdy= []->(text.drop i).dropWhile Zdy=text.drop i->next (l,(i:Int),line,e,c0,c1,c2,c3,c4,c5,()):=fun h1 h2=>by
      rw [← hi4,h1,← hi3,h2] at hR;simp only [List.all_nil,if_true] at hR;refine go _ _ _ _ _ _ _ _ _ i ?_ hi2 hl hl1 (by omega) hR
      rcases Nat.lt_or_ge j i with h | h;exact h
      . obtain rfl:i=j:=by omega
        rw [hd,List.takeWhile_cons,if_pos hcn] at h1;cases h1
    rcases Zbae text i hi2 with ⟨he,hdi⟩ | ⟨x,u,hdi,hxi,hui,hilt⟩
    . refine ifF (decide_eq_false (by omega)) ?_
      exact ifF rfl (leave (by rw [hdi];rfl) (by rw [hdi];rfl))
    . refine ifT (decide_eq_true (by omega)) ⟨by omega,AtN.of hxi ?_⟩
      unfold Zbel;refine IfB.intro (fun hx=>?_) (fun hx=>leave ?_ ?_)
      . have hx:x≠10:=fun e=>by subst e;simp at hx
        have hxn:Zdy x=true:=by unfold Zdy;rw [beq_eq_false_iff_ne.2 hx];rfl
        refine ⟨by omega,AtN.of hxi fun _=>Zbyz x _ fun _=>IfB.intro (fun hm=>?_) (fun hm=>?_)⟩
        . have hm:Zid x=false:=by simpa using hm
          have:((text.drop j).takeWhile Zdy).all Zid=false:=by rw [← hi4,hdi,List.takeWhile_cons,if_pos hxn,List.all_cons,hm,Bool.false_and]
          rw [this] at hR;unfold Zxb;subst hR;exact hk
        . have hm:Zid x=true:=by simpa using hm
          rw [w1 i hilt];refine hx0 (text.length - (i+1)) _ (by omega) ⟨i+1,rfl,by omega,by omega,rfl,?_,?_⟩
          rw [hui,← hi3,hdi,List.dropWhile_cons,if_pos hxn];rw [hui,← hi4,hdi,List.takeWhile_cons,if_pos hxn,List.all_cons,hm,Bool.true_and]
      have hx:x=10:=Zbny hx rfl;rw [hdi,hx];rfl;have hx:x=10:=Zbny hx rfl;rw [hdi,hx];rfl
  have h35:c≠35:=fun e=>by subst e;simp at h35
  rw [if_neg h35] at hR;intro _;unfold Zhr;intro _;rw [Zcdm];have push: ∀(t:Tok) (i:Nat),j<i->i <= text.length->Zhn l line (lex (text.drop i) line) t=R->∀(e':Int) (d1:Unit),IfB (((l.length:Int):Int)==4096) (K [] line 3) (l.length+([(t.1,t.2.1,t.2.2.1,t.2.2.2.1,t.2.2.2.2.1,line)]:List Tok).length <= 2513169434820∧∀d0 d1 d2 d3 d4 d5,next (l++[(t.1,t.2.1,t.2.2.1,t.2.2.2.1,t.2.2.2.2.1,line)],(i:Int),line,e',d0,d1,d2,d3,d4,d5,())):=by
    intro t i h1 h2 h3 e' _;unfold Zhn at h3;refine IfB.intro (fun h=>?_) (fun h=>⟨?_,fun d0 d1 d2 d3 d4 d5=>?_⟩)
    . rw [if_pos (by simp at h;omega)] at h3
      subst h3;exact hk
    simp only [List.length_singleton];omega
    . rw [if_neg (by simp at h;omega)] at h3
      refine go _ _ _ _ _ _ _ _ _ i h1 h2 ?_ hl1 (by omega) h3
      rw [List.length_append,List.length_singleton];simp at h;omega
  refine IfB.intro (fun hs=>?_) (fun hs=>?_)
  . rw [if_pos hs,← hdr] at hR;rw [w1 j hlt];refine ⟨by omega,by omega,by omega,by omega,?_⟩
    unfold Zlp Zrt;have ew:(text.take (((j+1:Nat):Int).toNat)).drop ((j:Int).toNat)= [c]:=by
      rw [Int.toNat_natCast,Int.toNat_natCast,take_drop_succ (by simpa using hat) (Nat.le_refl _)]
      simp
    rw [ew];refine ifF rfl ((push _ (j+1) (by omega) (by omega) hR _ ()).mono (fun h=>h) fun h=>⟨h.1,h.2 _ _ _ _ _ _⟩)
  rw [if_neg (by rw [hs];decide)] at hR
  refine fun _=>Zbln c _ fun _=>IfB.intro (fun hp=>?_) (fun hp=>?_)
  . rw [if_pos hp] at hR;have hdw:r.dropWhile Zcz=(text.drop j).dropWhile Zcz:=by rw [hd,List.dropWhile_cons,if_pos hp]
    rw [hdw,← hd] at hR;refine Zyq (fun k' y'=>∃i:Nat,y'=((i:Int),())∧j <= i∧i <= text.length∧k'=text.length - i∧(text.drop i).dropWhile Zcz=(text.drop j).dropWhile Zcz∧(text.take i).drop j++(text.drop i).takeWhile Zcz=(text.drop j).takeWhile Zcz) (text.length - j) ⟨j,rfl,by omega,hj,rfl,rfl,by simp⟩ ?_
    rintro k' y' ⟨i,rfl,hi1,hi2,rfl,hi3,hi4⟩ nx hx0;intro _;dsimp only [Zbpe];have leave:(text.drop i).takeWhile Zcz= []->(text.drop i).dropWhile Zcz=text.drop i->Zru text l c0 c1 c2 c3 c4 c5 (j:Int) line (i:Int) next nx false K:=fun h1 h2=>by
      rw [h1,List.append_nil] at hi4;rw [← hi4,← hi3,h2] at hR;have hji:j<i:=by
        rcases Nat.lt_or_ge j i with h | h;exact h
        . obtain rfl:i=j:=by omega
          rw [hd,List.takeWhile_cons,if_pos hp] at h1;cases h1
      unfold Zru;refine ifF rfl ⟨by omega,by omega,by omega,by omega,?_⟩
      rw [Int.toNat_natCast,Int.toNat_natCast];generalize (text.take i).drop j=w at hR hi4 ⊢;have hwl:w.length <= 100000:=by rw [hi4];have:=(List.takeWhile_sublist (l:=text.drop j) Zcz).length_le;simp at this;omega
      refine fun _=>Zcbv w _ hwl (fun t ht _=>?_) (fun hw t _=>?_);rw [ht] at hR;unfold Zlp Zrt;refine ifF rfl ?_;simp only [Zbcl];exact (push t i hji hi2 hR _ ()).mono (fun h=>h) fun h=>⟨h.1,h.2 _ _ _ _ _ _⟩;rw [hw] at hR;unfold Zlp Zrt Zxb;subst hR;exact ifT rfl hk
    rcases Zbae text i hi2 with ⟨he,hdi⟩ | ⟨x,u,hdi,hxi,hui,hilt⟩
    . refine ifF (decide_eq_false (by omega)) ?_
      exact leave (by rw [hdi];rfl) (by rw [hdi];rfl)
    . refine ifT (decide_eq_true (by omega)) ⟨by omega,AtN.of hxi fun _=>Zbln x _ fun _=>?_⟩
      cases hx:Zcz x with
      | false=>exact leave (by rw [hdi,List.takeWhile_cons,hx];rfl) (by rw [hdi,List.dropWhile_cons,hx];rfl)
      | true=>
        unfold Zru;refine ifT rfl ?_;rw [w1 i hilt];refine hx0 (text.length - (i+1)) _ (by omega) ⟨i+1,rfl,by omega,by omega,rfl,?_,?_⟩
        rw [hui,← hi3,hdi,List.dropWhile_cons,if_pos hx]
        . rw [hui,take_drop_succ (by simpa using hxi) hi1,← hi4,hdi,List.takeWhile_cons,if_pos hx]
          simp
  . rw [if_neg (by rw [hp];decide)] at hR
    unfold Zlp Zrt;subst hR;exact ifT rfl hk
end Go.Proofs.YtlkdgfolbllngaaGreatDoor
end
section
namespace Go.Proofs.YtlkdgfolbllngaaGreatDoor
open Go.Sh
end Go.Proofs.YtlkdgfolbllngaaGreatDoor
end
