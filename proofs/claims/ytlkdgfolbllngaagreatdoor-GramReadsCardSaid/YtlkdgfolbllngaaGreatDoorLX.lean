/-
  The first bits of an address,in numbers.
-/
import Derived.Test.YtlkdgfolbllngaaGreatDoorED
import Derived.Test.YtlkdgfolbllngaaGreatDoorQ
set_option linter.all false
section
namespace Go.Proofs.YtlkdgfolbllngaaGreatDoor
open Go.Sh
theorem Zix (a:Nat) (h:a <= 9223372036854775807):IntKind.wrap .i64 (a:Int)=(a:Int):=Zdy (by omega) (by omega)
theorem Zbzk (n a:Nat) (ha:a<2^n) (k:Nat) (hk:k <= n):a&&& (2^n - 1 - (2^k - 1))=a - a%2^k:=by
  have hpk:2^k <= 2^n:=Nat.pow_le_pow_right (by decide) hk
  have h0:0<2^k:=Nat.two_pow_pos k;apply Nat.eq_of_testBit_eq;intro i;rw [Nat.testBit_and,show 2^n - 1 - (2^k - 1)=2^n - ((2^k - 1)+1) by omega,Nat.testBit_two_pow_sub_succ (by omega),Nat.testBit_two_pow_sub_one]
  have e:a - a%2^k=2^k*(a/2^k):=by have:=Nat.div_add_mod a (2^k);omega
  rw [e,Nat.testBit_two_pow_mul];by_cases hi:i<k;simp [hi];intro _;omega
  . rw [Nat.testBit_div_two_pow,show i - k+k=i by omega]
    by_cases hn:i<n;simp [hi,hn];omega
    . have:a.testBit i=false:=Nat.testBit_lt_two_pow (Nat.lt_of_lt_of_le ha (Nat.pow_le_pow_right (by decide) (by omega)))
      simp [this]
theorem Zbui (a:Nat) (ha:a<4294967296) (k:Nat) (hk:k <= 32):Zti .u32 (a:Int) ((2^k - 1:Nat):Int)=((a - a%2^k:Nat):Int):=by
  have hp:2^k <= 2^32:=Nat.pow_le_pow_right (by decide) hk
  have h0:0<2^k:=Nat.two_pow_pos k;have e32:(2:Nat)^32=4294967296:=rfl;unfold Zti;have hb:IntKind.bits .u32=32:=rfl;rw [hb,Ztk 32 a (by omega),Ztk 32 (2^k - 1) (by omega),BitVec.toNat_and,BitVec.toNat_not,BitVec.toNat_ofNat,BitVec.toNat_ofNat,Nat.mod_eq_of_lt (by omega),Nat.mod_eq_of_lt (by omega)]
  rw [Zbzk 32 a (by omega) k hk,wu32 (by omega)]
def Zex (n:Nat):Nat:=2^(32 - n)
theorem Zxb (a:Nat) (h:a<18446744073709551616):IntKind.wrap .u64 (a:Int)=(a:Int):=by rw [Zcgq];omega
end Go.Proofs.YtlkdgfolbllngaaGreatDoor
end
section
namespace Go.Proofs.YtlkdgfolbllngaaGreatDoor
open Go.Sh
theorem Zbzd (a n:Nat) (K:Int->Prop) (ha:a<4294967296) (hn:n <= 32) (hk:K ((a - a%Zex n:Nat):Int)):Zyg a n K:=by
  unfold Zyg;have e1:IntKind.wrap .i64 (32 - (n:Int))=((32 - n:Nat):Int):=by rw [Zdy (by omega) (by omega)];omega
  rw [e1];refine ⟨by omega,?_⟩
  have hp:2^(32 - n) <= 2^32:=Nat.pow_le_pow_right (by decide) (by omega)
  have h0:0<2^(32 - n):=Nat.two_pow_pos _;have e32:(2:Nat)^32=4294967296:=rfl;have e2:(min ((32 - n:Nat):Int).toNat (IntKind.bits .u64))=32 - n:=by rw [Int.toNat_natCast];have:IntKind.bits .u64=64:=rfl;rw [this];omega
  have e3:(1*(2^(32 - n)):Int)=((2^(32 - n):Nat):Int):=by rw [Int.one_mul];norm_cast
  rw [e2,e3,Zxb _ (by omega),show (((2^(32 - n):Nat):Int) - 1)=((2^(32 - n) - 1:Nat):Int) by omega,Zxb _ (by omega),wu32 (by omega),Zbui a ha _ (by omega)]
  exact hk
def right (a:Nat) (n:Int):Bool:=decide (0 <= n)&&(decide (n <= 32)&&(a%Zex n.toNat==0))
theorem Zbnz {a:Nat} {n:Int}:right a n=true↔0 <= n∧n <= 32∧a%Zex n.toNat=0:=by simp [right]
theorem Zccn (a:UInt32) (n:Int) (K:Bool->Prop) (hk:K (right a.toNat n)):Zxw (a,n) K:=by
  unfold Zxw;have ha:=Zbow a;refine IfB.intro (fun h=>IfB.intro (fun h2=>?_) (fun h2=>of_eq hk ?_)) (fun h=>of_eq hk ?_)
  . have h0:0 <= n:=by simpa using h
    have h1:n <= 32:=by simpa using h2
    obtain ⟨m,rfl⟩:=Int.eq_ofNat_of_zero_le h0;intro _;refine Zbzd a.toNat m _ ha (by omega) fun _=>of_eq hk ?_
    have hle:a.toNat%Zex m <= a.toNat:=Nat.mod_le _ _;unfold right;rw [decide_eq_true h0,decide_eq_true h1,Bool.true_and,Bool.true_and,Int.toNat_natCast];by_cases e:a.toNat%Zex m=0;rw [e];simp
    . have e1:(a.toNat%Zex m==0)=false:=beq_eq_false_iff_ne.2 e;have e2:(((a.toNat - a.toNat%Zex m:Nat):Int)==(a.toNat:Int))=false:=beq_eq_false_iff_ne.2 (by omega)
      rw [e1,e2]
  . unfold right;simp at h2;rw [decide_eq_false (show ¬n <= 32 by omega)];simp
  . unfold right;simp at h;rw [decide_eq_false (show ¬0 <= n by omega)];simp
theorem Zcdv (n:Int) (K:Int->Prop) (hn:n <= 32) (hk:K (Zex n.toNat:Nat)):Zxm n K:=by
  unfold Zxm;refine Zbr.up (32 - n.toNat) (fun i=>(((2^i:Nat):Int),((n.toNat+i:Nat):Int),())) (fun _=>True) (by simp) trivial (fun i hi _ next hx=>?_) (fun _ next=>?_)
  . intro _;dsimp only [Zbfo];have hp:2^(i+1) <= 2^32:=Nat.pow_le_pow_right (by decide) (by omega)
    have e32:(2:Nat)^32=4294967296:=rfl;refine ifT (decide_eq_true (by omega)) (of_eq (hx trivial) ?_)
    rw [show (2*((2^i:Nat):Int))=((2^(i+1):Nat):Int) by rw [Nat.pow_succ];omega,Zxb _ (by omega),show (((n.toNat+i:Nat):Int)+1)=((n.toNat+(i+1):Nat):Int) by omega,Zix _ (by omega)]
  intro _;dsimp only [Zbfo];exact ifF (decide_eq_false (by omega)) hk
theorem Zccf (a:UInt32) (n:Int) (K:Bool->Prop) (hk:K (right a.toNat n)):Zxz (a,n) K:=by
  unfold Zxz;have ha:=Zbow a;refine IfB.intro (fun h=>IfB.intro (fun h2=>?_) (fun h2=>of_eq hk ?_)) (fun h=>of_eq hk ?_)
  . have h0:0 <= n:=by simpa using h
    have h1:n <= 32:=by simpa using h2
    intro _;refine Zcdv n _ h1 fun _=>?_;have hp:0<Zex n.toNat:=Nat.two_pow_pos _;refine ⟨by omega,of_eq hk ?_⟩
    unfold right;rw [decide_eq_true h0,decide_eq_true h1,Bool.true_and,Bool.true_and];show _=((Int.tmod (IntKind.wrap .u64 (a.toNat:Int)) ((Zex n.toNat:Nat):Int))==0);rw [Zxb _ (by omega),show Int.tmod (a.toNat:Int) ((Zex n.toNat:Nat):Int)=((a.toNat%Zex n.toNat:Nat):Int) from rfl]
    by_cases e:a.toNat%Zex n.toNat=0;rw [e];rfl
    . have e1:(a.toNat%Zex n.toNat==0)=false:=beq_eq_false_iff_ne.2 e;have e2:(((a.toNat%Zex n.toNat:Nat):Int)==0)=false:=beq_eq_false_iff_ne.2 (by omega)
      rw [e1,e2]
  . unfold right;simp at h2;rw [decide_eq_false (show ¬n <= 32 by omega)];simp
  . unfold right;simp at h;rw [decide_eq_false (show ¬0 <= n by omega)];simp
end Go.Proofs.YtlkdgfolbllngaaGreatDoor
end
section
namespace Go.Proofs.YtlkdgfolbllngaaGreatDoor
open Go.Sh
def Zbw (w:List UInt8):Bool:=decide (val w <= 255)&&(Lib.decDigits (val w)==w)
theorem Zhq {w:List UInt8}:Zbw w=true↔val w <= 255∧Lib.decDigits (val w)=w:=by simp [Zbw]
theorem Zqw {w:List UInt8} (h:Zbw w=true):w.length <= 3:=by
  obtain ⟨h1,h2⟩:=Zhq.1 h;have:=Zbiu (u:=val w) (k:=2) (by omega)
  rw [h2] at this;exact this
def pv (l:List (List UInt8)):Nat:=l.foldl (fun a w=>a*256+val w) 0
theorem Zng (l:List (List UInt8)) (w:List UInt8):pv (l++[w])=pv l*256+val w:=by simp [pv]
def prs (s:List UInt8):Nat×Int:=if (spl 46 s).length=4∧(spl 46 s).all Zbw=true then (pv (spl 46 s),0) else (0,2)
theorem Zcec (c:UInt8) (s:List UInt8):(spl c s).length <= s.length+1:=by
  have h:=Lib.splitB_length_le ⟨#[c]⟩ 0 (s.count c) ⟨s.toArray⟩;have h2:=congrArg List.length (Lib.splitB_data ⟨#[c]⟩ 0 (s.count c) ⟨s.toArray⟩);have h3:=Zbor c (s.count c) s rfl;have h4:s.count c <= s.length:=List.count_le_length;rw [List.length_map] at h2;have h5:(Lib.splitK [c] 0 (s.count c) s).length=(spl c s).length:=by rw [h3]
  have h6:(Lib.splitK (ByteArray.mk #[c]).data.toList 0 (s.count c) (ByteArray.mk s.toArray).data.toList)=Lib.splitK [c] 0 (s.count c) s:=by simp
  rw [h6,h5] at h2;omega
theorem Zbeu {c:UInt8} {s w:List UInt8} (h:w∈spl c s):w.length <= s.length:=by rw [← Zbcr] at h;exact Zboq _ _ _ _ h
theorem Ztl {w:List UInt8}:Zbw w=true↔canon w∧w.length <= 3∧val w <= 255:=by constructor;intro h;have:=Zhq.1 h;exact ⟨Zbab.2 this.2,Zqw h,this.1⟩;intro ⟨h1,h2,h3⟩;exact Zhq.2 ⟨h3,Zbab.1 h1⟩
theorem Zob (s:List UInt8) (n:Nat) (K:Int->Bool->Prop) (hn:n <= 18) (h1:canon s->s.length <= n->K (val s) true) (h2: ¬(canon s∧s.length <= n)->K 0 false):Zka s n K:=by
  unfold Zka;refine IfB.intro (fun h=>?_) (fun h=>?_);refine ifT rfl (h2 fun hc=>?_);exact hc.1.1 (by simpa using h)
  have hne:s≠[]:=by simpa using h
  refine IfB.intro (fun h=>?_) (fun h=>?_);exact ifT rfl (h2 fun hc=>by simp at h;omega)
  have hl:s.length <= n:=by simp at h;omega
  have hj: ∀b:Bool,(b=true->1<s.length∧s[0]? =some 48)->(b=false->1<s.length->s[0]? ≠some 48)->Zop s b K:=by
    intro b hb1 hb2;unfold Zop;refine IfB.intro (fun hb=>h2 fun hc=>hc.1.2.2 (hb1 hb).1 (hb1 hb).2) (fun hb=>?_);have hz:=hb2 hb;refine Zbr.over s (fun pre=>((val pre:Int),(pre.length:Int),())) (fun pre=>(∀x∈pre,48 <= x.toNat∧x.toNat <= 57)∧val pre<10^pre.length) rfl ⟨by simp,by decide⟩ (fun pre x post hp hnn hP next hx=>?_) (fun hP next=>?_)
    . intro _;dsimp only [Zbfp];have hx0:s[((pre.length:Nat):Int).toNat]? =some x:=Zjb hp;have hb8:=Zbox x;have hpw:10^pre.length <= 10^17:=Nat.pow_le_pow_right (by decide) (by omega)
      refine ifT (decide_eq_true (by omega)) ⟨by omega,AtN.of hx0 (IfB.intro (fun hd=>?_) (fun hd=>⟨by omega,AtN.of hx0 ?_⟩))⟩
      . unfold Zxr;refine ifT rfl (h2 fun hc=>?_);have:=hc.1.2.1 x (by rw [hp];simp)
        simp at hd;omega
      . have hd1:48 <= x.toNat:=by simp at hd;omega
        unfold Zxr;refine IfB.intro (fun hd2=>h2 fun hc=>?_) (fun hd2=>⟨by omega,AtN.of hx0 (of_eq (hx ⟨fun y hy=>?_,?_⟩) ?_)⟩)
        . have:=hc.1.2.1 x (by rw [hp];simp)
          simp at hd2;omega
        rcases List.mem_append.1 hy with hy | hy;exact hP.1 y hy;simp only [List.mem_singleton] at hy;subst hy;simp at hd2;omega;rw [Zxa,List.length_append,List.length_singleton,Nat.pow_succ];have:=hP.2;simp at hd2;omega
        . have hd2:x.toNat <= 57:=by simp at hd2;omega
          have:=hP.2;have e0:IntKind.wrap .i64 (10*(val pre:Int))=((10*val pre:Nat):Int):=by rw [Zdy (by omega) (by omega)];omega
          have e2:IntKind.wrap .i64 ((pre.length:Int)+1)=((pre.length+1:Nat):Int):=by rw [Zdy (by omega) (by omega)];omega
          rw [Zxa,show ((x.toNat:Int) - 48)=((x.toNat - 48:Nat):Int) by omega,wu8m,Zix _ (by omega),e0,e2,← Int.natCast_add,Zix _ (by omega)]
          have e1:10*val pre+(x.toNat - 48)%256=10*val pre+(x.toNat - 48):=by omega
          rw [e1];simp
    intro _;dsimp only [Zbfp];exact ifF (decide_eq_false (by omega)) (h1 ⟨hne,hP.1,hz⟩ hl)
  refine IfB.intro (fun h=>?_) (fun h=>hj false (fun h=>by cases h) (fun _ h3=>by simp at h;omega))
  have hp0:0<s.length:=List.length_pos_iff.2 hne;have e0:s[0]? =some s[0]:=List.getElem?_eq_getElem hp0;refine ⟨by decide,AtN.of e0 (hj _ (fun hb=>⟨by simp at h;omega,?_⟩) (fun hb _=>?_))⟩
  . rw [e0];simp at hb;have:s[0]=48:=UInt8.toNat_inj.1 (by have:(48:UInt8).toNat=48:=rfl;omega)
    rw [this]
  . rw [e0];simp at hb;intro e;injection e with e
    rw [e] at hb;exact hb rfl
theorem Zcea (c:UInt8) (s:List UInt8): ∃t,s=t++(splG c ([],[]) s).2:=by
  have: ∀k (s:List UInt8),s.length=k->∃t,s=t++(splG c ([],[]) s).2:=by
    intro k;induction k with
    | zero=>intro s h;exact ⟨[],by rw [List.eq_nil_of_length_eq_zero h];rfl⟩
    | succ k ih=>
      intro s h;rcases List.eq_nil_or_concat s with rfl | ⟨u,x,rfl⟩;simp at h
      . rw [List.concat_eq_append] at*;obtain ⟨t,ht⟩:=ih u (by simp at h;omega)
        rw [Zbet];unfold splF;split;exact ⟨u++[x],by simp⟩
        refine ⟨t,?_⟩;dsimp only;rw [← List.append_assoc,← ht]
  exact this _ s rfl
theorem Zbop (c:UInt8) (s:List UInt8):(splG c ([],[]) s).1.length <= s.length:=by have:=Zcec c s;simp only [spl,List.length_append,List.length_singleton] at this;omega
theorem Zbev (s:List UInt8) (c:UInt8) (K:List (List UInt8)->Prop) (hl:s.length <= 1000000) (hk:K (spl c s)):Zou s (c.toNat:Int) K:=by
  unfold Zou;have hst: ∀pre:List UInt8,(splG c ([],[]) pre).2.length <= pre.length∧pre.drop (pre.length - (splG c ([],[]) pre).2.length)=(splG c ([],[]) pre).2:=by
    intro pre;obtain ⟨t,ht⟩:=Zcea c pre;have h1:pre.length=t.length+(splG c ([],[]) pre).2.length:=by conv=>lhs;rw [ht,List.length_append]
    refine ⟨by omega,?_⟩
    rw [show pre.length - (splG c ([],[]) pre).2.length=t.length by omega]
    conv=>lhs;rw [ht]
    exact List.drop_left
  refine Zbr.over s (fun pre=>((splG c ([],[]) pre).1,((pre.length - (splG c ([],[]) pre).2.length:Nat):Int),(pre.length:Int),())) (fun _=>True) rfl trivial (fun pre x post hp hn _ next hx=>?_) (fun _ next=>?_)
  . intro _;dsimp only [Zbgg];have ht:s.take ((pre.length:Nat):Int).toNat=pre:=by rw [hp];simp
    obtain ⟨h1,h2⟩:=hst pre;have h3:=Zbop c pre;refine ifT (decide_eq_true (by omega)) ⟨by omega,AtN.of (Zjb hp) (IfB.intro (fun he=>⟨by omega,by omega,by omega,by omega,?_,?_⟩) (fun he=>?_))⟩
    simp only [List.length_singleton];omega
    . have he:x=c:=UInt8.toNat_inj.1 (by simp at he;omega)
      unfold Zzc;rw [ht,Int.toNat_natCast,h2];refine of_eq (hx trivial) ?_;rw [Zbet,splF,if_pos he,Zdy (by omega) (by omega)]
      simp
    . have he:x≠c:=fun e=>by subst e;simp at he
      unfold Zzc;refine of_eq (hx trivial) ?_;rw [Zbet,splF,if_neg he,Zdy (by omega) (by omega)]
      simp
  . intro _;dsimp only [Zbgg];obtain ⟨h1,h2⟩:=hst s;have h3:=Zbop c s;refine ifF (decide_eq_false (by omega)) ⟨by omega,by omega,?_,?_⟩
    simp only [List.length_singleton];omega;rw [Int.toNat_natCast,h2];exact hk
theorem Zbnh {s:List UInt8} (h:15<s.length):prs s=(0,2):=by
  unfold prs;rw [if_neg];intro ⟨h4,ho⟩;have hj:=Zbki 46 s;generalize spl 46 s=l at*
  match l,h4 with
  | [a,b,c,d],_=>
    simp only [List.all_cons,List.all_nil,Bool.and_true,Bool.and_eq_true] at ho;have h1:=Zqw ho.1;have h2:=Zqw ho.2.1;have h3:=Zqw ho.2.2.1;have h4:=Zqw ho.2.2.2;have:=congrArg List.length hj;simp only [Lib.join,List.intercalate,List.intersperse,List.flatten_cons,List.flatten_nil,List.length_append,List.length_cons,List.length_nil] at this;omega
theorem Zbnu (s:List UInt8) (K:Int->Int->Prop) (hl:s.length <= 1000000) (hk:K (prs s).1 (prs s).2):Zsw s K:=by
  unfold Zsw;refine IfB.intro (fun h=>?_) (fun h=>?_)
  . rw [Zbnh (by simp at h;omega)] at hk;exact hk
  intro _;refine Zbev s 46 _ (by omega) fun _=>?_
  have hbad: ¬((spl 46 s).length=4∧(spl 46 s).all Zbw=true)->K 0 2:=fun h=>by rw [prs,if_neg h] at hk;exact hk
  have hok:(spl 46 s).length=4->(spl 46 s).all Zbw=true->K (pv (spl 46 s)) 0:=fun h1 h2=>by rw [prs,if_pos ⟨h1,h2⟩] at hk;exact hk
  generalize spl 46 s=l at*;refine IfB.intro (fun h=>hbad fun h4=>by simp at h;omega) (fun h=>?_)
  have h4:l.length=4:=by simp at h;omega
  refine Zbr.over l (fun pre=>((pv pre:Int),(pre.length:Int),())) (fun pre=>pre.all Zbw=true∧pv pre<256^pre.length) rfl ⟨rfl,by decide⟩ (fun pre w post hp hn hP next hx=>?_) (fun hP next=>?_)
  . intro _;dsimp only [Zbgq];have hno:Zbw w=false->K 0 2:=fun ho=>hbad fun h5=>by
      have:=List.all_eq_true.1 h5.2 w (by rw [hp];simp)
      rw [ho] at this;cases this
    refine ifT (decide_eq_true (by omega)) ⟨by omega,by omega,AtN.of (Zjb hp) fun _ _=>?_⟩
    refine Zob w 3 _ (by decide) (fun hc hl3 _=>ifF rfl ?_) (fun hc _=>ifT rfl (ifT rfl (hno ?_)))
    . unfold Zbgp;refine IfB.intro (fun h=>hno ?_) (fun h=>?_)
      . cases ho:Zbw w with
        | false=>rfl
        | true=>have:=(Ztl.1 ho).2.2;simp at h;omega
      . have hv:val w <= 255:=by simp at h;omega
        have ho:Zbw w=true:=Ztl.2 ⟨hc,hl3,hv⟩;have hb:pv pre<16777216:=by
          have h7:pre.length <= 3:=by omega
          have:256^pre.length <= 256^3:=Nat.pow_le_pow_right (by decide) h7
          omega
        refine of_eq (hx ⟨by rw [List.all_append,hP.1];simp [ho],?_⟩) ?_
        rw [Zng,List.length_append,List.length_singleton,Nat.pow_succ];have:=hP.2;omega
        . rw [Zng,show 256*((pv pre:Nat):Int)=((pv pre*256:Nat):Int) by omega,wu32 (by omega),wu32 (by omega),← Int.natCast_add,wu32 (by omega),Zdy (by omega) (by omega)]
          simp
    . cases ho:Zbw w with
      | false=>rfl
      | true=>exact absurd ⟨(Ztl.1 ho).1,(Ztl.1 ho).2.1⟩ hc
  intro _;dsimp only [Zbgq];exact ifF (decide_eq_false (by omega)) (hok h4 hP.1)
end Go.Proofs.YtlkdgfolbllngaaGreatDoor
end
section
namespace Go.Proofs.YtlkdgfolbllngaaGreatDoor
open Go.Sh
theorem Zbzm (s:List UInt8) (K:Int->Prop) (hl:s.length <= 281474976710656) (h1:Zbw s=true->K (val s)) (h2:Zbw s=false->∀v:Int,v<0->K v):Zxp s K:=by
  have hA:Zbw s=true->Lib.atoiAll s= .ok (val s:Int):=fun h=>by
    obtain ⟨h3,h4⟩:=Zhq.1 h;have:=Zbhc (u:=val s) (by omega)
    rwa [h4] at this
  have hno:Zbw s=false->Zsa 0 true K:=fun h=>ifT rfl (h2 h _ (by decide))
  have hN:Lib.atoiAll s≠ .ok (val s:Int)->Zbw s=false:=fun h=>by
    cases ho:Zbw s with
    | false=>rfl
    | true=>exact absurd (hA ho) h
  unfold Zxp;intro _;unfold Zjv;refine ⟨hl,fun _=>?_⟩;cases ha:Lib.atoiAll s with
  | ok v=>
    simp only [Zev,ha];refine ifF rfl (IfB.intro (fun h=>?_) (fun h=>?_))
    . refine ifT rfl (h2 ?_ _ (by decide))
      cases ho:Zbw s with
      | false=>rfl
      | true=>
        have:=hA ho;rw [ha] at this;injection this with this
        have h3:=(Zhq.1 ho).1;simp at h;omega
    . have hv:v <= 255:=by simp at h;omega
      intro _;unfold Zjw;intro _;unfold Zsa;refine IfB.intro (fun h=>?_) (fun h=>?_)
      . refine h2 ?_ _ (by decide)
        cases ho:Zbw s with
        | false=>rfl
        | true=>
          have:=hA ho;rw [ha] at this;injection this with this
          subst this;rw [Zqn,(Zhq.1 ho).2] at h;simp at h
      . have hs:Lib.itoa v=s:=by simpa using h
        by_cases h0:0 <= v
        . obtain ⟨n,rfl⟩:=Int.eq_ofNat_of_zero_le h0;rw [Zqn] at hs;have hvn:val s=n:=by rw [← hs,Zbfd]
          have ho:Zbw s=true:=Zhq.2 ⟨by omega,by rw [hvn];exact hs⟩
          have:=h1 ho;rwa [hvn] at this
        . refine h2 (hN fun e=>?_) v (by omega)
          rw [ha] at e;injection e with e;omega
  | range=>
    simp only [Zev,ha];exact ifT rfl (ifT rfl (h2 (hN (by rw [ha];exact fun e=>by cases e)) _ (by decide)))
  | _ =>
    simp only [Zev,ha];exact ifT rfl (ifT rfl (h2 (hN (by rw [ha];exact fun e=>by cases e)) _ (by decide)))
theorem Zbzz (s:List UInt8) (K:Int->Int->Prop) (hl:s.length <= 1000000) (hk:K (prs s).1 (prs s).2):Zxj s K:=by
  unfold Zxj;intro _;unfold Zlh;refine ⟨by omega,by decide,?_⟩
  rw [Zbcr];intro _;have hpl:=fun w (h:w∈spl 46 s)=>Zbeu h;have hbad: ¬((spl 46 s).length=4∧(spl 46 s).all Zbw=true)->K 0 2:=fun h=>by rw [prs,if_neg h] at hk;exact hk
  have hok:(spl 46 s).length=4->(spl 46 s).all Zbw=true->K (pv (spl 46 s)) 0:=fun h1 h2=>by rw [prs,if_pos ⟨h1,h2⟩] at hk;exact hk
  generalize spl 46 s=l at*;refine IfB.intro (fun h=>hbad fun h4=>by simp at h;omega) (fun h=>?_)
  have h4:l.length=4:=by simp at h;omega
  refine Zbr.over l (fun pre=>((pv pre:Int),(pre.length:Int),())) (fun pre=>pre.all Zbw=true∧pv pre<256^pre.length) rfl ⟨rfl,by decide⟩ (fun pre w post hp hn hP next hx=>?_) (fun hP next=>?_)
  . intro _;dsimp only [Zbfn];refine ifT (decide_eq_true (by omega)) ⟨by omega,by omega,AtN.of (Zjb hp) fun _ _=>?_⟩
    refine Zbzm w _ (by have:=hpl w (by rw [hp];simp);omega) (fun ho _=>?_) (fun ho v hv _=>?_)
    . obtain ⟨h5,h6⟩:=Zhq.1 ho;have hb:pv pre<16777216:=by
        have h7:pre.length <= 3:=by omega
        have:256^pre.length <= 256^3:=Nat.pow_le_pow_right (by decide) h7
        omega
      refine ifF (decide_eq_false (by omega)) ⟨by decide,of_eq (hx ⟨by rw [List.all_append,hP.1];simp [ho],?_⟩) ?_⟩
      rw [Zng,List.length_append,List.length_singleton,Nat.pow_succ];have:=hP.2;omega
      . rw [Zng,show ((pv pre:Nat):Int)*256=((pv pre*256:Nat):Int) by omega,wu32 (by omega),wu32 (by omega),Zbdc .u32 _ _ (Zvq (by omega)) (Zvq (by omega)),Zbma _ _ (by omega),wu32 (by omega),Zdy (by omega) (by omega)]
        simp
    . refine ifT (decide_eq_true hv) (hbad fun h5=>?_);have:=List.all_eq_true.1 h5.2 w (by rw [hp];simp)
      rw [ho] at this;cases this
  intro _;dsimp only [Zbfn];exact ifF (decide_eq_false (by omega)) (hok h4 hP.1)
end Go.Proofs.YtlkdgfolbllngaaGreatDoor
end
section
namespace Go.Proofs.YtlkdgfolbllngaaGreatDoor
open Go.Sh
def Zbl (m:Nat) (w:List UInt8):Bool:=decide (val w <= m)&&(Lib.decDigits (val w)==w)
theorem Zgz {m:Nat} {w:List UInt8}:Zbl m w=true↔val w <= m∧Lib.decDigits (val w)=w:=by simp [Zbl]
theorem Zge {m:Nat} {w:List UInt8}:Zbl m w=true↔val w <= m∧canon w:=by rw [Zgz,Zbab]
theorem Zbke {m:Nat} {w:List UInt8} {c:UInt8} (h:Zbl m w=true) (hc:c.toNat<48∨57<c.toNat):c∉w:=fun hm=>by have:=(Zge.1 h).2.2.1 c hm;omega
theorem Zbkh {v:Int} {s:List UInt8} (h0:0 <= v) (h:Lib.itoa v=s):v=(val s:Nat)∧Lib.decDigits (val s)=s:=by
  obtain ⟨n,rfl⟩:=Int.eq_ofNat_of_zero_le h0;rw [Zqn] at h;have hv:val s=n:=by rw [← h,Zbfd]
  exact ⟨by omega,by rw [hv];exact h⟩
theorem Zkl {m:Nat} {s:List UInt8} (hm:m<9223372036854775808) (h:Zbl m s=true):Lib.atoiAll s= .ok (val s:Int):=by
  obtain ⟨h3,h4⟩:=Zgz.1 h;have:=Zbhc (u:=val s) (by omega)
  rwa [h4] at this
theorem Zblq (s:List UInt8) (m:Nat) (K:Int->Prop) (hm:m<9223372036854775808) (hl:s.length <= 281474976710656) (h1:Zbl m s=true->K (val s)) (h2:Zbl m s=false->∀v:Int,(v<0∨v>m)->K v):Zok s K:=by
  have hN: ∀v:Int,Lib.atoiAll s= .ok v->v≠(val s:Int)->Zbl m s=false:=fun v hv hne=>by
    cases ho:Zbl m s with
    | false=>rfl
    | true=>rw [Zkl hm ho] at hv;injection hv with hv;exact absurd hv.symm hne
  have hno:(∀v,Lib.atoiAll s≠ .ok v)->Zxh 0 true K:=fun h=>ifT rfl (h2 (by
    cases ho:Zbl m s with
    | false=>rfl
    | true=>exact absurd (Zkl hm ho) (h _)) _ (.inl (by decide)))
  unfold Zok;intro _;unfold Zjv;refine ⟨hl,fun _=>?_⟩;cases ha:Lib.atoiAll s with
  | ok v=>
    simp only [Zev,ha];refine ifF rfl fun _=>?_;unfold Zjw;intro _;unfold Zxh;refine IfB.intro (fun h=>?_) (fun h=>?_)
    . refine h2 ?_ _ (.inl (by decide))
      cases ho:Zbl m s with
      | false=>rfl
      | true=>
        rw [Zkl hm ho] at ha;injection ha with ha
        subst ha;rw [Zqn,(Zgz.1 ho).2] at h;simp at h
    . have hs:Lib.itoa v=s:=by simpa using h
      by_cases h0:0 <= v
      . obtain ⟨h3,h4⟩:=Zbkh h0 hs;by_cases h5:val s <= m;have:=h1 (Zgz.2 ⟨h5,h4⟩);rwa [← h3] at this
        . refine h2 ?_ v (.inr (by omega))
          cases ho:Zbl m s with
          | false=>rfl
          | true=>exact absurd (Zgz.1 ho).1 h5
      . exact h2 (hN v ha (by omega)) v (.inl (by omega))
  | range=>
    simp only [Zev,ha];exact ifT rfl (hno fun v e=>by rw [ha] at e;cases e)
  | _ =>
    simp only [Zev,ha];exact ifT rfl (hno fun v e=>by rw [ha] at e;cases e)
theorem Zqu {c:UInt8} {s:List UInt8} (h:c∈s): ∃pre rest,s=pre++c::rest∧c∉pre:=by
  induction s with
  | nil=>simp at h
  | cons x s ih=>
    by_cases e:x=c;subst e;exact ⟨[],s,rfl,by simp⟩
    . have hm:c∈s:=by rcases List.mem_cons.1 h with h | h;exact absurd h.symm e;exact h
      obtain ⟨pre,rest,rfl,hp⟩:=ih hm;exact ⟨x::pre,rest,rfl,by simp only [List.mem_cons,not_or];exact ⟨fun h=>e h.symm,hp⟩⟩
theorem index_none {c:UInt8}: ∀{s:List UInt8},c∉s->Lib.index s [c]= -1
  | [],_=>rfl
  | x::s,h=>by
    simp only [List.mem_cons,not_or] at h;have hp:([c]:List UInt8).isPrefixOf (x::s)=false:=by simp [List.isPrefixOf,h.1]
    rw [Lib.index,hp,if_neg (by decide),index_none h.2];rfl
theorem Zbvy {c:UInt8} {s:List UInt8} (h:c∉s):Lib.cut s [c]=(s,[],false):=by unfold Lib.cut;rw [index_none h,if_neg (by decide)]
theorem Zbis {c:UInt8} {pre rest:List UInt8} (h:c∉pre):Lib.cut (pre++c::rest) [c]=(pre,rest,true):=by
  unfold Lib.cut;rw [Zbcf h,if_pos (by omega)]
  simp
theorem Zbah {c:UInt8} (s:List UInt8):Lib.contains s [c]=decide (c∈s):=by unfold Lib.contains;by_cases h:c∈s;obtain ⟨pre,rest,rfl,hp⟩:=Zqu h;rw [Zbcf hp,decide_eq_true h];simp;rw [index_none h,decide_eq_false h];rfl
def pfx (s:List UInt8):Option (Nat×Nat):=match spl 47 s with
  | [a,b]=>if (prs a).2=0∧Zbl 32 b=true∧right (prs a).1 (val b)=true then some ((prs a).1,val b) else none
  | _=>none
theorem Zbnm: ∀(l:List (List UInt8)) (a:Nat),l.all Zbw=true->l.foldl (fun a w=>a*256+val w) a<(a+1)*256^l.length
  | [],a,_=>by simp
  | w::l,a,h=>by
    simp only [List.all_cons,Bool.and_eq_true] at h;have ih:=Zbnm l (a*256+val w) h.2;have hw:=(Zhq.1 h.1).1;simp only [List.foldl_cons,List.length_cons,Nat.pow_succ];have h3:(a*256+val w+1)*256^l.length <= ((a+1)*256)*256^l.length:=Nat.mul_le_mul_right _ (by omega)
    have h4:(a+1)*256*256^l.length=(a+1)*(256^l.length*256):=by rw [Nat.mul_assoc,Nat.mul_comm 256]
    omega
theorem Zbdr (s:List UInt8):(prs s).1<4294967296:=by unfold prs;split;rename_i h;have:=Zbnm (spl 46 s) 0 h.2;rw [h.1] at this;exact this;decide
theorem Zcbb {s:List UInt8} (h:(prs s).2=0):s.length <= 15:=by rcases Nat.lt_or_ge 15 s.length with h1 | h1;rw [Zbnh h1] at h;cases h;exact h1
theorem Zbch {m k:Nat} {w:List UInt8} (h:Zbl m w=true) (hm:m<10^(k+1)):w.length <= k+1:=by
  obtain ⟨h1,h2⟩:=Zgz.1 h;have:=Zbiu (u:=val w) (k:=k) (by omega)
  rw [h2] at this;exact this
theorem Zcag {s:List UInt8} {a n:Nat} (h:pfx s=some (a,n)): ∃p q,spl 47 s= [p,q]∧(prs p).2=0∧Zbl 32 q=true∧right (prs p).1 (val q)=true∧a=(prs p).1∧n=val q:=by unfold pfx at h;split at h;rename_i p q hs;split at h;rename_i hc;simp only [Option.some.injEq,Prod.mk.injEq] at h;exact ⟨p,q,hs,hc.1,hc.2.1,hc.2.2,h.1.symm,h.2.symm⟩;cases h;cases h
theorem Zcaf {s:List UInt8} {r:Nat×Nat} (h:pfx s=some r):s.length <= 18:=by
  obtain ⟨a,n⟩:=r;obtain ⟨p,q,hs,h1,h2,_⟩:=Zcag h;have hj:=Zbki 47 s;rw [hs] at hj;have h3:=Zcbb h1;have h4:=Zbch (k:=1) h2 (by decide)
  have:=congrArg List.length hj;simp only [Lib.join,List.intercalate,List.intersperse,List.flatten_cons,List.flatten_nil,List.length_append,List.length_cons,List.length_nil] at this;omega
theorem Zcce (s:List UInt8) (K:UInt32×Int->Int->Prop) (hl:s.length <= 1000000) (h1: ∀a n,pfx s=some (a,n)->K (UInt32.ofNat a,(n:Int)) 0) (h2:pfx s=none->K (0,0) 5):Zxt s K:=by
  unfold Zxt;refine IfB.intro (fun h=>h2 ?_) (fun h=>?_)
  . cases hp:pfx s with
    | none=>rfl
    | some r=>have:=Zcaf hp;simp at h;omega
  have hl18:s.length <= 18:=by simp at h;omega
  intro _;refine Zbev s 47 _ (by omega) fun _=>?_
  have hpl:=fun w (h:w∈spl 47 s)=>Zbeu h;unfold pfx at h1 h2;generalize spl 47 s=l at*;refine IfB.intro (fun h=>h2 ?_) (fun h=>?_);split;simp at h;rfl;have h2l:l.length=2:=by simp at h;omega
  match l,h2l with
  | [p,q],_=>
    have hp:=hpl p (by simp)
    have hq:=hpl q (by simp)
    dsimp only at h1 h2;refine ⟨by decide,by simp,AtN.of rfl fun _ _=>Zbnu p _ (by omega) fun _=>⟨by decide,by simp,AtN.of rfl fun _ _=>?_⟩⟩
    have hno: ¬((prs p).2=0∧Zbl 32 q=true∧right (prs p).1 (val q)=true)->∀x y,Zsh x y true K:=fun hn x y=>ifT rfl (h2 (if_neg hn));refine Zob q 2 _ (by decide) (fun hc hq2 _=>?_) (fun hc _=>?_)
    . refine IfB.intro (fun h=>hno (fun hn=>?_) _ _) (fun h=>ifF rfl fun _=>?_);rw [hn.1] at h;simp at h;have h0:(prs p).2=0:=by simpa using h
      have hlt:=Zbdr p;have eU:ofI .u32 ((prs p).1:Int)=UInt32.ofNat (prs p).1:=rfl;have eN:(UInt32.ofNat (prs p).1).toNat=(prs p).1:=by simp;omega
      refine Zccf _ _ _ fun _=>?_;rw [eU,eN];unfold Zsh;refine IfB.intro (fun h4=>h2 (if_neg fun hn=>?_)) (fun h4=>?_);rw [hn.2.2] at h4;cases h4
      . have hr:right (prs p).1 (val q)=true:=by simpa using h4
        have h5:=(Zbnz.1 hr).2.1;exact h1 _ _ (if_pos ⟨h0,Zge.2 ⟨by omega,hc⟩,hr⟩)
    refine IfB.intro (fun h=>hno (fun hn=>?_) _ _) (fun h=>ifT rfl (hno (fun hn=>?_) _ _));rw [hn.1] at h;simp at h;have h3:=Zge.1 hn.2.1;exact hc ⟨h3.2,Zbch (k:=1) hn.2.1 (by decide)⟩
theorem Zcae (s:List UInt8) (K:UInt32×Int->Int->Prop) (hl:s.length <= 1000000) (h1: ∀a n,pfx s=some (a,n)->K (UInt32.ofNat a,(n:Int)) 0) (h2:pfx s=none->K (0,0) 5):Zyy s K:=by
  unfold Zyy;intro _;unfold Znu;refine ⟨by omega,?_⟩
  have step: ∀(p q:List UInt8) (b:Bool),p.length <= 1000000->q.length <= 1000000->(b=true->47∉q->pfx s=if (prs p).2=0∧Zbl 32 q=true∧right (prs p).1 (val q)=true then some ((prs p).1,val q) else none)->(b=false∨47∈q->pfx s=none)->
      (WfPs Zrl (p,([46]:List UInt8),())->Zlh p ([46]:List UInt8) (fun x19=>WfPs Zrm (x19,())->(WfPs Zoj (q,())->Zok q (fun x21=>WfPs Zol (x21,())->IfB (!b) (Zln x21 x19 true K) (Zln x21 x19 (((x19.length:Int):Int) !=4) K))))):=by
    intro p q b hp hq hb hn _;unfold Zlh;refine ⟨by omega,by decide,?_⟩
    rw [Zbcr];intro _ _;have hpr:prs p=if (spl 46 p).length=4∧(spl 46 p).all Zbw=true then (pv (spl 46 p),0) else (0,2):=rfl
    have hpl:=fun w (h:w∈spl 46 p)=>Zbeu h;generalize spl 46 p=l at*;have key: ∀v:Int,(Zbl 32 q=true∧v=(val q:Int))∨(Zbl 32 q=false∧(v<0∨v>32))->IfB (!b) (Zln v l true K) (Zln v l (((l.length:Int):Int) !=4) K):=by
      intro v hv;have bad:(b=true->47∉q->¬((prs p).2=0∧Zbl 32 q=true∧right (prs p).1 (val q)=true))->K (0,0) 5:=fun h=>h2 (by
        by_cases hbq:b=true∧47∉q;rw [hb hbq.1 hbq.2,if_neg (h hbq.1 hbq.2)]
        . refine hn ?_;rcases Bool.eq_false_or_eq_true b with e | e;exact .inr (Classical.byContradiction fun hh=>hbq ⟨e,hh⟩)
          . exact .inl e)
      refine IfB.intro (fun h=>ifT rfl (bad fun hbt=>by rw [hbt] at h;cases h)) (fun h=>?_)
      have hbt:b=true:=by simpa using h
      unfold Zln;refine IfB.intro (fun h4=>bad fun _ _ hc=>?_) (fun h4=>?_)
      . rw [hpr,if_neg (by intro hx;rw [hx.1] at h4;simp at h4)] at hc
        exact absurd hc.1 (by decide)
      have h4l:l.length=4:=by simp at h4;omega
      refine Zbr.over l (fun pre=>((pre.length:Int),(pv pre:Int),v,())) (fun pre=>pre.all Zbw=true∧pv pre<256^pre.length) rfl ⟨rfl,by decide⟩ (fun pre w post hpp hnn hP next hx=>?_) (fun hP next=>?_)
      . intro _;dsimp only [Zbgd];have hno:Zbw w=false->K (0,0) 5:=fun ho=>bad fun _ _ hc=>by
          rw [hpr,if_neg (fun h5=>by have:=List.all_eq_true.1 h5.2 w (by rw [hpp];simp);rw [ho] at this;cases this)] at hc
          exact absurd hc.1 (by decide)
        refine ifT (decide_eq_true (by omega)) ⟨by omega,by omega,AtN.of (Zjb hpp) fun _ _=>?_⟩
        refine Zblq w 255 _ (by decide) (by have:=hpl w (by rw [hpp];simp);omega) (fun ho _=>?_) (fun ho x hx0 _=>?_)
        . obtain ⟨h5,h6⟩:=Zhq.1 ho;have hb2:pv pre<16777216:=by
            have h7:pre.length <= 3:=by omega
            have:256^pre.length <= 256^3:=Nat.pow_le_pow_right (by decide) h7
            omega
          refine ifF (decide_eq_false (by omega)) (ifF (decide_eq_false (by omega)) ⟨by decide,of_eq (hx ⟨by rw [List.all_append,hP.1];simp [show Zbw w=true from ho],?_⟩) ?_⟩)
          rw [Zng,List.length_append,List.length_singleton,Nat.pow_succ];have:=hP.2;omega
          . rw [Zng,show ((pv pre:Nat):Int)*256=((pv pre*256:Nat):Int) by omega,wu32 (by omega),wu32 (by omega),Zbdc .u32 _ _ (Zvq (by omega)) (Zvq (by omega)),Zbma _ _ (by omega),wu32 (by omega),Zdy (by omega) (by omega)]
            simp
        . have ho':Zbw w=false:=ho;first | unfold Zbgc | unfold Zbga
          refine IfB.intro (fun _=>ifT rfl (hno ho')) (fun h5=>ifT ?_ (hno ho'));simp at h5;simp;omega
      . intro _;dsimp only [Zbgd];have hlt:pv l<4294967296:=by have:=hP.2;rw [h4l] at this;exact this
        have eU:ofI .u32 ((pv l:Nat):Int)=UInt32.ofNat (pv l):=rfl;have eN:(UInt32.ofNat (pv l)).toNat=pv l:=by simp;omega
        have hpr2:prs p=(pv l,0):=by rw [hpr,if_pos ⟨h4l,hP.1⟩]
        refine ifF (decide_eq_false (by omega)) fun _=>Zccn _ _ _ fun _=>?_
        rw [eU,eN];unfold Zbgb;refine IfB.intro (fun hr=>?_) (fun hr=>bad fun _ _ hc=>?_)
        . rcases hv with ⟨h6,rfl⟩ | ⟨_,h6⟩
          . have hq47:47∉q:=Zbke h6 (.inl (by decide))
            refine h1 _ _ ?_;rw [hb hbt hq47,hpr2,if_pos ⟨rfl,h6,hr⟩]
          have:=Zbnz.1 hr;omega
        rw [hpr2] at hc;rcases hv with ⟨h6,rfl⟩ | ⟨h6,_⟩;rw [hc.2.2] at hr;cases hr;rw [h6] at hc;exact absurd hc.2.1 (by decide)
    refine Zblq q 32 _ (by decide) (by omega) (fun h _=>key _ (.inl ⟨h,rfl⟩)) (fun h v hv _=>key v (.inr ⟨h,hv⟩))
  by_cases hm:47∈s
  . obtain ⟨p,q,rfl,hp⟩:=Zqu hm;rw [Zbis hp];intro _;simp only [List.length_append,List.length_cons] at hl;refine step p q true (by omega) (by omega) (fun _ hq=>?_) (fun h=>?_)
    unfold pfx;rw [Zno hp,Zwl hq]
    . rcases h with h | h;cases h
      . obtain ⟨u,v,rfl,hu⟩:=Zqu h;unfold pfx;rw [Zno hp,Zno hu];have:spl 47 v≠[]:=by unfold spl;simp
        cases hv:spl 47 v with
        | nil=>exact absurd hv this
        | cons=>rfl
  . rw [Zbvy hm];intro _;refine step s [] false hl (by simp) (fun h=>by cases h) (fun _=>?_)
    unfold pfx;rw [Zwl hm]
end Go.Proofs.YtlkdgfolbllngaaGreatDoor
end
section
namespace Go.Proofs.YtlkdgfolbllngaaGreatDoor
open Go.Sh
abbrev Tok:=Int×List UInt8×Int×UInt32×Int×Int
def Zel (x:UInt8):Bool:=decide (48 <= x.toNat)&&decide (x.toNat <= 57)
def isLet (x:UInt8):Bool:=(decide (97 <= x.toNat)&&decide (x.toNat <= 122))||(decide (65 <= x.toNat)&&decide (x.toNat <= 90))
def Zbx (x:UInt8):Bool:=Zel x||isLet x||x==95||x==45||x==46||x==58||x==47
def Zkw (x:UInt8):Bool:=x==123||x==125||x==40||x==41||x==59
def Zef (x:UInt8):Bool:=(decide (32 <= x.toNat)&&decide (x.toNat <= 126))||x==9
def comm (s:List UInt8):Option Nat:=match spl 58 s with
  | [a,b]=>if Zbl 65535 a=true∧Zbl 65535 b=true then some (65536*val a+val b) else none
  | _=>none
def word (s:List UInt8):Option Tok:=
  if s.all Zel=true then (if Zbl 4294967295 s=true then some (2,s,(val s:Int),0,0,0) else none)
  else if 47∈s then (match pfx s with
    | some r=>some (4,s,0,UInt32.ofNat r.1,(r.2:Int),0)
    | none=>none)
  else if 58∈s then (match comm s with
    | some n=>some (5,s,(n:Int),0,0,0)
    | none=>none)
  else if s.all (fun x=>Zel x||x==46)=true then (if (prs s).2=0 then some (3,s,((prs s).1:Int),0,0,0) else none)
  else if s.head?.any isLet=true∧46∉s∧s.length <= 32 then some (1,s,0,0,0,0) else none
theorem Zkk {P:UInt8->Prop} (h: ∀n:Fin 256,P (UInt8.ofNat n.val)) (x:UInt8):P x:=by have:=h ⟨x.toNat,Zbox x⟩;rwa [show UInt8.ofNat x.toNat=x by simp] at this
theorem Zbks (x:UInt8) (K:Bool->Prop) (hk:K (isLet x)):Zry (x.toNat:Int) K:=by
  have h: ∀x:UInt8,isLet x=(if decide ((Zfy .u8 (x.toNat:Int) 32)≥97)=true then decide ((Zfy .u8 (x.toNat:Int) 32) <= 122) else false):=Zkk (by decide+kernel)
  unfold Zry;rw [h] at hk;refine IfB.intro (fun h1=>?_) (fun h1=>?_);rw [if_pos h1] at hk;exact hk
  . rw [if_neg (by rw [h1];decide)] at hk;exact hk
theorem Zbnt (x:UInt8) (K:Bool->Prop) (hk:K (isLet x)):Zsf (x.toNat:Int) K:=by
  have h65:IfB (decide ((x.toNat:Int)≥65)) (K (decide (97 <= x.toNat)&&decide (x.toNat <= 122)||decide ((x.toNat:Int) <= 90))) (K (decide (97 <= x.toNat)&&decide (x.toNat <= 122)||false)):=by
    unfold isLet at hk;refine IfB.intro (fun h=>of_eq hk ?_) (fun h=>of_eq hk ?_)
    . simp at h;rw [decide_eq_true (show 65 <= x.toNat by omega),Bool.true_and]
      congr 1;exact decide_eq_decide.2 (by omega)
    simp at h;rw [decide_eq_false (show ¬65 <= x.toNat by omega),Bool.false_and]
  unfold Zsf;refine IfB.intro (fun h=>IfB.intro (fun h2=>?_) (fun h2=>?_)) (fun h=>?_)
  . simp at h h2;unfold isLet at hk;rw [decide_eq_true (show 97 <= x.toNat by omega),decide_eq_true (show x.toNat <= 122 by omega)] at hk
    exact hk
  . simp at h h2;rw [decide_eq_false (show ¬x.toNat <= 122 by omega),Bool.and_false,Bool.false_or,Bool.false_or] at h65
    exact h65
  . simp at h;rw [decide_eq_false (show ¬97 <= x.toNat by omega),Bool.false_and,Bool.false_or,Bool.false_or] at h65
    exact h65
theorem Zbns (x:UInt8) (K:Bool->Prop) (hk:K (Zel x)):Zsc (x.toNat:Int) K:=by
  unfold Zsc;unfold Zel at hk;refine IfB.intro (fun h=>of_eq hk ?_) (fun h=>of_eq hk ?_)
  . simp at h;rw [decide_eq_true (show 48 <= x.toNat by omega),Bool.true_and]
    exact decide_eq_decide.2 (by omega)
  simp at h;rw [decide_eq_false (show ¬48 <= x.toNat by omega),Bool.false_and]
theorem Zbmg (x:UInt8) (K:Bool->Prop) (hk:K (Zbx x)):Zsj (x.toNat:Int) K:=by
  have h: ∀x:UInt8,Zbx x=(isLet x||(decide ((x.toNat:Int)≥48)&&decide ((x.toNat:Int) <= 57))||decide (Lib.indexByte [95,45,46,58,47] (x.toNat:Int).toNat.toUInt8≥0)):=Zkk (by decide+kernel)
  rw [h] at hk;have hi:(WfPs Znv (([95,45,46,58,47]:List UInt8),(x.toNat:Int),())->Zib ([95,45,46,58,47]:List UInt8) (x.toNat:Int) (fun x15=>WfPs Znw (x15,())->isLet x=false->(decide ((x.toNat:Int)≥48)&&decide ((x.toNat:Int) <= 57))=false->K (decide ((x15:Int)≥0)))):=by intro _;unfold Zib;intro _ h1 h2;rw [h1,h2] at hk;exact hk
  unfold Zsj;refine fun _=>Zbks x _ fun _=>IfB.intro (fun h1=>?_) (fun h1=>IfB.intro (fun h2=>IfB.intro (fun h3=>?_) (fun h3=>?_)) (fun h2=>?_));rw [h1] at hk;exact hk;rw [h1,h2,h3] at hk;exact hk;intro h4;have h5:=hi h4;unfold Zib at h5 ⊢;exact fun w=>h5 w h1 (by rw [h2,h3];rfl)
  intro h4;have h5:=hi h4;unfold Zib at h5 ⊢;exact fun w=>h5 w h1 (by rw [h2];rfl)
theorem Zccc (x:UInt8) (K:Bool->Prop) (hk:K (Zbx x)):Zyq (x.toNat:Int) K:=by
  have hb: ∀n:UInt8,((x.toNat:Int)==(n.toNat:Int))=(x==n):=fun n=>by by_cases e:x=n;subst e;simp;rw [beq_eq_false_iff_ne.2 e];exact beq_eq_false_iff_ne.2 fun h=>e (UInt8.toNat_inj.1 (by omega))
  unfold Zbx at hk;unfold Zyq;refine fun _=>Zbns x _ fun _=>IfB.intro (fun h1=>?_) (fun h1=>fun _=>Zbnt x _ fun _=>IfB.intro (fun h2=>?_) (fun h2=>?_));rw [h1] at hk;exact hk;rw [h1,h2] at hk;exact hk;rw [h1,h2,Bool.false_or,Bool.false_or] at hk;refine IfB.intro (fun h3=>?_) (fun h3=>IfB.intro (fun h4=>?_) (fun h4=>IfB.intro (fun h5=>?_) (fun h5=>IfB.intro (fun h6=>?_) (fun h6=>?_))))
  . rw [show (x==95)=true by rw [← h3];exact (hb 95).symm] at hk;exact hk
  all_goals rw [show (x==95)=false by rw [← h3];exact (hb 95).symm,Bool.false_or] at hk
  . rw [show (x==45)=true by rw [← h4];exact (hb 45).symm] at hk;exact hk
  all_goals rw [show (x==45)=false by rw [← h4];exact (hb 45).symm,Bool.false_or] at hk
  . rw [show (x==46)=true by rw [← h5];exact (hb 46).symm] at hk;exact hk
  all_goals rw [show (x==46)=false by rw [← h5];exact (hb 46).symm,Bool.false_or] at hk
  . rw [show (x==58)=true by rw [← h6];exact (hb 58).symm] at hk;exact hk
  . rw [show (x==58)=false by rw [← h6];exact (hb 58).symm,Bool.false_or] at hk
    exact of_eq hk (hb 47).symm
theorem Zcdt (x:UInt8):decide (Lib.indexByte [123,125,40,41,59] (x.toNat:Int).toNat.toUInt8≥0)=Zkw x:=by revert x;exact Zkk (by decide+kernel)
theorem Zccg (x:UInt8) (K:Bool->Prop) (hk:K (Zkw x)):Zym (x.toNat:Int) K:=by
  have hb: ∀n:UInt8,((x.toNat:Int)==(n.toNat:Int))=(x==n):=fun n=>by by_cases e:x=n;subst e;simp;rw [beq_eq_false_iff_ne.2 e];exact beq_eq_false_iff_ne.2 fun h=>e (UInt8.toNat_inj.1 (by omega))
  unfold Zkw at hk;unfold Zym;refine IfB.intro (fun h3=>?_) (fun h3=>IfB.intro (fun h4=>?_) (fun h4=>IfB.intro (fun h5=>?_) (fun h5=>IfB.intro (fun h6=>?_) (fun h6=>?_))))
  . rw [show (x==123)=true by rw [← h3];exact (hb 123).symm] at hk;exact hk
  all_goals rw [show (x==123)=false by rw [← h3];exact (hb 123).symm,Bool.false_or] at hk
  . rw [show (x==125)=true by rw [← h4];exact (hb 125).symm] at hk;exact hk
  all_goals rw [show (x==125)=false by rw [← h4];exact (hb 125).symm,Bool.false_or] at hk
  . rw [show (x==40)=true by rw [← h5];exact (hb 40).symm] at hk;exact hk
  all_goals rw [show (x==40)=false by rw [← h5];exact (hb 40).symm,Bool.false_or] at hk
  . rw [show (x==41)=true by rw [← h6];exact (hb 41).symm] at hk;exact hk
  . rw [show (x==41)=false by rw [← h6];exact (hb 41).symm,Bool.false_or] at hk
    exact of_eq hk (hb 59).symm
theorem Zbze (x:UInt8) (K:Bool->Prop) (hk:K (Zef x)):Zvk (x.toNat:Int) K:=by
  have hb: ∀x:UInt8,((x.toNat:Int)==9)=(x==9):=Zkk (by decide+kernel)
  unfold Zef at hk;unfold Zvk;refine IfB.intro (fun h1=>IfB.intro (fun h2=>?_) (fun h2=>of_eq hk ?_)) (fun h1=>of_eq hk ?_)
  . simp at h1 h2;rw [decide_eq_true (show 32 <= x.toNat by omega),decide_eq_true (show x.toNat <= 126 by omega)] at hk;exact hk
  simp at h2;rw [decide_eq_false (show ¬x.toNat <= 126 by omega),Bool.and_false,Bool.false_or,hb]
  simp at h1;rw [decide_eq_false (show ¬32 <= x.toNat by omega),Bool.false_and,Bool.false_or,hb]
theorem Zvr (s:List UInt8) (m:Nat) (K:Int->Bool->Prop) (hm:m<9223372036854775808) (hl:s.length <= 281474976710656) (h1:Zbl m s=true->K (val s) true) (h2:Zbl m s=false->∀v:Int,K v false):Zon s m K:=by
  have hN:(∀v,Lib.atoiAll s≠ .ok v)->Zbl m s=false:=fun h=>by
    cases ho:Zbl m s with
    | false=>rfl
    | true=>exact absurd (Zkl hm ho) (h _)
  unfold Zon;intro _;unfold Zjv;refine ⟨hl,fun _=>?_⟩;cases ha:Lib.atoiAll s with
  | ok v=>
    simp only [Zev,ha];have hV:v≠(val s:Int)->Zbl m s=false:=fun hne=>by
      cases ho:Zbl m s with
      | false=>rfl
      | true=>rw [Zkl hm ho] at ha;injection ha with ha;exact absurd ha.symm hne
    refine ifT rfl (IfB.intro (fun h=>IfB.intro (fun h3=>?_) (fun h3=>?_)) (fun h=>?_))
    . have h0:0 <= v:=by simpa using h
      have h3':v <= m:=by simpa using h3
      intro _;unfold Zjw;intro _;by_cases e:Lib.itoa v=s
      . obtain ⟨h5,h6⟩:=Zbkh h0 e;have:=h1 (Zgz.2 ⟨by omega,h6⟩)
        rw [e,← h5] at*;simpa using this
      . have e2:(Lib.itoa v==s)=false:=beq_eq_false_iff_ne.2 e;rw [e2];refine h2 ?_ v;cases ho:Zbl m s with
        | false=>rfl
        | true=>
          rw [Zkl hm ho] at ha;injection ha with ha
          subst ha;rw [Zqn,(Zgz.1 ho).2] at e;exact absurd rfl e
    . refine h2 ?_ v;cases ho:Zbl m s with
      | false=>rfl
      | true=>
        have:=Zgz.1 ho;rw [Zkl hm ho] at ha;injection ha with ha
        simp at h3;omega
    . exact h2 (hV (by simp at h;omega)) v
  | range=>
    simp only [Zev,ha];exact ifF rfl (h2 (hN fun v e=>by rw [ha] at e;cases e) _)
  | _ =>
    simp only [Zev,ha];exact ifF rfl (h2 (hN fun v e=>by rw [ha] at e;cases e) _)
theorem or16 (a b:Nat) (hb:b<65536) (ha:a<65536):Zfy .i64 ((a:Int)*65536) (b:Int)=((65536*a+b:Nat):Int):=by
  rw [show ((a:Int)*65536)=((a*65536:Nat):Int) by omega,Zbdc .i64 _ _ (Zbld (by omega)) (Zbld (by omega)),Zbzu _ _ hb,Zix _ (by omega)]
  omega
theorem Zbvc {p q:List UInt8} (hp:58∉p):comm (p++58::q)=if Zbl 65535 p=true∧Zbl 65535 q=true then some (65536*val p+val q) else none:=by
  unfold comm;rw [Zno hp];by_cases hq:58∈q
  . have hn: ¬(Zbl 65535 p=true∧Zbl 65535 q=true):=fun h=>Zbke h.2 (.inr (by decide)) hq
    rw [if_neg hn];obtain ⟨u,v,rfl,hu⟩:=Zqu hq;rw [Zno hu];have:spl 58 v≠[]:=by unfold spl;simp
    cases hv:spl 58 v with
    | nil=>exact absurd hv this
    | cons=>rfl
  rw [Zwl hq]
theorem Zbwv (s:List UInt8) (K:Int->Bool->Prop) (hl:s.length <= 1000000) (hm:58∈s) (h1: ∀n,comm s=some n->K (n:Int) true) (h2:comm s=none->∀v:Int,K v false):Zyj s K:=by
  obtain ⟨p,q,rfl,hp⟩:=Zqu hm;rw [Zbvc hp] at h1 h2;simp only [List.length_append,List.length_cons] at hl;unfold Zyj;intro _;unfold Znu;refine ⟨by simp only [List.length_append,List.length_cons];omega,?_⟩
  rw [Zbis hp];refine fun _ _=>Zvr p 65535 _ (by decide) (by omega) (fun hA _ _=>Zvr q 65535 _ (by decide) (by omega) (fun hB _=>⟨by decide,ifT rfl ?_⟩) (fun hB v _=>⟨by decide,ifT rfl (h2 (if_neg fun h=>?_) _)⟩)) (fun hA v _ _=>?_)
  . have ha:=(Zgz.1 hA).1;have hb:=(Zgz.1 hB).1;rw [show ((val p:Nat):Int)*65536=((val p*65536:Nat):Int) by omega,Zix _ (by omega),show ((val p*65536:Nat):Int)=((val p:Nat):Int)*65536 by omega,or16 _ _ (by omega) (by omega)]
    exact h1 _ (if_pos ⟨hA,hB⟩)
  rw [hB] at h;exact absurd h.2 (by decide)
  . have hn:=h2 (if_neg fun h=>by rw [hA] at h;exact absurd h.1 (by decide))
    exact Zvr q 65535 _ (by decide) (by omega) (fun _ _=>⟨by decide,ifF rfl (hn _)⟩) (fun _ _ _=>⟨by decide,ifF rfl (hn _)⟩)
theorem Zbwd {p:UInt8->Bool} {l:List UInt8}:l.dropWhile p= []↔∀x∈l,p x=true:=by
  induction l with
  | nil=>simp
  | cons y l ih=>
    rw [List.dropWhile_cons];split;rename_i h;simp [ih,h];rename_i h;simp [h]
theorem Zbov (s t:List UInt8):(Lib.trimS s t==[])=s.all (fun x=>t.contains x):=by
  have h:Lib.trimS s t= []↔s.all (fun x=>t.contains x)=true:=by
    unfold Lib.trimS Lib.trimLeftS Lib.trimRightS;rw [Zbwd];constructor
    . intro h;rw [List.all_eq_true];intro x hx;have hdw: ∀(l:List UInt8),(∀x∈(l.dropWhile (t.contains ·)),t.contains x=true)->∀x∈l,t.contains x=true:=by
        intro l;induction l with
        | nil=>intro _ x hx;simp at hx
        | cons y l ih=>
          intro h2 x hx;rw [List.dropWhile_cons] at h2;split at h2;rename_i hy;rcases List.mem_cons.1 hx with rfl | hx;exact hy;exact ih h2 x hx;exact h2 x hx
      exact hdw s.reverse (fun x hx=>h x (List.mem_reverse.2 hx)) x (List.mem_reverse.2 hx)
    intro h x hx;rw [List.all_eq_true] at h;have hsub: ∀(l:List UInt8),∀x∈l.dropWhile (t.contains ·),x∈l:=fun l x hx=>(List.dropWhile_sublist (l:=l) _).mem hx;exact h x (List.mem_reverse.1 (hsub _ _ (List.mem_reverse.1 hx)))
  cases hb:s.all (fun x=>t.contains x) with
  | true=>rw [h.2 hb];rfl
  | false=>
    refine beq_eq_false_iff_ne.2 fun e=>?_;rw [h.1 e] at hb;cases hb
theorem digs (x:UInt8):([48,49,50,51,52,53,54,55,56,57]:List UInt8).contains x=Zel x:=by revert x;exact Zkk (by decide+kernel)
theorem Zbwc (x:UInt8):([48,49,50,51,52,53,54,55,56,57,46]:List UInt8).contains x=(Zel x||x==46):=by revert x;exact Zkk (by decide+kernel)
theorem Zcbw (s:List UInt8) (K:Tok->Bool->Prop) (hl:s.length <= 100000) (h1: ∀t,word s=some t->K t true) (h2:word s=none->∀t,K t false):Zxf s K:=by
  unfold Zxf;have e1:=Zbov s [48,49,50,51,52,53,54,55,56,57];have e2:=Zbov s [48,49,50,51,52,53,54,55,56,57,46];simp only [digs] at e1;simp only [Zbwc] at e2;unfold word at h1 h2;intro _;unfold Zrn;refine ⟨by decide,by decide,fun _=>?_⟩
  rw [e1];refine IfB.intro (fun ha=>?_) (fun ha=>?_)
  . simp only [ha,if_true] at h1 h2;unfold Zgm;refine fun _=>Zvr s 4294967295 _ (by decide) (by omega) (fun hA _=>?_) (fun hA v _=>?_)
    exact h1 _ (if_pos hA);exact h2 (if_neg (by rw [hA];decide)) _
  simp only [ha,Bool.false_eq_true,if_false] at h1 h2;intro _;unfold Znt;refine ⟨by omega,fun _=>?_⟩
  rw [Zbah];refine IfB.intro (fun hb=>?_) (fun hb=>?_)
  . have hb:=of_decide_eq_true hb;rw [if_pos hb] at h1 h2;unfold Zgm;refine fun _=>Zcae s _ (by omega) (fun a n hp _=>?_) (fun hp _=>?_)
    rw [hp] at h1;refine Zblu (h1 _ rfl) ?_;simp only [Zvv];rw [hp] at h2;exact h2 rfl _
  have hb:=of_decide_eq_false hb;rw [if_neg hb] at h1 h2;intro _;refine ⟨by omega,fun _=>?_⟩
  rw [Zbah];refine IfB.intro (fun hc=>?_) (fun hc=>?_)
  . have hc:=of_decide_eq_true hc;rw [if_pos hc] at h1 h2;unfold Zgm;refine fun _=>Zbwv s _ (by omega) hc (fun n hn _=>?_) (fun hn v _=>?_)
    rw [hn] at h1;exact h1 _ rfl;rw [hn] at h2;exact h2 rfl _
  have hc:=of_decide_eq_false hc;rw [if_neg hc] at h1 h2;intro _;refine ⟨by decide,by decide,fun _=>?_⟩
  rw [e2];refine IfB.intro (fun hd=>?_) (fun hd=>?_)
  . simp only [hd,if_true] at h1 h2;unfold Zgm;refine fun _=>Zbzz s _ (by omega) fun _=>?_
    have hlt:=Zbdr s;rw [Zix _ (by omega)]
    by_cases h0:(prs s).2=0;rw [h0];exact h1 _ (if_pos h0)
    . rw [show ((prs s).2==0)=false from beq_eq_false_iff_ne.2 h0]
      exact h2 (if_neg h0) _
  simp only [hd,Bool.false_eq_true,if_false] at h1 h2;cases s with
  | nil=>simp at ha
  | cons x r=>
    simp only [List.head?_cons,Option.any_some] at h1 h2;have hno: ¬(isLet x=true∧46∉(x::r)∧(x::r).length <= 32)->Zgm (x::r) 1 0 0 0 false K:=fun hn=>h2 (if_neg hn) _;refine ⟨by decide,AtN.of rfl fun _=>Zbks x _ fun _=>IfB.intro (fun hx=>IfB.intro (fun h32=>?_) (fun h32=>hno fun hn=>?_)) (fun hx=>hno fun hn=>?_)⟩
    . intro _;refine ⟨by omega,fun _=>?_⟩
      rw [Zbah];by_cases h46:46∈(x::r);rw [decide_eq_true h46];exact hno fun hn=>hn.2.1 h46;rw [decide_eq_false h46];exact h1 _ (if_pos ⟨hx,h46,by simp at h32 ⊢;omega⟩)
    simp at h32 hn;omega;rw [hn.1] at hx;cases hx
end Go.Proofs.YtlkdgfolbllngaaGreatDoor
end
section
namespace Go.Proofs.YtlkdgfolbllngaaGreatDoor
open Go.Sh
theorem Zbnr (s:List UInt8) (c:UInt8) (K:Bool->Prop) (hl:s.length <= 1000000) (hk:K (s.all fun x=>Zel x||x==c)):Zsz s (c.toNat:Int) K:=by
  have hb: ∀x n:UInt8,((x.toNat:Int) !=(n.toNat:Int))=(!(x==n)):=fun x n=>by
    by_cases e:x=n;subst e;simp
    . have h2:((x.toNat:Int)==(n.toNat:Int))=false:=beq_eq_false_iff_ne.2 fun h=>e (UInt8.toNat_inj.1 (by omega))
      rw [beq_eq_false_iff_ne.2 e,bne,h2]
  unfold Zsz;refine Zbr.over s (fun pre=>((pre.length:Int),())) (fun pre=>pre.all (fun x=>Zel x||x==c)=true) rfl rfl (fun pre x post hp hn hP next hx=>?_) (fun hP next=>?_)
  . intro _;dsimp only [Zbgs];have bad:(Zel x||x==c)=false->K false:=fun h=>by
      have:(s.all fun x=>Zel x||x==c)=false:=by rw [hp,List.all_append,List.all_cons,h,Bool.false_and,Bool.and_false]
      rw [this] at hk;exact hk
    have go:(Zel x||x==c)=true->next ((IntKind.wrap .i64 ((pre.length:Int)+1)),()):=fun h=>of_eq (hx (by rw [List.all_append,hP,List.all_cons,h];rfl)) (by rw [Zdy (by omega) (by omega)];simp)
    refine ifT (decide_eq_true (by omega)) ⟨by omega,AtN.of (Zjb hp) fun _=>Zbns x _ fun _=>IfB.intro (fun h=>⟨by omega,AtN.of (Zjb hp) ?_⟩) (fun h=>?_)⟩
    . have hd:Zel x=false:=by simpa using h
      unfold Zbgr;rw [hb];refine IfB.intro (fun h2=>bad (by rw [hd,Bool.false_or];simpa using h2)) (fun h2=>go (by rw [hd,Bool.false_or];simpa using h2))
    . have hd:Zel x=true:=by simpa using h
      exact ifF rfl (go (by rw [hd,Bool.true_or]))
  intro _;dsimp only [Zbgs];rw [hP] at hk;exact ifF (decide_eq_false (by omega)) hk
theorem Zbea (s:List UInt8) (c:UInt8) (K:Bool->Prop) (hl:s.length <= 1000000) (hk:K (decide (c∈s))):Zoh s (c.toNat:Int) K:=by
  unfold Zoh;refine Zbr.over s (fun pre=>((pre.length:Int),())) (fun pre=>c∉pre) rfl (by simp) (fun pre x post hp hn hP next hx=>?_) (fun hP next=>?_)
  . intro _;dsimp only [Zbfm];refine ifT (decide_eq_true (by omega)) ⟨by omega,AtN.of (Zjb hp) (IfB.intro (fun h=>?_) (fun h=>of_eq (hx ?_) ?_))⟩
    . have e:x=c:=UInt8.toNat_inj.1 (by simp at h;omega)
      rw [decide_eq_true (by rw [hp,e];simp)] at hk;exact hk
    intro hm;rcases List.mem_append.1 hm with hm | hm;exact hP hm;rw [List.mem_singleton] at hm;rw [hm] at h;simp at h
    . rw [Zdy (by omega) (by omega)];simp
  intro _;dsimp only [Zbfm];rw [decide_eq_false hP] at hk;exact ifF (decide_eq_false (by omega)) hk
theorem Zvu {n:Nat} {s:List UInt8} {k:Nat} (hk:n<10^(k+1)):Zbl n s=true↔canon s∧s.length <= k+1∧val s <= n:=
  ⟨fun h=>⟨(Zge.1 h).2,Zbch h hk,(Zge.1 h).1⟩,fun h=>Zge.2 ⟨h.2.2,h.1⟩⟩
theorem Zbpe {s:List UInt8} (h:canon s):val s<10^s.length:=by
  have: ∀(s:List UInt8),(∀x∈s,48 <= x.toNat∧x.toNat <= 57)->∀a,s.foldl valF a<(a+1)*10^s.length:=by
    intro s;induction s with
    | nil=>intro _ a;simp
    | cons x s ih=>
      intro hd a;have hx:=hd x (by simp)
      have h1:=ih (fun y hy=>hd y (by simp [hy])) (valF a x)
      simp only [List.foldl_cons,List.length_cons,Nat.pow_succ];have h2:(valF a x+1)*10^s.length <= ((a+1)*10)*10^s.length:=Nat.mul_le_mul_right _ (by unfold valF;omega)
      have h3:(a+1)*10*10^s.length=(a+1)*(10^s.length*10):=by rw [Nat.mul_assoc,Nat.mul_comm 10]
      omega
  have:=this s h.2.1 0;simpa [val] using this
theorem Zbuh (s:List UInt8) (K:Tok->Bool->Prop) (hl:s.length <= 100000) (h1: ∀t,word s=some t->K t true) (h2:word s=none->∀t,K t false):Zyc s K:=by
  have hall:(s.all fun x=>Zel x||x==48)=s.all Zel:=by congr 1;funext x;revert x;exact Zkk (by decide+kernel)
  unfold Zyc;unfold word at h1 h2;refine fun _=>Zbnr s 48 _ (by omega) fun _=>?_
  rw [hall];refine IfB.intro (fun ha=>?_) (fun ha=>?_)
  . simp only [ha,if_true] at h1 h2;refine fun _=>Zob s 10 _ (by decide) (fun hc hq _=>ifT rfl ?_) (fun hc _=>ifF rfl (h2 (if_neg fun hA=>hc ?_) _))
    . by_cases hv:val s <= 4294967295
      . rw [decide_eq_true (by omega)]
        exact h1 _ (if_pos (Zge.2 ⟨hv,hc⟩))
      . rw [decide_eq_false (by omega)]
        exact h2 (if_neg fun hA=>hv (Zge.1 hA).1) _
    . have:=(Zvu (k:=9) (by decide)).1 hA
      exact ⟨this.1,this.2.1⟩
  simp only [ha,Bool.false_eq_true,if_false] at h1 h2;refine fun _=>Zbea s 47 _ (by omega) fun _=>IfB.intro (fun hb=>?_) (fun hb=>?_)
  . have hb:=of_decide_eq_true hb;rw [if_pos hb] at h1 h2;refine fun _=>Zcce s _ (by omega) (fun a n hp _=>?_) (fun hp _=>?_)
    rw [hp] at h1;refine Zblu (h1 _ rfl) ?_;simp only [Zvv];rw [hp] at h2;exact h2 rfl _
  have hb:=of_decide_eq_false hb;rw [if_neg hb] at h1 h2;refine fun _=>Zbea s 58 _ (by omega) fun _=>IfB.intro (fun hc=>?_) (fun hc=>?_)
  . have hc:=of_decide_eq_true hc;rw [if_pos hc] at h1 h2;refine fun _=>Zbev s 58 _ (by omega) fun _=>?_
    unfold comm at h1 h2;generalize spl 58 s=l at*;refine IfB.intro (fun h=>h2 ?_ _) (fun h=>?_);split;rename_i n hn;split at hn;simp at h;cases hn;rfl;have h2l:l.length=2:=by simp at h;omega
    match l,h2l with
    | [p,q],_=>
      dsimp only at h1 h2;refine ⟨by decide,by simp,AtN.of rfl fun _ _=>Zob p 5 _ (by decide) (fun hp hp5 _=>⟨by decide,by simp,AtN.of rfl fun _ _=>Zob q 5 _ (by decide) (fun hq hq5 _=>ifT rfl (ifT rfl ?_)) (fun hq _=>ifT rfl (ifF rfl (h2 ?_ _)))⟩) (fun hp _=>⟨by decide,by simp,AtN.of rfl fun _ _=>Zob q 5 _ (by decide) (fun hq hq5 _=>ifF rfl (h2 ?_ _)) (fun hq _=>ifF rfl (h2 ?_ _))⟩)⟩
      . have lp:=Zbpe hp;have lq:=Zbpe hq;have e5:(10:Nat)^5=100000:=rfl;have lp5:10^p.length <= 10^5:=Nat.pow_le_pow_right (by decide) hp5
        have lq5:10^q.length <= 10^5:=Nat.pow_le_pow_right (by decide) hq5
        rw [show (65536*((val p:Nat):Int))=((65536*val p:Nat):Int) by omega,Zix _ (by omega),← Int.natCast_add,Zix _ (by omega)]
        refine IfB.intro (fun hA=>?_) (fun hA=>h2 ?_ _)
        . have hA:val p <= 65535:=by simp at hA;omega
          by_cases hB:val q <= 65535
          . rw [decide_eq_true (by omega)]
            refine h1 _ ?_;rw [if_pos ⟨Zge.2 ⟨hA,hp⟩,Zge.2 ⟨hB,hq⟩⟩];rfl
          . rw [decide_eq_false (by omega)]
            refine h2 ?_ _;rw [if_neg fun h=>hB (Zge.1 h.2).1]
        rw [if_neg fun h=>?_];have:=(Zge.1 h.1).1;simp at hA;omega
      . rw [if_neg fun h=>?_];have:=(Zvu (k:=4) (by decide)).1 h.2
        exact hq ⟨this.1,this.2.1⟩
      . rw [if_neg fun h=>?_];have:=(Zvu (k:=4) (by decide)).1 h.1
        exact hp ⟨this.1,this.2.1⟩
      . rw [if_neg fun h=>?_];have:=(Zvu (k:=4) (by decide)).1 h.1
        exact hp ⟨this.1,this.2.1⟩
  have hc:=of_decide_eq_false hc;rw [if_neg hc] at h1 h2;refine fun _=>Zbnr s 46 _ (by omega) fun _=>IfB.intro (fun hd=>?_) (fun hd=>?_)
  . simp only [hd,if_true] at h1 h2;refine fun _=>Zbnu s _ (by omega) fun _=>?_
    have hlt:=Zbdr s;rw [Zix _ (by omega)]
    by_cases h0:(prs s).2=0;rw [h0];exact h1 _ (if_pos h0)
    . rw [show ((prs s).2==0)=false from beq_eq_false_iff_ne.2 h0]
      exact h2 (if_neg h0) _
  simp only [hd,Bool.false_eq_true,if_false] at h1 h2;cases s with
  | nil=>simp at ha
  | cons x r=>
    simp only [List.head?_cons,Option.any_some] at h1 h2;have hno: ¬(isLet x=true∧46∉(x::r)∧(x::r).length <= 32)->K (1,x::r,0,ofI .u32 0,0,0) false:=fun hn=>h2 (if_neg hn) _;refine ⟨by decide,AtN.of rfl fun _=>Zbnt x _ fun _=>IfB.intro (fun hx=>fun _=>Zbea _ 46 _ (by omega) fun _=>IfB.intro (fun h46=>?_) (fun h46=>hno fun hn=>?_)) (fun hx=>hno fun hn=>?_)⟩
    . have h46:46∉(x::r):=by simpa using h46
      by_cases h32:(x::r).length <= 32
      . rw [decide_eq_true (by omega)]
        exact h1 _ (if_pos ⟨hx,h46,h32⟩)
      . rw [decide_eq_false (by omega)]
        exact hno fun hn=>h32 hn.2.2
    rw [decide_eq_false hn.2.1] at h46;cases h46;rw [hn.1] at hx;cases hx
def Zcb (x:UInt8):Bool:=!(x==10)
def Zcdq (t:Tok) (line:Int):Tok:=(t.1,t.2.1,t.2.2.1,t.2.2.2.1,t.2.2.2.2.1,line)
abbrev LexR:=List Tok×Int×Int
def Zfe (l:List Tok) (line:Int) (k:List Tok->LexR) (t:Tok):LexR:=if l.length=4096 then ([],line,3) else k (l++[Zcdq t line])
def lexF:Nat->List UInt8->Int->List Tok->LexR
  | 0,_,line,_=>([],line,240)
  | _+1,[],_,l=>(l,0,0)
  | f+1,c::r,line,l=>
    if c=10 then lexF f r (line+1) l
    else if c=32∨c=9 then lexF f r line l
    else if c=35 then (if ((c::r).takeWhile Zcb).all Zef=true then lexF f (r.dropWhile Zcb) line l else ([],line,240))
    else if Zkw c=true then Zfe l line (lexF f r line) (6,[c],0,0,0,0)
    else if Zbx c=true then (match word ((c::r).takeWhile Zbx) with
      | some t=>Zfe l line (lexF f (r.dropWhile Zbx) line) t
      | none=>([],line,240))
    else ([],line,240)
theorem Zpl {p:UInt8->Bool}: ∀l:List UInt8,(l.dropWhile p).length <= l.length
  | []=>by simp
  | x::l=>by rw [List.dropWhile_cons];split;have:=Zpl (p:=p) l;simp;omega;exact Nat.le_refl _
theorem Zbkt: ∀(f:Nat) (s:List UInt8) (line:Int) (l:List Tok) (g:Nat),s.length<f->s.length<g->lexF f s line l=lexF g s line l:=by
  intro f;induction f with
  | zero=>intro s line l g h;omega
  | succ f ih=>
    intro s line l g hf hg;cases g with
    | zero=>omega
    | succ g=>
      cases s with
      | nil=>rfl
      | cons c r=>
        simp only [List.length_cons] at hf hg;have hr:=fun line l=>ih r line l g (by omega) (by omega)
        have hd:=fun (p:UInt8->Bool) line l=>ih (r.dropWhile p) line l g (by have:=Zpl (p:=p) r;omega) (by have:=Zpl (p:=p) r;omega)
        simp only [lexF,Zfe,hr,hd]
def lex (s:List UInt8) (line:Int) (l:List Tok):LexR:=lexF (s.length+1) s line l
theorem Zvm (line:Int) (l:List Tok):lex [] line l=(l,0,0):=rfl
theorem Zbcq (c:UInt8) (r:List UInt8) (line:Int) (l:List Tok):lex (c::r) line l=
    if c=10 then lex r (line+1) l
    else if c=32∨c=9 then lex r line l
    else if c=35 then (if ((c::r).takeWhile Zcb).all Zef=true then lex (r.dropWhile Zcb) line l else ([],line,240))
    else if Zkw c=true then Zfe l line (lex r line) (6,[c],0,0,0,0)
    else if Zbx c=true then (match word ((c::r).takeWhile Zbx) with
      | some t=>Zfe l line (lex (r.dropWhile Zbx) line) t
      | none=>([],line,240))
    else ([],line,240):=by
  have hr:=fun line l=>Zbkt (r.length+1) r line l (r.length+1) (by omega) (by omega)
  have hd:=fun (p:UInt8->Bool) line l=>Zbkt (r.length+1) (r.dropWhile p) line l ((r.dropWhile p).length+1) (by have:=Zpl (p:=p) r;omega) (by omega)
  simp only [lex,List.length_cons,lexF,Zfe,hd]
end Go.Proofs.YtlkdgfolbllngaaGreatDoor
end
section
namespace Go.Proofs.YtlkdgfolbllngaaGreatDoor
open Go.Sh
theorem Zlp {T:Type} {x0:T} {body:T->(T->Prop)->Prop} (I:Nat->T->Prop) (k0:Nat) (h0:I k0 x0) (hr: ∀k y,I k y->∀next:T->Prop,(∀k' y',k'<k->I k' y'->next y')->body y next):Zbr T x0 body:=
  ⟨I,k0,h0,fun k y h=>hr k y h _ fun k' y' hlt h'=>⟨k',hlt,h'⟩⟩
theorem drop_at {text:List UInt8} {j:Nat} {x:UInt8} {r:List UInt8} (h:text.drop j=x::r):text[j]? =some x∧text.drop (j+1)=r∧j<text.length:=by
  have h1:text[j]? =some x:=by
    have:(text.drop j)[0]? =some x:=by rw [h];rfl
    rwa [List.getElem?_drop] at this
  refine ⟨h1,?_,?_⟩;have:=congrArg (List.drop 1) h;rw [List.drop_drop] at this;exact this;rcases Nat.lt_or_ge j text.length with h2 | h2;exact h2;rw [List.getElem?_eq_none h2] at h1;cases h1
theorem Zmc (text:List UInt8) (j:Nat) (hj:j <= text.length):(j=text.length∧text.drop j= [])∨∃x r,text.drop j=x::r∧text[((j:Nat):Int).toNat]? =some x∧text.drop (j+1)=r∧j<text.length:=by
  cases h:text.drop j with
  | nil=>
    have:=congrArg List.length h;simp at this;exact .inl ⟨by omega,rfl⟩
  | cons x r=>
    obtain ⟨h1,h2,h3⟩:=drop_at h;exact .inr ⟨x,r,rfl,h1,h2,h3⟩
theorem eqI {x n:UInt8} {m:Int} (hm:(n.toNat:Int)=m):((x.toNat:Int)==m)=(x==n):=by subst hm;by_cases e:x=n;subst e;simp;rw [beq_eq_false_iff_ne.2 e];exact beq_eq_false_iff_ne.2 fun h=>e (UInt8.toNat_inj.1 (by omega))
theorem Ziv {x n:UInt8} {m:Int} (h:((x.toNat:Int)==m)=true) (hm:(n.toNat:Int)=m):x=n:=by rw [eqI hm] at h;exact eq_of_beq h
theorem Zrr {x n:UInt8} {m:Int} (h:((x.toNat:Int) !=m)=false) (hm:(n.toNat:Int)=m):x=n:=by refine Ziv (m:=m) ?_ hm;simpa using h
theorem take_drop_succ {text:List UInt8} {a e:Nat} {x:UInt8} (h:text[e]? =some x) (ha:a <= e):(text.take (e+1)).drop a=(text.take e).drop a++[x]:=by
  have hl:e<text.length:=(List.getElem?_eq_some_iff.1 h).1;rw [List.take_add_one,h];rw [List.drop_append_of_le_length (by rw [List.length_take];omega)]
  rfl
theorem Zbuc (text:List UInt8) (K:List Tok->Int->Int->Prop) (hk:text.length <= 65536->K (lex text 1 []).1 (lex text 1 []).2.1 (lex text 1 []).2.2) (hlong:65536<text.length->K [] 0 3):Zbfl text K:=by
  unfold Zbfl;refine IfB.intro (fun h=>hlong (by simp at h;omega)) (fun h=>?_)
  have hlen:text.length <= 65536:=by simp at h;omega
  replace hk:=hk hlen;generalize hR0:lex text 1 []=R at hk;refine Zlp (fun k y=>∃(l:List Tok) (line e c0:Int) (c1:List UInt8) (c2 c3 c4 c5:Int) (j:Nat),y=(l,(j:Int),line,e,c0,c1,c2,c3,c4,c5,())∧j <= text.length∧k=text.length - j∧l.length <= 4096∧1 <= line∧line <= j+1∧lex (text.drop j) line l=R) text.length ⟨[],1,0,0,[],0,0,0,0,0,rfl,by omega,by omega,by simp,by decide,by decide,hR0⟩ ?_
  rintro k y ⟨l,line,e,c0,c1,c2,c3,c4,c5,j,rfl,hj,rfl,hl,hl1,hl2,hR⟩ next hnx
  intro _;dsimp only [Zbpm];have go: ∀(l':List Tok) (line' e' d0:Int) (d1:List UInt8) (d2 d3 d4 d5:Int) (i:Nat),j<i->i <= text.length->l'.length <= 4096->1 <= line'->line' <= i+1->lex (text.drop i) line' l'=R->next (l',(i:Int),line',e',d0,d1,d2,d3,d4,d5,()):=by intro l' line' e' d0 d1 d2 d3 d4 d5 i h1 h2 h3 h4 h5 h6;exact hnx (text.length - i) _ (by omega) ⟨l',line',e',d0,d1,d2,d3,d4,d5,i,rfl,h2,rfl,h3,h4,h5,h6⟩
  have w1: ∀i:Nat,i<text.length->IntKind.wrap .i64 ((i:Int)+1)=((i+1:Nat):Int):=fun i hi=>by rw [Zdy (by omega) (by omega)];omega
  rcases Zmc text j hj with ⟨he,hd⟩ | ⟨c,r,hd,hat,hdr,hlt⟩
  . refine ifT (by simp [he]) ?_
    rw [hd,Zvm] at hR;subst hR;exact hk
  refine ifF (by simp;omega) ⟨by omega,AtN.of hat ?_⟩
  rw [hd,Zbcq] at hR;refine IfB.intro (fun h10=>?_) (fun h10=>?_)
  . have h10:c=10:=Ziv h10 rfl;rw [if_pos h10] at hR;rw [w1 j hlt,Zdy (n:=line+1) (by omega) (by omega)]
    exact go l (line+1) e c0 c1 c2 c3 c4 c5 (j+1) (by omega) (by omega) hl (by omega) (by omega) (by rw [hdr];exact hR)
  have h10:c≠10:=fun e=>by subst e;simp at h10
  rw [if_neg h10] at hR;have blank:(c=32∨c=9)->next (l,(IntKind.wrap .i64 ((j:Int)+1)),line,e,c0,c1,c2,c3,c4,c5,()):=fun hb=>by rw [if_pos hb] at hR;rw [w1 j hlt];exact go _ _ _ _ _ _ _ _ _ (j+1) (by omega) (by omega) hl (by omega) (by omega) (by rw [hdr];exact hR)
  refine IfB.intro (fun h32=>?_) (fun h32=>?_);exact ifT rfl (blank (.inl (Ziv h32 rfl)));have h32:c≠32:=fun e=>by subst e;simp at h32
  unfold Zbfj;refine IfB.intro (fun h9=>?_) (fun h9=>?_);exact blank (.inr (Ziv h9 rfl));have h9:c≠9:=fun e=>by subst e;simp at h9
  rw [if_neg (by rintro (h | h);exact h32 h;exact h9 h)] at hR
  refine IfB.intro (fun h35=>?_) (fun h35=>?_)
  ·
    have h35:c=35:=Ziv h35 rfl;rw [if_pos h35] at hR;have hcn:Zcb c=true:=by rw [h35];rfl
    have hdw:r.dropWhile Zcb=(text.drop j).dropWhile Zcb:=by rw [hd,List.dropWhile_cons,if_pos hcn]
    rw [hdw,← hd] at hR;refine Zlp (fun k' y'=>∃i:Nat,y'=((i:Int),())∧j <= i∧i <= text.length∧k'=text.length - i∧(text.drop i).dropWhile Zcb=(text.drop j).dropWhile Zcb∧((text.drop i).takeWhile Zcb).all Zef=((text.drop j).takeWhile Zcb).all Zef) (text.length - j) ⟨j,rfl,by omega,hj,rfl,rfl,rfl⟩ ?_
    rintro k' y' ⟨i,rfl,hi1,hi2,rfl,hi3,hi4⟩ nx hx0;intro _;dsimp only [Zbpl];have leave:(text.drop i).takeWhile Zcb= []->(text.drop i).dropWhile Zcb=text.drop i->next (l,(i:Int),line,e,c0,c1,c2,c3,c4,c5,()):=fun h1 h2=>by
      rw [← hi4,h1,← hi3,h2] at hR;simp only [List.all_nil,if_true] at hR;refine go _ _ _ _ _ _ _ _ _ i ?_ hi2 hl hl1 (by omega) hR
      rcases Nat.lt_or_ge j i with h | h;exact h
      . obtain rfl:i=j:=by omega
        rw [hd,List.takeWhile_cons,if_pos hcn] at h1;cases h1
    rcases Zmc text i hi2 with ⟨he,hdi⟩ | ⟨x,u,hdi,hxi,hui,hilt⟩
    . refine ifF (decide_eq_false (by omega)) ?_
      exact ifF rfl (leave (by rw [hdi];rfl) (by rw [hdi];rfl))
    . refine ifT (decide_eq_true (by omega)) ⟨by omega,AtN.of hxi ?_⟩
      unfold Zbfk;refine IfB.intro (fun hx=>?_) (fun hx=>leave ?_ ?_)
      . have hx:x≠10:=fun e=>by subst e;simp at hx
        have hxn:Zcb x=true:=by unfold Zcb;rw [beq_eq_false_iff_ne.2 hx];rfl
        refine ⟨by omega,AtN.of hxi fun _=>Zbze x _ fun _=>IfB.intro (fun hm=>?_) (fun hm=>?_)⟩
        . have hm:Zef x=false:=by simpa using hm
          have:((text.drop j).takeWhile Zcb).all Zef=false:=by rw [← hi4,hdi,List.takeWhile_cons,if_pos hxn,List.all_cons,hm,Bool.false_and]
          rw [this] at hR;unfold Zxd;subst hR;exact hk
        . have hm:Zef x=true:=by simpa using hm
          rw [w1 i hilt];refine hx0 (text.length - (i+1)) _ (by omega) ⟨i+1,rfl,by omega,by omega,rfl,?_,?_⟩
          rw [hui,← hi3,hdi,List.dropWhile_cons,if_pos hxn];rw [hui,← hi4,hdi,List.takeWhile_cons,if_pos hxn,List.all_cons,hm,Bool.true_and]
      have hx:x=10:=Zrr hx rfl;rw [hdi,hx];rfl;have hx:x=10:=Zrr hx rfl;rw [hdi,hx];rfl
  have h35:c≠35:=fun e=>by subst e;simp at h35
  rw [if_neg h35] at hR;intro _;unfold Zib;intro _;rw [Zcdt];have push: ∀(t:Tok) (i:Nat),j<i->i <= text.length->Zfe l line (lex (text.drop i) line) t=R->∀(e':Int) (d1:Unit),IfB (((l.length:Int):Int)==4096) (K [] line 3) (l.length+([(t.1,t.2.1,t.2.2.1,t.2.2.2.1,t.2.2.2.2.1,line)]:List Tok).length <= 2513169434820∧∀d0 d1 d2 d3 d4 d5,next (l++[(t.1,t.2.1,t.2.2.1,t.2.2.2.1,t.2.2.2.2.1,line)],(i:Int),line,e',d0,d1,d2,d3,d4,d5,())):=by
    intro t i h1 h2 h3 e' _;unfold Zfe at h3;refine IfB.intro (fun h=>?_) (fun h=>⟨?_,fun d0 d1 d2 d3 d4 d5=>?_⟩)
    . rw [if_pos (by simp at h;omega)] at h3
      subst h3;exact hk
    simp only [List.length_singleton];omega
    . rw [if_neg (by simp at h;omega)] at h3
      refine go _ _ _ _ _ _ _ _ _ i h1 h2 ?_ hl1 (by omega) h3
      rw [List.length_append,List.length_singleton];simp at h;omega
  refine IfB.intro (fun hs=>?_) (fun hs=>?_)
  . rw [if_pos hs,← hdr] at hR;rw [w1 j hlt];refine ⟨by omega,by omega,by omega,by omega,?_⟩
    unfold Zll Zrv;have ew:(text.take (((j+1:Nat):Int).toNat)).drop ((j:Int).toNat)= [c]:=by
      rw [Int.toNat_natCast,Int.toNat_natCast,take_drop_succ (by simpa using hat) (Nat.le_refl _)]
      simp
    rw [ew];refine ifF rfl ((push _ (j+1) (by omega) (by omega) hR _ ()).mono (fun h=>h) fun h=>⟨h.1,h.2 _ _ _ _ _ _⟩)
  rw [if_neg (by rw [hs];decide)] at hR
  refine fun _=>Zbmg c _ fun _=>IfB.intro (fun hp=>?_) (fun hp=>?_)
  . rw [if_pos hp] at hR;have hdw:r.dropWhile Zbx=(text.drop j).dropWhile Zbx:=by rw [hd,List.dropWhile_cons,if_pos hp]
    rw [hdw,← hd] at hR;refine Zlp (fun k' y'=>∃i:Nat,y'=((i:Int),())∧j <= i∧i <= text.length∧k'=text.length - i∧(text.drop i).dropWhile Zbx=(text.drop j).dropWhile Zbx∧(text.take i).drop j++(text.drop i).takeWhile Zbx=(text.drop j).takeWhile Zbx) (text.length - j) ⟨j,rfl,by omega,hj,rfl,rfl,by simp⟩ ?_
    rintro k' y' ⟨i,rfl,hi1,hi2,rfl,hi3,hi4⟩ nx hx0;intro _;dsimp only [Zbpn];have leave:(text.drop i).takeWhile Zbx= []->(text.drop i).dropWhile Zbx=text.drop i->Zrw text l c0 c1 c2 c3 c4 c5 (j:Int) line (i:Int) next nx false K:=fun h1 h2=>by
      rw [h1,List.append_nil] at hi4;rw [← hi4,← hi3,h2] at hR;have hji:j<i:=by
        rcases Nat.lt_or_ge j i with h | h;exact h
        . obtain rfl:i=j:=by omega
          rw [hd,List.takeWhile_cons,if_pos hp] at h1;cases h1
      unfold Zrw;refine ifF rfl ⟨by omega,by omega,by omega,by omega,?_⟩
      rw [Int.toNat_natCast,Int.toNat_natCast];generalize (text.take i).drop j=w at hR hi4 ⊢;have hwl:w.length <= 100000:=by rw [hi4];have:=(List.takeWhile_sublist (l:=text.drop j) Zbx).length_le;simp at this;omega
      refine fun _=>Zcbw w _ hwl (fun t ht _=>?_) (fun hw t _=>?_);rw [ht] at hR;unfold Zll Zrv;refine ifF rfl ?_;simp only [Zvv];exact (push t i hji hi2 hR _ ()).mono (fun h=>h) fun h=>⟨h.1,h.2 _ _ _ _ _ _⟩;rw [hw] at hR;unfold Zll Zrv Zxd;subst hR;exact ifT rfl hk
    rcases Zmc text i hi2 with ⟨he,hdi⟩ | ⟨x,u,hdi,hxi,hui,hilt⟩
    . refine ifF (decide_eq_false (by omega)) ?_
      exact leave (by rw [hdi];rfl) (by rw [hdi];rfl)
    . refine ifT (decide_eq_true (by omega)) ⟨by omega,AtN.of hxi fun _=>Zbmg x _ fun _=>?_⟩
      cases hx:Zbx x with
      | false=>exact leave (by rw [hdi,List.takeWhile_cons,hx];rfl) (by rw [hdi,List.dropWhile_cons,hx];rfl)
      | true=>
        unfold Zrw;refine ifT rfl ?_;rw [w1 i hilt];refine hx0 (text.length - (i+1)) _ (by omega) ⟨i+1,rfl,by omega,by omega,rfl,?_,?_⟩
        rw [hui,← hi3,hdi,List.dropWhile_cons,if_pos hx]
        . rw [hui,take_drop_succ (by simpa using hxi) hi1,← hi4,hdi,List.takeWhile_cons,if_pos hx]
          simp
  . rw [if_neg (by rw [hp];decide)] at hR
    unfold Zll Zrv;subst hR;exact ifT rfl hk
end Go.Proofs.YtlkdgfolbllngaaGreatDoor
end
section
namespace Go.Proofs.YtlkdgfolbllngaaGreatDoor
open Go.Sh
theorem Zcby (text:List UInt8) (K:List Tok->Int->Int->Prop) (hk:text.length <= 65536->K (lex text 1 []).1 (lex text 1 []).2.1 (lex text 1 []).2.2) (hlong:65536<text.length->K [] 0 3):Zbft text K:=by
  unfold Zbft;refine IfB.intro (fun h=>hlong (by simp at h;omega)) (fun h=>?_)
  have hlen:text.length <= 65536:=by simp at h;omega
  replace hk:=hk hlen;generalize hR0:lex text 1 []=R at hk;refine Zlp (fun k y=>∃(l:List Tok) (line:Int) (j:Nat),y=(l,line,(j:Int),())∧j <= text.length∧k=text.length - j∧l.length <= 4096∧1 <= line∧line <= j+1∧lex (text.drop j) line l=R) text.length ⟨[],1,0,rfl,by omega,by omega,by simp,by decide,by decide,hR0⟩ ?_
  rintro k y ⟨l,line,j,rfl,hj,rfl,hl,hl1,hl2,hR⟩ next hnx
  intro _;dsimp only [Zbqo];have go: ∀(l':List Tok) (line':Int) (i:Nat),j<i->i <= text.length->l'.length <= 4096->1 <= line'->line' <= i+1->lex (text.drop i) line' l'=R->next (l',line',(i:Int),()):=by intro l' line' i h1 h2 h3 h4 h5 h6;exact hnx (text.length - i) _ (by omega) ⟨l',line',i,rfl,h2,rfl,h3,h4,h5,h6⟩
  have w1: ∀i:Nat,i<text.length->IntKind.wrap .i64 ((i:Int)+1)=((i+1:Nat):Int):=fun i hi=>by rw [Zdy (by omega) (by omega)];omega
  rcases Zmc text j hj with ⟨he,hd⟩ | ⟨c,r,hd,hat,hdr,hlt⟩
  . refine ifF (decide_eq_false (by omega)) ?_
    rw [hd,Zvm] at hR;subst hR;exact hk
  refine ifT (decide_eq_true (by omega)) ⟨by omega,AtN.of hat ?_⟩
  rw [hd,Zbcq] at hR;refine IfB.intro (fun h10=>?_) (fun h10=>?_)
  . have h10:c=10:=Ziv h10 rfl;rw [if_pos h10] at hR;rw [w1 j hlt,Zdy (n:=line+1) (by omega) (by omega)]
    exact go l (line+1) (j+1) (by omega) (by omega) hl (by omega) (by omega) (by rw [hdr];exact hR)
  have h10:c≠10:=fun e=>by subst e;simp at h10
  rw [if_neg h10] at hR;have blank:(c=32∨c=9)->next (l,line,(IntKind.wrap .i64 ((j:Int)+1)),()):=fun hb=>by rw [if_pos hb] at hR;rw [w1 j hlt];exact go _ _ (j+1) (by omega) (by omega) hl (by omega) (by omega) (by rw [hdr];exact hR)
  refine IfB.intro (fun h32=>?_) (fun h32=>?_);exact ifT rfl (blank (.inl (Ziv h32 rfl)));have h32:c≠32:=fun e=>by subst e;simp at h32
  unfold Zbfq;refine IfB.intro (fun h9=>?_) (fun h9=>?_);exact blank (.inr (Ziv h9 rfl));have h9:c≠9:=fun e=>by subst e;simp at h9
  rw [if_neg (by rintro (h | h);exact h32 h;exact h9 h)] at hR
  refine IfB.intro (fun h35=>?_) (fun h35=>?_)
  ·
    have h35:c=35:=Ziv h35 rfl;rw [if_pos h35] at hR;have hcn:Zcb c=true:=by rw [h35];rfl
    have hdw:r.dropWhile Zcb=(text.drop j).dropWhile Zcb:=by rw [hd,List.dropWhile_cons,if_pos hcn]
    rw [hdw,← hd] at hR;refine Zlp (fun k' y'=>∃i:Nat,y'=((i:Int),())∧j <= i∧i <= text.length∧k'=text.length - i∧(text.drop i).dropWhile Zcb=(text.drop j).dropWhile Zcb∧((text.drop i).takeWhile Zcb).all Zef=((text.drop j).takeWhile Zcb).all Zef) (text.length - j) ⟨j,rfl,by omega,hj,rfl,rfl,rfl⟩ ?_
    rintro k' y' ⟨i,rfl,hi1,hi2,rfl,hi3,hi4⟩ nx hx0;intro _;dsimp only [Zbqm];have leave:(text.drop i).takeWhile Zcb= []->(text.drop i).dropWhile Zcb=text.drop i->next (l,line,(i:Int),()):=fun h1 h2=>by
      rw [← hi4,h1,← hi3,h2] at hR;simp only [List.all_nil,if_true] at hR;refine go _ _ i ?_ hi2 hl hl1 (by omega) hR
      rcases Nat.lt_or_ge j i with h | h;exact h
      . obtain rfl:i=j:=by omega
        rw [hd,List.takeWhile_cons,if_pos hcn] at h1;cases h1
    rcases Zmc text i hi2 with ⟨he,hdi⟩ | ⟨x,u,hdi,hxi,hui,hilt⟩
    . refine ifF (decide_eq_false (by omega)) ?_
      exact ifF rfl (leave (by rw [hdi];rfl) (by rw [hdi];rfl))
    . refine ifT (decide_eq_true (by omega)) ⟨by omega,AtN.of hxi ?_⟩
      unfold Zbfr;refine IfB.intro (fun hx=>?_) (fun hx=>leave ?_ ?_)
      . have hx:x≠10:=fun e=>by subst e;simp at hx
        have hxn:Zcb x=true:=by unfold Zcb;rw [beq_eq_false_iff_ne.2 hx];rfl
        have bad:Zef x=false->K [] line 240:=fun hm=>by
          have:((text.drop j).takeWhile Zcb).all Zef=false:=by rw [← hi4,hdi,List.takeWhile_cons,if_pos hxn,List.all_cons,hm,Bool.false_and]
          rw [this] at hR;subst hR;exact hk
        have good:Zef x=true->Zbfs text l line (i:Int) next nx K:=fun hm=>by
          unfold Zbfs;rw [w1 i hilt];refine hx0 (text.length - (i+1)) _ (by omega) ⟨i+1,rfl,by omega,by omega,rfl,?_,?_⟩
          rw [hui,← hi3,hdi,List.dropWhile_cons,if_pos hxn];rw [hui,← hi4,hdi,List.takeWhile_cons,if_pos hxn,List.all_cons,hm,Bool.true_and]
        have nine: ¬(32 <= x.toNat∧x.toNat <= 126)->Zoq text l line (i:Int) next nx (((x.toNat:Int):Int) !=9) K:=fun hno=>by
          have hm:Zef x=(x==9):=by
            unfold Zef
            have:(decide (32 <= x.toNat)&&decide (x.toNat <= 126))=false:=by
              by_cases h1:32 <= x.toNat;rw [decide_eq_false (show ¬x.toNat <= 126 from fun h2=>hno ⟨h1,h2⟩),Bool.and_false]
              rw [decide_eq_false h1,Bool.false_and]
            rw [this,Bool.false_or]
          unfold Zoq;refine IfB.intro (fun h=>bad ?_) (fun h=>good ?_);rw [hm];refine beq_eq_false_iff_ne.2 fun e=>?_;subst e;simp at h;rw [hm,Zrr (n:=9) h rfl];rfl
        refine ⟨by omega,AtN.of hxi (IfB.intro (fun h1=>⟨by omega,AtN.of hxi (nine ?_)⟩) (fun h1=>⟨by omega,AtN.of hxi (IfB.intro (fun h2=>⟨by omega,AtN.of hxi (nine ?_)⟩) (fun h2=>?_))⟩))⟩
        simp at h1;omega;simp at h2;omega
        . unfold Zoq;refine ifF rfl (good ?_);simp at h1 h2;unfold Zef;rw [decide_eq_true (show 32 <= x.toNat by omega),decide_eq_true (show x.toNat <= 126 by omega)];rfl
      have hx:x=10:=Zrr hx rfl;rw [hdi,hx];rfl;have hx:x=10:=Zrr hx rfl;rw [hdi,hx];rfl
  have h35:c≠35:=fun e=>by subst e;simp at h35
  rw [if_neg h35] at hR
  have push: ∀(t:Tok) (i:Nat),j<i->i <= text.length->Zfe l line (lex (text.drop i) line) t=R->IfB (decide (((l.length:Int):Int)≥4096)) (K [] line 3) (l.length+([(t.1,t.2.1,t.2.2.1,t.2.2.2.1,t.2.2.2.2.1,line)]:List Tok).length <= 2513169434820∧next (l++[(t.1,t.2.1,t.2.2.1,t.2.2.2.1,t.2.2.2.2.1,line)],line,(i:Int),())):=by
    intro t i h1 h2 h3;unfold Zfe at h3;refine IfB.intro (fun h=>?_) (fun h=>⟨?_,?_⟩)
    . rw [if_pos (by simp at h;omega)] at h3
      subst h3;exact hk
    simp only [List.length_singleton];omega
    . rw [if_neg (by simp at h;omega)] at h3
      refine go _ _ i h1 h2 ?_ hl1 (by omega) h3
      rw [List.length_append,List.length_singleton];simp at h;omega
  rw [w1 j hlt];have ew:(text.take (((j+1:Nat):Int).toNat)).drop ((j:Int).toNat)= [c]:=by
    rw [Int.toNat_natCast,Int.toNat_natCast,take_drop_succ (by simpa using hat) (Nat.le_refl _)]
    simp
  rw [ew];refine ⟨by omega,by omega,by omega,by omega,fun _=>Zccg c _ fun _=>IfB.intro (fun hs=>?_) (fun hs=>?_)⟩
  . have hs:Zkw c=false:=by simpa using hs
    rw [if_neg (by rw [hs];decide)] at hR
    have hR2:(match (text.drop j).takeWhile Zbx with
      | []=>([],line,240)
      | w=>(match word w with
        | some t=>Zfe l line (lex ((text.drop j).dropWhile Zbx) line) t
        | none=>([],line,240)))=R:=by
      rw [← hR,hd,List.takeWhile_cons,List.dropWhile_cons];cases hp:Zbx c with
      | true=>rfl
      | false=>rfl
    clear hR;refine Zlp (fun k' y'=>∃n:Nat,y'=((n:Int),())∧j+n <= text.length∧k'=text.length - (j+n)∧(text.drop (j+n)).dropWhile Zbx=(text.drop j).dropWhile Zbx∧(text.take (j+n)).drop j++(text.drop (j+n)).takeWhile Zbx=(text.drop j).takeWhile Zbx) (text.length - j) ⟨0,rfl,hj,rfl,rfl,by simp⟩ ?_
    rintro k' y' ⟨n,rfl,hi2,rfl,hi3,hi4⟩ nx hx0;intro _;dsimp only [Zbqn];have wn:IntKind.wrap .i64 ((j:Int)+(n:Int))=((j+n:Nat):Int):=by rw [Zdy (by omega) (by omega)];omega
    rw [wn];have leave:(text.drop (j+n)).takeWhile Zbx= []->(text.drop (j+n)).dropWhile Zbx=text.drop (j+n)->Zsl text l line (j:Int) (n:Int) next nx false K:=fun h1 h2=>by
      rw [h1,List.append_nil] at hi4;rw [← hi4,← hi3,h2] at hR2;unfold Zsl;have hwn:((text.take (j+n)).drop j).length=n:=by rw [List.length_drop,List.length_take];omega
      refine ifF rfl (IfB.intro (fun h0=>?_) (fun h0=>?_))
      . have h0:n=0:=by simp at h0;omega
        have:(text.take (j+n)).drop j= []:=List.eq_nil_of_length_eq_zero (by rw [hwn,h0])
        rw [this] at hR2;subst hR2;exact hk
      . have h0:0<n:=by simp at h0;omega
        rw [wn];refine ⟨by omega,by omega,by omega,by omega,?_⟩
        rw [Int.toNat_natCast,Int.toNat_natCast];generalize (text.take (j+n)).drop j=w at hR2 hi4 hwn ⊢;have hwl:w.length <= 100000:=by omega
        have hR3:(match word w with
          | some t=>Zfe l line (lex (text.drop (j+n)) line) t
          | none=>([],line,240))=R:=by
          cases w with
          | nil=>simp at hwn;omega
          | cons=>exact hR2
        refine fun _=>Zbuh w _ hwl (fun t ht _=>?_) (fun hw t _=>?_)
        . rw [ht] at hR3;refine ifF rfl ?_;unfold Zyo;simp only [Zvv];rw [Zdy (n:=(j:Int)+(n:Int)) (by omega) (by omega),show (j:Int)+(n:Int)=((j+n:Nat):Int) by omega]
          exact push t (j+n) (by omega) hi2 hR3
        rw [hw] at hR3;subst hR3;exact ifT rfl hk
    rcases Zmc text (j+n) hi2 with ⟨he,hdi⟩ | ⟨x,u,hdi,hxi,hui,hilt⟩
    . refine ifF (decide_eq_false (by omega)) ?_
      exact leave (by rw [hdi];rfl) (by rw [hdi];rfl)
    . refine ifT (decide_eq_true (by omega)) ⟨by omega,AtN.of hxi fun _=>Zccc x _ fun _=>?_⟩
      cases hx:Zbx x with
      | false=>exact leave (by rw [hdi,List.takeWhile_cons,hx];rfl) (by rw [hdi,List.dropWhile_cons,hx];rfl)
      | true=>
        unfold Zsl;refine ifT rfl ?_;rw [Zdy (n:=(n:Int)+1) (by omega) (by omega)]
        refine hx0 (text.length - (j+(n+1))) _ (by omega) ⟨n+1,by simp,by omega,rfl,?_,?_⟩
        rw [← Nat.add_assoc,hui,← hi3,hdi,List.dropWhile_cons,if_pos hx]
        . rw [← Nat.add_assoc,hui,take_drop_succ (by rw [Int.toNat_natCast] at hxi;exact hxi) (by omega),← hi4,hdi,List.takeWhile_cons,if_pos hx]
          simp
  . have hs:Zkw c=true:=by simpa using hs
    rw [if_pos hs,← hdr] at hR;unfold Zyo;rw [Zdy (n:=(j:Int)+1) (by omega) (by omega),show (j:Int)+1=((j+1:Nat):Int) by omega]
    exact push (6,[c],0,0,0,0) (j+1) (by omega) (by omega) hR
end Go.Proofs.YtlkdgfolbllngaaGreatDoor
end
