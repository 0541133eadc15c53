/-
  The document's parser over the heap:conditions.
-/
import Derived.Test.YtlkdgfolbllngaaGreatDoorGA
import Derived.Test.YtlkdgfolbllngaaGreatDoorBI
import Derived.Test.YtlkdgfolbllngaaGreatDoorEM
set_option linter.all false
section
set_option maxRecDepth 100000
namespace Go.Proofs.YtlkdgfolbllngaaGreatDoor
open Go.Sh Go.Pc
section
variable {T:TypeId} {F0 H0 F F' H H1 H':Heap} {pb d d':Nat} {l:List Tok} {σ σ' σ1 σ2:Except Nat Nat} {α β:Type}
theorem Zciu {one:Nat->Rs Cd} (hadv:Adv l one) (hf: ∀{F H:Heap} {σ:Except Nat Nat},Gr Zg F H pb l d σ->FnW Tryz.prog Zji ⟨[.pointer (some ⟨pb,0,none⟩)]⟩ H (CdR Zg F H pb l d σ one)) (h:Gr Zg F H pb l d σ):
    FnW Tryz.prog Zmj ⟨[.pointer (some ⟨pb,0,none⟩)]⟩ H (CdR Zg F H pb l d σ (Zey l one Zft 1)):=by
  refine Zbry pb ?_;unfold Zbgf;refine newB fun q H1 hq bq k1=>?_;have b1:=h.start.new k1;have t1:=h.start.tm hq bq;refine (hf b1.g).mono ?_;rintro _ H2 ⟨vs0,c0,rfl,F2,σ2,g2,n2,hc0,o2⟩;have b2:=b1.call g2 n2;have t2:=t1.call b1 n2;have hlim:=h.lim;obtain ⟨e0,e1,e2,e3,e4,e5,e6,rfl⟩:=hc0.five;refine ⟨_,_,_,_,_,_,_,rfl,newB fun r H3 hr br k3=>?_⟩;have b3:=b2.new k3;have t3:=t2.nil k3;have w3:Gw CdAt 5 Zj H F2 H3 (some ⟨r,0,none⟩) 1 1 [c0]:=Gw.one b2 hr br hc0 rfl;refine Zcy (fun m s Hx=>∃(a:Option Addr) (n cap:Nat) (Fx:Heap) (σx:Except Nat Nat) (cs:List Cd),s=((a,n,cap),())∧Bd Zg F H Fx Hx pb l d σx∧Tm H Fx Hx q Zj [.int .i64 0,.slice none 0 0,.int .u32 0,.int .i64 0,.int .i64 0]∧Gw CdAt 5 Zj H Fx Hx a n cap (c0::cs)∧a≠some ⟨q,0,none⟩∧
    n+m <= l.length+2∧(∀j,σx= .ok j->j <= l.length∧l.length+1 <= m+j)∧∀cs' σ',Oc (sB σx (Zde l one Zft m)) cs' σ'->Oc (sB σ (Zey l one Zft 1)) (Zhv 1 c0 (cs++cs')) σ') (l.length+1)
    ⟨_,_,_,F2,σ2,[],rfl,b3,t3,w3,fun e=>(by cases e;rw [t2.blk] at hr;cases hr),by omega,fun j hj=>?_,fun cs' σ' o=>?_⟩ ?_
  . subst hj;cases σ with
    | error e=>cases o2
    | ok i=>
      have o2:Oc (one i) c0 (.ok j):=o2;cases hone:one i with
      | error e=>rw [hone] at o2;cases o2
      | ok z=>
        obtain ⟨z,j'⟩:=z;rw [hone] at o2;obtain ⟨rfl,e⟩:=o2;cases e;have:=hadv _ _ _ hone;omega
  exact Zm o2 (Zm o Zbm);rintro m s Hx ⟨a,n,cap,Fx,σx,cs,rfl,bx,tx,wx,hax,hnm,hj,cont⟩ g;unfold Zbge;refine (Zhl bx.g Zft).mono ?_;rintro _ H4 ⟨rfl,F4,σ4,g4,n4,rfl,e4⟩;have b4:=bx.call g4 n4;have t4:=tx.call bx n4;have w4:=wx.call bx n4 fun v x h=>h;refine ⟨_,rfl,IfB.intro (fun e=>?_) fun e=>?_⟩
  ·
    rw [if_pos e] at e4;obtain ⟨j,rfl,ht⟩:=Zbf e;have e4:σ4= .ok (j+1):=e4;subst e4;have hjl:=Zgf ht;obtain ⟨_,hjm⟩:=hj j rfl;obtain ⟨m',rfl⟩: ∃m',m=m'+1:=⟨m - 1,by omega⟩
    refine (hf b4.g).mono ?_;rintro _ H5 ⟨vs5,c5,rfl,F5,σ5,g5,n5,hc5,o5⟩;have b5:=b4.call g5 n5;have t5:=t4.call b4 n5;have w5:=w4.call b4 n5 fun v x h=>h.grow n5.ff;have hc5':=hc5;obtain ⟨z0,z1,z2,z3,z4,z5,z6,rfl⟩:=hc5'.five
    refine ⟨_,_,_,_,_,_,_,rfl,(Zbdu w5 b5 hc5 (by omega) (K:=fun v H8=>∃(a:Option Addr) (n c:Nat),v= .slice a n c∧∃k',k'<m'+1∧∃(a':Option Addr) (n' cap':Nat) (Fx:Heap) (σx:Except Nat Nat) (cs:List Cd),(((a,n,c),()):(Option Addr×Nat×Nat)×Unit)=((a',n',cap'),())∧Bd Zg F H Fx H8 pb l d σx∧Tm H Fx H8 q Zj [.int .i64 0,.slice none 0 0,.int .u32 0,.int .i64 0,.int .i64 0]∧Gw CdAt 5 Zj H Fx H8 a' n' cap' (c0::cs)∧a'≠some ⟨q,0,none⟩∧
      n'+k' <= l.length+2∧(∀j,σx= .ok j->j <= l.length∧l.length+1 <= k'+j)∧∀cs' σ',Oc (sB σx (Zde l one Zft k')) cs' σ'->Oc (sB σ (Zey l one Zft 1)) (Zhv 1 c0 (cs++cs')) σ') fun a' cap' H8 b8 w8 old8 k8=>⟨_,_,_,rfl,m',by omega,a',n+1,cap',F5,σ5,cs++[c5],rfl,b8,⟨t5.new,t5.nf,k8.blk t5.blk hax⟩,w8,?_,by omega,fun j' hj'=>?_,fun cs' σ' o=>?_⟩)⟩
    intro e;rcases old8 q e with e | e;exact hax e;exact t5.blk.some e
    . subst hj';have o5:Oc (one (j+1)) c5 (.ok j'):=o5;cases hone:one (j+1) with
      | error e=>rw [hone] at o5;cases o5
      | ok z=>
        obtain ⟨z,j''⟩:=z;rw [hone] at o5;obtain ⟨rfl,e⟩:=o5;cases e;have:=hadv _ _ _ hone;omega
    rw [List.append_assoc];refine cont (c5::cs') σ' ?_;show Oc (Zde l one Zft (m'+1) j) _ _;unfold Zde;rw [if_pos ht];exact Zbi (r:=one (j+1)) o5 (Zm o Zbm)
  ·
    rw [if_neg (by rw [e];decide)] at e4
    subst e4;have fin:Oc (sB σ (Zey l one Zft 1)) (Zhv 1 c0 cs) σ4:=by
      have:=cont [] σ4 ?_;rwa [List.append_nil] at this
      . cases σ4 with
        | error e=>rfl
        | ok j=>
          obtain ⟨h1,h2⟩:=hj j rfl;obtain ⟨m',rfl⟩: ∃m',m=m'+1:=⟨m - 1,by omega⟩
          have e:isT l Zft j=false:=e;show Oc (Zde l one Zft (m'+1) j) _ _;unfold Zde;rw [e];exact ⟨rfl,rfl⟩
    have hlen:=w4.len;simp only [List.length_cons] at hlen;refine IfB.intro (fun e1=>?_) fun e1=>?_
    . have e1:(n:Int)=1:=by simpa using e1
      have hcs:cs= []:=List.eq_nil_of_length_eq_zero (by omega)
      subst hcs;obtain ⟨v,hv,hat⟩:=w4.first;obtain ⟨z0,z1,z2,z3,z4,z5,z6,rfl⟩:=hv.five;exact hat rfl _ fun b o hc=>ld5c hc (ret5 b4 t4 hv fin)
    . have e1: ¬(n:Int)=1:=by simpa using e1
      obtain ⟨F9,b9,k9,r9,nf9⟩:=w4.done b4 fun F' k v x h=>h.grow k;have t9:Tm H F9 H4 q Zj [.int .i64 0,.slice none 0 0,.int .u32 0,.int .i64 0,.int .i64 0]:=⟨t4.new,nf9 q t4.nf hax,t4.blk⟩;cases cs with
      | nil=>simp only [List.length_nil] at hlen;omega
      | cons d0 cs=>
        have hc:=CdAt.row (op:=1) r9;rw [show (c0::d0::cs).length=n by simp only [List.length_cons] at hlen ⊢;omega] at hc
        exact ret5 b9 t9 hc fin
theorem Zcic {one:Nat->Rs Cd} (hadv:Adv l one) (hf: ∀{F H:Heap} {σ:Except Nat Nat},Gr Zg F H pb l d σ->FnW Tryz.prog Zmj ⟨[.pointer (some ⟨pb,0,none⟩)]⟩ H (CdR Zg F H pb l d σ one)) (h:Gr Zg F H pb l d σ):
    FnW Tryz.prog Zjh ⟨[.pointer (some ⟨pb,0,none⟩)]⟩ H (CdR Zg F H pb l d σ (Zey l one w_or 2)):=by
  refine Zbrc pb ?_;unfold Zbfz;refine newB fun q H1 hq bq k1=>?_;have b1:=h.start.new k1;have t1:=h.start.tm hq bq;refine (hf b1.g).mono ?_;rintro _ H2 ⟨vs0,c0,rfl,F2,σ2,g2,n2,hc0,o2⟩;have b2:=b1.call g2 n2;have t2:=t1.call b1 n2;have hlim:=h.lim;obtain ⟨e0,e1,e2,e3,e4,e5,e6,rfl⟩:=hc0.five;refine ⟨_,_,_,_,_,_,_,rfl,newB fun r H3 hr br k3=>?_⟩;have b3:=b2.new k3;have t3:=t2.nil k3;have w3:Gw CdAt 5 Zj H F2 H3 (some ⟨r,0,none⟩) 1 1 [c0]:=Gw.one b2 hr br hc0 rfl;refine Zcy (fun m s Hx=>∃(a:Option Addr) (n cap:Nat) (Fx:Heap) (σx:Except Nat Nat) (cs:List Cd),s=((a,n,cap),())∧Bd Zg F H Fx Hx pb l d σx∧Tm H Fx Hx q Zj [.int .i64 0,.slice none 0 0,.int .u32 0,.int .i64 0,.int .i64 0]∧Gw CdAt 5 Zj H Fx Hx a n cap (c0::cs)∧a≠some ⟨q,0,none⟩∧
    n+m <= l.length+2∧(∀j,σx= .ok j->j <= l.length∧l.length+1 <= m+j)∧∀cs' σ',Oc (sB σx (Zde l one w_or m)) cs' σ'->Oc (sB σ (Zey l one w_or 2)) (Zhv 2 c0 (cs++cs')) σ') (l.length+1)
    ⟨_,_,_,F2,σ2,[],rfl,b3,t3,w3,fun e=>(by cases e;rw [t2.blk] at hr;cases hr),by omega,fun j hj=>?_,fun cs' σ' o=>?_⟩ ?_
  . subst hj;cases σ with
    | error e=>cases o2
    | ok i=>
      have o2:Oc (one i) c0 (.ok j):=o2;cases hone:one i with
      | error e=>rw [hone] at o2;cases o2
      | ok z=>
        obtain ⟨z,j'⟩:=z;rw [hone] at o2;obtain ⟨rfl,e⟩:=o2;cases e;have:=hadv _ _ _ hone;omega
  exact Zm o2 (Zm o Zbm);rintro m s Hx ⟨a,n,cap,Fx,σx,cs,rfl,bx,tx,wx,hax,hnm,hj,cont⟩ g;unfold Zbfy;refine (Zhl bx.g w_or).mono ?_;rintro _ H4 ⟨rfl,F4,σ4,g4,n4,rfl,e4⟩;have b4:=bx.call g4 n4;have t4:=tx.call bx n4;have w4:=wx.call bx n4 fun v x h=>h;refine ⟨_,rfl,IfB.intro (fun e=>?_) fun e=>?_⟩
  ·
    rw [if_pos e] at e4;obtain ⟨j,rfl,ht⟩:=Zbf e;have e4:σ4= .ok (j+1):=e4;subst e4;have hjl:=Zgf ht;obtain ⟨_,hjm⟩:=hj j rfl;obtain ⟨m',rfl⟩: ∃m',m=m'+1:=⟨m - 1,by omega⟩
    refine (hf b4.g).mono ?_;rintro _ H5 ⟨vs5,c5,rfl,F5,σ5,g5,n5,hc5,o5⟩;have b5:=b4.call g5 n5;have t5:=t4.call b4 n5;have w5:=w4.call b4 n5 fun v x h=>h.grow n5.ff;have hc5':=hc5;obtain ⟨z0,z1,z2,z3,z4,z5,z6,rfl⟩:=hc5'.five
    refine ⟨_,_,_,_,_,_,_,rfl,(Zbdu w5 b5 hc5 (by omega) (K:=fun v H8=>∃(a:Option Addr) (n c:Nat),v= .slice a n c∧∃k',k'<m'+1∧∃(a':Option Addr) (n' cap':Nat) (Fx:Heap) (σx:Except Nat Nat) (cs:List Cd),(((a,n,c),()):(Option Addr×Nat×Nat)×Unit)=((a',n',cap'),())∧Bd Zg F H Fx H8 pb l d σx∧Tm H Fx H8 q Zj [.int .i64 0,.slice none 0 0,.int .u32 0,.int .i64 0,.int .i64 0]∧Gw CdAt 5 Zj H Fx H8 a' n' cap' (c0::cs)∧a'≠some ⟨q,0,none⟩∧
      n'+k' <= l.length+2∧(∀j,σx= .ok j->j <= l.length∧l.length+1 <= k'+j)∧∀cs' σ',Oc (sB σx (Zde l one w_or k')) cs' σ'->Oc (sB σ (Zey l one w_or 2)) (Zhv 2 c0 (cs++cs')) σ') fun a' cap' H8 b8 w8 old8 k8=>⟨_,_,_,rfl,m',by omega,a',n+1,cap',F5,σ5,cs++[c5],rfl,b8,⟨t5.new,t5.nf,k8.blk t5.blk hax⟩,w8,?_,by omega,fun j' hj'=>?_,fun cs' σ' o=>?_⟩)⟩
    intro e;rcases old8 q e with e | e;exact hax e;exact t5.blk.some e
    . subst hj';have o5:Oc (one (j+1)) c5 (.ok j'):=o5;cases hone:one (j+1) with
      | error e=>rw [hone] at o5;cases o5
      | ok z=>
        obtain ⟨z,j''⟩:=z;rw [hone] at o5;obtain ⟨rfl,e⟩:=o5;cases e;have:=hadv _ _ _ hone;omega
    rw [List.append_assoc];refine cont (c5::cs') σ' ?_;show Oc (Zde l one w_or (m'+1) j) _ _;unfold Zde;rw [if_pos ht];exact Zbi (r:=one (j+1)) o5 (Zm o Zbm)
  ·
    rw [if_neg (by rw [e];decide)] at e4
    subst e4;have fin:Oc (sB σ (Zey l one w_or 2)) (Zhv 2 c0 cs) σ4:=by
      have:=cont [] σ4 ?_;rwa [List.append_nil] at this
      . cases σ4 with
        | error e=>rfl
        | ok j=>
          obtain ⟨h1,h2⟩:=hj j rfl;obtain ⟨m',rfl⟩: ∃m',m=m'+1:=⟨m - 1,by omega⟩
          have e:isT l w_or j=false:=e;show Oc (Zde l one w_or (m'+1) j) _ _;unfold Zde;rw [e];exact ⟨rfl,rfl⟩
    have hlen:=w4.len;simp only [List.length_cons] at hlen;refine IfB.intro (fun e1=>?_) fun e1=>?_
    . have e1:(n:Int)=1:=by simpa using e1
      have hcs:cs= []:=List.eq_nil_of_length_eq_zero (by omega)
      subst hcs;obtain ⟨v,hv,hat⟩:=w4.first;obtain ⟨z0,z1,z2,z3,z4,z5,z6,rfl⟩:=hv.five;exact hat rfl _ fun b o hc=>ld5c hc (ret5 b4 t4 hv fin)
    . have e1: ¬(n:Int)=1:=by simpa using e1
      obtain ⟨F9,b9,k9,r9,nf9⟩:=w4.done b4 fun F' k v x h=>h.grow k;have t9:Tm H F9 H4 q Zj [.int .i64 0,.slice none 0 0,.int .u32 0,.int .i64 0,.int .i64 0]:=⟨t4.new,nf9 q t4.nf hax,t4.blk⟩;cases cs with
      | nil=>simp only [List.length_nil] at hlen;omega
      | cons d0 cs=>
        have hc:=CdAt.row (op:=2) r9;rw [show (c0::d0::cs).length=n by simp only [List.length_cons] at hlen ⊢;omega] at hc
        exact ret5 b9 t9 hc fin
theorem Zbgl (h:Gr Zg F H pb l d σ) (op k:Int):FnW Tryz.prog Zqc ⟨[.pointer (some ⟨pb,0,none⟩),.int .i64 op,.int .i64 k]⟩ H (CdR Zg F H pb l d σ (Zga l op k)):=by refine Zcjo pb op k ?_;unfold Zbsu;refine newB fun q H1 hq bq k1=>?_;have b1:=h.start.new k1;refine (Zdz b1.g k).mono ?_;rintro _ H2 ⟨t,rfl,F2,σ2,g2,n2,rfl,o2⟩;refine ⟨_,_,_,_,_,_,rfl,ret5 (b1.call g2 n2) ((h.start.tm hq bq).call b1 n2) (CdAt.leaf op 0 0 t.2.2.1) ?_⟩;exact Zgi (S:=numS l k) (f:=fun n=>Cd.mk op [] 0 0 n) (Zgi (S:=tokS l k) (f:=fun t:Tok=>t.2.2.1) o2)
theorem Zbeb {q:Nat} {v0 v1 v2 v3 v4:Value} {S:Nat->Rs Cd} (b:Bd Zg F0 H0 F H pb l d σ1) (t:Tm H0 F H q Zj [v0,v1,v2,v3,v4]) (ho:Oc (sB σ S) (.mk 0 [] 0 0 0) (Zim σ1)):
    Zsn pb q H fun v H1=>∀H2,Shut H0 H1 H2->CdR Zg F0 H0 pb l d σ S v H2:=by
  unfold Zsn;exact b.bad fun H1 b1 k1=>ret5 b1 (t.par b k1) (CdAt.leaf 0 0 0 0) ho
end
end Go.Proofs.YtlkdgfolbllngaaGreatDoor
end
section
set_option maxRecDepth 100000
namespace Go.Proofs.YtlkdgfolbllngaaGreatDoor
open Go.Sh Go.Pc
section
variable {T:TypeId} {F0 H0 F F' H H1 H':Heap} {pb d d':Nat} {l:List Tok} {σ σ' σ1 σ2:Except Nat Nat} {α β:Type}
abbrev Zoc (ws:List (List UInt8)):List Value:=ws.map fun w=> .string (bstr w)
theorem Zccd {q r i:Nat} {v0 v1 v2 v3 v4:Value} {S:Nat->Rs Cd} (b:Bd Zg F0 H0 F H pb l d (.ok i)) (t:Tm H0 F H q Zj [v0,v1,v2,v3,v4]) (u:Tm H0 F H r Zcv (Zoc [Zhf,Zhe,Zcc,Zhh])) (ho: ∀c σ',Oc (Zhw l i) c σ'->Oc (sB σ S) c σ'):
    Zct (Int×Unit) (0,()) H fun x H next=>∀_g:Env,Zbfv pb q r x.1 H next fun v H1=>∀H2,Shut H0 H1 H2->CdR Zg F0 H0 pb l d σ S v H2:=by
  refine Zcy (fun m s Hx=>∃j:Nat,s=((j:Int),())∧m+j=4∧Bd Zg F0 H0 F Hx pb l d (.ok i)∧Tm H0 F Hx q Zj [v0,v1,v2,v3,v4]∧Tm H0 F Hx r Zcv (Zoc [Zhf,Zhe,Zcc,Zhh])∧∀k w,k<j->([Zhf,Zhe,Zcc,Zhh]:List (List UInt8))[k]? =some w->isB l (.ok i) w=false) 4 ⟨0,rfl,rfl,b,t,u,fun k w hk=>by omega⟩ ?_
  rintro m s Hx ⟨j,rfl,hm,bx,tx,ux,hno⟩ g;unfold Zbfv;by_cases hj:j<4
  . have hw:=List.getElem?_eq_getElem (l:=([Zhf,Zhe,Zcc,Zhh]:List (List UInt8))) (i:=j) hj;generalize ([Zhf,Zhe,Zcc,Zhh]:List (List UInt8))[j]=w at hw;have hc:=cellL ux.blk (0+j*1) (v:= .string (bstr w)) (by rw [Nat.zero_add,Nat.mul_one];unfold Zoc;rw [List.getElem?_map,hw];rfl)
    refine ifT (decide_eq_true (show (j:Int)<4 by omega)) (InB.intro j rfl hj ⟨_,hc,(Zhl bx.g w).mono ?_⟩)
    rintro _ H3 ⟨rfl,F3,σ3,g3,n3,rfl,e3⟩;have b3:=bx.call g3 n3;have t3:=tx.call bx n3;have u3:=ux.call bx n3;refine ⟨_,rfl,IfB.intro (fun e=>?_) fun e=>?_⟩
    . rw [if_pos e] at e3;have e3:σ3= .ok (i+1):=e3;subst e3;have hp:=Zbdl hw e (fun k u hk hu=>hno k u hk hu) 0;rw [Nat.zero_add] at hp;rcases Zbdh l i with ⟨k,op,hk,hop,hpath⟩ | ⟨hk,_⟩
      . rw [hp] at hk;have hk:j=k:=by omega
        subst hk;show FnW _ _ ⟨[_,.int .i64 (IntKind.wrap .i64 (6+(j:Int))),_]⟩ _ _;rw [hop];exact Zko b3 t3 (Zbgl b3.g op 2) fun c σ' o=>ho c σ' (hpath c σ' o)
      rw [hp] at hk;omega
    . rw [if_neg (by rw [e];decide)] at e3
      subst e3;refine ⟨m - 1,by omega,j+1,Prod.ext ?_ rfl,by omega,b3,t3,u3,fun k w' hk hw'=>?_⟩
      . show IntKind.wrap .i64 ((j:Int)+1)=((j+1:Nat):Int);rw [Zcs (by omega) (by omega)];omega
      by_cases hkj:k=j;subst hkj;rw [hw] at hw';cases hw';exact e;exact hno k w' (by omega) hw'
  . refine ifF (decide_eq_false (show ¬(j:Int)<4 by omega)) (Zbeb bx tx (ho _ _ ?_))
    have hp:=Zbdm (l:=l) (σ:= .ok i) (ws:=[Zhf,Zhe,Zcc,Zhh]) (fun w hw=>by
      obtain ⟨k,hk⟩:=List.mem_iff_getElem?.1 hw;exact hno k w (by have:=(List.getElem?_eq_some_iff.1 hk).1;simp only [List.length_cons,List.length_nil] at this;omega) hk) 0
    rcases Zbdh l i with ⟨k,op,hk,_⟩ | ⟨_,hpath⟩;rw [hp] at hk;omega;rw [hpath];rfl
theorem Zccb {q r i:Nat} {v0 v1 v2 v3 v4:Value} {S:Nat->Rs Cd} (b:Bd Zg F0 H0 F H pb l d (.ok i)) (t:Tm H0 F H q Zj [v0,v1,v2,v3,v4]) (u:Tm H0 F H r Zcv (Zoc [Zhg,Zhi,Zhk])) (ho: ∀c σ',Oc (Ziq l i) c σ'->Oc (sB σ S) c σ'):
    Zct (Int×Unit) (0,()) H fun x H next=>∀_g:Env,Zbfw pb q r x.1 H next fun v H1=>∀H2,Shut H0 H1 H2->CdR Zg F0 H0 pb l d σ S v H2:=by
  refine Zcy (fun m s Hx=>∃j:Nat,s=((j:Int),())∧m+j=3∧Bd Zg F0 H0 F Hx pb l d (.ok i)∧Tm H0 F Hx q Zj [v0,v1,v2,v3,v4]∧Tm H0 F Hx r Zcv (Zoc [Zhg,Zhi,Zhk])∧∀k w,k<j->([Zhg,Zhi,Zhk]:List (List UInt8))[k]? =some w->isB l (.ok i) w=false) 3 ⟨0,rfl,rfl,b,t,u,fun k w hk=>by omega⟩ ?_
  rintro m s Hx ⟨j,rfl,hm,bx,tx,ux,hno⟩ g;unfold Zbfw;by_cases hj:j<3
  . have hw:=List.getElem?_eq_getElem (l:=([Zhg,Zhi,Zhk]:List (List UInt8))) (i:=j) hj;generalize ([Zhg,Zhi,Zhk]:List (List UInt8))[j]=w at hw;have hc:=cellL ux.blk (0+j*1) (v:= .string (bstr w)) (by rw [Nat.zero_add,Nat.mul_one];unfold Zoc;rw [List.getElem?_map,hw];rfl)
    refine ifT (decide_eq_true (show (j:Int)<3 by omega)) (InB.intro j rfl hj ⟨_,hc,(Zhl bx.g w).mono ?_⟩)
    rintro _ H3 ⟨rfl,F3,σ3,g3,n3,rfl,e3⟩;have b3:=bx.call g3 n3;have t3:=tx.call bx n3;have u3:=ux.call bx n3;refine ⟨_,rfl,IfB.intro (fun e=>?_) fun e=>?_⟩
    . rw [if_pos e] at e3;have e3:σ3= .ok (i+1):=e3;subst e3;have hp:=Zbdl hw e (fun k u hk hu=>hno k u hk hu) 0;rw [Nat.zero_add] at hp;rcases Zbdd l i with ⟨k,hk,horig⟩ | ⟨hk,_⟩
      . rw [hp] at hk;have hk:j=k:=by omega
        subst hk;exact ret5 b3 t3 (CdAt.leaf 11 0 0 _) (ho _ _ (by rw [horig];exact ⟨rfl,rfl⟩))
      rw [hp] at hk;omega
    . rw [if_neg (by rw [e];decide)] at e3
      subst e3;refine ⟨m - 1,by omega,j+1,Prod.ext ?_ rfl,by omega,b3,t3,u3,fun k w' hk hw'=>?_⟩
      . show IntKind.wrap .i64 ((j:Int)+1)=((j+1:Nat):Int);rw [Zcs (by omega) (by omega)];omega
      by_cases hkj:k=j;subst hkj;rw [hw] at hw';cases hw';exact e;exact hno k w' (by omega) hw'
  . refine ifF (decide_eq_false (show ¬(j:Int)<3 by omega)) (Zbeb bx tx (ho _ _ ?_))
    have hp:=Zbdm (l:=l) (σ:= .ok i) (ws:=[Zhg,Zhi,Zhk]) (fun w hw=>by
      obtain ⟨k,hk⟩:=List.mem_iff_getElem?.1 hw;exact hno k w (by have:=(List.getElem?_eq_some_iff.1 hk).1;simp only [List.length_cons,List.length_nil] at this;omega) hk) 0
    rcases Zbdd l i with ⟨k,hk,_⟩ | ⟨_,horig⟩;rw [hp] at hk;omega;rw [horig];rfl
theorem Zcf (h:Gr Zg F H pb l d σ) (w:List UInt8) {K:Value->Heap->Prop} (yes: ∀F' H' i,isT l w i=true->σ= .ok i->Gr Zg F' H' pb l d (.ok (i+1))->Nx F H F' H' pb->F'=F->K (.bool true) H') (no: ∀F' H',isB l σ w=false->Gr Zg F' H' pb l d σ->Nx F H F' H' pb->F'=F->K (.bool false) H'):
    FnW Tryz.prog Zbh ⟨[.pointer (some ⟨pb,0,none⟩),.string (bstr w)]⟩ H K:=by
  refine (Zhl h w).mono ?_;rintro _ H1 ⟨rfl,F1,σ1,g1,n1,e0,e1⟩;cases e:isB l σ w with
  | true=>
    rw [e] at e1;obtain ⟨i,rfl,ht⟩:=Zbf e;have e1:σ1= .ok (i+1):=e1;subst e1;exact yes F1 H1 i ht rfl g1 n1 e0
  | false=>
    rw [e] at e1;have e1:σ1=σ:=e1;subst e1;exact no F1 H1 e g1 n1 e0
theorem Zchv (h:Gr Zg F H pb l d σ):FnW Tryz.prog Zbbc ⟨[.pointer (some ⟨pb,0,none⟩)]⟩ H (CdR Zg F H pb l d σ (Zhd l)):=by
  refine Zchw pb ?_;unfold Zbqu;refine newB fun q H1 hq bq k1=>?_;have b1:=h.start.new k1;have t1:=h.start.tm hq bq;refine Zcf b1.g Zhj (fun F2 H2 i ht hs g2 n2 e2=>?_) fun F2 H2 p0 g2 n2 e2=>?_
  . subst hs;have b2:=b1.call g2 n2;have t2:=t1.call b1 n2;have up: ∀{c:Cd} {σ':Except Nat Nat},Oc (sB (.ok (i+1)) (Zhc l)) c σ'->Oc (sB (.ok i) (Zhd l)) c σ':=fun {c σ'} o=>by show Oc (Zhd l i) _ _;unfold Zhd;rw [if_pos ht];exact o
    refine ⟨_,rfl,ifT rfl (Zcf b2.g w_is (fun F3 H3 i3 ht3 hs3 g3 n3 e3=>?_) fun F3 H3 p3 g3 n3 e3=>?_)⟩;cases hs3;have b3:=b2.call g3 n3;have t3:=t2.call b2 n3;refine ⟨_,rfl,ifT rfl ((Zdz b3.g 4).mono ?_)⟩;rintro _ H4 ⟨tk,rfl,F4,σ4,g4,n4,rfl,o4⟩;refine ⟨_,_,_,_,_,_,rfl,ret5 (b3.call g4 n4) (t3.call b3 n4) (CdAt.leaf 5 _ _ 0) (up ?_)⟩;show Oc (Zhc l (i+1)) _ _;unfold Zhc;rw [if_pos ht3];exact Zbi o4 Zbm
    . have b3:=b2.call g3 n3;have t3:=t2.call b2 n3;refine ⟨_,rfl,ifF rfl ((Zid b3.g w_in).mono ?_)⟩;rintro _ H4 ⟨rfl,F4,σ4,g4,n4,rfl,o4⟩;have b4:=b3.call g4 n4;have t4:=t3.call b3 n4;refine ⟨rfl,(Zdz b4.g 4).mono ?_⟩;rintro _ H5 ⟨tk,rfl,F5,σ5,g5,n5,rfl,o5⟩;have b5:=b4.call g5 n5;have t5:=t4.call b4 n5;refine ⟨_,_,_,_,_,_,rfl,newB fun r H6 hr br k6=>st5 br fun H7 b7 k7=>?_⟩;have hqr:q≠r:=fun e=>by subst e;exact t5.blk.some hr
      have u6:=b5.tm hr br;have b6:=b5.new k6;have bb:=b6.wr u6 k7;have t7:=(t5.nil k6).other k7 hqr;have u7:=u6.wr b7;refine Zcf bb.g w_le (fun F8 H8 i8 ht8 hs8 g8 n8 e8=>?_) fun F8 H8 p8 g8 n8 e8=>?_
      . subst hs8;have b8:=bb.call g8 n8;have t8:=t7.call bb n8;have u8:=u7.call bb n8;refine ⟨_,rfl,ifT rfl ((Zdz b8.g 2).mono ?_)⟩;rintro _ H9 ⟨t2,rfl,F9,σ9,g9,n9,rfl,o9⟩;have b9:=b8.call g9 n9;have t9:=t8.call b8 n9;have u9:=u8.call b8 n9;refine ⟨_,_,_,_,_,_,rfl,stL u9.blk (by show 4<5;decide) rfl fun H10 b10 k10=>?_⟩
        replace b10:Blk H10 r Zj ⟨[.int .i64 4,.slice none 0 0,.int .u32 tk.2.2.2.1.toNat,.int .i64 tk.2.2.2.2.1,.int .i64 t2.2.2.1]⟩:=b10;unfold Zyt;refine ld5 b10 (ret5 (b9.wr u9 k10) (t9.other k10 hqr) (CdAt.leaf 4 _ _ _) (up ?_));refine Zb p3 (Zm o4 (Zm o5 (Zy ht8 ?_)));exact Zbi (r:=numS l 2 (i8+1)) (Zgi (σ:= .ok (i8+1)) (S:=tokS l 2) (f:=fun t:Tok=>t.2.2.1) o9) Zbm
      have b8:=bb.call g8 n8;have t8:=t7.call bb n8;have u8:=u7.call bb n8;refine ⟨_,rfl,ifF rfl ?_⟩;unfold Zyt;exact ld5 u8.blk (ret5 b8 t8 (CdAt.leaf 4 _ _ 32) (up (Zb p3 (Zm o4 (Zm o5 (Zb p8 Zbm))))))
  . have b2:=b1.call g2 n2;have t2:=t1.call b1 n2;refine ⟨_,rfl,ifF rfl (Zcf b2.g Zdi (fun F3 H3 i ht hs g3 n3 e3=>?_) fun F3 H3 p1 g3 n3 e3=>?_)⟩;subst hs;have b3:=b2.call g3 n3;have t3:=t2.call b2 n3;refine ⟨_,rfl,ifT rfl (newB fun r H4 hr br k4=>?_)⟩;refine Zccd (b3.new k4) (t3.nil k4) (b3.tm hr br) fun c σ' o=>?_;exact Zb (T':=fun i=>if isT l Zdi i then _ else _) p0 (Zy (S':=fun i=>Zhw l (i+1)) ht o)
    have b3:=b2.call g3 n3;have t3:=t2.call b2 n3;refine ⟨_,rfl,ifF rfl (Zcf b3.g Zdw (fun F4 H4 i ht hs g4 n4 e4=>?_) fun F4 H4 p2 g4 n4 e4=>?_)⟩;subst hs;have b4:=b3.call g4 n4;have t4:=t3.call b3 n4;refine ⟨_,rfl,ifT rfl (Zko b4 t4 (Zbgl b4.g 10 5) fun c σ' o=>?_)⟩;exact Zb (T':=fun i=>if isT l Zdi i then _ else _) p0 (Zb (T':=fun i=>if isT l Zdw i then _ else _) p1 (Zy (S':=fun i=>Zga l 10 5 (i+1)) ht o))
    have b4:=b3.call g4 n4;have t4:=t3.call b3 n4;refine ⟨_,rfl,ifF rfl (Zcf b4.g Zcc (fun F5 H5 i ht hs g5 n5 e5=>?_) fun F5 H5 p3 g5 n5 e5=>?_)⟩;subst hs;have b5:=b4.call g5 n5;have t5:=t4.call b4 n5;refine ⟨_,rfl,ifT rfl (newB fun r H6 hr br k6=>?_)⟩;refine Zccb (b5.new k6) (t5.nil k6) (b5.tm hr br) fun c σ' o=>?_;exact Zb (T':=fun i=>if isT l Zdi i then _ else _) p0 (Zb (T':=fun i=>if isT l Zdw i then _ else _) p1 (Zb (T':=fun i=>if isT l Zcc i then _ else _) p2 (Zy (S':=fun i=>Ziq l (i+1)) ht o)))
    have b5:=b4.call g5 n5;have t5:=t4.call b4 n5;refine ⟨_,rfl,ifF rfl (Zcf b5.g Zbq (fun F6 H6 i ht hs g6 n6 e6=>?_) fun F6 H6 p4 g6 n6 e6=>?_)⟩;subst hs;have b6:=b5.call g6 n6;have t6:=t5.call b5 n6;refine ⟨_,rfl,ifT rfl ((Zid b6.g Znz).mono ?_)⟩;rintro _ H7 ⟨rfl,F7,σ7,g7,n7,rfl,o7⟩;have b7:=b6.call g7 n7;have t7:=t6.call b6 n7;refine ⟨rfl,Zko b7 t7 (Zbgl b7.g 12 2) fun c σ' o=>?_⟩;exact Zb (T':=fun i=>if isT l Zdi i then _ else _) p0 (Zb (T':=fun i=>if isT l Zdw i then _ else _) p1 (Zb (T':=fun i=>if isT l Zcc i then _ else _) p2 (Zb (T':=fun i=>if isT l Zbq i then _ else _) p3 (Zy (S':=fun i=>bS (Zbj l Znz (i+1)) _) ht (Zbi o7 o)))))
    refine ⟨_,rfl,ifF rfl (Zbeb (b5.call g6 n6) (t5.call b5 n6) ?_)⟩;exact Zb (T':=fun i=>if isT l Zdi i then _ else _) p0 (Zb (T':=fun i=>if isT l Zdw i then _ else _) p1 (Zb (T':=fun i=>if isT l Zcc i then _ else _) p2 (Zb (T':=fun i=>if isT l Zbq i then _ else _) p3 (Zb (T':=fun i=> .error i) p4 Zna))))
end
end Go.Proofs.YtlkdgfolbllngaaGreatDoor
end
section
set_option maxRecDepth 100000
namespace Go.Proofs.YtlkdgfolbllngaaGreatDoor
open Go.Sh Go.Pc
section
variable {T:TypeId} {F0 H0 F F' H H1 H':Heap} {pb d d':Nat} {l:List Tok} {σ σ' σ1 σ2:Except Nat Nat} {α β:Type}
theorem Zbrb {one:Nat->Rs Cd} (hadv:Adv l one) (hf: ∀{F H:Heap} {σ:Except Nat Nat},Gr Zg F H pb l d σ->FnW Tryz.prog Zji ⟨[.pointer (some ⟨pb,0,none⟩)]⟩ H (CdR Zg F H pb l d σ one)) (h:Gr Zg F H pb l d σ):
    FnW Tryz.prog Zjh ⟨[.pointer (some ⟨pb,0,none⟩)]⟩ H (CdR Zg F H pb l d σ (anyW l one)):=
  Zcic (Zvo hadv _ _) (fun h=>Zciu hadv hf h) h
theorem Zbaw {j:Nat} (h:Gr Zg F H pb l d (.ok (j+1))) {K:Value->Heap->Prop} (hK: ∀H' σ',Nx F H F H' pb->(d=24∧σ'= .error j∧Gr Zg F H' pb l 24 σ'∨d<24∧σ'= .ok (j+1)∧Gr Zg F H' pb l (d+1) σ')->K (.tuple ⟨[]⟩) H'):
    FnW Tryz.prog Zml ⟨[.pointer (some ⟨pb,0,none⟩)]⟩ H K:=by
  refine (Zciy h).mono ?_;rintro _ H1 ⟨rfl,n1,(⟨rfl,g1⟩ | ⟨hd,g1⟩)⟩;exact hK H1 _ n1 (.inl ⟨rfl,rfl,g1⟩);exact hK H1 _ n1 (.inr ⟨hd,rfl,g1⟩)
theorem Bd.upE {j:Nat} (b:Bd T F0 H0 F H pb l d (.error j)) {K:Heap->Prop} (hk: ∀H',Bd T F0 H0 F H' pb l d (.error j)->Keep (fun y=>y=pb) H H'->K H'):
    ∃x:Int,H.cell ⟨pb,2,none⟩=some (.int .i64 x)∧Za H ⟨pb,2,none⟩ (.int .i64 (IntKind.wrap .i64 (x - 1))) K:=by
  obtain ⟨a,c,i,dp,bad,hb,hr,hi,hσ⟩:=b.g.blk;exact ⟨_,cellL hb 2 rfl,stL hb (by show 2<4;decide) rfl fun H' hb' k'=>hk H' (b.call (b.g.go (σ':= .error j) (i':=i) (d':=d) k' hb' hr hi b.g.deep hσ) (Nx.own k')) k'⟩
theorem Zbec {j:Nat} (h:Gr Zg F H pb l d (.error j)) (S:Nat->Rs Cd):FnW Tryz.prog Zji ⟨[.pointer (some ⟨pb,0,none⟩)]⟩ H (CdR Zg F H pb l d (.error j) S):=by refine Zbsf pb ?_;unfold Zbgh;refine newB fun q H1 hq bq k1=>?_;have b1:=h.start.new k1;obtain ⟨a,c,i,dp,bad,hb,hr,hi,rfl,rfl⟩:=b1.g.blk;exact ⟨_,cellL hb 3 rfl,ifT rfl (ret5 b1 (h.start.tm hq bq) (CdAt.leaf 0 0 0 0) rfl)⟩
theorem Zcbz {j:Nat} (h:Gr Zg F H pb l d (.error j)) (S:Nat->Rs Cd):FnW Tryz.prog Zmj ⟨[.pointer (some ⟨pb,0,none⟩)]⟩ H (CdR Zg F H pb l d (.error j) S):=by refine Zbry pb ?_;unfold Zbgf;refine newB fun q H1 hq bq k1=>?_;have b1:=h.start.new k1;have t1:=h.start.tm hq bq;refine (Zbec b1.g S).mono ?_;rintro _ H2 ⟨vs0,c0,rfl,F2,σ2,g2,n2,hc0,o2⟩;have o2:σ2= .error j:=o2;subst o2;have b2:=b1.call g2 n2;have t2:=t1.call b1 n2;have hc1:=hc0;obtain ⟨e0,e1,e2,e3,e4,e5,e6,rfl⟩:=hc1.five;refine ⟨_,_,_,_,_,_,_,rfl,newB fun r H3 hr br k3=>?_⟩;have b3:=b2.new k3;have t3:=t2.nil k3;have w3:Gw CdAt 5 Zj H F2 H3 (some ⟨r,0,none⟩) 1 1 [c0]:=Gw.one b2 hr br hc0 rfl;refine Zcy (fun m s Hx=>s=((some ⟨r,0,none⟩,1,1),())∧Hx=H3) 0 ⟨rfl,rfl⟩ ?_;rintro m s Hx ⟨rfl,e⟩ g;rw [e];clear e;unfold Zbge;refine (Zhl b3.g Zft).mono ?_;rintro _ H4 ⟨rfl,F4,σ4,g4,n4,rfl,e4⟩;have e4:σ4= .error j:=e4;subst e4;have b4:=b3.call g4 n4;have t4:=t3.call b3 n4;have w4:=w3.call b3 n4 fun v x h=>h;refine ⟨_,rfl,ifF rfl (ifT rfl ?_)⟩;obtain ⟨v,hv,hat⟩:=w4.first;obtain ⟨z0,z1,z2,z3,z4,z5,z6,rfl⟩:=hv.five;exact hat rfl _ fun b o hc=>ld5c hc (ret5 b4 t4 hv rfl)
theorem Zcca {j:Nat} (h:Gr Zg F H pb l d (.error j)) (S:Nat->Rs Cd):FnW Tryz.prog Zjh ⟨[.pointer (some ⟨pb,0,none⟩)]⟩ H (CdR Zg F H pb l d (.error j) S):=by refine Zbrc pb ?_;unfold Zbfz;refine newB fun q H1 hq bq k1=>?_;have b1:=h.start.new k1;have t1:=h.start.tm hq bq;refine (Zcbz b1.g S).mono ?_;rintro _ H2 ⟨vs0,c0,rfl,F2,σ2,g2,n2,hc0,o2⟩;have o2:σ2= .error j:=o2;subst o2;have b2:=b1.call g2 n2;have t2:=t1.call b1 n2;have hc1:=hc0;obtain ⟨e0,e1,e2,e3,e4,e5,e6,rfl⟩:=hc1.five;refine ⟨_,_,_,_,_,_,_,rfl,newB fun r H3 hr br k3=>?_⟩;have b3:=b2.new k3;have t3:=t2.nil k3;have w3:Gw CdAt 5 Zj H F2 H3 (some ⟨r,0,none⟩) 1 1 [c0]:=Gw.one b2 hr br hc0 rfl;refine Zcy (fun m s Hx=>s=((some ⟨r,0,none⟩,1,1),())∧Hx=H3) 0 ⟨rfl,rfl⟩ ?_;rintro m s Hx ⟨rfl,e⟩ g;rw [e];clear e;unfold Zbfy;refine (Zhl b3.g w_or).mono ?_;rintro _ H4 ⟨rfl,F4,σ4,g4,n4,rfl,e4⟩;have e4:σ4= .error j:=e4;subst e4;have b4:=b3.call g4 n4;have t4:=t3.call b3 n4;have w4:=w3.call b3 n4 fun v x h=>h;refine ⟨_,rfl,ifF rfl (ifT rfl ?_)⟩;obtain ⟨v,hv,hat⟩:=w4.first;obtain ⟨z0,z1,z2,z3,z4,z5,z6,rfl⟩:=hv.five;exact hat rfl _ fun b o hc=>ld5c hc (ret5 b4 t4 hv rfl)
theorem Zbse: ∀(f d:Nat) (_:25 <= d+f) {F H:Heap} {σ:Except Nat Nat},Gr Zg F H pb l d σ->FnW Tryz.prog Zji ⟨[.pointer (some ⟨pb,0,none⟩)]⟩ H (CdR Zg F H pb l d σ (oneS l f d))
  | 0,d,hd,F,H,σ,h=>absurd h.deep (by omega)
  | f+1,d,hd,F,H,σ,h=>by
    have ih:=@Zbse f (d+1) (by omega)
    cases σ with
    | error j=>exact Zbec h _
    | ok i0=>
    refine Zbsf pb ?_;unfold Zbgh;refine newB fun q H1 hq bq k1=>?_;have b0:=h.start;have b1:=b0.new k1;have t1:=b0.tm hq bq;obtain ⟨a,c,i,dp,bad,hb,hr,hi,rfl,rfl,rfl⟩:=b1.g.blk;refine ⟨_,cellL hb 3 rfl,ifF rfl (Zcf b1.g Zbff (fun F2 H2 i ht hs g2 n2 e2=>?_) fun F2 H2 hn g2 n2 e2=>?_)⟩
    ·
      cases hs;have b2:=b1.call g2 n2;have t2:=t1.call b1 n2;refine ⟨_,rfl,ifT rfl (Zbaw b2.g fun H3 σ3 n3 hc3=>⟨rfl,?_⟩)⟩;rcases hc3 with ⟨rfl,rfl,g3⟩ | ⟨hd24,rfl,g3⟩
      . have b3:=b2.call g3 n3;have t3:=t2.call b2 n3;refine (Zbec b3.g (fun j=> .error j)).mono ?_;rintro _ H5 ⟨vs,c,rfl,F5,σ5,g5,n5,hc,o5⟩;have o5:σ5= .error i0:=o5;subst o5;have b5:=b3.call g5 n5;have t5:=t3.call b3 n5;have hc2:=hc;obtain ⟨_,_,_,_,_,_,_,rfl⟩:=hc2.five;refine ⟨_,_,_,_,_,_,_,rfl,newB fun r H6 hr6 br k6=>st5 br fun H7 b7 k7=>?_⟩;have hqr:q≠r:=fun e=>by subst e;exact t5.blk.some hr6
        have b6:=b5.new k6;have u6:=b5.tm hr6 br;have bb:=b6.wr u6 k7;have t7:=(t5.nil k6).other k7 hqr;have u7:=u6.wr b7;refine bb.upE fun H8 b8 k8=>ld5 (u7.par bb k8).blk (newB fun x H9 hx bx k9=>?_);have w9:Gw CdAt 5 Zj H F5 H9 (some ⟨x,0,none⟩) 1 1 [c]:=Gw.one b8 hx bx hc rfl;obtain ⟨F9,b9,k9',r9,nf9⟩:=w9.done (b8.new k9) fun F' k v x h=>h.grow k;have hxq:some (⟨x,0,none⟩:Addr)≠some ⟨q,0,none⟩:=fun e=>by cases e;exact (t7.par bb k8).blk.some hx
        have t9:Tm H F9 H9 q _ _:=⟨t7.new,nf9 q t7.nf hxq,((t7.par bb k8).nil k9).blk⟩;refine ret5 b9 t9 (CdAt.row (op:=3) r9) ?_;refine Zy (S':=fun i=>if 24=24 then .error i else _) ht ?_
        rfl
      . have b3:=b2.call g3 n3;have t3:=t2.call b2 n3;refine (ih b3.g).mono ?_;rintro _ H5 ⟨vs,c,rfl,F5,σ5,g5,n5,hc,o5⟩;have b5:=b3.call g5 n5;have t5:=t3.call b3 n5;have hc2:=hc;obtain ⟨_,_,_,_,_,_,_,rfl⟩:=hc2.five;refine ⟨_,_,_,_,_,_,_,rfl,newB fun r H6 hr6 br k6=>st5 br fun H7 b7 k7=>?_⟩;have hqr:q≠r:=fun e=>by subst e;exact t5.blk.some hr6
        have b6:=b5.new k6;have u6:=b5.tm hr6 br;have bb:=b6.wr u6 k7;have t7:=(t5.nil k6).other k7 hqr;have u7:=u6.wr b7;refine bb.up fun H8 b8 k8=>ld5 (u7.par bb k8).blk (newB fun x H9 hx bx k9=>?_);have w9:Gw CdAt 5 Zj H F5 H9 (some ⟨x,0,none⟩) 1 1 [c]:=Gw.one b8 hx bx hc rfl;obtain ⟨F9,b9,k9',r9,nf9⟩:=w9.done (b8.new k9) fun F' k v x h=>h.grow k;have hxq:some (⟨x,0,none⟩:Addr)≠some ⟨q,0,none⟩:=fun e=>by cases e;exact (t7.par bb k8).blk.some hx
        have t9:Tm H F9 H9 q _ _:=⟨t7.new,nf9 q t7.nf hxq,((t7.par bb k8).nil k9).blk⟩;refine ret5 b9 t9 (CdAt.row (op:=3) r9) ?_;refine Zy ht ?_;rw [if_neg (by omega)]
        exact Zbi o5 Zbm
    . have b2:=b1.call g2 n2;have t2:=t1.call b1 n2;refine ⟨_,rfl,ifF rfl (Zcf b2.g w_lp (fun F3 H3 i3 ht hs g3 n3 e3=>?_) fun F3 H3 hl g3 n3 e3=>?_)⟩
      . cases hs;have b3:=b2.call g3 n3;have t3:=t2.call b2 n3;refine ⟨_,rfl,ifT rfl (Zbaw b3.g fun H4 σ4 n4 hc4=>⟨rfl,?_⟩)⟩;rcases hc4 with ⟨rfl,rfl,g4⟩ | ⟨hd24,rfl,g4⟩
        . have b4:=b3.call g4 n4;have t4:=t3.call b3 n4;refine (Zcca b4.g (fun j=> .error j)).mono ?_;rintro _ H5 ⟨vs,c,rfl,F5,σ5,g5,n5,hc,o5⟩;have o5:σ5= .error i0:=o5;subst o5;have b5:=b4.call g5 n5;have t5:=t4.call b4 n5;have hc2:=hc;obtain ⟨_,_,_,_,_,_,_,rfl⟩:=hc2.five;refine ⟨_,_,_,_,_,_,_,rfl,newB fun r H6 hr6 br k6=>st5 br fun H7 b7 k7=>?_⟩;have hqr:q≠r:=fun e=>by subst e;exact t5.blk.some hr6
          have b6:=b5.new k6;have u6:=b5.tm hr6 br;have bb:=b6.wr u6 k7;have t7:=(t5.nil k6).other k7 hqr;have u7:=u6.wr b7;refine (Zid bb.g w_rp).mono ?_;rintro _ H8 ⟨rfl,F8,σ8,g8,n8,rfl,o8⟩;have o8:σ8= .error i0:=o8;subst o8;have b8:=bb.call g8 n8;refine ⟨rfl,b8.upE fun H9 b9 k9=>ld5 ((u7.call bb n8).par b8 k9).blk (ret5 b9 ((t7.call bb n8).par b8 k9) hc ?_)⟩;refine Zb (T':=fun i=>if isT l w_lp i then _ else _) hn (Zy (S':=fun i=>if 24=24 then .error i else _) ht ?_)
          rfl
        . have b4:=b3.call g4 n4;have t4:=t3.call b3 n4;refine (Zbrb (Zla f (d+1)) ih b4.g).mono ?_;rintro _ H5 ⟨vs,c,rfl,F5,σ5,g5,n5,hc,o5⟩;have b5:=b4.call g5 n5;have t5:=t4.call b4 n5;have hc2:=hc;obtain ⟨_,_,_,_,_,_,_,rfl⟩:=hc2.five;refine ⟨_,_,_,_,_,_,_,rfl,newB fun r H6 hr6 br k6=>st5 br fun H7 b7 k7=>?_⟩;have hqr:q≠r:=fun e=>by subst e;exact t5.blk.some hr6
          have b6:=b5.new k6;have u6:=b5.tm hr6 br;have bb:=b6.wr u6 k7;have t7:=(t5.nil k6).other k7 hqr;have u7:=u6.wr b7;refine (Zid bb.g w_rp).mono ?_;rintro _ H8 ⟨rfl,F8,σ8,g8,n8,rfl,o8⟩;have b8:=bb.call g8 n8;refine ⟨rfl,b8.up fun H9 b9 k9=>ld5 ((u7.call bb n8).par b8 k9).blk (ret5 b9 ((t7.call bb n8).par b8 k9) hc ?_)⟩;refine Zb (T':=fun i=>if isT l w_lp i then _ else _) hn (Zy ht ?_)
          rw [if_neg (by omega)]
          exact Zbi o5 (Zm o8 Zbm)
      have b3:=b2.call g3 n3;refine ⟨_,rfl,ifF rfl (Zko b3 (t2.call b2 n3) (Zchv b3.g) fun c σ' o=>?_)⟩;exact Zb (T':=fun i=>if isT l w_lp i then _ else _) hn (Zb hl o)
theorem Zcib (h:Gr Zg F H pb l d σ):FnW Tryz.prog Zjh ⟨[.pointer (some ⟨pb,0,none⟩)]⟩ H (CdR Zg F H pb l d σ (anyS l d)):=
  Zbrb (Zla _ _) (Zbse (25 - d) d (by have:=h.deep;omega)) h
end
end Go.Proofs.YtlkdgfolbllngaaGreatDoor
end
section
set_option maxRecDepth 100000
namespace Go.Proofs.YtlkdgfolbllngaaGreatDoor
open Go.Sh Go.Pc
section
variable {T:TypeId} {F0 H0 F F' H H1 H':Heap} {pb d d':Nat} {l:List Tok} {σ σ' σ1 σ2:Except Nat Nat} {α β:Type}
theorem Zbrf {stmt:Nat->Rs Sm} (hadv:Adv l stmt) (hf: ∀{F H:Heap} {σ:Except Nat Nat},Gr Zg F H pb l d σ->FnW Tryz.prog Zmg ⟨[.pointer (some ⟨pb,0,none⟩)]⟩ H (SmR Zg F H pb l d σ stmt)) (h:Gr Zg F H pb l d σ):
    FnW Tryz.prog Zpw ⟨[.pointer (some ⟨pb,0,none⟩)]⟩ H (RwR Zg F H pb l d σ (fun i=>bS (Zbj l w_lb i) fun _ j=>Zdf l stmt (l.length+1) j)):=by
  refine Zcih pb ?_;unfold Zbrh;have hlim:=h.lim;refine newB fun x Hx hx bx k0=>?_;have b0:=h.start.new k0;refine (Zid b0.g w_lb).mono ?_;rintro _ H1 ⟨rfl,F1,s1,g1,n1,rfl,o1⟩;have b1:=b0.call g1 n1;have w0:Gw SmAt 10 Zz H F1 Hx (some ⟨x,0,none⟩) 0 0 []:=⟨⟨[],Sh.Own.start hx bx,rfl,fun i v d h=>by simp at h⟩,rfl,fun y hy=>(by cases hy;exact Classical.byContradiction fun e=>(h.fr.live _ e) hx),Nat.zero_le _⟩
  have w1:=w0.call b0 n1 fun v x h=>h;have hi0: ∀j,s1= .ok j->j <= l.length:=fun j e=>by obtain ⟨a,c,i,dp,bad,hb,hr,hi,hσ⟩:=b1.g.blk;subst e;obtain ⟨rfl,_⟩:=hσ;exact hi
  clear bx hx k0;refine ⟨rfl,?_⟩;refine Zcy (fun m s Hx=>∃(a:Option Addr) (n cap:Nat) (Fx:Heap) (σx:Except Nat Nat) (ss:List Sm),s=((a,n,cap),())∧Bd Zg F1 H Fx Hx pb l d σx∧Gw SmAt 10 Zz H Fx Hx a n cap ss∧
    n+m <= l.length+1∧(∀j,σx= .ok j->j <= l.length∧l.length+1 <= m+j)∧∀ss' σ',Oc (sB σx (Zdf l stmt m)) ss' σ'->Oc (sB s1 (Zdf l stmt (l.length+1))) (ss++ss') σ') (l.length+1)
    ⟨_,_,_,F1,s1,[],rfl,b1,w1,by omega,fun j hj=>⟨hi0 j hj,by omega⟩,fun ss' σ' o=>o⟩ ?_
  rintro m s Hx ⟨a,n,cap,Fx,σx,ss,rfl,bx,wx,hnm,hj,cont⟩ g;have stop: ∀{Fy Hy:Heap},Bd Zg F1 H Fy Hy pb l d σx->Gw SmAt 10 Zz H Fy Hy a n cap ss->(∀j,σx= .ok j->isT l w_rb j=true)->∀{next:((Option Addr×Nat×Nat)×Unit)->Heap->Prop},Zso pb a n cap next false Hy fun v H1=>∀H2,Shut H H1 H2->RwR Zg F1 H pb l d σ (fun i=>bS (Zbj l w_lb i) fun _ j=>Zdf l stmt (l.length+1) j) v H2:=fun {Fy Hy} by_ wy hs {next}=>by
    unfold Zso;refine ifF rfl ((Zid by_.g w_rb).mono ?_);rintro _ H4 ⟨rfl,F4,σ4,g4,n4,rfl,o4⟩;have b4:=by_.call g4 n4;have w4:=wy.call by_ n4 fun v x h=>h;refine ⟨rfl,fun H5 hs5=>?_⟩;obtain ⟨F9,b9,k9,r9,nf9⟩:=w4.done b4 fun F' k v x h=>h.grow k;have hlen:=w4.len;subst hlen;refine ⟨a,cap,ss,rfl,F9,σ4,b9.g.shut hs5,b9.n.shut hs5,r9,?_⟩;have:=cont [] σ4 ?_;rw [List.append_nil] at this;exact Zm o1 this
    . cases σx with
      | error e=>exact o4
      | ok j=>
        obtain ⟨h1,h2⟩:=hj j rfl;obtain ⟨m',rfl⟩: ∃m',m=m'+1:=⟨m - 1,by omega⟩
        have ht:=hs j rfl;have o4:Oc (Zbj l w_rb j) () σ4:=o4;unfold Zbj at o4;rw [if_pos ht] at o4;obtain ⟨_,rfl⟩:=o4;show Oc (Zdf l stmt (m'+1) j) _ _;unfold Zdf;rw [if_pos ht];exact ⟨rfl,rfl⟩
  unfold Zbrg;obtain ⟨pa,pc,i,dp,bad,hb,hr,hi,hσ⟩:=bx.g.blk;refine ⟨bad,cellL hb 3 rfl,?_⟩;cases σx with
  | error j=>
    obtain ⟨rfl,rfl⟩:=hσ;exact ifF rfl (stop bx wx fun j e=>by cases e)
  | ok j=>
    obtain ⟨rfl,rfl,rfl⟩:=hσ;obtain ⟨hjl,hjm⟩:=hj j rfl;refine ifT rfl ((Zbgk bx.g w_rb).mono ?_);rintro _ H4 ⟨rfl,F4,σ4,g4,n4,e4,rfl⟩;subst e4;have b4:=bx.call g4 n4;have w4:=wx.call bx n4 fun v x h=>h;refine ⟨_,rfl,?_⟩;cases e:isB l (.ok j) w_rb with
    | true=>exact stop b4 w4 fun j' e'=>by cases e';exact e
    | false=>
      have e:isT l w_rb j=false:=e;obtain ⟨m',rfl⟩: ∃m',m=m'+1:=⟨m - 1,by omega⟩
      unfold Zso;refine ifT rfl ((hf b4.g).mono ?_);rintro _ H5 ⟨vs5,s5,rfl,F5,σ5,g5,n5,hc5,o5⟩;have b5:=b4.call g5 n5;have w5:=w4.call b4 n5 fun v x h=>h.grow n5.ff;have hc5':=hc5;obtain ⟨z0,z1,z2,z3,z4,z5,z6,z7,z8,z9,za,zb,zc,zd,ze,zf,rfl⟩:=hc5'.ten;refine ⟨_,_,_,_,_,_,_,_,_,_,_,_,_,_,_,_,rfl,Zbnl w5 b5 hc5 (by omega) fun a' cap' H8 b8 w8 old8 k8=>⟨_,_,_,rfl,m',by omega,a',n+1,cap',F5,σ5,ss++[s5],rfl,b8,w8,by omega,fun j' hj'=>?_,fun cs' σ' o=>?_⟩⟩
      . subst hj';have o5:Oc (stmt j) s5 (.ok j'):=o5;cases hone:stmt j with
        | error e=>rw [hone] at o5;cases o5
        | ok z=>
          obtain ⟨z,j''⟩:=z;rw [hone] at o5;obtain ⟨rfl,e⟩:=o5;cases e;have:=hadv _ _ _ hone;omega
      . rw [List.append_assoc];refine cont (s5::cs') σ' ?_;show Oc (Zdf l stmt (m'+1) j) _ _;unfold Zdf;rw [if_neg (by rw [e];decide)]
        exact Zbi (r:=stmt j) o5 (Zm o Zbm)
theorem Zcjt {stmt:Nat->Rs Sm} (hadv:Adv l stmt) (hf:d<24->∀{F H:Heap} {σ:Except Nat Nat},Gr Zg F H pb l (d+1) σ->FnW Tryz.prog Zmg ⟨[.pointer (some ⟨pb,0,none⟩)]⟩ H (SmR Zg F H pb l (d+1) σ stmt)) (h:Gr Zg F H pb l d σ):
    FnW Tryz.prog Zqe ⟨[.pointer (some ⟨pb,0,none⟩)]⟩ H (RwR Zg F H pb l d σ (Zee l stmt d)):=by
  refine Zcju pb ?_;unfold Zbsy;have b0:=h.start;refine (Zbgk b0.g w_lb).mono ?_;rintro _ H3 ⟨rfl,F3,σ3,g3,n3,e3,rfl⟩;subst e3;have b3:=b0.call g3 n3;refine ⟨_,rfl,IfB.intro (fun e=>?_) fun e=>?_⟩
  . have e:isB l σ3 w_lb=false:=by simpa using e
    refine b3.bad fun H4 b4 k4 H5 hs=>⟨none,0,[],rfl,_,_,b4.g.shut hs,b4.n.shut hs,RwAt.nil,?_⟩;cases σ3 with
    | error e=>rfl
    | ok i=>
      have hn:isT l w_lb i=false:=e;show Oc (Zee l stmt d i) _ _;unfold Zee;rw [hn];rfl
  . have e:isB l σ3 w_lb=true:=by simpa using e
    obtain ⟨i,rfl,ht⟩:=Zbf e;have hil:=Zgf ht;have hlim:=h.lim;obtain ⟨a,c,i',dp,bad,hb,hr,hi,rfl,rfl,rfl⟩:=b3.g.blk;refine ⟨_,cellL hb 1 rfl,?_⟩;rw [Zcs (by omega) (by omega)]
    refine stL hb (by show 1<4;decide) rfl fun H4 hb4 k4=>?_
    have b4:Bd Zg F3 H F3 H4 pb l d (.ok (i+1)):=b3.call (b3.g.go (σ':= .ok (i+1)) (i':=i+1) k4 hb4 hr (by omega) b3.g.deep ⟨rfl,rfl,rfl⟩) (Nx.own k4)
    refine Zbaw b4.g fun H5 σ5 n5 hc5=>⟨rfl,?_⟩;rcases hc5 with ⟨rfl,rfl,g5⟩ | ⟨hd24,rfl,g5⟩;have b5:=b4.call g5 n5;obtain ⟨a5,c5,i5,dp5,bad5,hb5,hr5,hi5,rfl,rfl⟩:=b5.g.blk;refine ⟨_,cellL hb5 3 rfl,ifT rfl fun H6 hs=>⟨none,0,[],rfl,_,_,b5.g.shut hs,b5.n.shut hs,RwAt.nil,?_⟩⟩;show Oc (Zee l stmt 24 i) _ _;unfold Zee;rw [if_pos ht,if_pos rfl];rfl
    . have b5:=b4.call g5 n5;obtain ⟨a5,c5,i5,dp5,bad5,hb5,hr5,hi5,rfl,rfl,rfl⟩:=b5.g.blk;refine ⟨_,cellL hb5 3 rfl,ifF rfl ⟨_,cellL hb5 1 rfl,?_⟩⟩;rw [Zcs (by omega) (by omega)]
      refine stL hb5 (by show 1<4;decide) rfl fun H6 hb6 k6=>?_
      have hb7:=hb6;rw [show (((i+1:Nat):Int) - 1)=((i:Nat):Int) by omega] at hb7
      have b6:Bd Zg F3 H F3 H6 pb l (d+1) (.ok i):=b5.call (b5.g.go (σ':= .ok i) (i':=i) k6 hb7 hr5 (by omega) b5.g.deep ⟨rfl,rfl,rfl⟩) (Nx.own k6)
      refine (Zbrf hadv (hf hd24) b6.g).mono ?_;rintro _ H7 ⟨ra,rc,ss,rfl,F7,σ7,g7,n7,r7,o7⟩;have b7:=b6.call g7 n7;refine ⟨_,_,_,rfl,b7.up fun H8 b8 k8 H9 hs=>⟨ra,rc,ss,rfl,F7,σ7,b8.g.shut hs,b8.n.shut hs,r7,?_⟩⟩;show Oc (Zee l stmt d i) _ _;unfold Zee;rw [if_pos ht,if_neg (by omega)]
      have o7:Oc (bS (Zbj l w_lb i) fun _ j=>Zdf l stmt (l.length+1) j) ss σ7:=o7;unfold Zbj at o7;rw [if_pos ht] at o7;exact o7
end
end Go.Proofs.YtlkdgfolbllngaaGreatDoor
end
section
set_option maxRecDepth 100000
namespace Go.Proofs.YtlkdgfolbllngaaGreatDoor
open Go.Sh Go.Pc
section
variable {T:TypeId} {F0 H0 F F' H H1 H':Heap} {pb d d':Nat} {l:List Tok} {σ σ' σ1 σ2:Except Nat Nat} {α β:Type}
theorem Znh {q r:Nat} {v0 v1 v2 v3 v4 v5 v6 v7 v8 v9:Value} {op n m:Int} {S:Nat->Rs Sm} (b:Bd Zg F0 H0 F H pb l d σ1) (t:Tm H0 F H q Zz [v0,v1,v2,v3,v4,v5,v6,v7,v8,v9]) (u:Tm H0 F H r Zz (Zei op n m)) (ho: ∀σ',Oc (sB σ1 (endS l (smP op n m))) (smP op n m) σ'->Oc (sB σ S) (smP op n m) σ'):
    Zgn pb q r H fun v H1=>∀H2,Shut H0 H1 H2->SmR Zg F0 H0 pb l d σ S v H2:=by
  unfold Zgn;refine (Zid b.g w_sc).mono ?_;rintro _ H1 ⟨rfl,F1,s1,g1,n1,rfl,o1⟩;refine ⟨rfl,?_⟩;unfold Zbqh;exact ld10 (u.call b n1).blk (Znj (b.call g1 n1) (t.call b n1) (SmAt.simple op n m) (ho _ (Zm (S:=Zbj l w_sc) o1 Zbm)))
theorem Zwd {q r:Nat} {v0 v1 v2 v3 v4 v5 v6 v7 v8 v9:Value} {op k:Int} {S:Nat->Rs Sm} (b:Bd Zg F0 H0 F H pb l d σ1) (t:Tm H0 F H q Zz [v0,v1,v2,v3,v4,v5,v6,v7,v8,v9]) (u:Tm H0 F H r Zz (Zei 0 0 0)) (hqr:q≠r) (ho: ∀n σ',Oc (sB σ1 fun i=>bS (numS l k i) fun n j=>endS l (smP op n 0) j) (smP op n 0) σ'->Oc (sB σ S) (smP op n 0) σ'):
    FnW Tryz.prog Zco ⟨[.pointer (some ⟨pb,0,none⟩),.int .i64 k]⟩ H fun v H1=>∃c0:Int,∃c1:ByteArray,∃c2:Int,∃c3:Int,∃c4:Int,∃c5:Int,v= .agg ⟨[.int .i64 c0,.string c1,.int .i64 c2,.int .u32 c3,.int .i64 c4,.int .i64 c5]⟩∧Za H1 ⟨r,0,none⟩ (.int .i64 op) fun H2=>Za H2 ⟨r,8,none⟩ (.int .i64 c2) fun H3=>Zgn pb q r H3 fun v H1=>∀H2,Shut H0 H1 H2->SmR Zg F0 H0 pb l d σ S v H2:=by
  refine (Zdz b.g k).mono ?_;rintro _ H1 ⟨n,rfl,F1,s1,g1,n1,rfl,o1⟩;have b1:=b.call g1 n1;have u1:=u.call b n1;have t1:=t.call b n1;refine ⟨_,_,_,_,_,_,rfl,stL u1.blk (by show 0<10;decide) rfl fun H2 b2 k2=>stL b2 (by show 8<10;decide) rfl fun H3 b3 k3=>?_⟩
  exact Znh (b1.wr u1 (k2.trans k3)) (t1.other (k2.trans k3) hqr) (op:=op) (n:=n.2.2.1) (m:=0) ⟨u1.new,u1.nf,b3⟩ fun σ' o=>ho n.2.2.1 σ' (Zm (S:=numS l k) (Zgi (S:=tokS l k) (f:=fun t:Tok=>t.2.2.1) o1) o)
theorem Zchl {any:Nat->Rs Cd} {inner:Nat->Rs (List Sm)} (ha: ∀{F H:Heap} {σ:Except Nat Nat},Gr Zg F H pb l d σ->FnW Tryz.prog Zjh ⟨[.pointer (some ⟨pb,0,none⟩)]⟩ H (CdR Zg F H pb l d σ any))
    (hi: ∀{F H:Heap} {σ:Except Nat Nat},Gr Zg F H pb l d σ->FnW Tryz.prog Zqe ⟨[.pointer (some ⟨pb,0,none⟩)]⟩ H (RwR Zg F H pb l d σ inner)) (h:Gr Zg F H pb l d σ):
    FnW Tryz.prog Zmg ⟨[.pointer (some ⟨pb,0,none⟩)]⟩ H (SmR Zg F H pb l d σ (Zff l any inner)):=by
  refine Zchm pb ?_;unfold Zbqi;refine newB fun q H1 hq bq k1=>?_;have b1:=h.start.new k1;have t1:=h.start.tm hq bq;refine (Zhl b1.g w_if).mono ?_;rintro _ H2 ⟨rfl,F2,σ2,g2,n2,rfl,e2⟩;have b2:=b1.call g2 n2;have t2:=t1.call b1 n2;refine ⟨_,rfl,IfB.intro (fun e=>?_) fun e=>?_⟩
  ·
    rw [if_pos e] at e2;obtain ⟨i,rfl,ht⟩:=Zbf e;have e2:σ2= .ok (i+1):=e2;subst e2;refine (ha b2.g).mono ?_;rintro _ H3 ⟨vs,c,rfl,F3,σ3,g3,n3,hc,o3⟩;have b3:=b2.call g3 n3;have t3:=t2.call b2 n3;have hc':=hc;obtain ⟨x0,x1,x2,x3,x4,x5,x6,rfl⟩:=hc'.five;refine ⟨_,_,_,_,_,_,_,rfl,newB fun r H4 hr br k4=>?_⟩;have b4:=b3.new k4;have t4:=t3.nil k4;have u4:=b3.tm hr br;have hqr:q≠r:=fun e=>by subst e;exact t3.blk.some hr
    refine st10 u4.blk fun H5 b5 k5=>?_;have bb:=b4.wr u4 k5;have t5:=t4.other k5 hqr;have u5:=u4.wr b5;refine (hi bb.g).mono ?_;rintro _ H6 ⟨ta,tc,th,rfl,F6,σ6,g6,n6,r6,o6⟩;have b6:=bb.call g6 n6;have t6:=t5.call bb n6;have u6:=u5.call bb n6;refine ⟨_,_,_,rfl,stL u6.blk (by show 6<10;decide) rfl fun H7 b7 k7=>?_⟩
    replace b7:Blk H7 r Zz ⟨[.int .i64 1,.int .i64 x0,.slice x1 x2 x3,.int .u32 x4,.int .i64 x5,.int .i64 x6,.slice ta th.length tc,.slice none 0 0,.int .i64 0,.int .i64 0]⟩:=b7;have bc:=b6.wr u6 k7;have t7:=t6.other k7 hqr;have u7:=u6.wr b7;refine (Zhl bc.g Zbfe).mono ?_;rintro _ H8 ⟨rfl,F8,σ8,g8,n8,rfl,e8⟩;have b8:=bc.call g8 n8;have t8:=t7.call bc n8;have u8:=u7.call bc n8;refine ⟨_,rfl,IfB.intro (fun e9=>?_) fun e9=>?_⟩
    . rw [if_pos e9] at e8;obtain ⟨j,rfl,ht2⟩:=Zbf e9;have e8:σ8= .ok (j+1):=e8;subst e8;refine (hi b8.g).mono ?_;rintro _ H9 ⟨ea,ec,el,rfl,F9,σ9,g9,n9,r9,o9⟩;have b9:=b8.call g9 n9;have t9:=t8.call b8 n9;have u9:=u8.call b8 n9;refine ⟨_,_,_,rfl,stL u9.blk (by show 7<10;decide) rfl fun H10 b10 k10=>?_⟩
      replace b10:Blk H10 r Zz ⟨[.int .i64 1,.int .i64 x0,.slice x1 x2 x3,.int .u32 x4,.int .i64 x5,.int .i64 x6,.slice ta th.length tc,.slice ea el.length ec,.int .i64 0,.int .i64 0]⟩:=b10;unfold Zye;refine ld10 b10 (Znj (b9.wr u9 k10) (t9.other k10 hqr) (SmAt.mk' (hc.grow (n6.ff.trans n9.ff)) (r6.grow n9.ff fun _ _ h=>h.grow n9.ff) r9) ?_);show Oc (Zff l any inner i) _ _;unfold Zff;rw [if_pos ht];refine Zbi o3 (Zm o6 (Zm (x:=el) (σ1:=σ9) ?_ Zbm));show Oc (Zmd l inner j) _ _;unfold Zmd;rw [if_pos ht2];exact o9
    . rw [if_neg (by rw [e9];decide)] at e8
      subst e8;unfold Zye;refine ld10 u8.blk (Znj b8 t8 (SmAt.mk' (el:=[]) (hc.grow n6.ff) r6 RwAt.nil) ?_);show Oc (Zff l any inner i) _ _;unfold Zff;rw [if_pos ht];exact Zbi o3 (Zm o6 (Zm (x:=[]) (σ1:=σ8) (Zb (T':=fun i=> .ok ([],i)) e9 Zbm) Zbm))
  ·
    rw [if_neg (by rw [e];decide)] at e2
    subst e2;have up: ∀{s:Sm} {σ':Except Nat Nat},Oc (sB σ2 (Zne l)) s σ'->Oc (sB σ2 (Zff l any inner)) s σ':=fun {s σ'} o=>Zb (T':=Zne l) e o;refine newB fun r H5 hr br k5=>?_;have b5:=b2.new k5;have t5:=t2.nil k5;have u5:=b2.tm hr br;have hqr:q≠r:=fun e=>by subst e;exact t2.blk.some hr
    refine st10 u5.blk fun H6 b6 k6=>?_;have c0:=b5.wr u5 k6;have x0:=t5.other k6 hqr;have y0:Tm H F2 H6 r Zz (Zei 0 0 0):=u5.wr b6;refine Zcf c0.g Zjy (fun Fa Ha i ht hs ga na ea=>?_) fun Fb Hb p0 gb nb eb=>?_
    . subst hs;have ca:=c0.call ga na;have xa:=x0.call c0 na;have ya:=y0.call c0 na;refine ⟨_,rfl,ifT rfl (stL ya.blk (by show 0<10;decide) rfl fun Hc bc kc=>?_)⟩
      exact Znh (ca.wr ya kc) (xa.other kc hqr) (op:=2) (n:=0) (m:=0) ⟨ya.new,ya.nf,bc⟩ fun σ' o=>up (Zy (S':=fun i=>endS l (smP 2 0 0) (i+1)) ht o)
    have c1:=c0.call gb nb;have x1:=x0.call c0 nb;have y1:=y0.call c0 nb;refine ⟨_,rfl,ifF rfl ?_⟩;refine Zcf c1.g Zcu (fun Fa Ha i ht hs ga na ea=>?_) fun Fb Hb p1 gb nb eb=>?_
    . subst hs;have ca:=c1.call ga na;have xa:=x1.call c1 na;have ya:=y1.call c1 na;refine ⟨_,rfl,ifT rfl (stL ya.blk (by show 0<10;decide) rfl fun Hc bc kc=>?_)⟩
      exact Znh (ca.wr ya kc) (xa.other kc hqr) (op:=3) (n:=0) (m:=0) ⟨ya.new,ya.nf,bc⟩ fun σ' o=>up (Zb (T':=fun i=>if isT l Zcu i then _ else _) p0 (Zy (S':=fun i=>endS l (smP 3 0 0) (i+1)) ht o))
    have c2:=c1.call gb nb;have x2:=x1.call c1 nb;have y2:=y1.call c1 nb;refine ⟨_,rfl,ifF rfl ?_⟩;refine Zcf c2.g Zda (fun Fa Ha i ht hs ga na ea=>?_) fun Fb Hb p2 gb nb eb=>?_
    . subst hs;have ca:=c2.call ga na;have xa:=x2.call c2 na;have ya:=y2.call c2 na;refine ⟨_,rfl,ifT rfl ((Zdz ca.g 2).mono ?_)⟩;rintro _ H7 ⟨n,rfl,F7,σ7,g7,n7,rfl,o7⟩;have b7:=ca.call g7 n7;have t7:=xa.call ca n7;have u7:=ya.call ca n7;refine ⟨_,_,_,_,_,_,rfl,stL u7.blk (by show 0<10;decide) rfl fun H8 b8 k8=>stL b8 (by show 8<10;decide) rfl fun H9 b9 k9=>?_⟩
      replace b9:Blk H9 r Zz ⟨Zei 4 n.2.2.1 0⟩:=b9;have bc:=b7.wr u7 (k8.trans k9);have t9:=t7.other (k8.trans k9) hqr;have u9:=u7.wr b9;refine (Zdz bc.g 2).mono ?_;rintro _ H10 ⟨m,rfl,F10,σ10,g10,n10,rfl,o10⟩;have b10:=bc.call g10 n10;have t10:=t9.call bc n10;have u10:=u9.call bc n10;refine ⟨_,_,_,_,_,_,rfl,stL u10.blk (by show 9<10;decide) rfl fun H11 b11 k11=>?_⟩
      refine Znh (b10.wr u10 k11) (t10.other k11 hqr) (op:=4) (n:=n.2.2.1) (m:=m.2.2.1) ⟨u10.new,u10.nf,b11⟩ fun σ' o=>up (Zb (T':=fun i=>if isT l Zcu i then _ else _) p0 (Zb (T':=fun i=>if isT l Zda i then _ else _) p1 (Zy (S':=fun i=>bS (numS l 2 (i+1)) _) ht (Zbi (r:=numS l 2 (i+1)) (Zgi (σ:= .ok (i+1)) (S:=tokS l 2) (f:=fun t:Tok=>t.2.2.1) o7) (Zm (S:=numS l 2) (Zgi (S:=tokS l 2) (f:=fun t:Tok=>t.2.2.1) o10) o)))))
    have c3:=c2.call gb nb;have x3:=x2.call c2 nb;have y3:=y2.call c2 nb;refine ⟨_,rfl,ifF rfl ?_⟩;refine Zcf c3.g Zdr (fun Fa Ha i ht hs ga na ea=>?_) fun Fb Hb p3 gb nb eb=>?_;subst hs;have ca:=c3.call ga na;have xa:=x3.call c3 na;have ya:=y3.call c3 na;exact ⟨_,rfl,ifT rfl (Zwd ca xa ya hqr fun n σ' o=>up (Zb (T':=fun i=>if isT l Zcu i then _ else _) p0 (Zb (T':=fun i=>if isT l Zda i then _ else _) p1 (Zb (T':=fun i=>if isT l Zdr i then _ else _) p2 (Zy (S':=fun i=>bS (numS l 2 (i+1)) fun n j=>endS l (smP 5 n 0) j) ht o)))))⟩
    have c4:=c3.call gb nb;have x4:=x3.call c3 nb;have y4:=y3.call c3 nb;refine ⟨_,rfl,ifF rfl ?_⟩;refine Zcf c4.g Zbq (fun Fa Ha i ht hs ga na ea=>?_) fun Fb Hb p4 gb nb eb=>?_;subst hs;have ca:=c4.call ga na;have xa:=x4.call c4 na;have ya:=y4.call c4 na;exact ⟨_,rfl,ifT rfl (Zwd ca xa ya hqr fun n σ' o=>up (Zb (T':=fun i=>if isT l Zcu i then _ else _) p0 (Zb (T':=fun i=>if isT l Zda i then _ else _) p1 (Zb (T':=fun i=>if isT l Zdr i then _ else _) p2 (Zb (T':=fun i=>if isT l Zbq i then _ else _) p3 (Zy (S':=fun i=>bS (numS l 2 (i+1)) fun n j=>endS l (smP 6 n 0) j) ht o))))))⟩
    have c5:=c4.call gb nb;have x5:=x4.call c4 nb;have y5:=y4.call c4 nb;refine ⟨_,rfl,ifF rfl ?_⟩;refine Zcf c5.g Zep (fun Fa Ha i ht hs ga na ea=>?_) fun Fb Hb p5 gb nb eb=>?_;subst hs;have ca:=c5.call ga na;have xa:=x5.call c5 na;have ya:=y5.call c5 na;exact ⟨_,rfl,ifT rfl (Zwd ca xa ya hqr fun n σ' o=>up (Zb (T':=fun i=>if isT l Zcu i then _ else _) p0 (Zb (T':=fun i=>if isT l Zda i then _ else _) p1 (Zb (T':=fun i=>if isT l Zdr i then _ else _) p2 (Zb (T':=fun i=>if isT l Zbq i then _ else _) p3 (Zb (T':=fun i=>if isT l Zep i then _ else _) p4 (Zy (S':=fun i=>bS (numS l 5 (i+1)) fun n j=>endS l (smP 7 n 0) j) ht o)))))))⟩
    have c6:=c5.call gb nb;have x6:=x5.call c5 nb;have y6:=y5.call c5 nb;refine ⟨_,rfl,ifF rfl ?_⟩;refine Zcf c6.g Zfh (fun Fa Ha i ht hs ga na ea=>?_) fun Fb Hb p6 gb nb eb=>?_;subst hs;have ca:=c6.call ga na;have xa:=x6.call c6 na;have ya:=y6.call c6 na;exact ⟨_,rfl,ifT rfl (Zwd ca xa ya hqr fun n σ' o=>up (Zb (T':=fun i=>if isT l Zcu i then _ else _) p0 (Zb (T':=fun i=>if isT l Zda i then _ else _) p1 (Zb (T':=fun i=>if isT l Zdr i then _ else _) p2 (Zb (T':=fun i=>if isT l Zbq i then _ else _) p3 (Zb (T':=fun i=>if isT l Zep i then _ else _) p4 (Zb (T':=fun i=>if isT l Zfh i then _ else _) p5 (Zy (S':=fun i=>bS (numS l 5 (i+1)) fun n j=>endS l (smP 8 n 0) j) ht o))))))))⟩
    have c7:=c6.call gb nb;have x7:=x6.call c6 nb;have y7:=y6.call c6 nb;refine ⟨_,rfl,ifF rfl ?_⟩;refine Zcf c7.g Zgk (fun Fa Ha i ht hs ga na ea=>?_) fun Fb Hb p7 gb nb eb=>?_
    . subst hs;have ca:=c7.call ga na;have xa:=x7.call c7 na;have ya:=y7.call c7 na;refine ⟨_,rfl,ifT rfl (stL ya.blk (by show 0<10;decide) rfl fun Hc bc kc=>?_)⟩
      exact Znh (ca.wr ya kc) (xa.other kc hqr) (op:=9) (n:=0) (m:=0) ⟨ya.new,ya.nf,bc⟩ fun σ' o=>up (Zb (T':=fun i=>if isT l Zcu i then _ else _) p0 (Zb (T':=fun i=>if isT l Zda i then _ else _) p1 (Zb (T':=fun i=>if isT l Zdr i then _ else _) p2 (Zb (T':=fun i=>if isT l Zbq i then _ else _) p3 (Zb (T':=fun i=>if isT l Zep i then _ else _) p4 (Zb (T':=fun i=>if isT l Zfh i then _ else _) p5 (Zb (T':=fun i=>if isT l Zgk i then _ else _) p6 (Zy (S':=fun i=>endS l (smP 9 0 0) (i+1)) ht o))))))))
    have c8:=c7.call gb nb;have x8:=x7.call c7 nb;have y8:=y7.call c7 nb;refine ⟨_,rfl,ifF rfl ?_⟩;refine c8.bad fun H7 b7 k7=>?_;refine Znh b7 (x8.par c8 k7) (y8.par c8 k7) fun σ' o=>up ?_;have hσ:σ'=Zim σ2:=by cases σ2<;>exact o
    subst hσ;exact Zb (T':=fun i=>if isT l Zcu i then _ else _) p0 (Zb (T':=fun i=>if isT l Zda i then _ else _) p1 (Zb (T':=fun i=>if isT l Zdr i then _ else _) p2 (Zb (T':=fun i=>if isT l Zbq i then _ else _) p3 (Zb (T':=fun i=>if isT l Zep i then _ else _) p4 (Zb (T':=fun i=>if isT l Zfh i then _ else _) p5 (Zb (T':=fun i=>if isT l Zgk i then _ else _) p6 (Zb (T':=fun i=> .error i) p7 Zna)))))))
theorem Zbnq: ∀(f d:Nat) (_:25 <= d+f) {F H:Heap} {σ:Except Nat Nat},Gr Zg F H pb l d σ->FnW Tryz.prog Zmg ⟨[.pointer (some ⟨pb,0,none⟩)]⟩ H (SmR Zg F H pb l d σ (smS l f d))
  | 0,d,hd,F,H,σ,h=>absurd h.deep (by omega)
  | f+1,d,hd,F,H,σ,h=>Zchl (fun h=>Zcib h) (fun h=>Zcjt (Znm f (d+1)) (fun _ {F H σ} h=>Zbnq f (d+1) (by omega) h) h) h
theorem Zcig (h:Gr Zg F H pb l d σ):FnW Tryz.prog Zpw ⟨[.pointer (some ⟨pb,0,none⟩)]⟩ H (RwR Zg F H pb l d σ (fun i=>bS (Zbj l w_lb i) fun _ j=>Zkn l d j)):=
  Zbrf (Znm _ _) (fun h=>Zbnq (25 - d) d (by have:=h.deep;omega) h) h
end
end Go.Proofs.YtlkdgfolbllngaaGreatDoor
end
section
set_option maxRecDepth 100000
namespace Go.Proofs.YtlkdgfolbllngaaGreatDoor
open Go.Sh Go.Pc
section
variable {T:TypeId} {F0 H0 F F' H H1 H':Heap} {pb sb d d':Nat} {l:List Tok} {σ σ' σ1 σ2:Except Nat Nat} {α β:Type} {sp sp':Sp} {a b:Option Addr} {ac bc:Nat}
theorem Zjp {k:Int} {t:Tok} (o:Oc (sB σ (tokS l k)) t σ'):Oc (sB σ (numS l k)) t.2.2.1 σ':=Zgi (S:=tokS l k) (f:=fun t:Tok=>t.2.2.1) o
theorem Zww {k:Int} {t:Tok} (o:Oc (sB σ (tokS l k)) t σ'):Oc (sB σ (txtS l k)) t.2.1 σ':=Zgi (S:=tokS l k) (f:=fun t:Tok=>t.2.1) o
theorem Zbnx {q r:Nat} {v0 v1 v2 v3 v4 v5 v6:Value} {nm i_ o_:List UInt8} {ad as_ mx:Int} {wt:Bool} {S:Nat->Rs Pr} (bd:Bd Zg F0 H0 F H pb l d σ1) (t:Tm H0 F H q Zv [v0,v1,v2,v3,v4,v5,v6]) (u:Tm H0 F H r Zv (prL nm ad as_ wt mx i_ o_)) (ho: ∀σ',Oc (sB σ1 (endS l (⟨nm,ad,as_,wt,mx,i_,o_⟩:Pr))) ⟨nm,ad,as_,wt,mx,i_,o_⟩ σ'->Oc (sB σ S) ⟨nm,ad,as_,wt,mx,i_,o_⟩ σ'):
    Zyw pb q r H fun v H1=>∀H2,Shut H0 H1 H2->PrR Zg F0 H0 pb l d σ S v H2:=by
  unfold Zyw;refine (Zid bd.g w_sc).mono ?_;rintro _ H1 ⟨rfl,F1,s1,g1,n1,rfl,o1⟩;exact ⟨rfl,ld7 (u.call bd n1).blk (ret7 (bd.call g1 n1) (t.call bd n1) (ho _ (Zm (S:=Zbj l w_sc) o1 Zbm)))⟩
theorem Zbnw {q r:Nat} {v0 v1 v2 v3 v4 v5 v6:Value} {nm i_:List UInt8} {ad as_ mx:Int} {wt:Bool} {S:Nat->Rs Pr} (hqr:q≠r) (bd:Bd Zg F0 H0 F H pb l d σ1) (t:Tm H0 F H q Zv [v0,v1,v2,v3,v4,v5,v6]) (u:Tm H0 F H r Zv (prL nm ad as_ wt mx i_ [])) (ho: ∀o_ σ',Oc (sB σ1 fun j=>bS (mayS l Ziw (txtS l 1) [] j) fun o_ j=>endS l (⟨nm,ad,as_,wt,mx,i_,o_⟩:Pr) j) ⟨nm,ad,as_,wt,mx,i_,o_⟩ σ'->Oc (sB σ S) ⟨nm,ad,as_,wt,mx,i_,o_⟩ σ'):
    Zyv pb q r H fun v H1=>∀H2,Shut H0 H1 H2->PrR Zg F0 H0 pb l d σ S v H2:=by
  unfold Zyv;refine Zcf bd.g Ziw (fun F1 H1 i ht hs g1 n1 e1=>?_) fun F1 H1 p g1 n1 e1=>?_
  . subst hs;have b1:=bd.call g1 n1;have t1:=t.call bd n1;have u1:=u.call bd n1;refine ⟨_,rfl,ifT rfl ((Zdz b1.g 1).mono ?_)⟩;rintro _ H2 ⟨x,rfl,F2,σ2,g2,n2,rfl,o2⟩;have b2:=b1.call g2 n2;have t2:=t1.call b1 n2;have u2:=u1.call b1 n2;refine ⟨_,_,_,_,_,_,rfl,stL u2.blk (by show 6<7;decide) rfl fun H3 b3 k3=>?_⟩
    replace b3:Blk H3 r Zv ⟨prL nm ad as_ wt mx i_ x.2.1⟩:=b3;exact Zbnx (b2.wr u2 k3) (t2.other k3 hqr) (u2.wr b3) fun σ' o=>ho _ _ (Zm (Zmz ht (Zww (σ:= .ok (i+1)) o2)) o)
  have b1:=bd.call g1 n1;exact ⟨_,rfl,ifF rfl (Zbnx b1 (t.call bd n1) (u.call bd n1) fun σ' o=>ho _ _ (Zm (Znb p) o))⟩
theorem Zbnv {q r:Nat} {v0 v1 v2 v3 v4 v5 v6:Value} {nm:List UInt8} {ad as_ mx:Int} {wt:Bool} {S:Nat->Rs Pr} (hqr:q≠r) (bd:Bd Zg F0 H0 F H pb l d σ1) (t:Tm H0 F H q Zv [v0,v1,v2,v3,v4,v5,v6]) (u:Tm H0 F H r Zv (prL nm ad as_ wt mx [] [])) (ho: ∀i_ o_ σ',Oc (sB σ1 fun j=>bS (mayS l w_in (txtS l 1) [] j) fun i_ j=>bS (mayS l Ziw (txtS l 1) [] j) fun o_ j=>endS l (⟨nm,ad,as_,wt,mx,i_,o_⟩:Pr) j) ⟨nm,ad,as_,wt,mx,i_,o_⟩ σ'->Oc (sB σ S) ⟨nm,ad,as_,wt,mx,i_,o_⟩ σ'):
    Zyu pb q r H fun v H1=>∀H2,Shut H0 H1 H2->PrR Zg F0 H0 pb l d σ S v H2:=by
  unfold Zyu;refine Zcf bd.g w_in (fun F1 H1 i ht hs g1 n1 e1=>?_) fun F1 H1 p g1 n1 e1=>?_
  . subst hs;have b1:=bd.call g1 n1;have t1:=t.call bd n1;have u1:=u.call bd n1;refine ⟨_,rfl,ifT rfl ((Zdz b1.g 1).mono ?_)⟩;rintro _ H2 ⟨x,rfl,F2,σ2,g2,n2,rfl,o2⟩;have b2:=b1.call g2 n2;have t2:=t1.call b1 n2;have u2:=u1.call b1 n2;refine ⟨_,_,_,_,_,_,rfl,stL u2.blk (by show 5<7;decide) rfl fun H3 b3 k3=>?_⟩
    replace b3:Blk H3 r Zv ⟨prL nm ad as_ wt mx x.2.1 []⟩:=b3;exact Zbnw hqr (b2.wr u2 k3) (t2.other k3 hqr) (u2.wr b3) fun o_ σ' o=>ho _ _ _ (Zm (Zmz ht (Zww (σ:= .ok (i+1)) o2)) o)
  have b1:=bd.call g1 n1;exact ⟨_,rfl,ifF rfl (Zbnw hqr b1 (t.call bd n1) (u.call bd n1) fun o_ σ' o=>ho _ _ _ (Zm (Znb p) o))⟩
theorem Zcid (h:Gr Zg F H pb l d σ):FnW Tryz.prog Zbbe ⟨[.pointer (some ⟨pb,0,none⟩)]⟩ H (PrR Zg F H pb l d σ (Zhx l)):=by
  refine Zcie pb ?_;unfold Zbrd;refine newB fun q H1 hq bq k1=>?_;have b1:=h.start.new k1;have t1:=h.start.tm hq bq;refine (Zdz b1.g 1).mono ?_;rintro _ H2 ⟨tk,rfl,F2,σ2,g2,n2,rfl,o2⟩;have b2:=b1.call g2 n2;have t2:=t1.call b1 n2;refine ⟨_,_,_,_,_,_,rfl,(Zdz b2.g 3).mono ?_⟩;rintro _ H5 ⟨ad,rfl,F5,σ5,g5,n5,rfl,o5⟩;have b5:=b2.call g5 n5;have t5:=t2.call b2 n5;refine ⟨_,_,_,_,_,_,rfl,newB fun r H6 hr br k6=>?_⟩;have b6:=b5.new k6;have t6:=t5.nil k6;have u6:=b5.tm hr br;have hqr:q≠r:=fun e=>by subst e;exact t5.blk.some hr
  refine st7 (nm:=tk.2.1) (i_:=[]) (o_:=[]) u6.blk fun H7 b7 k7=>?_;have bc:=b6.wr u6 k7;have t7:=t6.other k7 hqr;have u7:=u6.wr b7;refine (Zid bc.g w_as).mono ?_;rintro _ H8 ⟨rfl,F8,σ8,g8,n8,rfl,o8⟩;have b8:=bc.call g8 n8;have t8:=t7.call bc n8;have u8:=u7.call bc n8;refine ⟨rfl,(Zdz b8.g 2).mono ?_⟩;rintro _ H9 ⟨as_,rfl,F9,σ9,g9,n9,rfl,o9⟩;have b9:=b8.call g9 n9;have t9:=t8.call b8 n9;have u9:=u8.call b8 n9;refine ⟨_,_,_,_,_,_,rfl,stL u9.blk (by show 2<7;decide) rfl fun H10 b10 k10=>?_⟩
  replace b10:Blk H10 r Zv ⟨prL tk.2.1 (IntKind.wrap .u32 ad.2.2.1) (IntKind.wrap .u32 as_.2.2.1) false 0 [] []⟩:=b10;have bd:=b9.wr u9 k10;have t10:=t9.other k10 hqr;have u10:=u9.wr b10;refine (Zhl bd.g Zlk).mono ?_;rintro _ H11 ⟨rfl,F11,σ11,g11,n11,rfl,e11⟩;have b11:=bd.call g11 n11;have t11:=t10.call bd n11;have u11:=u10.call bd n11;have o11:=Zblr (l:=l) (w:=Zlk) (σ:=σ9);rw [← e11] at o11;refine ⟨_,rfl,stL u11.blk (by show 3<7;decide) rfl fun H12 b12 k12=>?_⟩
  generalize isB l σ9 Zlk=wt at b12 o11;replace b12:Blk H12 r Zv ⟨prL tk.2.1 (IntKind.wrap .u32 ad.2.2.1) (IntKind.wrap .u32 as_.2.2.1) wt 0 [] []⟩:=b12;have be:=b11.wr u11 k12;have t12:=t11.other k12 hqr;have u12:=u11.wr b12;have up: ∀{mx:Int} {i_ o_:List UInt8} {s1 σ':Except Nat Nat},Oc (sB σ11 (mayS l Zru (numS l 2) 0)) mx s1->Oc (sB s1 fun j=>bS (mayS l w_in (txtS l 1) [] j) fun i_ j=>bS (mayS l Ziw (txtS l 1) [] j) fun o_ j=>endS l (⟨tk.2.1,IntKind.wrap .u32 ad.2.2.1,IntKind.wrap .u32 as_.2.2.1,wt,mx,i_,o_⟩:Pr) j) ⟨tk.2.1,IntKind.wrap .u32 ad.2.2.1,IntKind.wrap .u32 as_.2.2.1,wt,mx,i_,o_⟩ σ'->Oc (sB σ (Zhx l)) ⟨tk.2.1,IntKind.wrap .u32 ad.2.2.1,IntKind.wrap .u32 as_.2.2.1,wt,mx,i_,o_⟩ σ':=fun {mx i_ o_ s1 σ'} ox o=>
    Zm (S:=txtS l 1) (Zww o2) (Zm (Zjp o5) (Zm o8 (Zm (Zjp o9) (Zm o11 (Zm ox o)))))
  refine Zcf be.g Zru (fun F13 H13 i ht hs g13 n13 e13=>?_) fun F13 H13 p g13 n13 e13=>?_
  . subst hs;have b13:=be.call g13 n13;have t13:=t12.call be n13;have u13:=u12.call be n13;refine ⟨_,rfl,ifT rfl ((Zdz b13.g 2).mono ?_)⟩;rintro _ H14 ⟨mx,rfl,F14,σ14,g14,n14,rfl,o14⟩;have b14:=b13.call g14 n14;have t14:=t13.call b13 n14;have u14:=u13.call b13 n14;refine ⟨_,_,_,_,_,_,rfl,stL u14.blk (by show 4<7;decide) rfl fun H15 b15 k15=>?_⟩
    replace b15:Blk H15 r Zv ⟨prL tk.2.1 (IntKind.wrap .u32 ad.2.2.1) (IntKind.wrap .u32 as_.2.2.1) wt mx.2.2.1 [] []⟩:=b15;exact Zbnv hqr (b14.wr u14 k15) (t14.other k15 hqr) (u14.wr b15) fun i_ o_ σ' o=>up (Zmz ht (Zjp (σ:= .ok (i+1)) o14)) o
  have b13:=be.call g13 n13;exact ⟨_,rfl,ifF rfl (Zbnv hqr b13 (t12.call be n13) (u12.call be n13) fun i_ o_ σ' o=>up (Znb p) o)⟩
end
end Go.Proofs.YtlkdgfolbllngaaGreatDoor
end
section
set_option maxRecDepth 100000
namespace Go.Proofs.YtlkdgfolbllngaaGreatDoor
open Go.Sh Go.Pc
section
variable {T:TypeId} {F0 H0 F F' H H1 H':Heap} {pb sb d d':Nat} {l:List Tok} {σ σ' σ1 σ2:Except Nat Nat} {α β:Type} {sp sp':Sp} {a b:Option Addr} {ac bc:Nat}
theorem Zni (bd:Bd Zg F0 H0 F H pb l 0 σ1) (s:SpS H0 F H sb sp' a ac b bc) (hf: ∀y,H1 y=none->H0 y=none) (ho: ∀σ',Oc (sB σ1 (endS l sp')) sp' σ'->Oc (sB σ (Zfm l sp)) sp' σ') (h1:sp'.pols.length <= sp.pols.length+1) (h2:sp'.peers.length <= sp.peers.length+1):
    Zke pb H fun v H2=>∀H3,Shut H1 H2 H3->ItR Zg F0 H0 pb sb l σ sp v H3:=by
  unfold Zke;refine (Zid bd.g w_sc).mono ?_;rintro _ H4 ⟨rfl,F4,s4,g4,n4,rfl,o4⟩;have b4:=bd.call g4 n4;have s5:=s.call bd n4;exact ⟨rfl,fun H5 hs=>⟨rfl,F4,s4,sp',a,b,ac,bc,b4.shut (.inr hf) hs,s5.shut hs,ho _ (Zm (S:=Zbj l w_sc) o4 Zbm),h1,h2⟩⟩
theorem Zcir (bd:Bd Zg F0 H0 F H pb l 0 σ) (s:SpS H0 F H sb sp a ac b bc) (hl:sp.pols.length <= 5000∧sp.peers.length <= 5000):
    FnW Tryz.prog Zbbi ⟨[.pointer (some ⟨pb,0,none⟩),.pointer (some ⟨sb,0,none⟩)]⟩ H (ItR Zg F0 H0 pb sb l σ sp):=by
  have hf: ∀y,H y=none->H0 y=none:=fun y hy=>bd.n.kp.free hy;refine Zcis pb sb ?_;unfold Zbrv;refine Zcf bd.g Zfu (fun F2 H2 i ht hs g2 n2 e2=>?_) fun F1 H1 p0 g1 n1 e1=>?_
  . subst hs;have b2:=bd.call g2 n2;have s2:=s.call bd n2;refine ⟨_,rfl,ifT rfl ((Zdz b2.g 1).mono ?_)⟩;rintro _ H3 ⟨tk,rfl,F3,σ3,g3,n3,rfl,o3⟩;have b3:=b2.call g3 n3;have s3:=s2.call b2 n3;refine ⟨_,_,_,_,_,_,rfl,newB fun x H4 hx bx k4=>stL bx (by simp) rfl fun H5 b5 k5=>stL b5 (by simp) rfl fun H6 b6 k6=>?_⟩
    have tx:=b3.tm hx bx;have bb:=(b3.new k4).wr tx (k5.trans k6);have hax:a≠some ⟨x,0,none⟩:=s3.pols.ne hx;have s4:=s3.nil k4;have s6:=s4.wr' bx (k5.trans k6) (by decide) hax (by decide)
    have t6:=tx.wr b6;refine (Zcig bb.g).mono ?_;rintro _ H8 ⟨ra,rc,ss,rfl,F8,σ8,g8,n8,r8,o8⟩;have b8:=bb.call g8 n8;have s8:=s6.call bb n8;have t8:=t6.call bb n8;refine ⟨_,_,_,rfl,stL t8.blk (by simp) rfl fun H9 b9 k9=>?_⟩
    replace b9:Blk H9 x Zek ⟨[.string (bstr tk.2.1),.slice ra ss.length rc]⟩:=b9;have bc':=b8.wr t8 k9;have t9:=t8.wr b9;have s9:=s8.wr' t8.blk k9 (by decide) hax (by decide)
    refine ⟨_,_,_,cellL s9.blk.blk 5 rfl,_,cellL b9 0 rfl,_,_,_,cellL b9 1 rfl,?_⟩;obtain ⟨it,i1,i2,i3⟩:=Zbnf;have hpl:PlAt F8 [.string (bstr tk.2.1),.slice ra ss.length rc] ⟨tk.2.1,ss⟩:=⟨ra,rc,rfl,r8⟩;refine s9.pols.push bc' (z:=[.string ⟨#[]⟩,.slice none 0 0]) hpl rfl (fun u hu=>?_) (by kernel_rfl) i1 i2 i3 (by decide) (by kernel_rfl) rfl (by omega) (by decide) fun a' cap' H10 b10 w10 old10 k10=>⟨_,_,_,rfl,?_⟩
    simp only [List.mem_cons,List.not_mem_nil,or_false] at hu;rcases hu with rfl | rfl<;>rfl;have tb10:Tm H0 F8 H10 sb Zcj (spL sp a ac b bc):=⟨s9.blk.new,s9.blk.nf,k10.blk s9.blk.blk fun e=>s9.pols.apart s9.blk.blk (by decide) sb e rfl⟩
    have pe10:Gw PrAt 7 Zv H0 F8 H10 b sp.peers.length bc sp.peers:=s9.peers.other k10 fun y hy e=>by obtain ⟨vs,ho,_⟩:=s9.peers.ex;obtain ⟨_,hb⟩:=ho.live hy;exact s9.pols.apart hb (by decide) y e rfl
    refine stL tb10.blk (by show 5<7;decide) rfl fun H11 b11 k11 H12 hs=>?_
    have hlen:sp.pols.length+1=(sp.pols++[(⟨tk.2.1,ss⟩:Pl)]).length:=by rw [List.length_append];rfl
    have s11:SpS H0 F8 H11 sb { sp with pols:=sp.pols++[⟨tk.2.1,ss⟩] } a' cap' b bc:=by
      refine ⟨tb10.wr ?_,?_,pe10.other k11 fun y hy=>pe10.apart tb10.blk (by decide) y hy⟩
      show Blk H11 sb Zcj ⟨[.int .u32 sp.as_,.int .u32 sp.router,.int .i64 sp.hold,.int .i64 sp.retry,.int .i64 sp.grace,.slice a' (sp.pols++[(⟨tk.2.1,ss⟩:Pl)]).length cap',.slice b sp.peers.length bc]⟩;rw [← hlen];exact b11;show Gw PlAt 2 Zek H0 F8 H11 a' (sp.pols++[(⟨tk.2.1,ss⟩:Pl)]).length cap' (sp.pols++[⟨tk.2.1,ss⟩]);rw [← hlen];exact w10.other k11 fun y hy=>w10.apart tb10.blk (by decide) y hy
    refine ⟨rfl,F8,σ8,_,a',b,cap',bc,(b10.wr tb10 k11).shut (.inr hf) hs,s11.shut hs,?_,by rw [← hlen];exact Nat.le_refl _,Nat.le_succ _⟩
    show Oc (Zfm l sp i) _ _;unfold Zfm;rw [if_pos ht];refine Zbi (r:=txtS l 1 (i+1)) (Zww (σ:= .ok (i+1)) o3) ?_;cases σ3 with
    | error e2=>
      have o8:σ8= .error e2:=o8;subst o8;exact rfl
    | ok j=>
      have o8:Oc (bS (Zbj l w_lb j) fun _ j=>Zkn l 0 j) ss σ8:=o8;show Oc (bS (Zbj l w_lb j) fun _ j=>bS (Zkn l 0 j) _) _ _;cases hw:Zbj l w_lb j with
      | error e2=>
        rw [hw] at o8;exact o8
      | ok z=>
        rw [hw] at o8;exact Zbi (r:=Zkn l 0 z.2) o8 Zbm
  have c1:=bd.call g1 n1;have q1:=s.call bd n1;refine ⟨_,rfl,ifF rfl (Zcf c1.g Zcg (fun F2 H2 i ht hs g2 n2 e2=>?_) fun F2 H2 p1 g2 n2 e2=>?_)⟩
  . subst hs;have b2:=c1.call g2 n2;have s2:=q1.call c1 n2;have hsb:=s2.blk.blk.some;refine ⟨_,rfl,ifT rfl ⟨[sb],Zva hsb,List.mem_singleton.2 rfl,_,_,_,cellL s2.blk.blk 6 rfl,(Zcid b2.g).mono ?_⟩⟩;rintro _ H3 ⟨vs,p,rfl,F3,σ3,g3,n3,hv,o3⟩;have b3:=b2.call g3 n3;have s3:=s2.call b2 n3;have hv':vs=_:=hv;subst hv';have kk:Zea [sb] H2 H3:=Zbcm hsb n3.kp (s2.blk.ne b2);refine ⟨_,_,_,_,_,_,_,rfl,kk,?_⟩;obtain ⟨it,i1,i2,i3⟩:=Zbmk;refine s3.peers.push b3 (z:=[.string ⟨#[]⟩,.int .u32 0,.int .u32 0,.bool false,.int .i64 0,.string ⟨#[]⟩,.string ⟨#[]⟩]) (x:=p) rfl rfl (fun u hu=>?_) (by kernel_rfl) i1 i2 i3 (by decide) (by kernel_rfl) rfl (by omega) (by decide) fun a' cap' H10 b10 w10 old10 k10=>⟨_,_,_,rfl,?_⟩
    simp only [List.mem_cons,List.not_mem_nil,or_false] at hu;rcases hu with rfl | rfl | rfl | rfl | rfl | rfl | rfl<;>rfl;have hbs: ∀y,b=some ⟨y,0,none⟩->y≠sb:=fun y hy=>s3.peers.apart s3.blk.blk (by decide) y hy
    have tb10:Tm H0 F3 H10 sb Zcj (spL sp a ac b bc):=⟨s3.blk.new,s3.blk.nf,k10.blk s3.blk.blk fun e=>hbs sb e rfl⟩;have po10:Gw PlAt 2 Zek H0 F3 H10 a sp.pols.length ac sp.pols:=s3.pols.other k10 fun y hy e=>by obtain ⟨vs,ho,_⟩:=s3.pols.ex;obtain ⟨_,hb⟩:=ho.live hy;exact s3.peers.apart hb (by decide) y e rfl
    refine ⟨fun y hy=>?_,stL tb10.blk (by show 6<7;decide) rfl fun H11 b11 k11 H12 hs=>?_⟩
    . rw [List.mem_singleton.1 hy];cases e:H2 sb with
      | none=>exact absurd e hsb
      | some o=>exact ⟨⟨o,rfl⟩,by rw [k10.same sb (fun e=>hbs sb e rfl) s3.blk.blk.some,← e];exact n3.kp.same sb (s2.blk.ne b2) hsb⟩
    have hlen:sp.peers.length+1=(sp.peers++[p]).length:=by rw [List.length_append];rfl
    have s11:SpS H0 F3 H11 sb { sp with peers:=sp.peers++[p] } a ac a' cap':=by
      refine ⟨tb10.wr ?_,po10.other k11 fun y hy=>po10.apart tb10.blk (by decide) y hy,?_⟩
      show Blk H11 sb Zcj ⟨[.int .u32 sp.as_,.int .u32 sp.router,.int .i64 sp.hold,.int .i64 sp.retry,.int .i64 sp.grace,.slice a sp.pols.length ac,.slice a' (sp.peers++[p]).length cap']⟩;rw [← hlen];exact b11;show Gw PrAt 7 Zv H0 F3 H11 a' (sp.peers++[p]).length cap' (sp.peers++[p]);rw [← hlen];exact w10.other k11 fun y hy=>w10.apart tb10.blk (by decide) y hy
    refine ⟨rfl,F3,σ3,_,a,a',ac,cap',(b10.wr tb10 k11).shut (.inr hf) hs,s11.shut hs,?_,Nat.le_succ _,by rw [← hlen];exact Nat.le_refl _⟩
    exact Zb (T':=fun i=>if isT l Zcg i then _ else _) p0 (Zy (S':=fun i=>bS (Zhx l (i+1)) _) ht (Zbi o3 Zbm))
  have c2:=c1.call g2 n2;have q2:=q1.call c1 n2;refine ⟨_,rfl,ifF rfl (Zcf c2.g Zcr (fun Fa Ha i ht hs ga na ea=>?_) fun Fb Hb p2 gb nb eb=>?_)⟩
  . subst hs;have ca:=c2.call ga na;have qa:=q2.call c2 na;refine ⟨_,rfl,ifT rfl ((Zdz ca.g 2).mono ?_)⟩;rintro _ H3 ⟨n,rfl,F3,σ3,g3,n3,rfl,o3⟩;have b3:=ca.call g3 n3;have s3:=qa.call ca n3;refine ⟨_,_,_,_,_,_,rfl,stL s3.blk.blk (by show 0<7;decide) rfl fun H4 b4 k4=>?_⟩
    refine Zni (b3.wr s3.blk k4) (s3.set (sp':={ sp with as_:=IntKind.wrap .u32 n.2.2.1 }) k4 b4 rfl rfl) hf (fun σ' o=>?_) (Nat.le_succ _) (Nat.le_succ _)
    exact Zb (T':=fun i=>if isT l Zcg i then _ else _) p0 (Zb (T':=fun i=>if isT l Zcr i then _ else _) p1 (Zy (S':=fun i=>setS l 2 (fun n=>{ sp with as_:=IntKind.wrap .u32 n }) (i+1)) ht (Zbi (r:=numS l 2 (i+1)) (Zjp (σ:= .ok (i+1)) o3) o)))
  have c3:=c2.call gb nb;have q3:=q2.call c2 nb;refine ⟨_,rfl,ifF rfl (Zcf c3.g Zcx (fun Fa Ha i ht hs ga na ea=>?_) fun Fb Hb p3 gb nb eb=>?_)⟩
  . subst hs;have ca:=c3.call ga na;have qa:=q3.call c3 na;refine ⟨_,rfl,ifT rfl ((Zdz ca.g 3).mono ?_)⟩;rintro _ H3 ⟨n,rfl,F3,σ3,g3,n3,rfl,o3⟩;have b3:=ca.call g3 n3;have s3:=qa.call ca n3;refine ⟨_,_,_,_,_,_,rfl,stL s3.blk.blk (by show 1<7;decide) rfl fun H4 b4 k4=>?_⟩
    refine Zni (b3.wr s3.blk k4) (s3.set (sp':={ sp with router:=IntKind.wrap .u32 n.2.2.1 }) k4 b4 rfl rfl) hf (fun σ' o=>?_) (Nat.le_succ _) (Nat.le_succ _)
    exact Zb (T':=fun i=>if isT l Zcg i then _ else _) p0 (Zb (T':=fun i=>if isT l Zcr i then _ else _) p1 (Zb (T':=fun i=>if isT l Zcx i then _ else _) p2 (Zy (S':=fun i=>setS l 3 (fun n=>{ sp with router:=IntKind.wrap .u32 n }) (i+1)) ht (Zbi (r:=numS l 3 (i+1)) (Zjp (σ:= .ok (i+1)) o3) o))))
  have c4:=c3.call gb nb;have q4:=q3.call c3 nb;refine ⟨_,rfl,ifF rfl (Zcf c4.g Zdh (fun Fa Ha i ht hs ga na ea=>?_) fun Fb Hb p4 gb nb eb=>?_)⟩
  . subst hs;have ca:=c4.call ga na;have qa:=q4.call c4 na;refine ⟨_,rfl,ifT rfl ((Zdz ca.g 2).mono ?_)⟩;rintro _ H3 ⟨n,rfl,F3,σ3,g3,n3,rfl,o3⟩;have b3:=ca.call g3 n3;have s3:=qa.call ca n3;refine ⟨_,_,_,_,_,_,rfl,stL s3.blk.blk (by show 2<7;decide) rfl fun H4 b4 k4=>?_⟩
    refine Zni (b3.wr s3.blk k4) (s3.set (sp':={ sp with hold:=n.2.2.1 }) k4 b4 rfl rfl) hf (fun σ' o=>?_) (Nat.le_succ _) (Nat.le_succ _)
    exact Zb (T':=fun i=>if isT l Zcg i then _ else _) p0 (Zb (T':=fun i=>if isT l Zcr i then _ else _) p1 (Zb (T':=fun i=>if isT l Zcx i then _ else _) p2 (Zb (T':=fun i=>if isT l Zdh i then _ else _) p3 (Zy (S':=fun i=>setS l 2 (fun n=>{ sp with hold:=n }) (i+1)) ht (Zbi (r:=numS l 2 (i+1)) (Zjp (σ:= .ok (i+1)) o3) o)))))
  have c5:=c4.call gb nb;have q5:=q4.call c4 nb;refine ⟨_,rfl,ifF rfl (Zcf c5.g Zdx (fun Fa Ha i ht hs ga na ea=>?_) fun Fb Hb p5 gb nb eb=>?_)⟩
  . subst hs;have ca:=c5.call ga na;have qa:=q5.call c5 na;refine ⟨_,rfl,ifT rfl ((Zdz ca.g 2).mono ?_)⟩;rintro _ H3 ⟨n,rfl,F3,σ3,g3,n3,rfl,o3⟩;have b3:=ca.call g3 n3;have s3:=qa.call ca n3;refine ⟨_,_,_,_,_,_,rfl,stL s3.blk.blk (by show 3<7;decide) rfl fun H4 b4 k4=>?_⟩
    refine Zni (b3.wr s3.blk k4) (s3.set (sp':={ sp with retry:=n.2.2.1 }) k4 b4 rfl rfl) hf (fun σ' o=>?_) (Nat.le_succ _) (Nat.le_succ _)
    exact Zb (T':=fun i=>if isT l Zcg i then _ else _) p0 (Zb (T':=fun i=>if isT l Zcr i then _ else _) p1 (Zb (T':=fun i=>if isT l Zcx i then _ else _) p2 (Zb (T':=fun i=>if isT l Zdh i then _ else _) p3 (Zb (T':=fun i=>if isT l Zdx i then _ else _) p4 (Zy (S':=fun i=>setS l 2 (fun n=>{ sp with retry:=n }) (i+1)) ht (Zbi (r:=numS l 2 (i+1)) (Zjp (σ:= .ok (i+1)) o3) o))))))
  have c6:=c5.call gb nb;have q6:=q5.call c5 nb;refine ⟨_,rfl,ifF rfl (Zcf c6.g Zej (fun Fa Ha i ht hs ga na ea=>?_) fun Fb Hb p6 gb nb eb=>?_)⟩
  . subst hs;have ca:=c6.call ga na;have qa:=q6.call c6 na;refine ⟨_,rfl,ifT rfl ((Zdz ca.g 2).mono ?_)⟩;rintro _ H3 ⟨n,rfl,F3,σ3,g3,n3,rfl,o3⟩;have b3:=ca.call g3 n3;have s3:=qa.call ca n3;refine ⟨_,_,_,_,_,_,rfl,stL s3.blk.blk (by show 4<7;decide) rfl fun H4 b4 k4=>?_⟩
    refine Zni (b3.wr s3.blk k4) (s3.set (sp':={ sp with grace:=n.2.2.1 }) k4 b4 rfl rfl) hf (fun σ' o=>?_) (Nat.le_succ _) (Nat.le_succ _)
    exact Zb (T':=fun i=>if isT l Zcg i then _ else _) p0 (Zb (T':=fun i=>if isT l Zcr i then _ else _) p1 (Zb (T':=fun i=>if isT l Zcx i then _ else _) p2 (Zb (T':=fun i=>if isT l Zdh i then _ else _) p3 (Zb (T':=fun i=>if isT l Zdx i then _ else _) p4 (Zb (T':=fun i=>if isT l Zej i then _ else _) p5 (Zy (S':=fun i=>setS l 2 (fun n=>{ sp with grace:=n }) (i+1)) ht (Zbi (r:=numS l 2 (i+1)) (Zjp (σ:= .ok (i+1)) o3) o)))))))
  have c7:=c6.call gb nb;have q7:=q6.call c6 nb;refine ⟨_,rfl,ifF rfl (c7.bad fun H3 b3 k3=>?_)⟩;have s3:=q7.call c7 (Nx.own k3);refine Zni b3 s3 hf (fun σ' o=>?_) (Nat.le_succ _) (Nat.le_succ _);have hσ:σ'=Zim σ:=by cases σ<;>exact o
  subst hσ;exact Zb (T':=fun i=>if isT l Zcg i then _ else _) p0 (Zb (T':=fun i=>if isT l Zcr i then _ else _) p1 (Zb (T':=fun i=>if isT l Zcx i then _ else _) p2 (Zb (T':=fun i=>if isT l Zdh i then _ else _) p3 (Zb (T':=fun i=>if isT l Zdx i then _ else _) p4 (Zb (T':=fun i=>if isT l Zej i then _ else _) p5 (Zb (T':=fun i=> .error i) p6 Zna))))))
end
end Go.Proofs.YtlkdgfolbllngaaGreatDoor
end
section
set_option maxRecDepth 100000
namespace Go.Proofs.YtlkdgfolbllngaaGreatDoor
open Go.Sh Go.Pc
theorem Zcch {H:Heap} {s:List UInt8} (hy:Lyd H) (hs:s.length <= 100000):FnW Tryz.prog Zuf ⟨[.string (bstr s)]⟩ H (SplR H s):=by
  refine (FnQ.runZ (x:=(s,())) Zchr rfl rfl (Z:=fun _=>False) ?_ (fun _ h=>h.elim) hy.live hy.ok (K:=fun r=>(r.1,r.2.1,r.2.2.1)=lexR s) (Zcby s _ (fun h=>?_) fun h=>?_)).mono fun r H' hk=>?_;simp only [pksA,pkA,SimL,SimV,and_true];exact ⟨trivial,Nat.le_trans hs (by decide)⟩
  . show _=lexR s;unfold lexR;rw [if_neg (by omega)]
    rfl
  show _=lexR s;unfold lexR;rw [if_pos h];rfl
  . obtain ⟨k,y,Zn,h1,_,hf,h3⟩:=hk;obtain ⟨toks,line,e,u⟩:=y;simp only [pksA,pkA,outA,SimV,SimL] at h3 h1;obtain ⟨vs,rfl,hvs⟩:=h3
    match vs,hvs with
    | [v1,v2,v3],hvs=>
      simp only [SimL,SimV,and_true] at hvs;obtain ⟨ha,⟨rfl,_⟩,rfl,_⟩:=hvs;obtain ⟨a,c,rfl,hr,hc,hz⟩:=Zbou ha;refine ⟨k,a,c,?_⟩;rw [← h1];refine ⟨rfl,hr,hc,fun x hx h0=>?_⟩;rcases hz x hx h0 with h | h;exact h.elim;exact (hf _ h).1
section
variable {T:TypeId} {F0 H0 F F' H H1 H':Heap} {pb sb d d':Nat} {l:List Tok} {σ σ' σ1 σ2:Except Nat Nat} {α β:Type} {sp sp':Sp} {a b:Option Addr} {ac bc:Nat}
theorem Zcin {s:List UInt8} (hy:Lyd H) (hs:s.length <= 100000):FnW Tryz.prog Zbbg ⟨[.string (bstr s)]⟩ H (ParR H s):=by
  refine Zcio (bstr s) ?_;unfold Zbrt;refine newB fun q H1 hq bq k1=>(Zcch (hy.keep k1) hs).mono ?_;rintro _ H2 ⟨k2,a,c,rfl,hr,hc,hn⟩;have bq2:=k2.blk bq fun h=>h;have hlim:(lexR s).1.length <= 4096:=by unfold lexR;split;exact Nat.zero_le _;exact Zbku _ s 1 [] (Nat.le_refl _) (Nat.zero_le _)
  refine ⟨_,_,_,_,_,rfl,IfB.intro (fun e=>?_) fun e=>?_⟩
  . have e:(lexR s).2.2≠0:=by simpa using e
    refine st7s bq2 fun H3 b3 k3=>ld7s b3 fun H4 hs4=>⟨Zcq ((k1.trans k2).then k3 fun y hy=> .inr (hy▸hq)) hs4,?_⟩;unfold Zhb;rw [if_pos e];exact ⟨rfl,e⟩
  have e:(lexR s).2.2=0:=by simpa using e
  have hps:Zhb s=finS (lexR s).1:=by unfold Zhb;rw [if_neg (by rw [e];simp)]
  generalize (lexR s).1=l at hr hc hn hlim hps ⊢;refine newB fun pb H3 hpb bpb k3=>newB fun sb H4 hsb bsb k4=>st7s bsb fun H5 b5 k5=>?_;obtain ⟨F,kF,rF,nF,cF⟩:=Zbjk (Hs:=H1) hr fun x hx h0=>hn x hx (by omega)
  have k03:Keep Nil H H3:=(k1.trans k2).trans k3;have hpsb:pb≠sb:=fun e=>by subst e;rw [bpb] at hsb;cases hsb
  have hqsb:q≠sb:=fun e=>by subst e;exact ((k3.blk bq2 fun h=>h).some hsb)
  have hqpb:q≠pb:=fun e=>by subst e;exact bq2.some hpb
  have gr:Gr Zg F H3 pb l 0 (.ok 0):=⟨kF.trans k3,cF,Classical.byContradiction fun e=>(kF.live pb e) hpb,hlim,by decide,a,c,0,0,false,bpb,rF,Nat.zero_le _,rfl,rfl,rfl⟩
  have b3:=gr.start;have b4:=b3.new k4;have ts:=b3.tm hsb bsb;have bb:=b4.wr ts k5;have s5:SpS H3 F H5 sb Zfr none 0 none 0:=⟨ts.wr b5,Gw.empty,Gw.empty⟩;refine Zcy (fun m x Hx=>∃(Fx:Heap) (σx:Except Nat Nat) (spx:Sp) (ax bx:Option Addr) (acx bcx:Nat),Bd Zg F H3 Fx Hx pb l 0 σx∧SpS H3 Fx Hx sb spx ax acx bx bcx∧spx.pols.length+m <= l.length+1∧spx.peers.length+m <= l.length+1∧(∀j,σx= .ok j->j <= l.length∧l.length+1 <= m+j∧Zem l m spx j=Zem l (l.length+1) Zfr 0)∧(∀j,σx= .error j->Zem l (l.length+1) Zfr 0= .error j)) (l.length+1)
    ⟨F,.ok 0,Zfr,none,none,0,0,bb,s5,(by show 0+_ <= _;omega),(by show 0+_ <= _;omega),fun j hj=>by cases hj;exact ⟨Nat.zero_le _,by omega,rfl⟩,fun j hj=>by cases hj⟩ ?_
  rintro m _ Hx ⟨Fx,σx,spx,ax,bx,acx,bcx,bdx,sx,hm1,hm2,hok,herr⟩ g;unfold Zbrs;have hx:=bdx.g.blk;obtain ⟨pa,pc,i,dp,bad,hb,hrr,hi,hσ⟩:=hx;have bq3:Blk Hx q Zcj ⟨spZ⟩:=bdx.n.kp.blk (k3.blk bq2 fun h=>h) hqpb;have hHpb:H pb=none:=(k1.trans k2).free hpb;have kH:Keep Nil H Hx:=k03.then bdx.n.kp fun y hy=> .inr (hy▸hHpb);have stop: ∀{next:Unit->Heap->Prop},(∀j,σx= .ok j->¬j<l.length)->Zsr q a l.length c pb sb next false Hx fun v H1=>∀H2,Shut H H1 H2->ParR H s v H2:=fun {next} hstop=>by
    unfold Zsr;refine ifF rfl ⟨bad,cellL hb 3 rfl,?_⟩;cases σx with
    | error j=>
      obtain ⟨rfl,rfl⟩:=hσ;have kq: ∀{H7:Heap},Keep (fun y=>y=q) Hx H7->Keep Nil H H7:=fun k7=>kH.then k7 fun y hy=> .inr (hy▸hq);refine ifF rfl (IfB.intro (fun e0=>?_) fun e0=>?_)
      . have e0:(l.length:Int)=0:=by simpa using e0
        refine st7s bq3 fun H7 b7 k7=>ld7s b7 fun H8 hs8=>⟨Zcq (kq k7) hs8,?_⟩;rw [hps,Zbbv (herr j rfl)];refine ⟨?_,by decide⟩
        show _=Value.tuple ⟨[.agg ⟨spZ⟩,.int .i64 (Zjo l j),.int .i64 250]⟩;unfold Zjo;rw [if_pos (by omega)]
      . have e0: ¬(l.length:Int)=0:=by simpa using e0
        have hj:min j (l.length - 1)<l.length:=by omega
        have ht:=List.getElem?_eq_getElem hj;generalize l[min j (l.length - 1)]=t at ht;have hra:=rF.keep bdx.n.ff fun _ _ h=>h;obtain ⟨xx,rfl⟩: ∃x,a=some x:=by
          cases a with
          | none=>have:=hra.2;simp only at this;omega
          | some x=>exact ⟨x,rfl⟩
        obtain ⟨hsp,ct,Tt,frt,hbt,hct⟩:=hra.2 (by omega)
        obtain ⟨tb,to_,ts⟩:=xx;simp only at hsp;subst hsp;have hFq:F q=none:=Classical.byContradiction fun e=>bq.some (nF q e);have hFxq:Fx q=none:=bdx.n.none hFq (k3.live q bq2.some);have htq:tb≠q:=fun e=>by have hbt:Fx tb=_:=hbt;rw [e,hFxq] at hbt;cases hbt
        have htl:Hx tb≠none:=bdx.g.fr.live tb (by
          have hbt:Fx tb=_:=hbt;rw [hbt];simp)
        have here: ∀y∈[pb,tb],∃o,Hx y=some o:=fun y hy=>by
          simp only [List.mem_cons,List.not_mem_nil,or_false] at hy;rcases hy with rfl | rfl;exact ⟨_,hb⟩
          . cases e:Hx y with
            | none=>exact absurd e htl
            | some o=>exact ⟨o,rfl⟩
        refine ⟨[pb,tb],here,by simp,_,cellL hb 1 rfl,?_⟩
        rw [Zcs (by omega) (by omega)]
        refine NilP.intro _ rfl (InB.intro (min j (l.length - 1)) (by omega) hj ?_)
        rw [Zpm];have hc5:=(hra.keep bdx.g.fr fun _ _ h=>h).cell (j:=min j (l.length - 1)*6+5) (by omega)
        rw [row6 tokL 6 (fun _=>rfl) l (min j (l.length - 1)) 5 t ht (by decide)] at hc5
        refine ⟨by simp,_,by
          rw [← Nat.add_assoc] at hc5;exact hc5,?_⟩
        refine st7s bq3 fun H7 b7 k7=>⟨fun y hy=>?_,ld7s b7 fun H8 hs8=>⟨Zcq (kq k7) hs8,?_⟩⟩
        . obtain ⟨o,ho⟩:=here y hy;refine ⟨⟨o,ho⟩,?_⟩;have hne:y≠q:=by simp only [List.mem_cons,List.not_mem_nil,or_false] at hy;rcases hy with rfl | rfl;exact fun e=>hqpb e.symm;exact htq
          exact k7.same y hne (by rw [ho];simp)
        . rw [hps,Zbbv (herr j rfl)];refine ⟨?_,by decide⟩
          show _=Value.tuple ⟨[.agg ⟨spZ⟩,.int .i64 (Zjo l j),.int .i64 250]⟩;unfold Zjo;rw [if_neg (by omega),ht]
    | ok j=>
      obtain ⟨rfl,rfl,rfl⟩:=hσ;obtain ⟨h1,h2,h3⟩:=hok j rfl;obtain ⟨m',rfl⟩: ∃m',m=m'+1:=⟨m - 1,by omega⟩
      have h3:Zem l (l.length+1) Zfr 0= .ok spx:=by rw [← h3];unfold Zem;rw [if_neg (hstop j rfl)]
      obtain ⟨F8,b8,k8,r8,nf8⟩:=sx.pols.done bdx fun F' k v x h=>PlAt.grow h k;have pe8:Gw PrAt 7 Zv H3 F8 Hx bx spx.peers.length bcx spx.peers:=by obtain ⟨vs,ho,hl,hxx⟩:=sx.peers.ex;refine ⟨⟨vs,ho,hl,hxx⟩,sx.peers.len,fun y hy=>nf8 y (sx.peers.nf y hy) fun e=>?_,sx.peers.lim⟩;obtain ⟨_,hbb⟩:=ho.live hy;exact sx.pols.apart hbb (by decide) y e rfl
      obtain ⟨F9,b9,k9,r9,nf9⟩:=pe8.done b8 fun F' k v x h=>h;have hFq:F q=none:=Classical.byContradiction fun e=>bq.some (nF q e);have hF9q:F9 q=none:=by
        refine nf9 q (nf8 q (bdx.n.none hFq (k3.live q bq2.some)) fun e=>?_) fun e=>?_;exact sx.pols.apart bq3 (by decide) q e rfl
        exact sx.peers.apart bq3 (by decide) q e rfl
      refine ifT rfl (ld7s sx.blk.blk (st7s bq3 fun H7 b7 k7=>ld7s b7 fun H8 hs8=>⟨Zcq (kH.then k7 fun y hy=> .inr (hy▸hq)) hs8,?_⟩));rw [hps,Zbjf h3];refine ⟨F9,_,rfl,⟨ax,bx,acx,bcx,rfl,r8.grow k9 fun v x h=>PlAt.grow h k9,r9⟩,((b9.g.other k7 (fun e=>hqpb e.symm) fun y hy=>hy▸hF9q).shut hs8).fr,fun y hy=>?_,b9.g.cells⟩;rcases b9.n.new y hy with h | h;exact k1.free (nF y h);exact k03.free h
  refine ⟨bad,cellL hb 3 rfl,?_⟩;cases σx with
  | error j=>
    obtain ⟨rfl,rfl⟩:=hσ;exact ifF rfl (stop fun j e=>by cases e)
  | ok j=>
    obtain ⟨rfl,rfl,rfl⟩:=hσ;obtain ⟨h1,h2,h3⟩:=hok j rfl;refine ifT rfl ⟨_,cellL hb 1 rfl,?_⟩;by_cases hj:j<l.length
    . rw [decide_eq_true (show (j:Int)<(l.length:Int) by omega)]
      obtain ⟨m',rfl⟩: ∃m',m=m'+1:=⟨m - 1,by omega⟩
      unfold Zsr;refine ifT rfl ((Zcir bdx sx ⟨by omega,by omega⟩).mono ?_)
      rintro _ H6 ⟨rfl,F6,σ6,sp6,a6,b6,ac6,bc6,bd6,s6,o6,l1,l2⟩;refine ⟨rfl,m',by omega,F6,σ6,sp6,a6,b6,ac6,bc6,bd6,s6,by omega,by omega,?_⟩
      have o6:Oc (Zfm l spx j) sp6 σ6:=o6;unfold Zem at h3;rw [if_pos hj] at h3;cases hit:Zfm l spx j with
      | error e2=>
        rw [hit] at h3 o6;have o6:σ6= .error e2:=o6;subst o6;refine ⟨fun j' e=>(by cases e),fun j' e=>?_⟩
        cases e;exact h3.symm
      | ok z=>
        obtain ⟨z,j'⟩:=z;rw [hit] at h3 o6;obtain ⟨rfl,rfl⟩:=(show sp6=z∧σ6= .ok j' from o6)
        have:=Zbkg spx j _ _ hit;refine ⟨fun j'' e=>?_,fun j'' e=>(by cases e)⟩
        cases e;exact ⟨by omega,by omega,h3⟩
    . rw [decide_eq_false (show ¬(j:Int)<(l.length:Int) by omega)]
      exact stop fun j' e=>by cases e;exact hj
end
end Go.Proofs.YtlkdgfolbllngaaGreatDoor
end
section
set_option maxRecDepth 100000
namespace Go.Proofs.YtlkdgfolbllngaaGreatDoor
open Go.Sh Go.Pc
section
variable {F Fa Fb H H1 H':Heap} {α β:Type}
theorem Zbjq (k:Nat): ∀(vs:List (List Value)) (i j:Nat) (v:List Value),(∀u∈vs,u.length=k)->vs[i]? =some v->j<k->vs.flatten[i*k+j]? =v[j]?
  | [],i,j,v,_,h,_=>by simp at h
  | u::vs,0,j,v,hl,h,hj=>by
    simp only [List.getElem?_cons_zero,Option.some.injEq] at h;subst h;have hu:=hl u (by simp)
    rw [List.flatten_cons,Nat.zero_mul,Nat.zero_add,List.getElem?_append_left (by omega)]
  | u::vs,i+1,j,v,hl,h,hj=>by
    simp only [List.getElem?_cons_succ] at h;have hu:=hl u (by simp)
    rw [List.flatten_cons,List.getElem?_append_right (by rw [Nat.succ_mul];omega),hu,← Zbjq k vs i j v (fun u hu=>hl u (List.mem_cons_of_mem _ hu)) h hj]
    congr 1;rw [Nat.succ_mul];omega
theorem Zdq {P:Heap->List Value->α->Prop} {sz:Nat} {a:Option Addr} {c i:Nat} {z:Int} {l:List α} {x:α} (h:RwAt P sz F a c l) (fr:Keep Nil F H) (hP: ∀v x,P F v x->v.length=sz) (hx:l[i]? =some x) (hz:z=i) {K:Addr->Prop}
    (hK: ∀b o v,(∃o',a=some ⟨b,o',none⟩)->P F v x->H b≠none->(∀j,j<sz->H.cell ⟨b,o+j,none⟩=v[j]?)->K ⟨b,o,none⟩) (hsz:0<sz):NilP a fun q=>InB z l.length fun m=>elemAt q m sz K:=by
  obtain ⟨vs,hr,hl,hm⟩:=h.ex;have hi:i<l.length:=(List.getElem?_eq_some_iff.1 hx).1;have hv:vs[i]? =some (vs[i]'(by omega)):=List.getElem?_eq_getElem (by omega)
  have hlen: ∀u∈vs,u.length=sz:=fun u hu=>by obtain ⟨j,hj⟩:=List.mem_iff_getElem?.1 hu;have hj2:=(List.getElem?_eq_some_iff.1 hj).1;exact hP _ _ (hm j u _ hj (List.getElem?_eq_getElem (by omega)))
  generalize vs[i]'(by omega)=v at hv
  have hr2:=hr.keep fr fun _ _ h=>h;have hpos:0<l.length*sz:=Nat.mul_pos (by omega) hsz
  cases a with
  | none=>have:=hr.2;simp only at this;omega
  | some a=>
    obtain ⟨e2,c',T',fr',hb',_⟩:=hr2.2 hpos;obtain ⟨b,o,f⟩:=a;simp only at e2;subst e2;refine NilP.intro _ rfl (InB.intro i hz hi ?_);rw [Zpm];refine hK b _ v ⟨o,rfl⟩ (hm i v x hv hx) (by
      have hb':H b=_:=hb';rw [hb'];simp) fun j hj=>?_
    have hlt:i*sz+j<l.length*sz:=by have:(i+1)*sz <= l.length*sz:=Nat.mul_le_mul_right _ hi;rw [Nat.succ_mul] at this;omega
    have:=hr2.cell (j:=i*sz+j) hlt;rw [Zbjq sz vs i j v hlen hv hj] at this;rw [← this];show H.cell ⟨b,o+i*sz+j,none⟩=H.cell ⟨b,o+(i*sz+j),none⟩;rw [Nat.add_assoc]
theorem Zcdb {va0:List Value} {c:Cd} (ha0:CdAt Fa va0 c): ∀{va vb:List Value} {H:Heap},CdAt Fa va c->CdAt Fb vb c->Keep Nil Fa H->Keep Nil Fb H->FnW Tryz.prog Zpy ⟨[.agg ⟨va⟩,.agg ⟨vb⟩]⟩ H fun v H'=>v= .bool true∧Keep Nil H H':=by
  induction ha0 with
  | mk op pa pl n a0 ca0 us l hr0 hl0 hc0 hm0 ih=>
    intro va vb H ha hb fa fb;cases ha with
    | mk _ _ _ _ a ca vs _ hr hl hc hm=>
    have hra:RwAt CdAt 5 Fa a ca l:=⟨⟨vs,hr,hl,hm⟩,hc⟩;cases hb with
    | mk _ _ _ _ b cb ws _ hr2 hl2 hc2 hm2=>
    have hrb:RwAt CdAt 5 Fb b cb l:=⟨⟨ws,hr2,hl2,hm2⟩,hc2⟩;refine Zcit op a l.length ca pa pl n op b l.length cb pa pl n ?_;unfold Zbrx;refine newB fun q H1 hq bq k1=>newB fun r H2 hr3 br k2=>?_;have bq2:=k2.blk bq fun h=>h;have k02:=k1.trans k2;refine ⟨_,cellL bq2 0 rfl,_,cellL br 0 rfl,ifF (by simp) ⟨_,cellL bq2 2 rfl,_,cellL bq2 3 rfl,_,cellL br 2 rfl,_,cellL br 3 rfl,by kernel_rfl,ifF (by simp) ⟨_,cellL bq2 4 rfl,_,cellL br 4 rfl,ifF (by simp) ⟨_,_,_,cellL bq2 1 rfl,_,_,_,cellL br 1 rfl,?_⟩⟩⟩⟩
    unfold Zss;refine ifF (by simp) (Zcy (fun m s Hx=>∃j:Nat,s=((j:Int),())∧m+j=l.length∧Keep Nil H2 Hx) l.length ⟨0,rfl,rfl,Keep.refl _ _⟩ ?_)
    rintro m s Hx ⟨j,rfl,hmj,kx⟩ g;have bqx:=kx.blk bq2 fun h=>h;have brx:=kx.blk br fun h=>h;have fax:=fa.trans (k02.trans kx);have fbx:=fb.trans (k02.trans kx);unfold Zbrw;refine ⟨_,_,_,cellL bqx 1 rfl,IfB.intro (fun e=>?_) fun e H3 hs=>⟨rfl,Zcq (k02.trans kx) hs⟩⟩;have e:=of_decide_eq_true e;simp only at e;have hjl:j<l.length:=by omega
    have hx:=List.getElem?_eq_getElem hjl;refine ⟨_,_,_,cellL bqx 1 rfl,Zdq (z:=((j:Nat):Int)) hra fax (fun _ _ h=>h.len) hx rfl (fun b1 o1 v1 _ h1 _ hc1=>?_) (by decide)⟩
    have h1':=h1;obtain ⟨z0,z1,z2,z3,z4,z5,z6,rfl⟩:=h1'.five;refine ld5c hc1 ⟨_,_,_,cellL brx 1 rfl,Zdq (z:=((j:Nat):Int)) hrb fbx (fun _ _ h=>h.len) hx rfl (fun b2 o2 v2 _ h2 _ hc2'=>?_) (by decide)⟩
    have h2':=h2;obtain ⟨y0,y1,y2,y3,y4,y5,y6,rfl⟩:=h2'.five;refine ld5c hc2' ((ih j (us[j]'(by omega)) _ (List.getElem?_eq_getElem (by omega)) hx h1 h2 fax fbx).mono ?_)
    rintro _ H5 ⟨rfl,k5⟩;exact ⟨_,rfl,ifF rfl ⟨m - 1,by omega,j+1,Prod.ext (by show IntKind.wrap .i64 ((j:Int)+1)=((j+1:Nat):Int);rw [Zcs (by omega) (by omega)];omega) rfl,by omega,kx.trans k5⟩⟩
theorem Zcda {va vb:List Value} {c:Cd} (ha:CdAt Fa va c) (hb:CdAt Fb vb c) (fa:Keep Nil Fa H) (fb:Keep Nil Fb H):FnW Tryz.prog Zpy ⟨[.agg ⟨va⟩,.agg ⟨vb⟩]⟩ H fun v H'=>v= .bool true∧Keep Nil H H':=Zcdb ha ha hb fa fb
end
end Go.Proofs.YtlkdgfolbllngaaGreatDoor
end
section
set_option maxRecDepth 100000
namespace Go.Proofs.YtlkdgfolbllngaaGreatDoor
open Go.Sh Go.Pc
section
variable {F Fa Fb H H1 H':Heap} {α β:Type}
theorem Zbkn {q o:Nat} {op c0 c2 c3 c4 n m:Int} {ca a b:Option Addr} {cn ck an ac bn bc:Nat} {K:Int->Int->Option Addr->Nat->Nat->Int->Int->Int->Option Addr->Nat->Nat->Option Addr->Nat->Nat->Int->Int->Prop} (hc: ∀j,j<10->H.cell ⟨q,o+j,none⟩=([.int .i64 op,.int .i64 c0,.slice ca cn ck,.int .u32 c2,.int .i64 c3,.int .i64 c4,.slice a an ac,.slice b bn bc,.int .i64 n,.int .i64 m]:List Value)[j]?) (h:K op c0 ca cn ck c2 c3 c4 a an ac b bn bc n m):
    ∃x0:Int,H.cell ⟨q,o,none⟩=some (Value.int .i64 x0)∧∃x1:Int,H.cell ⟨q,o+1,none⟩=some (Value.int .i64 x1)∧∃(x2a:Option Addr) (x2n x2c:Nat),H.cell ⟨q,o+2,none⟩=some (Value.slice x2a x2n x2c)∧∃x3:Int,H.cell ⟨q,o+3,none⟩=some (Value.int .u32 x3)∧∃x4:Int,H.cell ⟨q,o+4,none⟩=some (Value.int .i64 x4)∧∃x5:Int,H.cell ⟨q,o+5,none⟩=some (Value.int .i64 x5)∧∃(x6a:Option Addr) (x6n x6c:Nat),H.cell ⟨q,o+6,none⟩=some (Value.slice x6a x6n x6c)∧∃(x7a:Option Addr) (x7n x7c:Nat),H.cell ⟨q,o+7,none⟩=some (Value.slice x7a x7n x7c)∧∃x8:Int,H.cell ⟨q,o+8,none⟩=some (Value.int .i64 x8)∧∃x9:Int,H.cell ⟨q,o+9,none⟩=some (Value.int .i64 x9)∧K x0 x1 x2a x2n x2c x3 x4 x5 x6a x6n x6c x7a x7n x7c x8 x9:=
  ⟨_,hc 0 (by decide),_,hc 1 (by decide),_,_,_,hc 2 (by decide),_,hc 3 (by decide),_,hc 4 (by decide),_,hc 5 (by decide),_,_,_,hc 6 (by decide),_,_,_,hc 7 (by decide),_,hc 8 (by decide),_,hc 9 (by decide),h⟩
theorem SmAt.inv {v:List Value} {op n m:Int} {c:Cd} {th el:List Sm} (h:SmAt F v (.mk op c th el n m)): ∃(c0:Int) (ca:Option Addr) (cn ck:Nat) (c2 c3 c4:Int) (a:Option Addr) (ac:Nat) (b:Option Addr) (bc:Nat),
    v= [.int .i64 op,.int .i64 c0,.slice ca cn ck,.int .u32 c2,.int .i64 c3,.int .i64 c4,.slice a th.length ac,.slice b el.length bc,.int .i64 n,.int .i64 m]∧CdAt F [.int .i64 c0,.slice ca cn ck,.int .u32 c2,.int .i64 c3,.int .i64 c4] c∧RwAt SmAt 10 F a ac th∧RwAt SmAt 10 F b bc el:=by
  cases h with
  | mk _ _ _ cv _ a b ac bc vs ws _ _ hcv hr hl hac hm hr2 hl2 hbc hm2=>
    have h5:=hcv;obtain ⟨_,_,_,_,_,_,_,rfl⟩:=h5.five;exact ⟨_,_,_,_,_,_,_,a,ac,b,bc,rfl,hcv,⟨⟨vs,hr,hl,hm⟩,hac⟩,⟨⟨ws,hr2,hl2,hm2⟩,hbc⟩⟩
def Zzm (Fa Fb:Heap) (ss:List Sm):Prop:=∀{a:Option Addr} {ac:Nat} {b:Option Addr} {bc:Nat} {H:Heap},RwAt SmAt 10 Fa a ac ss->RwAt SmAt 10 Fb b bc ss->Keep Nil Fa H->Keep Nil Fb H->
  FnW Tryz.prog Zmi ⟨[.slice a ss.length ac,.slice b ss.length bc]⟩ H fun v H'=>v= .bool true∧Keep Nil H H'
def Ztb (Fa Fb:Heap):Sm->Prop
  | .mk _ _ th el _ _=>Zzm Fa Fb th∧Zzm Fa Fb el
theorem Zbek {ss:List Sm} (h: ∀d∈ss,Ztb Fa Fb d):Zzm Fa Fb ss:=by
  intro a ac b bc H hra hrb fa fb;have hlim:=hra.cap.2;refine Zcik a ss.length ac b ss.length bc ?_;unfold Zbrl;refine ifF (by simp) (Zcy (fun m s Hx=>∃j:Nat,s=((j:Int),())∧m+j=ss.length∧Keep Nil H Hx) ss.length ⟨0,rfl,rfl,Keep.refl _ _⟩ ?_)
  rintro m s Hx ⟨j,rfl,hmj,kx⟩ g;have fax:=fa.trans kx;have fbx:=fb.trans kx;unfold Zbrk;refine IfB.intro (fun e=>?_) fun e H3 hs=>⟨rfl,Zcq kx hs⟩;have e:=of_decide_eq_true e;simp only at e;have hjl:j<ss.length:=by omega
  have hx:=List.getElem?_eq_getElem hjl;have hmem:ss[j]∈ss:=List.getElem_mem hjl;generalize ss[j]=x at hx hmem;obtain ⟨xb,rfl⟩: ∃x,b=some x:=by
    obtain ⟨vs,hr,_⟩:=hrb.ex;cases b with
    | none=>have:=hr.2;simp only at this;omega
    | some x=>exact ⟨x,rfl⟩
  have hlive:Hx xb.block≠none:=by
    obtain ⟨vs,hr,_⟩:=hrb.ex;obtain ⟨_,c',T',fr',hb',_⟩:=(hr.keep fbx fun _ _ h=>h).2 (by omega)
    have hb':Hx xb.block=_:=hb';rw [hb'];simp
  refine ⟨[xb.block],Zva hlive,Zdq (z:=((j:Nat):Int)) hra fax (fun _ _ h=>h.len) hx rfl (fun b1 o1 v1 _ h1 _ hc1=>?_) (by decide)⟩
  obtain ⟨op,c,th,el,n,mm⟩:=x;obtain ⟨x0,x1,x2,x3,x4,x5,x6,x7,x8,x9,x10,rfl,hcd1,hth1,hel1⟩:=h1.inv;refine Zbkn hc1 (Zdq (z:=((j:Nat):Int)) hrb fbx (fun _ _ h=>h.len) hx rfl (fun b2 o2 v2 hb2 h2 _ hc2=>?_) (by decide))
  obtain ⟨y0,y1,y2,y3,y4,y5,y6,y7,y8,y9,y10,rfl,hcd2,hth2,hel2⟩:=h2.inv;obtain ⟨o2',hb2'⟩:=hb2;refine ⟨by rw [Option.some.inj hb2'];simp,Zbkn hc2 (newB fun q H1 hq bq k1=>newB fun r H2 hr br k2=>?_)⟩
  have hqr:q≠r:=fun e=>by subst e;exact bq.some hr
  have bq2:=k2.blk bq fun h=>h;refine st10 bq2 fun H3 b3 k3=>?_;have k13:Keep Nil Hx H3:=(k1.trans k2).then k3 fun y hy=> .inr (hy▸hq);refine ⟨Zbyo hlive k13,st10 (k3.blk br fun e=>hqr e.symm) fun H4 b4 k4=>?_⟩;have b3':=k4.blk b3 hqr;have k14:Keep Nil Hx H4:=k13.then k4 fun y hy=> .inr (hy▸k1.free hr);refine ⟨_,cellL b3' 0 rfl,_,cellL b4 0 rfl,ifF (by simp) ⟨_,cellL b3' 8 rfl,_,cellL b4 8 rfl,ifF (by simp) ⟨_,cellL b3' 9 rfl,_,cellL b4 9 rfl,ifF (by simp) ?_⟩⟩⟩
  refine ⟨_,cellL b3' 1 rfl,_,_,_,cellL b3' 2 rfl,_,cellL b3' 3 rfl,_,cellL b3' 4 rfl,_,cellL b3' 5 rfl,_,cellL b4 1 rfl,_,_,_,cellL b4 2 rfl,_,cellL b4 3 rfl,_,cellL b4 4 rfl,_,cellL b4 5 rfl,(Zcda hcd1 hcd2 (fax.trans k14) (fbx.trans k14)).mono ?_⟩;rintro _ H5 ⟨rfl,k5⟩;have b3'':=k5.blk b3' fun h=>h;have b4'':=k5.blk b4 fun h=>h;have k15:=k14.trans k5;have hk:=h _ hmem;refine ⟨_,rfl,ifF rfl ⟨_,_,_,cellL b3'' 6 rfl,_,_,_,cellL b4'' 6 rfl,(hk.1 hth1 hth2 (fax.trans k15) (fbx.trans k15)).mono ?_⟩⟩;rintro _ H6 ⟨rfl,k6⟩;have k16:=k15.trans k6;refine ⟨_,rfl,ifF rfl ⟨_,_,_,cellL (k6.blk b3'' fun h=>h) 7 rfl,_,_,_,cellL (k6.blk b4'' fun h=>h) 7 rfl,(hk.2 hel1 hel2 (fax.trans k16) (fbx.trans k16)).mono ?_⟩⟩;rintro _ H7 ⟨rfl,k7⟩;refine ⟨_,rfl,?_⟩;unfold Zlo;exact ifF rfl ⟨m - 1,by omega,j+1,Prod.ext (by show IntKind.wrap .i64 ((j:Int)+1)=((j+1:Nat):Int);rw [Zcs (by omega) (by omega)];omega) rfl,by omega,(kx.trans k16).trans k7⟩
theorem Zbcn {vs:List (List Value)} {th:List Sm} (hl:vs.length=th.length) (ih: ∀(i:Nat) (v:List Value) (d:Sm),vs[i]? =some v->th[i]? =some d->Ztb Fa Fb d): ∀d∈th,Ztb Fa Fb d:=fun d hd=>by obtain ⟨i,hi⟩:=List.mem_iff_getElem?.1 hd;have h2:=(List.getElem?_eq_some_iff.1 hi).1;exact ih i (vs[i]'(by omega)) d (List.getElem?_eq_getElem (by omega)) hi
theorem Zcdd {va:List Value} {s:Sm} (h:SmAt Fa va s):Ztb Fa Fb s:=by
  induction h with
  | mk op n m cv c a b ac bc vs ws th el hcv hr hl hac hm hr2 hl2 hbc hm2 ih ih2=>
    exact ⟨Zbek (Zbcn hl ih),Zbek (Zbcn hl2 ih2)⟩
theorem Zcdc {a:Option Addr} {ac:Nat} {b:Option Addr} {bc:Nat} {ss:List Sm} (ha:RwAt SmAt 10 Fa a ac ss) (hb:RwAt SmAt 10 Fb b bc ss) (fa:Keep Nil Fa H) (fb:Keep Nil Fb H):
    FnW Tryz.prog Zmi ⟨[.slice a ss.length ac,.slice b ss.length bc]⟩ H fun v H'=>v= .bool true∧Keep Nil H H':=by
  obtain ⟨vs,hr,hl,hm⟩:=ha.ex;exact Zbek (Zbcn hl fun i v d h1 h2=>Zcdd (hm i v d h1 h2)) ha hb fa fb
end
end Go.Proofs.YtlkdgfolbllngaaGreatDoor
end
section
set_option maxRecDepth 100000
namespace Go.Proofs.YtlkdgfolbllngaaGreatDoor
open Go.Sh Go.Pc
theorem Zbhe (x:ByteArray):(x==x)=true:=by cases x;rename_i d;exact (BEq.rfl:(d==d)=true)
section
variable {F Fa Fb H H1 H':Heap} {α β:Type}
theorem ld7c {b o:Nat} {p:Pr} {K:ByteArray->Int->Int->Bool->Int->ByteArray->ByteArray->Prop} (hc: ∀j,j<7->H.cell ⟨b,o+j,none⟩=(prL p.name p.addr p.as_ p.waits p.max p.in_ p.out)[j]?) (h:K (bstr p.name) p.addr p.as_ p.waits p.max (bstr p.in_) (bstr p.out)):
    ∃x0:ByteArray,H.cell ⟨b,o,none⟩=some (Value.string x0)∧∃x1:Int,H.cell ⟨b,o+1,none⟩=some (Value.int .u32 x1)∧∃x2:Int,H.cell ⟨b,o+2,none⟩=some (Value.int .u32 x2)∧∃x3:Bool,H.cell ⟨b,o+3,none⟩=some (Value.bool x3)∧∃x4:Int,H.cell ⟨b,o+4,none⟩=some (Value.int .i64 x4)∧∃x5:ByteArray,H.cell ⟨b,o+5,none⟩=some (Value.string x5)∧∃x6:ByteArray,H.cell ⟨b,o+6,none⟩=some (Value.string x6)∧K x0 x1 x2 x3 x4 x5 x6:=
  ⟨_,hc 0 (by decide),_,hc 1 (by decide),_,hc 2 (by decide),_,hc 3 (by decide),_,hc 4 (by decide),_,hc 5 (by decide),_,hc 6 (by decide),h⟩
theorem Zccz {va vb:List Value} {sp:Sp} (ha:SpV Fa va sp) (hb:SpV Fb vb sp) (fa:Keep Nil Fa H) (fb:Keep Nil Fb H):
    FnW Tryz.prog Zbbd ⟨[.agg ⟨va⟩,.agg ⟨vb⟩]⟩ H fun v H'=>v= .bool true∧Keep Nil H H':=by
  obtain ⟨a5,a6,c5,c6,rfl,pa,qa⟩:=ha.ex;obtain ⟨b5,b6,d5,d6,rfl,pb,qb⟩:=hb.ex;have lim1:=pa.cap.2;have lim2:=qa.cap.2;refine Zchy sp.as_ sp.router sp.hold sp.retry sp.grace a5 sp.pols.length c5 a6 sp.peers.length c6 sp.as_ sp.router sp.hold sp.retry sp.grace b5 sp.pols.length d5 b6 sp.peers.length d6 ?_;unfold Zbqy;refine newB fun q H1 hq bq k1=>newB fun r H2 hr br k2=>?_;have bq2:=k2.blk bq fun h=>h;have k02:=k1.trans k2;refine ⟨_,cellL bq2 0 rfl,_,cellL br 0 rfl,ifF (by simp) ⟨_,cellL bq2 1 rfl,_,cellL br 1 rfl,ifF (by simp) ⟨_,cellL bq2 2 rfl,_,cellL br 2 rfl,ifF (by simp) ⟨_,cellL bq2 3 rfl,_,cellL br 3 rfl,ifF (by simp) ⟨_,cellL bq2 4 rfl,_,cellL br 4 rfl,ifF (by simp) ⟨_,_,_,cellL bq2 5 rfl,_,_,_,cellL br 5 rfl,ifF (by simp) ⟨_,_,_,cellL bq2 6 rfl,_,_,_,cellL br 6 rfl,?_⟩⟩⟩⟩⟩⟩⟩
  unfold Zkc;refine ifF (by simp) (Zcy (fun m s Hx=>∃j:Nat,s=((j:Int),())∧m+j=sp.pols.length∧Keep Nil H2 Hx) sp.pols.length ⟨0,rfl,rfl,Keep.refl _ _⟩ ?_)
  rintro m s Hx ⟨j,rfl,hmj,kx⟩ g;have bqx:=kx.blk bq2 fun h=>h;have brx:=kx.blk br fun h=>h;have fax:=fa.trans (k02.trans kx);have fbx:=fb.trans (k02.trans kx);unfold Zbqw;refine ⟨_,_,_,cellL bqx 5 rfl,IfB.intro (fun e=>?_) fun e=>?_⟩
  . have e:=of_decide_eq_true e;simp only at e;have hjl:j<sp.pols.length:=by omega
    have hx:=List.getElem?_eq_getElem hjl;generalize sp.pols[j]=x at hx;refine ⟨_,_,_,cellL bqx 5 rfl,Zdq (z:=((j:Nat):Int)) pa fax (fun _ _ h=>h.len) hx rfl (fun b1 o1 v1 _ h1 _ hc1=>?_) (by decide)⟩
    obtain ⟨ra,rc,rfl,hrow1⟩:=h1;refine ⟨_,hc1 0 (by decide),_,_,_,cellL brx 5 rfl,Zdq (z:=((j:Nat):Int)) pb fbx (fun _ _ h=>h.len) hx rfl (fun b2 o2 v2 _ h2 _ hc2=>?_) (by decide)⟩
    obtain ⟨rb,rd,rfl,hrow2⟩:=h2;refine ⟨_,hc2 0 (by decide),ifF (by simp) ⟨_,_,_,cellL bqx 5 rfl,Zdq (z:=((j:Nat):Int)) pa fax (fun _ _ h=>h.len) hx rfl (fun b1 o1 v1 _ h1 _ hc1=>?_) (by decide)⟩⟩
    obtain ⟨ra,rc,rfl,hrow1⟩:=h1;refine ⟨_,_,_,hc1 1 (by decide),_,_,_,cellL brx 5 rfl,Zdq (z:=((j:Nat):Int)) pb fbx (fun _ _ h=>h.len) hx rfl (fun b2 o2 v2 _ h2 _ hc2=>?_) (by decide)⟩
    obtain ⟨rb,rd,rfl,hrow2⟩:=h2;refine ⟨_,_,_,hc2 1 (by decide),(Zcdc hrow1 hrow2 fax fbx).mono ?_⟩
    rintro _ H5 ⟨rfl,k5⟩;refine ⟨_,rfl,?_⟩;unfold Zbfx;exact ifF rfl ⟨m - 1,by omega,j+1,Prod.ext (by show IntKind.wrap .i64 ((j:Int)+1)=((j+1:Nat):Int);rw [Zcs (by omega) (by omega)];omega) rfl,by omega,kx.trans k5⟩
  . refine Zcy (fun m s Hy=>∃j:Nat,s=((j:Int),())∧m+j=sp.peers.length∧Hy=Hx) sp.peers.length ⟨0,rfl,rfl,rfl⟩ ?_;rintro m s Hy ⟨j,rfl,hmj,e⟩ g;rw [e];clear e;unfold Zbqx;refine ⟨_,_,_,cellL bqx 6 rfl,IfB.intro (fun e=>?_) fun e H3 hs=>⟨rfl,Zcq (k02.trans kx) hs⟩⟩;have e:=of_decide_eq_true e;simp only at e;have hjl:j<sp.peers.length:=by omega
    have hx:=List.getElem?_eq_getElem hjl;generalize sp.peers[j]=x at hx;have prl: ∀{F:Heap} (v:List Value) (p:Pr),PrAt F v p->v.length=7:=fun v p h=>by have h:v=_:=h;rw [h];rfl
    refine ⟨_,_,_,cellL bqx 6 rfl,Zdq (z:=((j:Nat):Int)) qa fax prl hx rfl (fun b1 o1 v1 _ h1 _ hc1=>?_) (by decide)⟩
    have h1:v1=_:=h1;subst h1;refine ld7c (p:=x) hc1 ⟨_,_,_,cellL brx 6 rfl,Zdq (z:=((j:Nat):Int)) qb fbx prl hx rfl (fun b2 o2 v2 _ h2 _ hc2=>?_) (by decide)⟩
    have h2:v2=_:=h2;subst h2;refine ld7c (p:=x) hc2 ⟨by kernel_rfl,ifF (by simp [Zbhe]) ⟨m - 1,by omega,j+1,Prod.ext (by show IntKind.wrap .i64 ((j:Int)+1)=((j+1:Nat):Int);rw [Zcs (by omega) (by omega)];omega) rfl,by omega,rfl⟩⟩
def Zbes:Sp:=⟨0,0,0,0,0,[],[]⟩
theorem SpV.zero:SpV emp spZ Zbes:=⟨none,none,0,0,rfl,RwAt.nil,RwAt.nil⟩
theorem Zbwf:Keep Nil emp H:=⟨fun b _ h=>absurd rfl h,fun b h=>absurd rfl h⟩
end
end Go.Proofs.YtlkdgfolbllngaaGreatDoor
end
section
set_option maxRecDepth 100000
namespace Go.Proofs.YtlkdgfolbllngaaGreatDoor
open Go.Sh Go.Pc
theorem MkG {P:Program} {t:TypeId} {H:Heap} {K:Value->Heap->Prop} (h: ∀n,H n=none->K (.map (some n)) (H.upd n (.map ⟨[]⟩ 0))):MkW P t H K:=by unfold MkW;refine (SemW.bind _ _ _ _).2 ?_;unfold Instr.makeMap;exact fun n hn=>h n hn
theorem Zbhl (a b:List UInt8):(bstr a==bstr b)=decide (a=b):=by show (a.toArray==b.toArray)=_;rw [Bool.eq_iff_iff];simp
def kvS (s:List UInt8):Value:= .string (bstr s)
theorem Zbxh (s:ByteArray) (e:Bool) (H:Heap) (K:Unit->Heap->Prop):SemW Tryz.prog (Instr.checkKey e 10000 Zcv (.string s)) H K=K () H:=by kernel_rfl
theorem Zbxi (a b:ByteArray):Zca Tryz.prog 6 Zcv (.string a) (.string b)=some (a==b):=by kernel_rfl
theorem Zbpb:Tryz.prog.underlying Zcv=some .string:=by kernel_rfl
theorem keyS:KeyTy Tryz.prog Zcv kvS:=
  ⟨fun a e H K h=>by
    unfold kvS;rw [Zbxh];exact h,fun a b=>by
    unfold kvS;rw [Zbxi,Zbhl],fun a b d r hd h=>by
    rw [Zbpb] at hd;cases hd;unfold kvS at h;simp only [Instr.sameNow,Option.some.injEq] at h;rw [← h,← Zbhl],⟨_,Zbpb⟩⟩
theorem Zbpk: ∃it,Tryz.prog.info? Zls=some it∧it.zero=some (.int .i64 0):=by
  have h:(Tryz.prog.info? Zls).map (fun i=>i.zero)=some (some (.int .i64 0)):=by kernel_rfl
  cases hi:Tryz.prog.info? Zls with
  | none=>rw [hi] at h;cases h
  | some it=>
    rw [hi] at h;exact ⟨it,rfl,Option.some.inj h⟩
theorem mapS:MapG Tryz.prog Zii Zcv Zls (.int .i64 0):=⟨by kernel_rfl,Zbpk⟩
def kvU (a:Int):Value:= .int .u32 a
theorem Zbxj (a:Int) (e:Bool) (H:Heap) (K:Unit->Heap->Prop):SemW Tryz.prog (Instr.checkKey e 10000 Zpb (.int .u32 a)) H K=K () H:=by kernel_rfl
theorem Zbxk (a b:Int):Zca Tryz.prog 6 Zpb (.int .u32 a) (.int .u32 b)=some (a==b):=by kernel_rfl
theorem Zbpa:Tryz.prog.underlying Zpb=some (.int .u32):=by kernel_rfl
theorem keyU:KeyTy Tryz.prog Zpb kvU:=
  ⟨fun a e H K h=>by
    unfold kvU;rw [Zbxj];exact h,fun a b=>by
    unfold kvU;rw [Zbxk];congr 1,fun a b d r hd h=>by
    rw [Zbpa] at hd;cases hd;unfold kvU at h;simp only [Instr.sameNow,if_true,Option.some.injEq] at h;rw [← h,Bool.eq_iff_iff];simp,⟨_,Zbpa⟩⟩
theorem mapU:MapG Tryz.prog Zpc Zpb Zls (.int .i64 0):=⟨by kernel_rfl,Zbpk⟩
section
variable {F H H1 H':Heap}
theorem Zbmj (p:Pr):FnW Tryz.prog Zus ⟨[.agg ⟨prL p.name p.addr p.as_ p.waits p.max p.in_ p.out⟩]⟩ H fun v H'=>v=kvS p.name∧Keep Nil H H':=by refine Zckf (bstr p.name) p.addr p.as_ p.waits p.max (bstr p.in_) (bstr p.out) ?_;unfold Zbtk;exact newB fun q H1 hq bq k1=>⟨_,cellL bq 0 rfl,fun H2 hs=>⟨rfl,Zcq k1 hs⟩⟩
theorem Zbmi (p:Pr):FnW Tryz.prog Zut ⟨[.agg ⟨prL p.name p.addr p.as_ p.waits p.max p.in_ p.out⟩]⟩ H fun v H'=>v=kvU p.addr∧Keep Nil H H':=by refine Zckg (bstr p.name) p.addr p.as_ p.waits p.max (bstr p.in_) (bstr p.out) ?_;unfold Zbtl;exact newB fun q H1 hq bq k1=>⟨_,cellL bq 1 rfl,fun H2 hs=>⟨rfl,Zcq k1 hs⟩⟩
theorem Zcfx {a:Option Addr} {c:Nat} (f:FuncId):FnW Tryz.prog Zbbp ⟨[.slice a 0 c,.func (.func f) #[] #[]]⟩ H fun v H'=>v= .bool false∧Keep Nil H H':=by refine Zcjv a 0 c f ?_;unfold Zbta;refine MkG fun mb hmb=>Zcy (fun m s Hx=>m=0∧s=(0,())∧Keep Nil H Hx) 0 ⟨rfl,rfl,(Keep.refl _ _).new hmb⟩ ?_;rintro m s Hx ⟨rfl,rfl,kx⟩ g;unfold Zbsz;exact ifF rfl fun H2 hs=>⟨rfl,Zcq kx hs⟩
theorem Zcfw {a:Option Addr} {c:Nat} {p:Pr} (hr:RwAt PrAt 7 F a c [p]) (fr:Keep Nil F H):FnW Tryz.prog Zbbn ⟨[.slice a 1 c,.func (.func Zus) #[] #[]]⟩ H fun v H'=>v= .bool false∧Keep Nil H H':=by
  refine Zcjp a 1 c Zus ?_;unfold Zbsv;refine MkG fun mb hmb=>Zcy (fun m s Hx=>Keep Nil H Hx∧((m=1∧s=(0,())∧MapB kvS Hx mb [] 0)∨(m=0∧s=(1,())))) 1 ⟨(Keep.refl _ _).new hmb,.inl ⟨rfl,rfl,upd_eq⟩⟩ ?_;rintro m s Hx ⟨kx,(⟨rfl,rfl,hm⟩ | ⟨rfl,rfl⟩)⟩ g
  . unfold Zbgm;have prl: ∀(v:List Value) (p:Pr),PrAt F v p->v.length=7:=fun v p h=>by have h:v=_:=h;rw [h];rfl
    refine ifT rfl (Zdq (i:=0) (z:=0) hr (fr.trans kx) prl rfl rfl (fun b1 o1 v1 _ h1 _ hc1=>?_) (by decide))
    have h1:v1=_:=h1;subst h1;refine ld7c (p:=p) hc1 (newB fun x H2 hx bx k2=>st7 (nm:=p.name) (i_:=p.in_) (o_:=p.out) bx fun H3 b3 k3=>ld7 b3 ((Zbmj p).mono ?_));rintro _ H4 ⟨rfl,k4⟩;have b4:=k4.blk b3 fun h=>h;have k34:Keep Nil Hx H4:=(k2.then k3 fun y hy=> .inr (hy▸hx)).trans k4;have hm4:=hm.keep k34 fun h=>h;have hxm:x≠mb:=fun e=>by subst e;exact hm.some hx
    refine ⟨_,rfl,LkG keyS mapS hm4 ?_⟩;refine ⟨_,rfl,(SemW.bind _ _ _ _).2 (MuG keyS mapS hm4 rfl fun H5 e5=>?_)⟩;have hm5:MapB kvS H5 mb [(p.name,.int .i64 (IntKind.wrap .i64 (0+1)),0)] 1:=by rw [e5];exact upd_eq
    have k5:Keep (fun y=>y=mb) H4 H5:=by rw [e5];exact (Keep.refl _ _).upd (.inl rfl)
    have b5:=k5.blk b4 hxm;have k05:Keep Nil H H5:=(kx.trans k34).then k5 fun y hy=> .inr (hy▸hmb);dsimp only [SemW,pure,Sem.pure,Zbg];refine ld7 b5 ((Zbmj p).mono ?_);rintro _ H6 ⟨rfl,k6⟩;refine ⟨_,rfl,LkG keyS mapS (hm5.keep k6 fun h=>h) ?_⟩;rw [show getG p.name [(p.name,Value.int .i64 (IntKind.wrap .i64 (0+1)),0)]=some (.int .i64 (IntKind.wrap .i64 (0+1))) from if_pos rfl]
    exact ⟨_,rfl,ifF (by decide) ⟨0,by omega,k05.trans k6,.inr ⟨rfl,rfl⟩⟩⟩
  unfold Zbgm;exact ifF rfl fun H2 hs=>⟨rfl,Zcq kx hs⟩
theorem Zcfv {a:Option Addr} {c:Nat} {p:Pr} (hr:RwAt PrAt 7 F a c [p]) (fr:Keep Nil F H):FnW Tryz.prog Zbbo ⟨[.slice a 1 c,.func (.func Zut) #[] #[]]⟩ H fun v H'=>v= .bool false∧Keep Nil H H':=by
  refine Zcjq a 1 c Zut ?_;unfold Zbsw;refine MkG fun mb hmb=>Zcy (fun m s Hx=>Keep Nil H Hx∧((m=1∧s=(0,())∧MapB kvU Hx mb [] 0)∨(m=0∧s=(1,())))) 1 ⟨(Keep.refl _ _).new hmb,.inl ⟨rfl,rfl,upd_eq⟩⟩ ?_;rintro m s Hx ⟨kx,(⟨rfl,rfl,hm⟩ | ⟨rfl,rfl⟩)⟩ g
  . unfold Zbgn;have prl: ∀(v:List Value) (p:Pr),PrAt F v p->v.length=7:=fun v p h=>by have h:v=_:=h;rw [h];rfl
    refine ifT rfl (Zdq (i:=0) (z:=0) hr (fr.trans kx) prl rfl rfl (fun b1 o1 v1 _ h1 _ hc1=>?_) (by decide))
    have h1:v1=_:=h1;subst h1;refine ld7c (p:=p) hc1 (newB fun x H2 hx bx k2=>st7 (nm:=p.name) (i_:=p.in_) (o_:=p.out) bx fun H3 b3 k3=>ld7 b3 ((Zbmi p).mono ?_));rintro _ H4 ⟨rfl,k4⟩;have b4:=k4.blk b3 fun h=>h;have k34:Keep Nil Hx H4:=(k2.then k3 fun y hy=> .inr (hy▸hx)).trans k4;have hm4:=hm.keep k34 fun h=>h;have hxm:x≠mb:=fun e=>by subst e;exact hm.some hx
    refine ⟨_,rfl,LkG keyU mapU hm4 ?_⟩;refine ⟨_,rfl,(SemW.bind _ _ _ _).2 (MuG keyU mapU hm4 rfl fun H5 e5=>?_)⟩;have hm5:MapB kvU H5 mb [(p.addr,.int .i64 (IntKind.wrap .i64 (0+1)),0)] 1:=by rw [e5];exact upd_eq
    have k5:Keep (fun y=>y=mb) H4 H5:=by rw [e5];exact (Keep.refl _ _).upd (.inl rfl)
    have b5:=k5.blk b4 hxm;have k05:Keep Nil H H5:=(kx.trans k34).then k5 fun y hy=> .inr (hy▸hmb);dsimp only [SemW,pure,Sem.pure,Zbg];refine ld7 b5 ((Zbmi p).mono ?_);rintro _ H6 ⟨rfl,k6⟩;refine ⟨_,rfl,LkG keyU mapU (hm5.keep k6 fun h=>h) ?_⟩;rw [show getG p.addr [(p.addr,Value.int .i64 (IntKind.wrap .i64 (0+1)),0)]=some (.int .i64 (IntKind.wrap .i64 (0+1))) from if_pos rfl]
    exact ⟨_,rfl,ifF (by decide) ⟨0,by omega,k05.trans k6,.inr ⟨rfl,rfl⟩⟩⟩
  unfold Zbgn;exact ifF rfl fun H2 hs=>⟨rfl,Zcq kx hs⟩
end
end Go.Proofs.YtlkdgfolbllngaaGreatDoor
end
section
set_option maxRecDepth 100000
namespace Go.Proofs.YtlkdgfolbllngaaGreatDoor
open Go.Sh Go.Pc
def prW:Pr:=⟨[97],167772162,65001,true,0,[],[]⟩
def spW:Sp:=⟨65000,167772161,90,30,0,[],[prW]⟩
section
variable {F H H1 H':Heap}
theorem Zbny {b o:Nat}:FnW Tryz.prog Zuu ⟨[.string (bstr []),.pointer (some ⟨b,o,none⟩)]⟩ H fun v H'=>v= .bool true∧Keep Nil H H':=by refine Zckh (bstr []) b o ?_;unfold Zbtm;refine newB fun q H1 hq bq k1=>⟨_,cellL bq 0 rfl,ifT ?_ fun H2 hs=>⟨rfl,Zcq k1 hs⟩⟩;show ((bstr []).toList==(bstr []).toList)=true;simp
theorem Zccm {a b:Option Addr} {an ac bn bc:Nat}:FnW Tryz.prog Zbbl ⟨[.agg ⟨[.int .u32 65000,.int .u32 167772161,.int .i64 90,.int .i64 30,.int .i64 0,.slice a an ac,.slice b bn bc]⟩,.agg ⟨prL [97] 167772162 65001 true 0 [] []⟩]⟩ H fun v H'=>v= .bool true∧Keep Nil H H':=by
  refine Zcjg 65000 167772161 90 30 0 a an ac b bn bc (bstr [97]) 167772162 65001 true 0 (bstr []) (bstr []) ?_;unfold Zbsl;refine newB fun q H1 hq bq k1=>newB fun r H2 hr br k2=>?_;have bq2:=k2.blk bq fun h=>h;refine ⟨_,cellL br 1 rfl,ifF (by decide) ⟨_,cellL br 1 rfl,_,cellL bq2 1 rfl,ifF (by decide) ⟨_,cellL br 2 rfl,ifF (by decide) ⟨_,cellL br 4 rfl,ifF (by decide) ⟨_,cellL br 4 rfl,?_⟩⟩⟩⟩⟩
  unfold Zow;refine ifF (by decide) ⟨_,cellL br 5 rfl,Zbny.mono ?_⟩
  rintro _ H3 ⟨rfl,k3⟩;refine ⟨_,rfl,ifT rfl ⟨_,cellL (k3.blk br fun h=>h) 6 rfl,Zbny.mono ?_⟩⟩;rintro _ H4 ⟨rfl,k4⟩;exact ⟨_,rfl,fun H5 hs=>⟨rfl,Zcq (((k1.trans k2).trans k3).trans k4) hs⟩⟩
theorem Zbva {s:Nat} {a b:Option Addr} {an ac bn bc:Nat} (hs:Blk H s Zcj ⟨[.int .u32 65000,.int .u32 167772161,.int .i64 90,.int .i64 30,.int .i64 0,.slice a an ac,.slice b bn bc]⟩):FnW Tryz.prog Zqg ⟨[.agg ⟨prL [97] 167772162 65001 true 0 [] []⟩,.pointer (some ⟨s,0,none⟩)]⟩ H fun v H'=>v= .bool false∧Keep Nil H H':=by refine Zcka (bstr [97]) 167772162 65001 true 0 (bstr []) (bstr []) s 0 ?_;unfold Zbte;refine newB fun q H1 hq bq k1=>?_;have bs:=k1.blk hs fun h=>h;refine ⟨_,cellL bs 0 rfl,_,cellL bs 1 rfl,_,cellL bs 2 rfl,_,cellL bs 3 rfl,_,cellL bs 4 rfl,_,_,_,cellL bs 5 rfl,_,_,_,cellL bs 6 rfl,ld7 (nm:=[97]) (i_:=[]) (o_:=[]) bq (Zccm.mono ?_)⟩;rintro _ H2 ⟨rfl,k2⟩;exact ⟨_,rfl,fun H5 hs=>⟨rfl,Zcq (k1.trans k2) hs⟩⟩
theorem Zbvb {vs:List Value} (hv:SpV F vs spW) (fr:Keep Nil F H):FnW Tryz.prog Zbbb ⟨[.agg ⟨vs⟩]⟩ H fun v H'=>v= .int .i64 0∧Keep Nil H H':=by
  obtain ⟨a,b,ac,bc,rfl,ha,hb⟩:=hv.ex;refine Zcht 65000 167772161 90 30 0 a 0 ac b 1 bc ?_;unfold Zbqs;refine newB fun s H1 hs bs k1=>?_;refine ⟨_,cellL bs 0 rfl,ifF (by decide) ⟨_,cellL bs 1 rfl,ifF (by decide) ⟨_,cellL bs 2 rfl,ifF (by decide) ⟨_,cellL bs 2 rfl,ifF (by decide) ⟨_,cellL bs 2 rfl,ifF (by decide) ⟨_,cellL bs 2 rfl,?_⟩⟩⟩⟩⟩⟩
  unfold Zlm;refine ifF (by decide) ⟨_,cellL bs 3 rfl,ifF (by decide) ⟨_,cellL bs 3 rfl,ifF (by decide) ⟨_,cellL bs 4 rfl,ifF (by decide) ⟨_,cellL bs 4 rfl,?_⟩⟩⟩⟩
  unfold Zsm;refine ifF (by decide) ⟨_,_,_,cellL bs 5 rfl,ifF (by decide) ⟨_,_,_,cellL bs 6 rfl,?_⟩⟩
  unfold Zbfu;refine ifF (by decide) ⟨_,_,_,cellL bs 5 rfl,(Zcfx Zbwi).mono ?_⟩
  rintro _ H2 ⟨rfl,k2⟩;have bs2:=k2.blk bs fun h=>h;have f2:=fr.trans (k1.trans k2);refine ⟨_,rfl,ifF rfl ⟨_,_,_,cellL bs2 6 rfl,(Zcfw hb f2).mono ?_⟩⟩;rintro _ H3 ⟨rfl,k3⟩;have bs3:=k3.blk bs2 fun h=>h;have f3:=f2.trans k3;refine ⟨_,rfl,ifF rfl ⟨_,_,_,cellL bs3 6 rfl,(Zcfv hb f3).mono ?_⟩⟩;rintro _ H4 ⟨rfl,k4⟩;have bs4:=k4.blk bs3 fun h=>h;have f4:=f3.trans k4;have k04:=((k1.trans k2).trans k3).trans k4;refine ⟨_,rfl,?_⟩;unfold Zys;refine ifF rfl ⟨_,_,_,cellL bs4 5 rfl,?_⟩;refine FnW.mono (R:=fun v H'=>v= .bool false∧Keep Nil H4 H') ?_ ?_;refine Zckl a 0 ac Zbje ?_;unfold Zbtq;refine FnW.mono (R:=fun v H'=>v= .int .i64 (-1)∧Keep Nil H4 H') ?_ ?_;refine Zckb a 0 ac Zbje ?_;unfold Zbtg;refine Zcy (fun m s Hx=>s=(0,())∧Hx=H4) 0 ⟨rfl,rfl⟩ ?_;rintro m s Hx ⟨rfl,e⟩ g;rw [e];unfold Zbtf;exact ifF rfl fun H5 hs=>⟨rfl,Zcq (Keep.refl _ _) hs⟩;rintro _ H5 ⟨rfl,k5⟩;exact ⟨_,rfl,fun H6 hs=>⟨rfl,Zcq k5 hs⟩⟩;rintro _ H5 ⟨rfl,k5⟩;have bs5:=k5.blk bs4 fun h=>h;have f5:=f4.trans k5;refine ⟨_,rfl,ifF rfl ⟨_,_,_,cellL bs5 6 rfl,?_⟩⟩;refine FnW.mono (R:=fun v H'=>v= .bool false∧Keep Nil H5 H') ?_ ?_
  . refine Zckm b 1 bc Zqg (.pointer (some ⟨s,0,none⟩)) ?_;unfold Zbtr;refine FnW.mono (R:=fun v H'=>v= .int .i64 (-1)∧Keep Nil H5 H') ?_ ?_
    . refine Zcjw b 1 bc Zqg (.pointer (some ⟨s,0,none⟩)) ?_;unfold Zbtb;refine Zcy (fun m s Hx=>Keep Nil H5 Hx∧((m=1∧s=(0,()))∨(m=0∧s=(1,())))) 1 ⟨Keep.refl _ _,.inl ⟨rfl,rfl⟩⟩ ?_;rintro m t Hx ⟨kx,(⟨rfl,rfl⟩ | ⟨rfl,rfl⟩)⟩ g
      . unfold Zbgo;have prl: ∀(v:List Value) (p:Pr),PrAt F v p->v.length=7:=fun v p h=>by have h:v=_:=h;rw [h];rfl
        refine ifT rfl (Zdq (i:=0) (z:=0) hb (f5.trans kx) prl rfl rfl (fun b1 o1 v1 _ h1 _ hc1=>?_) (by decide))
        have h1:v1=_:=h1;subst h1;refine ld7c (p:=prW) hc1 ((Zbva (kx.blk bs5 fun h=>h)).mono ?_);rintro _ H6 ⟨rfl,k6⟩;exact ⟨_,rfl,ifF rfl ⟨0,by omega,kx.trans k6,.inr ⟨rfl,rfl⟩⟩⟩
      unfold Zbgo;exact ifF rfl fun H6 hs=>⟨rfl,Zcq kx hs⟩
    rintro _ H6 ⟨rfl,k6⟩;exact ⟨_,rfl,fun H7 hs=>⟨rfl,Zcq k6 hs⟩⟩
  rintro _ H6 ⟨rfl,k6⟩;exact ⟨_,rfl,ifF rfl fun H7 hs=>⟨rfl,Zcq ((k04.trans k5).trans k6) hs⟩⟩
end
end Go.Proofs.YtlkdgfolbllngaaGreatDoor
end
section
set_option maxRecDepth 100000
namespace Go.Proofs.YtlkdgfolbllngaaGreatDoor
open Go.Sh Go.Pc
def Zbpf:List UInt8:=[115,121,115,116,101,109,32,54,53,48,48,48,59,32,114,111,117,116,101,114,32,49,48,46,48,46,48,46,49,59,32,112,101,101,114,32,97,32,49,48,46,48,46,48,46,50,32,97,115,32,54,53,48,48,49,32,119,97,105,116,115,59]
theorem Zcab:Zhb Zbpf= .ok spW:=by kernel_rfl
section
variable {F H H1 H':Heap}
theorem Zcge (hy:Lyd H):FnW Tryz.prog Zbbt ⟨[]⟩ H fun v H'=>v= .bool true∧Keep Nil H H':=by
  refine Zckj ?_;unfold Zbto;refine (Zbrp (s:=Zbpf) hy (by decide)).mono ?_
  rintro v H1 ⟨k1,hp⟩;rw [Zcab] at hp;obtain ⟨F,vs,rfl,hv,fr,_,_⟩:=hp;have hv2:=hv;obtain ⟨a,b,ac,bc,rfl,ha,hb⟩:=hv2.ex;refine ⟨_,_,_,_,_,_,_,_,_,_,_,_,_,rfl,newB fun s H2 hs bs k2=>st7s bs fun H3 b3 k3=>?_⟩;have k13:Keep Nil H1 H3:=k2.then k3 fun y hy=> .inr (hy▸hs);have fr3:=fr.trans k13;have prl: ∀(v:List Value) (p:Pr),PrAt F v p->v.length=7:=fun v p h=>by have h:v=_:=h;rw [h];rfl
  refine ifT rfl ⟨_,cellL b3 0 rfl,ifT (by decide) ⟨_,cellL b3 1 rfl,ifT (by decide) ⟨_,cellL b3 2 rfl,ifT (by decide) ⟨_,_,_,cellL b3 6 rfl,ifT (by decide) ⟨_,_,_,cellL b3 6 rfl,Zdq (i:=0) (z:=0) hb fr3 prl rfl rfl (fun b1 o1 v1 _ h1 _ hc1=>?_) (by decide)⟩⟩⟩⟩⟩
  have h1:v1=_:=h1;subst h1;refine ld7c (p:=prW) hc1 ⟨by kernel_rfl,ifT ?_ (ld7s b3 ((Zbvb hv fr3).mono ?_))⟩
  show (bstr [97]==bstr [97]&&((167772162:Int)==167772162&&((65001:Int)==65001&&(true==true&&((0:Int)==0&&(bstr []==bstr []&&(bstr []==bstr []&&true)))))))=true;simp [Zbhe];rintro _ H4 ⟨rfl,k4⟩;exact ⟨_,rfl,fun H5 hs=>⟨rfl,Zcq ((k1.trans k13).trans k4) hs⟩⟩
theorem Zcdr (s:List UInt8):FnW Tryz.prog Zbbs ⟨[.string (bstr s)]⟩ H fun v H'=>H'=H∧∃t:List UInt8,t.length <= 100000∧v= .string (bstr t):=by
  refine Zcki (bstr s) ?_;unfold Zbtn;have hsz:(bstr s).size=s.length:=by show s.toArray.size=_;simp
  rw [hsz];refine IfB.intro (fun e=>?_) fun e=>?_
  . have e:=of_decide_eq_true e;refine InC.intro 65537 rfl (by omega) fun H2 hs2=>⟨Zwj hs2,s.take 65537,by rw [List.length_take];omega,?_⟩
    rw [Ztj s (Nat.zero_le _)];rfl
  . have e:=of_decide_eq_false e;refine InC.intro (min s.length 1500) (by omega) (by omega) fun H2 hs2=>⟨Zwj hs2,s.take (min s.length 1500),by rw [List.length_take];omega,?_⟩
    rw [Ztj s (Nat.zero_le _)];rfl
theorem Zcbx (hy:Lyd H) (s:List UInt8):FnW Tryz.prog Zbbk ⟨[.string (bstr s)]⟩ H fun v H'=>v= .bool true∧Keep Nil H H':=by
  refine Zcjf (bstr s) ?_;unfold Zbsj;refine (Zcdr s).mono ?_;rintro _ _ ⟨e,t,ht,rfl⟩;rw [e];clear e;refine ⟨_,rfl,(Zbrp hy ht).mono ?_⟩;rintro v1 H1 ⟨k1,p1⟩;have out: ∀{H0 H1:Heap} {v1:Value},ParR H0 t v1 H1->∃(sp:Sp) (F:Heap) (vs:List Value) (ln e:Int),v1= .tuple ⟨[.agg ⟨vs⟩,.int .i64 ln,.int .i64 e]⟩∧SpV F vs sp∧Keep Nil F H1∧((Zhb t= .ok sp∧ln=0∧e=0)∨(Zhb t= .error (ln,e)∧sp=Zbes)):=fun {H0 H1 v1} p=>by
    obtain ⟨k,p⟩:=p;cases hp:Zhb t with
    | ok sp=>
      rw [hp] at p;obtain ⟨F,vs,rfl,hv,fr,_,_⟩:=p;exact ⟨sp,F,vs,0,0,rfl,hv,fr,.inl ⟨rfl,rfl,rfl⟩⟩
    | error z=>
      obtain ⟨ln,e⟩:=z;rw [hp] at p;obtain ⟨rfl,_⟩:=p;exact ⟨Zbes,emp,spZ,ln,e,rfl,SpV.zero,Zbwf,.inr ⟨rfl,rfl⟩⟩
  obtain ⟨sp1,F1,vs1,ln1,e1,rfl,hv1,fr1,c1⟩:=out ⟨k1,p1⟩;have hv1':=hv1;obtain ⟨a1,b1,ac1,bc1,rfl,_⟩:=hv1'.ex;refine ⟨_,_,_,_,_,_,_,_,_,_,_,_,_,rfl,newB fun q H2 hq bq k2=>st7s bq fun H3 bq3 k3=>?_⟩;have k13:Keep Nil H1 H3:=k2.then k3 fun y hy=> .inr (hy▸hq);have k03:=k1.trans k13;refine (Zcin (hy.keep k03) ht).mono ?_;rintro v4 H4 ⟨k4,p4⟩;obtain ⟨sp2,F2,vs2,ln2,e2,rfl,hv2,fr2,c2⟩:=out ⟨k4,p4⟩;have hv2':=hv2;obtain ⟨a2,b2,ac2,bc2,rfl,_⟩:=hv2'.ex;refine ⟨_,_,_,_,_,_,_,_,_,_,_,_,_,rfl,newB fun r H5 hr br k5=>st7s br fun H6 br6 k6=>?_⟩;have hqr:q≠r:=fun e=>by subst e;exact (k4.blk bq3 fun h=>h).some hr
  have bq6:=k6.blk (k5.blk (k4.blk bq3 fun h=>h) fun h=>h) hqr;have k46:Keep Nil H4 H6:=k5.then k6 fun y hy=> .inr (hy▸hr);have same:sp2=sp1∧ln2=ln1∧e2=e1:=by rcases c1 with ⟨h1,rfl,rfl⟩ | ⟨h1,rfl⟩<;>rcases c2 with ⟨h2,rfl,rfl⟩ | ⟨h2,rfl⟩;rw [h1] at h2;cases h2;exact ⟨rfl,rfl,rfl⟩;rw [h1] at h2;cases h2;rw [h1] at h2;cases h2;rw [h1] at h2;cases h2;exact ⟨rfl,rfl,rfl⟩
  obtain ⟨rfl,rfl,rfl⟩:=same;refine ld7s bq6 (ld7s br6 ((Zccz hv1 hv2 (fr1.trans ((k13.trans k4).trans k46)) (fr2.trans k46)).mono ?_));rintro _ H7 ⟨rfl,k7⟩;have k07:=((k03.trans k4).trans k46).trans k7;refine ⟨_,rfl,ifT rfl (ifT (by simp) (ifT (by simp) ((Zcge (hy.keep k07)).mono ?_)))⟩
  rintro _ H8 ⟨rfl,k8⟩;exact ⟨_,rfl,fun H9 hs=>⟨rfl,Zcq (k07.trans k8) hs⟩⟩
end
end Go.Proofs.YtlkdgfolbllngaaGreatDoor
end
section
set_option maxRecDepth 100000
namespace Go.Proofs.YtlkdgfolbllngaaGreatDoor
open Go.Sh Go.Pc
abbrev Zbsk:List Pk:=[Pk.str]
abbrev Zcje:List Pk:=[Pk.bool]
theorem Zcjd:FnQ Tryz.prog Zbbk Zbsk Zcje (fun x K=>K (true,())):=
  Zbwl rfl (fun x=>rfl) fun x K hK H Z vs hs hz hlive hok=>by
    obtain ⟨s,u⟩:=x
    match vs,hs with
    | [v],hs=>
      simp only [pksA,pkA,SimL,SimV] at hs;obtain ⟨⟨rfl,hl⟩,_⟩:=hs;refine (Zcbx ⟨hlive,hok⟩ s).mono ?_;rintro _ H' ⟨rfl,k⟩;refine ⟨k,(true,()),fun _=>False,hK,Zoz.none,?_⟩;simp only [pksA,pkA,outA,SimV]
end Go.Proofs.YtlkdgfolbllngaaGreatDoor
end
