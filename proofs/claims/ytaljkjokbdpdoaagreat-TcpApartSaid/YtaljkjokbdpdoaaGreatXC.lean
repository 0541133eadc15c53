/-
  Numbers and bytes that are handed in.
-/
import Derived.Test.YtaljkjokbdpdoaaGreatBA
import Derived.Test.YtaljkjokbdpdoaaGreatCA
import Derived.Test.YtaljkjokbdpdoaaGreatCP
import Derived.Test.YtaljkjokbdpdoaaGreatEC
import Derived.Deep.Slices
import Derived.Test.YtaljkjokbdpdoaaGreatXB
set_option linter.all false
section
set_option maxRecDepth 100000
namespace Go.Proofs.YtaljkjokbdpdoaaGreat
open Go.Sh Go.Pc Go.Conn Go.ChangeShapes Go.WideShapes Go.ChangeAt Go.RowKit
theorem Zcbq:Tryz.prog.underlying Zy=some (.int .i64):=by kernel_rfl
theorem Zbbf:Tryz.prog.underlying Zfg=some (.int .u32):=by kernel_rfl
theorem Zcbs:Tryz.prog.underlying Zh=some (.int .u8):=by kernel_rfl
theorem Zbiq:Tryz.prog.underlying Zbq=some .bool:=by kernel_rfl
theorem Zcbp:Tryz.prog.underlying Zd=some (.slice Zh):=by kernel_rfl
theorem Zbtk:Tryz.prog.cellsOf Zy=1:=by kernel_rfl
theorem Zbtm:Tryz.prog.cellsOf Zfg=1:=by kernel_rfl
theorem c_u8:Tryz.prog.cellsOf Zh=1:=by kernel_rfl
theorem Zbti:Tryz.prog.cellsOf Zbq=1:=by kernel_rfl
theorem Zbtj:Tryz.prog.cellsOf Zd=1:=by kernel_rfl
section
variable {W:World} {H:Type} {enc:TypeId×Value->H}
theorem Zbst {x:Int} {d:DataW H} {ps:List MemPlace} (h:DataW.Trod enc Tryz.prog W 0 (fun _=>true) true Zfg (.int .u32 x) d ps): ∃z:Nat,z<4294967296∧x=z:=by
  obtain ⟨fuel,h⟩:=h;obtain ⟨m,hm,_,hwf⟩:=DataW.trod_int Zbbf h;have hm:x=m:=by simp only [Value.cells,List.cons.injEq,and_true] at hm;cases hm;rfl
  subst hm;have hr:0 <= x∧x<4294967296:=by have hm1:IntKind.u32.min=0:=rfl;have hM:IntKind.u32.max=4294967295:=rfl;simp [Lit.wf,hm1,hM] at hwf;omega
  exact ⟨x.toNat,by omega,by omega⟩
end
end Go.Proofs.YtaljkjokbdpdoaaGreat
end
section
set_option maxRecDepth 100000
namespace Go.Proofs.YtaljkjokbdpdoaaGreat
open Go.Sh Go.Pc Go.Conn Go.ChangeShapes Go.WideShapes Go.ChangeAt Go.RowKit
theorem Zcbr:Tryz.prog.underlying Zl=some (.struct #[⟨ "From",Zy,0,false,"","",0⟩,⟨ "To",Zy,1,false,"","",8⟩,⟨ "Seq",Zfg,2,false,"","",16⟩,⟨ "Ack",Zfg,3,false,"","",20⟩,⟨ "Flags",Zy,4,false,"","",24⟩,⟨ "Window",Zy,5,false,"","",32⟩,⟨ "Urgent",Zy,6,false,"","",40⟩,⟨ "Greatest",Zy,7,false,"","",48⟩,⟨ "Data",Zd,8,false,"","",56⟩]):=by kernel_rfl
theorem Zcbn:Tryz.prog.underlying Zey=some (.struct #[⟨ "Do",Zy,0,false,"","",0⟩,⟨ "Now",Zy,1,false,"","",8⟩,⟨ "N",Zy,2,false,"","",16⟩,⟨ "By",Zy,3,false,"","",24⟩,⟨ "From",Zix,4,false,"","",32⟩,⟨ "B",Zd,5,false,"","",40⟩,⟨ "S",Zl,6,false,"","",64⟩,⟨ "Built",Zbq,15,false,"","",144⟩,⟨ "Near",Zbq,16,false,"","",145⟩]):=by kernel_rfl
theorem Zbip:Tryz.prog.underlying Zny=some (.slice Zey):=by kernel_rfl
theorem Zbtl:Tryz.prog.cellsOf Zl=9:=by kernel_rfl
theorem Zcbo:Tryz.prog.underlying Zix=some (.int .u32):=by kernel_rfl
theorem Zbth:Tryz.prog.cellsOf Zix=1:=by kernel_rfl
theorem Zbdn:Tryz.prog.cellsOf Zey=17:=by kernel_rfl
def Znt (H:Heap) (b o:Nat):Prop:=∃(d now n by_:Int) (fr:Nat) (ba:Option Addr) (bn bc:Nat) (s:Sg) (da:Option Addr) (dn dc:Nat) (built near:Bool) (bs:List Int),
  (∀t,t<17->H.cell ⟨b,o+t,none⟩=(actL d now n by_ fr ba bn bc s.src s.dst s.seq s.ack s.flags s.win s.urg s.big da dn dc built near)[t]?)∧fr<4294967296∧Reads H ba bn (bv bs)∧AllB bs∧bn <= bc∧Reads H da dn (bv s.data)∧AllB s.data∧dn <= dc
def Ziw (H:Heap) (a:Option Addr) (n:Nat):Prop:=∀i,i<n->∃b o,a=some ⟨b,o,none⟩∧Znt H b (o+i*17)
section
variable {H:Type} {enc:TypeId×Value->H} {W:World}
theorem Zfh {l:List Value} {n o:Nat} {x:DataW H×List MemPlace} (h:DataW.trod enc Tryz.prog W 0 (fun _=>true) true n Zy ((l.drop o).take (Tryz.prog.cellsOf Zy))=some x): ∃z,l[o]? =some (.int .i64 z):=by obtain ⟨m,hm,_⟩:=DataW.trod_int Zcbq h;rw [Zbtk] at hm;exact ⟨m,Zmy hm⟩
theorem Zbdg {l:List Value} {n o:Nat} {x:DataW H×List MemPlace} (h:DataW.trod enc Tryz.prog W 0 (fun _=>true) true n Zfg ((l.drop o).take (Tryz.prog.cellsOf Zfg))=some x): ∃z:Nat,z<4294967296∧l[o]? =some (.int .u32 z):=by
  obtain ⟨m,hm,_,hwf⟩:=DataW.trod_int Zbbf h;rw [Zbtm] at hm;have hr:0 <= m∧m<4294967296:=by have hm1:IntKind.u32.min=0:=rfl;have hM:IntKind.u32.max=4294967295:=rfl;simp [Lit.wf,hm1,hM] at hwf;omega
  refine ⟨m.toNat,by omega,?_⟩
  have e:((m.toNat:Nat):Int)=m:=by omega
  rw [e];exact Zmy hm
theorem Zbsv {l:List Value} {n o:Nat} {x:DataW H×List MemPlace} (h:DataW.trod enc Tryz.prog W 0 (fun _=>true) true n Zix ((l.drop o).take (Tryz.prog.cellsOf Zix))=some x): ∃z:Nat,z<4294967296∧l[o]? =some (.int .u32 z):=by
  obtain ⟨m,hm,_,hwf⟩:=DataW.trod_int Zcbo h;rw [Zbth] at hm;have hr:0 <= m∧m<4294967296:=by have hm1:IntKind.u32.min=0:=rfl;have hM:IntKind.u32.max=4294967295:=rfl;simp [Lit.wf,hm1,hM] at hwf;omega
  refine ⟨m.toNat,by omega,?_⟩
  have e:((m.toNat:Nat):Int)=m:=by omega
  rw [e];exact Zmy hm
theorem Zbdd {l:List Value} {n o:Nat} {x:DataW H×List MemPlace} (h:DataW.trod enc Tryz.prog W 0 (fun _=>true) true n Zbq ((l.drop o).take (Tryz.prog.cellsOf Zbq))=some x): ∃z,l[o]? =some (.bool z):=by obtain ⟨m,hm,_⟩:=DataW.trod_bool Zbiq h;rw [Zbti] at hm;exact ⟨m,Zmy hm⟩
theorem Zbde {l:List Value} {n o:Nat} {x:DataW H×List MemPlace} (h:DataW.trod enc Tryz.prog W 0 (fun _=>true) true n Zd ((l.drop o).take (Tryz.prog.cellsOf Zd))=some x): ∃a k c bs,l[o]? =some (.slice a k c)∧k <= c∧Reads (hp W) a k (bv bs)∧AllB bs:=by
  obtain ⟨a,k,c,bs,hm,h2,_,h4⟩:=Zcbm Zcbp Zcbs c_u8 h;rw [Zbtj] at hm;refine ⟨a,k,c,bs.map fun x=>(x.toNat:Int),Zmy hm,h2,?_,fun x hx=>?_⟩
  . have:bv (bs.map fun x=>(x.toNat:Int))=bs.map fun x=>Value.int .u8 x.toNat:=by simp [bv]
    rw [this];exact h4
  obtain ⟨z,_,rfl⟩:=List.mem_map.1 hx;have:=z.toNat_lt;exact ⟨by omega,by omega⟩
theorem Zbsw {l:List Value} {n:Nat} {x:DataW H×List MemPlace} (h:DataW.trod enc Tryz.prog W 0 (fun _=>true) true n Zl l=some x):
    ∃s da dn dc,(∀t,t<9->l[t]? =(sgL s da dn dc)[t]?)∧Reads (hp W) da dn (bv s.data)∧dn <= dc∧s.seq<4294967296∧s.ack<4294967296∧AllB s.data:=by
  obtain ⟨xs,n1,_,_,hl2,hxl,hf⟩:=DataW.trod_struct Zcbr h;have get: ∀(k:Nat) (f:Field),k<9->(#[⟨ "From",Zy,0,false,"","",0⟩,⟨ "To",Zy,1,false,"","",8⟩,⟨ "Seq",Zfg,2,false,"","",16⟩,⟨ "Ack",Zfg,3,false,"","",20⟩,⟨ "Flags",Zy,4,false,"","",24⟩,⟨ "Window",Zy,5,false,"","",32⟩,⟨ "Urgent",Zy,6,false,"","",40⟩,⟨ "Greatest",Zy,7,false,"","",48⟩,⟨ "Data",Zd,8,false,"","",56⟩]:Array Field)[k]? =some f->∃x,DataW.trod enc Tryz.prog W 0 (fun _=>true) true n1 f.type ((l.drop f.offset).take (Tryz.prog.cellsOf f.type))=some x:=by
    intro k f hk he;refine ⟨xs[k]'(by rw [hxl];exact hk),?_⟩
    rw [hf k f he];exact List.getElem?_eq_getElem _
  obtain ⟨_,g0⟩:=get 0 _ (by omega) rfl
  obtain ⟨_,g1⟩:=get 1 _ (by omega) rfl
  obtain ⟨_,g2⟩:=get 2 _ (by omega) rfl
  obtain ⟨_,g3⟩:=get 3 _ (by omega) rfl
  obtain ⟨_,g4⟩:=get 4 _ (by omega) rfl
  obtain ⟨_,g5⟩:=get 5 _ (by omega) rfl
  obtain ⟨_,g6⟩:=get 6 _ (by omega) rfl
  obtain ⟨_,g7⟩:=get 7 _ (by omega) rfl
  obtain ⟨_,g8⟩:=get 8 _ (by omega) rfl
  obtain ⟨z0,e0⟩:=Zfh g0;obtain ⟨z1,e1⟩:=Zfh g1;obtain ⟨z2,b2,e2⟩:=Zbdg g2;obtain ⟨z3,b3,e3⟩:=Zbdg g3;obtain ⟨z4,e4⟩:=Zfh g4;obtain ⟨z5,e5⟩:=Zfh g5;obtain ⟨z6,e6⟩:=Zfh g6;obtain ⟨z7,e7⟩:=Zfh g7;obtain ⟨da,dn,dc,bs,e8,hle,hr,hbs⟩:=Zbde g8;refine ⟨⟨z0,z1,z2,z3,z4,z5,z6,z7,bs⟩,da,dn,dc,fun t ht=>?_,hr,hle,b2,b3,hbs⟩
  match t,ht with
  | 0,_=>exact e0
  | 1,_=>exact e1
  | 2,_=>exact e2
  | 3,_=>exact e3
  | 4,_=>exact e4
  | 5,_=>exact e5
  | 6,_=>exact e6
  | 7,_=>exact e7
  | 8,_=>exact e8
theorem Zbsu {l:List Value} {n:Nat} {x:DataW H×List MemPlace} (h:DataW.trod enc Tryz.prog W 0 (fun _=>true) true n Zey l=some x):
    ∃(d now m by_:Int) (fr:Nat) (ba:Option Addr) (bn bc:Nat) (s:Sg) (da:Option Addr) (dn dc:Nat) (built near:Bool) (bs:List Int),(∀t,t<17->l[t]? =(actL d now m by_ fr ba bn bc s.src s.dst s.seq s.ack s.flags s.win s.urg s.big da dn dc built near)[t]?)∧fr<4294967296∧Reads (hp W) ba bn (bv bs)∧AllB bs∧bn <= bc∧Reads (hp W) da dn (bv s.data)∧AllB s.data∧dn <= dc:=by
  obtain ⟨xs,n1,_,_,hl2,hxl,hf⟩:=DataW.trod_struct Zcbn h;have get: ∀(k:Nat) (f:Field),k<9->(#[⟨ "Do",Zy,0,false,"","",0⟩,⟨ "Now",Zy,1,false,"","",8⟩,⟨ "N",Zy,2,false,"","",16⟩,⟨ "By",Zy,3,false,"","",24⟩,⟨ "From",Zix,4,false,"","",32⟩,⟨ "B",Zd,5,false,"","",40⟩,⟨ "S",Zl,6,false,"","",64⟩,⟨ "Built",Zbq,15,false,"","",144⟩,⟨ "Near",Zbq,16,false,"","",145⟩]:Array Field)[k]? =some f->∃x,DataW.trod enc Tryz.prog W 0 (fun _=>true) true n1 f.type ((l.drop f.offset).take (Tryz.prog.cellsOf f.type))=some x:=by
    intro k f hk he;refine ⟨xs[k]'(by rw [hxl];exact hk),?_⟩
    rw [hf k f he];exact List.getElem?_eq_getElem _
  obtain ⟨_,g0⟩:=get 0 _ (by omega) rfl
  obtain ⟨_,g1⟩:=get 1 _ (by omega) rfl
  obtain ⟨_,g2⟩:=get 2 _ (by omega) rfl
  obtain ⟨_,g3⟩:=get 3 _ (by omega) rfl
  obtain ⟨_,g4⟩:=get 4 _ (by omega) rfl
  obtain ⟨_,g5⟩:=get 5 _ (by omega) rfl
  obtain ⟨_,g6⟩:=get 6 _ (by omega) rfl
  obtain ⟨_,g7⟩:=get 7 _ (by omega) rfl
  obtain ⟨_,g8⟩:=get 8 _ (by omega) rfl
  obtain ⟨z0,e0⟩:=Zfh g0;obtain ⟨z1,e1⟩:=Zfh g1;obtain ⟨z2,e2⟩:=Zfh g2;obtain ⟨z3,e3⟩:=Zfh g3;obtain ⟨z4,b4,e4⟩:=Zbsv g4;obtain ⟨ba,bn,bc,bs,e5,hle,hr,hb⟩:=Zbde g5;obtain ⟨s,da,dn,dc,hs,hr2,hle2,_,_,hd⟩:=Zbsw g6;obtain ⟨z7,e7⟩:=Zbdd g7;obtain ⟨z8,e8⟩:=Zbdd g8;have hs': ∀t,t<9->l[6+t]? =(sgL s da dn dc)[t]? :=fun t ht=>by have:=hs t ht;change ((l.drop 6).take (Tryz.prog.cellsOf Zl))[t]? =_ at this;rw [Zbtl,List.getElem?_take_of_lt ht,List.getElem?_drop] at this;exact this
  refine ⟨z0,z1,z2,z3,z4,ba,bn,bc,s,da,dn,dc,z7,z8,bs,fun t ht=>?_,b4,hr,hb,hle,hr2,hd,hle2⟩
  match t,ht with
  | 0,_=>exact e0
  | 1,_=>exact e1
  | 2,_=>exact e2
  | 3,_=>exact e3
  | 4,_=>exact e4
  | 5,_=>exact e5
  | 6,_=>exact hs' 0 (by omega)
  | 7,_=>exact hs' 1 (by omega)
  | 8,_=>exact hs' 2 (by omega)
  | 9,_=>exact hs' 3 (by omega)
  | 10,_=>exact hs' 4 (by omega)
  | 11,_=>exact hs' 5 (by omega)
  | 12,_=>exact hs' 6 (by omega)
  | 13,_=>exact hs' 7 (by omega)
  | 14,_=>exact hs' 8 (by omega)
  | 15,_=>exact e7
  | 16,_=>exact e8
  | k+17,hk=>omega
theorem Zbwl {base:Nat} {v:Value} {d:DataW H} {ps:List MemPlace} (hval:Value.okWide Tryz.prog W .any base Zny v) (h:DataW.Trod enc Tryz.prog W 0 (fun _=>true) true Zny v d ps):
    ∃(a:Option Addr) (n c:Nat),v= .slice a n c∧Ziw (hp W) a n:=by
  obtain ⟨a0,n0,c0,rfl⟩:=okWide_slice Zbip hval;obtain ⟨fuel,h⟩:=h;rcases Go.Deep.open_slice Zbip h with ⟨h1,_⟩ | ⟨a,len,cap,m,n',D,Pl,h1,_,hlc,_,hm,_,hel⟩;simp only [Value.cells,List.cons.injEq,and_true] at h1;cases h1;exact ⟨_,_,_,rfl,fun i hi=>by omega⟩
  . simp only [Value.cells,List.cons.injEq,and_true] at h1;cases h1;simp only [if_true] at hm;subst hm;refine ⟨_,_,_,rfl,fun i hi=>?_⟩;obtain ⟨cs,hcs,htr⟩:=hel i (by omega)
    rw [Zbdn] at hcs;obtain ⟨_,hl,hcell⟩:=World.cells?_some hcs;obtain ⟨d,now,k,by_,fr,ba,bn,bc,s,da,dn,dc,built,near,bs,hc,r⟩:=Zbsu htr;obtain ⟨cs',hcs',_⟩:=hel 0 (by omega)
    rw [Zbdn] at hcs';obtain ⟨_,hl',hcell'⟩:=World.cells?_some hcs';have s0:=hcell' 0 (by omega)
    rw [List.getElem?_eq_getElem (by omega)] at s0
    obtain ⟨hsp,_⟩:=cell_spot (H:=hp W) s0;obtain ⟨b,o,sp⟩:=a;replace hsp:sp=none:=by simpa [Addr.add] using hsp
    subst hsp;refine ⟨b,o,rfl,d,now,k,by_,fr,ba,bn,bc,s,da,dn,dc,built,near,bs,fun t ht=>?_,r⟩;have ea:((⟨b,o,none⟩:Addr).add (i*17)).add t=⟨b,o+i*17+t,none⟩:=by rw [Zdk (a:=⟨b,o,none⟩) rfl (i*17)];exact Zdk rfl t
    rw [Zkc,← ea,hcell t ht];exact hc t ht
end
end Go.Proofs.YtaljkjokbdpdoaaGreat
end
section
set_option maxRecDepth 100000
namespace Go.Proofs.YtaljkjokbdpdoaaGreat
open Go.Sh Go.Pc Go.Conn
structure Tri (N:Nat) (H0 H:Heap) (B:Nat) (G:Gm) (A:Nat->Nat->Prop) (pp:Nat->StP) (sb:Nat->Nat) (S:Nat->Stk) (yb:Nat):Prop where
  le:N <= 2
  reg:Reg H0 H A
  keep:Keep Nil H0 H
  st: ∀k,k<N->StRep H (sb k) (pp k) (S k)
  eqv: ∀k,k<N->∀y,(pp k).G (sb k) y↔A k y
  ty:Ty B G H
  gm: ∀y,G y≠none↔A 2 y
  stk:G yb=some .stack
section
variable {N B B':Nat} {H0 H H':Heap} {G G':Gm} {A A':Nat->Nat->Prop} {pp:Nat->StP} {sb:Nat->Nat} {S:Nat->Stk} {yb k:Nat}
theorem Tri.nil (h:Tri N H0 H B G A pp sb S yb) (k:Keep Nil H H'):Tri N H0 H' B G A pp sb S yb:=
  ⟨h.le,h.reg.keep k,h.keep.trans k,fun i hi=>(h.st i hi).keep k fun _ _ h=>h,h.eqv,h.ty.keep k,h.gm,h.stk⟩
theorem Tri.ref (h:Tri N H0 H B G A pp sb S yb) (t:Ty B' G' H') (x:Ext G H G' H'): ∃A',Tri N H0 H' B' G' A' pp sb S yb∧StepL H A H' A':=by
  have kA:Keep (A 2) H H':=x.kp.mono fun y hy=>(h.gm y).1 hy;have hsub: ∀y,G' y≠none->A 2 y∨H y=none:=fun y hy=>(x.new y hy).imp (h.gm y).1 id;have hle:=h.le;have reg':Reg H0 H' (upA A 2 (fun y=>G' y≠none)):=h.reg.step h.keep kA hsub fun y hy=>t.live hy;refine ⟨_,⟨h.le,reg',h.keep.then kA fun y hy=> .inr (h.reg.new 2 y hy),fun i hi=>(h.st i hi).keep kA fun y hy hz=>h.reg.apart i 2 (by omega) y ((h.eqv i hi y).1 hy) hz,fun i hi y=>by rw [Zbp (by omega)];exact h.eqv i hi y,t,fun y=>by rw [Zdt],x.le.st yb h.stk⟩,⟨fun i hi y hy=>?_,kA.mono fun y hy=>⟨2,by omega,hy⟩,fun y hy=>by rw [Zbp (by omega)];exact hy⟩⟩
  by_cases e:i=2;subst e;rw [Zdt] at hy;exact hsub y hy;rw [Zbp e] at hy;exact .inl hy
theorem Tri.callX (h:Tri N H0 H B G A pp sb S yb) (hk:k<N) {S':Stk} {u:Value} {to:Nat} {bs:List (List Int)} {Hm:Heap} {p':StP} (q1:StRep H' (sb k) p' S') (q2:Keep ((pp k).G (sb k)) H H') (q3: ∀y,p'.G (sb k) y->(pp k).G (sb k) y∨H y=none) (q4:OutRow Hm H' u to bs) (q5:Keep ((pp k).G (sb k)) H Hm) (q6: ∀y,p'.G (sb k) y->Hm y≠none) (hbs: ∀b∈bs,AllB b∧b.length <= 60000):
    ∃A' pp',Tri N H0 H' B G A' pp' sb (upF S k S') yb∧StepL H A H' A'∧OutX H0 H' A' u to bs:=by
  have hle:=h.le;have e0:=h.eqv k hk;have kA:Keep (A k) H H':=q2.mono fun y hy=>(e0 y).1 hy;have hsub: ∀y,p'.G (sb k) y->A k y∨H y=none:=fun y hy=>(q3 y hy).imp (fun e=>(e0 y).1 e) id;have ns: ∀j,j≠k->∀y,A j y->¬A k y:=fun j hj y hy hz=>h.reg.apart j k hj y hy hz;have reg':Reg H0 H' (upA A k (p'.G (sb k))):=h.reg.step h.keep kA hsub fun y hy=>q1.live hy;have hk2:(2:Nat)≠k:=by omega
  have st':StepL H A H' (upA A k (p'.G (sb k))):=by
    refine ⟨fun i hi y hy=>?_,kA.mono fun y hy=>⟨k,by omega,hy⟩,fun y hy=>by rw [Zbp (by omega)];exact hy⟩
    by_cases e:i=k;subst e;rw [Zdt] at hy;exact hsub y hy;rw [Zbp e] at hy;exact .inl hy
  have hm:Keep (A k) H Hm:=q5.mono fun y hy=>(e0 y).1 hy;have free: ∀y,Hm y=none->H' y≠none->Free H' (upA A k (p'.G (sb k))) y:=fun y hn hl=>by refine ⟨hl,fun i hi hy=>?_⟩;by_cases e:i=k;subst e;rw [Zdt] at hy;exact q6 y hy hn;rw [Zbp e] at hy;exact h.reg.live i y hy (q5.free hn)
  refine ⟨upA A k (p'.G (sb k)),upF pp k p',⟨h.le,reg',h.keep.then kA fun y hy=> .inr (h.reg.new k y hy),fun i hi=>?_,fun i hi y=>?_,⟨fun b κ hb=>?_⟩,fun y=>by rw [Zbp hk2];exact h.gm y,h.stk⟩,st',?_⟩
  show StRep H' (sb i) (upF pp k p' i) (upF S k S' i);by_cases e:i=k;subst e;rw [Zbz,Zbz];exact q1;rw [Zch e,Zch e];exact (h.st i hi).keep kA fun y hy=>ns i e y ((h.eqv i hi y).1 hy);show (upF pp k p' i).G (sb i) y↔_;by_cases e:i=k;subst e;rw [Zbz,Zdt];rw [Zch e,Zbp e];exact h.eqv i hi y;obtain ⟨cs,e1,e2⟩:=h.ty.at_ b κ hb;exact ⟨cs,kA.blk e1 (ns 2 hk2 b ((h.gm b).1 (by rw [hb];simp))),e2⟩
  . obtain ⟨a,c,xs,r1,r2,r3,r4⟩:=q4.ex;have ke:Keep (fun _=>True) emp Hm:=⟨fun y hy=>absurd trivial hy,fun y hy=>absurd rfl hy⟩;refine ⟨a,c,xs,r1,r2,r3.mono ke,fun y hy=>?_,fun x hx=>⟨Sh.Own.mono (r4 x hx) ke,fun y hy=>?_,(hbs _ (by rw [← r2];exact List.mem_map.2 ⟨x,hx,rfl⟩)).1,(hbs _ (by rw [← r2];exact List.mem_map.2 ⟨x,hx,rfl⟩)).2⟩⟩
    obtain ⟨cs,hb⟩:=r3.live hy;exact free y (r3.free hy) hb.some;obtain ⟨cs,hb⟩:=Sh.Own.live (r4 x hx) hy;exact ⟨free y (Sh.Own.free (r4 x hx) hy) hb.some,h.keep.free (hm.free (Sh.Own.free (r4 x hx) hy))⟩
end
end Go.Proofs.YtaljkjokbdpdoaaGreat
end
section
set_option maxRecDepth 100000
namespace Go.Proofs.YtaljkjokbdpdoaaGreat
open Go.Sh Go.Pc Go.Conn
section
variable {N B B':Nat} {H0 H H':Heap} {G G':Gm} {A A':Nat->Nat->Prop} {pp:Nat->StP} {sb:Nat->Nat} {S:Nat->Stk} {yb k:Nat}
def RoA (H:Heap) (A:Nat->Nat->Prop) (a:Option Addr) (n:Nat) (l:List Int):Prop:=Reads H a n (bv l)∧(0<n->∀x,a=some x->Free H A x.block)
theorem RoA.step {a:Option Addr} {n:Nat} {l:List Int} (h:RoA H A a n l) (s:StepL H A H' A'):RoA H' A' a n l:=
  ⟨Zbab h.1 s.kp fun h0 x hx=>(h.2 h0 x hx).nz s,fun h0 x hx=>(h.2 h0 x hx).step s⟩
theorem RoA.ro (t:Tri N H0 H B G A pp sb S yb) {a:Option Addr} {n:Nat} {l:List Int} (h:RoA H A a n l):Ro G H a n l:=
  ⟨h.1,fun h0 x hx=>⟨(h.2 h0 x hx).1,by
    cases e:G x.block with
    | none=>rfl
    | some κ=>exact absurd ((t.gm _).1 (by rw [e];simp)) ((h.2 h0 x hx).2 2 (by decide))⟩⟩
theorem Zbbc (h:Tri N H0 H B G A pp sb S yb) (hk:k<N) {fr n c:Nat} {a:Option Addr} {l:List Int} (hfr:fr<4294967296) (hn:(S k).now <= 0) (hc:(S k).count<1000000) (ra:RoA H A a n l) (hl:AllB l) (hn4:n <= 60000) (hnc:n <= c):
    FnW Tryz.prog Zib ⟨[.pointer (some ⟨sb k,0,none⟩),.int .i64 0,.int .u32 fr,.slice a n c]⟩ H fun v H'=>∃(u:Value) (wa:Option Addr) (wc:Nat) (A':Nat->Nat->Prop) (pp':Nat->StP),v= .tuple ⟨[u,.slice wa ((S k).take 0 fr l).evs.length wc,.int .i64 0]⟩∧
      Tri N H0 H' B G A' pp' sb (upF S k ((S k).take 0 fr l).S) yb∧StepL H A H' A'∧OutX H0 H' A' u fr (((S k).take 0 fr l).outs.map (outV (S k).me fr)):=by
  have hst:=h.st k hk;have hle:=h.le;refine (take_at hst hfr hn hc (fun H' kk=>Zbab ra.1 kk fun h0 x hx e=>(ra.2 h0 x hx).2 k (by omega) ((h.eqv k hk _).1 (.inl (.inl e)))) hl hn4 hnc).mono ?_
  rintro _ H1 ⟨u,w,rfl,htk⟩;obtain ⟨Hm,He,p',q1,q2,q3,q4,q5,q6,q7,_,_⟩:=htk.ex;obtain ⟨tk1,tk2,tk3⟩:=hst.ok.take (Int.le_refl 0) fr hl;obtain ⟨A1,pp1,h1,st1,ox⟩:=h.callX hk q1 q2 q3 q4 q5 q6 (fun b hb=>by
    obtain ⟨gg,hgg,rfl⟩:=List.mem_map.1 hb;exact Zzs (tk2 gg hgg) _ _)
  obtain ⟨wa,wc,rfl,_⟩:=q7.ex;exact ⟨u,wa,wc,A1,pp1,rfl,h1,st1,ox⟩
theorem Zcbe (h:Tri N H0 H B G A pp sb S yb) (hB:B <= 1000000) {d now n by_:Int} {fr:Nat} {i0 i1 i2 i3 i4 i5 i6 i7:Int} {ba da:Option Addr} {bn bc dn dc:Nat} {built near:Bool} (hfr:fr<4294967296) {lB lD:List Int} (rB:RoA H A ba bn lB) (hlB:AllB lB) (hbc:bn <= bc) (rD:RoA H A da dn lD) (hlD:AllB lD) (hdc:dn <= dc):
    FnW Tryz.prog Zpu ⟨[.pointer (some ⟨yb,0,none⟩),.agg ⟨actL d now n by_ fr ba bn bc i0 i1 i2 i3 i4 i5 i6 i7 da dn dc built near⟩]⟩ H fun v H'=>∃(z:Nat) (a:Option Addr) (m c:Nat) (l:List Int),v= .tuple ⟨[.int .u32 (z:Int),.slice a m c]⟩∧z<4294967296∧AllB l∧RoA H' A a m l∧m <= c∧m <= 100∧Keep Nil H H':=by
  refine (Zcgp h.ty hB h.stk (by omega) (rB.ro h) hlB hbc (rD.ro h) hlD hdc).mono ?_
  rintro _ H1 ⟨z,a,m,c,l,rfl,hz,hl,ro,hmc,hm,k1,hw⟩;refine ⟨z,a,m,c,l,rfl,hz,hl,⟨ro.1,fun h0 x hx=>?_⟩,hmc,hm,k1⟩;rcases hw with ⟨e,hmb⟩ | hw;subst e;exact (rB.2 (by omega) x hx).step (StepL.nil k1)
  exact ⟨(ro.2 h0 x hx).1,fun i _ hi=>h.reg.live i _ hi (hw x hx)⟩
theorem Zcbf (h:Tri N H0 H B G A pp sb S yb) (hB:B <= 700000) {fr n c:Nat} {a:Option Addr} {l:List Int} (hfr:fr<4294967296) (ra:RoA H A a n l) (hl:AllB l) (hn:n <= 100) (hnc:n <= c):
    FnW Tryz.prog Zpt ⟨[.pointer (some ⟨yb,0,none⟩),.int .i64 0,.int .u32 fr,.slice a n c]⟩ H fun v H'=>∃(oa:Option Addr) (on oc:Nat) (ea:Option Addr) (en ec:Nat) (e:Int) (G':Gm) (A':Nat->Nat->Prop),v= .tuple ⟨[.slice oa on oc,.slice ea en ec,.int .i64 e]⟩∧Tri N H0 H' (B+4201) G' A' pp sb S yb∧StepL H A H' A':=by
  refine (Zbyt h.ty hB h.stk (Int.le_refl 0) (fr:=fr) (by omega) (ra.ro h) hl hnc (by omega)).mono ?_
  rintro _ H1 ⟨oa,on,oc,ea,en,ec,e,G1,rfl,h1,x1⟩;obtain ⟨A1,t1,s1⟩:=h.ref (h1.mono (B':=B+4201) (by omega)) x1
  exact ⟨_,_,_,_,_,_,_,G1,A1,rfl,t1,s1⟩
end
end Go.Proofs.YtaljkjokbdpdoaaGreat
end
section
set_option maxRecDepth 100000
namespace Go.Proofs.YtaljkjokbdpdoaaGreat
open Go.Sh Go.Pc Go.Conn
section
variable {H:Heap} {d now n by_ fr i0 i1 i2 i3 i4 i5 i6 i7:Int} {ba da:Option Addr} {bn bc dn dc:Nat} {built near:Bool}
theorem ld17 {b o:Nat} {K:Int->Int->Int->Int->Int->Option Addr->Nat->Nat->Int->Int->Int->Int->Int->Int->Int->Int->Option Addr->Nat->Nat->Bool->Bool->Prop} (h: ∀t,t<17->H.cell ⟨b,o+t,none⟩=(actL d now n by_ fr ba bn bc i0 i1 i2 i3 i4 i5 i6 i7 da dn dc built near)[t]?) (hk:K d now n by_ fr ba bn bc i0 i1 i2 i3 i4 i5 i6 i7 da dn dc built near):
    ∃x0:Int,H.cell ⟨b,o,none⟩=some (Value.int .i64 x0)∧∃x1:Int,H.cell ⟨b,o+1,none⟩=some (Value.int .i64 x1)∧∃x2:Int,H.cell ⟨b,o+2,none⟩=some (Value.int .i64 x2)∧∃x3:Int,H.cell ⟨b,o+3,none⟩=some (Value.int .i64 x3)∧∃x4:Int,H.cell ⟨b,o+4,none⟩=some (Value.int .u32 x4)∧∃(x5a:Option Addr) (x5n x5c:Nat),H.cell ⟨b,o+5,none⟩=some (Value.slice x5a x5n x5c)∧∃x6:Int,H.cell ⟨b,o+6,none⟩=some (Value.int .i64 x6)∧∃x7:Int,H.cell ⟨b,o+7,none⟩=some (Value.int .i64 x7)∧∃x8:Int,H.cell ⟨b,o+8,none⟩=some (Value.int .u32 x8)∧∃x9:Int,H.cell ⟨b,o+9,none⟩=some (Value.int .u32 x9)∧∃x10:Int,H.cell ⟨b,o+10,none⟩=some (Value.int .i64 x10)∧∃x11:Int,H.cell ⟨b,o+11,none⟩=some (Value.int .i64 x11)∧∃x12:Int,H.cell ⟨b,o+12,none⟩=some (Value.int .i64 x12)∧∃x13:Int,H.cell ⟨b,o+13,none⟩=some (Value.int .i64 x13)∧∃(x14a:Option Addr) (x14n x14c:Nat),H.cell ⟨b,o+14,none⟩=some (Value.slice x14a x14n x14c)∧∃x15:Bool,H.cell ⟨b,o+15,none⟩=some (Value.bool x15)∧∃x16:Bool,H.cell ⟨b,o+16,none⟩=some (Value.bool x16)∧K x0 x1 x2 x3 x4 x5a x5n x5c x6 x7 x8 x9 x10 x11 x12 x13 x14a x14n x14c x15 x16:=
  ⟨_,h 0 (by decide),_,h 1 (by decide),_,h 2 (by decide),_,h 3 (by decide),_,h 4 (by decide),_,_,_,h 5 (by decide),_,h 6 (by decide),_,h 7 (by decide),_,h 8 (by decide),_,h 9 (by decide),_,h 10 (by decide),_,h 11 (by decide),_,h 12 (by decide),_,h 13 (by decide),_,_,_,h 14 (by decide),_,h 15 (by decide),_,h 16 (by decide),hk⟩
theorem st17 {q:Nat} {T:TypeId} {v0 v1 v2 v3 v4 v5 v6 v7 v8 v9 v10 v11 v12 v13 v14 v15 v16:Value} {K:Heap->Prop} (hb:Blk H q T ⟨[v0,v1,v2,v3,v4,v5,v6,v7,v8,v9,v10,v11,v12,v13,v14,v15,v16]⟩) (hk: ∀H',Blk H' q T ⟨actL d now n by_ fr ba bn bc i0 i1 i2 i3 i4 i5 i6 i7 da dn dc built near⟩->Keep (fun x=>x=q) H H'->K H'):
    Za H ⟨q,0,none⟩ (.int .i64 d) fun H1=>Za H1 ⟨q,1,none⟩ (.int .i64 now) fun H2=>Za H2 ⟨q,2,none⟩ (.int .i64 n) fun H3=>Za H3 ⟨q,3,none⟩ (.int .i64 by_) fun H4=>Za H4 ⟨q,4,none⟩ (.int .u32 fr) fun H5=>Za H5 ⟨q,5,none⟩ (.slice ba bn bc) fun H6=>Za H6 ⟨q,6,none⟩ (.int .i64 i0) fun H7=>Za H7 ⟨q,7,none⟩ (.int .i64 i1) fun H8=>Za H8 ⟨q,8,none⟩ (.int .u32 i2) fun H9=>Za H9 ⟨q,9,none⟩ (.int .u32 i3) fun H10=>Za H10 ⟨q,10,none⟩ (.int .i64 i4) fun H11=>Za H11 ⟨q,11,none⟩ (.int .i64 i5) fun H12=>Za H12 ⟨q,12,none⟩ (.int .i64 i6) fun H13=>Za H13 ⟨q,13,none⟩ (.int .i64 i7) fun H14=>Za H14 ⟨q,14,none⟩ (.slice da dn dc) fun H15=>Za H15 ⟨q,15,none⟩ (.bool built) fun H16=>Za H16 ⟨q,16,none⟩ (.bool near) K:=by
  refine stL hb (by show 0<17;decide) rfl fun H1 b1 k1=>?_
  replace b1:Blk H1 q T ⟨[.int .i64 d,v1,v2,v3,v4,v5,v6,v7,v8,v9,v10,v11,v12,v13,v14,v15,v16]⟩:=b1;refine stL b1 (by show 1<17;decide) rfl fun H2 b2 k2=>?_
  replace b2:Blk H2 q T ⟨[.int .i64 d,.int .i64 now,v2,v3,v4,v5,v6,v7,v8,v9,v10,v11,v12,v13,v14,v15,v16]⟩:=b2;refine stL b2 (by show 2<17;decide) rfl fun H3 b3 k3=>?_
  replace b3:Blk H3 q T ⟨[.int .i64 d,.int .i64 now,.int .i64 n,v3,v4,v5,v6,v7,v8,v9,v10,v11,v12,v13,v14,v15,v16]⟩:=b3;refine stL b3 (by show 3<17;decide) rfl fun H4 b4 k4=>?_
  replace b4:Blk H4 q T ⟨[.int .i64 d,.int .i64 now,.int .i64 n,.int .i64 by_,v4,v5,v6,v7,v8,v9,v10,v11,v12,v13,v14,v15,v16]⟩:=b4;refine stL b4 (by show 4<17;decide) rfl fun H5 b5 k5=>?_
  replace b5:Blk H5 q T ⟨[.int .i64 d,.int .i64 now,.int .i64 n,.int .i64 by_,.int .u32 fr,v5,v6,v7,v8,v9,v10,v11,v12,v13,v14,v15,v16]⟩:=b5;refine stL b5 (by show 5<17;decide) rfl fun H6 b6 k6=>?_
  replace b6:Blk H6 q T ⟨[.int .i64 d,.int .i64 now,.int .i64 n,.int .i64 by_,.int .u32 fr,.slice ba bn bc,v6,v7,v8,v9,v10,v11,v12,v13,v14,v15,v16]⟩:=b6;refine stL b6 (by show 6<17;decide) rfl fun H7 b7 k7=>?_
  replace b7:Blk H7 q T ⟨[.int .i64 d,.int .i64 now,.int .i64 n,.int .i64 by_,.int .u32 fr,.slice ba bn bc,.int .i64 i0,v7,v8,v9,v10,v11,v12,v13,v14,v15,v16]⟩:=b7;refine stL b7 (by show 7<17;decide) rfl fun H8 b8 k8=>?_
  replace b8:Blk H8 q T ⟨[.int .i64 d,.int .i64 now,.int .i64 n,.int .i64 by_,.int .u32 fr,.slice ba bn bc,.int .i64 i0,.int .i64 i1,v8,v9,v10,v11,v12,v13,v14,v15,v16]⟩:=b8;refine stL b8 (by show 8<17;decide) rfl fun H9 b9 k9=>?_
  replace b9:Blk H9 q T ⟨[.int .i64 d,.int .i64 now,.int .i64 n,.int .i64 by_,.int .u32 fr,.slice ba bn bc,.int .i64 i0,.int .i64 i1,.int .u32 i2,v9,v10,v11,v12,v13,v14,v15,v16]⟩:=b9;refine stL b9 (by show 9<17;decide) rfl fun H10 b10 k10=>?_
  replace b10:Blk H10 q T ⟨[.int .i64 d,.int .i64 now,.int .i64 n,.int .i64 by_,.int .u32 fr,.slice ba bn bc,.int .i64 i0,.int .i64 i1,.int .u32 i2,.int .u32 i3,v10,v11,v12,v13,v14,v15,v16]⟩:=b10;refine stL b10 (by show 10<17;decide) rfl fun H11 b11 k11=>?_
  replace b11:Blk H11 q T ⟨[.int .i64 d,.int .i64 now,.int .i64 n,.int .i64 by_,.int .u32 fr,.slice ba bn bc,.int .i64 i0,.int .i64 i1,.int .u32 i2,.int .u32 i3,.int .i64 i4,v11,v12,v13,v14,v15,v16]⟩:=b11;refine stL b11 (by show 11<17;decide) rfl fun H12 b12 k12=>?_
  replace b12:Blk H12 q T ⟨[.int .i64 d,.int .i64 now,.int .i64 n,.int .i64 by_,.int .u32 fr,.slice ba bn bc,.int .i64 i0,.int .i64 i1,.int .u32 i2,.int .u32 i3,.int .i64 i4,.int .i64 i5,v12,v13,v14,v15,v16]⟩:=b12;refine stL b12 (by show 12<17;decide) rfl fun H13 b13 k13=>?_
  replace b13:Blk H13 q T ⟨[.int .i64 d,.int .i64 now,.int .i64 n,.int .i64 by_,.int .u32 fr,.slice ba bn bc,.int .i64 i0,.int .i64 i1,.int .u32 i2,.int .u32 i3,.int .i64 i4,.int .i64 i5,.int .i64 i6,v13,v14,v15,v16]⟩:=b13;refine stL b13 (by show 13<17;decide) rfl fun H14 b14 k14=>?_
  replace b14:Blk H14 q T ⟨[.int .i64 d,.int .i64 now,.int .i64 n,.int .i64 by_,.int .u32 fr,.slice ba bn bc,.int .i64 i0,.int .i64 i1,.int .u32 i2,.int .u32 i3,.int .i64 i4,.int .i64 i5,.int .i64 i6,.int .i64 i7,v14,v15,v16]⟩:=b14;refine stL b14 (by show 14<17;decide) rfl fun H15 b15 k15=>?_
  replace b15:Blk H15 q T ⟨[.int .i64 d,.int .i64 now,.int .i64 n,.int .i64 by_,.int .u32 fr,.slice ba bn bc,.int .i64 i0,.int .i64 i1,.int .u32 i2,.int .u32 i3,.int .i64 i4,.int .i64 i5,.int .i64 i6,.int .i64 i7,.slice da dn dc,v15,v16]⟩:=b15;refine stL b15 (by show 15<17;decide) rfl fun H16 b16 k16=>?_
  replace b16:Blk H16 q T ⟨[.int .i64 d,.int .i64 now,.int .i64 n,.int .i64 by_,.int .u32 fr,.slice ba bn bc,.int .i64 i0,.int .i64 i1,.int .u32 i2,.int .u32 i3,.int .i64 i4,.int .i64 i5,.int .i64 i6,.int .i64 i7,.slice da dn dc,.bool built,v16]⟩:=b16;refine stL b16 (by show 16<17;decide) rfl fun H17 b17 k17=>?_
  replace b17:Blk H17 q T ⟨[.int .i64 d,.int .i64 now,.int .i64 n,.int .i64 by_,.int .u32 fr,.slice ba bn bc,.int .i64 i0,.int .i64 i1,.int .u32 i2,.int .u32 i3,.int .i64 i4,.int .i64 i5,.int .i64 i6,.int .i64 i7,.slice da dn dc,.bool built,.bool near]⟩:=b17;exact hk H17 b17 ((((((((((((((((k1.trans k2).trans k3).trans k4).trans k5).trans k6).trans k7).trans k8).trans k9).trans k10).trans k11).trans k12).trans k13).trans k14).trans k15).trans k16).trans k17)
theorem Zbse {q:Nat} {T:TypeId} (hb:Blk H q T ⟨actL d now n by_ fr ba bn bc i0 i1 i2 i3 i4 i5 i6 i7 da dn dc built near⟩): ∀t,t<17->H.cell ⟨q,0+t,none⟩=(actL d now n by_ fr ba bn bc i0 i1 i2 i3 i4 i5 i6 i7 da dn dc built near)[t]? :=fun t ht=>by rw [hb.cell,Nat.zero_add];simp
end
end Go.Proofs.YtaljkjokbdpdoaaGreat
end
section
set_option maxRecDepth 100000
namespace Go.Proofs.YtaljkjokbdpdoaaGreat
open Go.Sh Go.Pc Go.Conn
section
variable {N B B':Nat} {H0 H H':Heap} {G G':Gm} {A A':Nat->Nat->Prop} {pp:Nat->StP} {sb:Nat->Nat} {S:Nat->Stk} {yb k:Nat}
theorem Tri.start (hN:N <= 2) (keep:Keep Nil H0 H) (st: ∀k,k<N->StRep H (sb k) (pp k) (S k)) (new: ∀k,k<N->∀y,(pp k).G (sb k) y->H0 y=none) (dd: ∀i j,i<N->j<N->i≠j->∀y,(pp i).G (sb i) y->¬(pp j).G (sb j) y) (t:Ty B G H) (ng: ∀y,G y≠none->H0 y=none) (dg: ∀k,k<N->∀y,(pp k).G (sb k) y->G y=none) (hy:G yb=some .stack):
    ∃A,Tri N H0 H B G A pp sb S yb:=by
  let A:Nat->Nat->Prop:=fun i y=>if i<N then (pp i).G (sb i) y else if i=2 then G y≠none else False
  have A1: ∀{i:Nat},i<N->A i=(pp i).G (sb i):=fun h=>funext fun y=>if_pos h;have A2:A 2=fun y=>G y≠none:=funext fun y=>by
    show (if 2<N then _ else if 2=2 then _ else _)=_
    rw [if_neg (by omega),if_pos rfl]
  have cs: ∀i y,A i y->(i<N∧(pp i).G (sb i) y)∨(i=2∧G y≠none):=fun i y h=>by
    by_cases e:i<N;rw [A1 e] at h;exact .inl ⟨e,h⟩
    . by_cases e2:i=2;subst e2;rw [A2] at h;exact .inr ⟨rfl,h⟩
      . have:(if i<N then (pp i).G (sb i) y else if i=2 then G y≠none else False):=h
        rw [if_neg e,if_neg e2] at this;exact this.elim
  refine ⟨A,hN,⟨fun i y h=>?_,fun i y h=>?_,fun i j hij y h1 h2=>?_⟩,keep,st,fun i hi y=>by rw [A1 hi],t,fun y=>by rw [A2],hy⟩
  rcases cs i y h with ⟨hi,h⟩ | ⟨_,h⟩;exact (st i hi).live h;exact t.live h;rcases cs i y h with ⟨hi,h⟩ | ⟨_,h⟩;exact new i hi y h;exact ng y h;rcases cs i y h1 with ⟨hi,h1⟩ | ⟨hi,h1⟩<;>rcases cs j y h2 with ⟨hj,h2⟩ | ⟨hj,h2⟩;exact dd i j hi hj hij y h1 h2;exact h2 (dg i hi y h1);exact h1 (dg j hj y h2);omega
theorem Zbwe {me seed:Int} {K:Nat->Heap->Prop} (hK: ∀b H',H b=none->Ty 0 (gset (fun _=>none) b .stack) H'->Keep Nil H H'->K b H'):
    NewW H (.cells ⟨[.int .u32 me,.int .u32 seed,.slice none 0 0,.slice none 0 0,.int .i64 0,.int .i64 0]⟩ Zlf) K:=
  Ty.new (B:=0) (G:=fun _=>none) (k:= .stack) ⟨fun b k h=>by cases h⟩ (fun b _=>⟨me,seed,none,0,0,none,0,0,0,0,rfl,.inl ⟨rfl,rfl,rfl⟩,Nat.le_refl _,.inl ⟨rfl,rfl,rfl⟩,Nat.le_refl _⟩) fun b H' hb t _ k=>hK b H' hb t k
end
end Go.Proofs.YtaljkjokbdpdoaaGreat
end
section
set_option maxRecDepth 100000
namespace Go.Proofs.YtaljkjokbdpdoaaGreat
open Go.Sh Go.Pc Go.Conn
section
variable {N B B':Nat} {H0 H H':Heap} {G G':Gm} {A A':Nat->Nat->Prop} {pp:Nat->StP} {sb:Nat->Nat} {S:Nat->Stk} {yb k:Nat}
theorem Tri.arg (h:Tri N H0 H B G A pp sb S yb) {o:Option Addr} {n:Nat} {l:List Int} (r:Reads H0 o n (bv l)):RoA H A o n l:=by
  refine ⟨Zbyd r fun y hy=>h.keep.same y id hy,fun h0 x hx=>?_⟩;subst hx;obtain ⟨_,c,T,fr,hb,_⟩:=r.2 h0;have hl:H0 x.block≠none:=by rw [hb];simp
  exact ⟨h.keep.live _ hl,fun i _ hi=>hl (h.reg.new i _ hi)⟩
theorem Zbdr {b o:Nat} {v:Value} (h:H.cell ⟨b,o,none⟩=some v):H b≠none:=fun e=>by simp only [Heap.cell,e] at h;cases h
theorem Znt.keep {b o:Nat} (h:Znt H b o) (k:Keep Nil H H'):Znt H' b o:=by
  obtain ⟨d,now,n,by_,fr,ba,bn,bc,s,da,dn,dc,built,near,bs,hc,h1,r1,h2,h3,r2,h4,h5⟩:=h;have hl:H b≠none:=Zbdr (hc 0 (by decide))
  refine ⟨d,now,n,by_,fr,ba,bn,bc,s,da,dn,dc,built,near,bs,fun t ht=>?_,h1,r1.keep k fun _ _ h=>h,h2,h3,r2.keep k fun _ _ h=>h,h4,h5⟩;rw [← hc t ht];simp only [Heap.cell];rw [k.same b id hl]
theorem Ziw.keep {a:Option Addr} {n:Nat} (h:Ziw H a n) (k:Keep Nil H H'):Ziw H' a n:=fun i hi=>by obtain ⟨b,o,e,ha⟩:=h i hi;exact ⟨b,o,e,ha.keep k⟩
end
end Go.Proofs.YtaljkjokbdpdoaaGreat
end
section
set_option maxRecDepth 100000
namespace Go.Proofs.YtaljkjokbdpdoaaGreat
open Go.Sh Go.Pc Go.Conn
section
variable {N B B':Nat} {H0 H H':Heap} {G G':Gm} {A A':Nat->Nat->Prop} {pp:Nat->StP} {sb:Nat->Nat} {S:Nat->Stk} {yb k:Nat}
theorem Zbsp {seed:Nat} (hs:seed<4294967296) {K:Nat->Nat->Nat->Heap->Prop}
    (hK: ∀xb zb yb H4 A pp sb,sb 0=xb->sb 1=zb->Tri 2 H H4 0 (gset (fun _=>none) yb .stack) A pp sb (fun _=>newS 1 seed) yb->K xb zb yb H4):
    FnW Tryz.prog Zgu ⟨[.int .u32 1,.int .u32 seed]⟩ H fun v H2=>∃x:Option Addr,v= .pointer x∧FnW Tryz.prog Zgu ⟨[.int .u32 1,.int .u32 seed]⟩ H2 fun v H3=>∃z:Option Addr,v= .pointer z∧
      NewW H3 (.cells ⟨[.int .u32 1,.int .u32 seed,.slice none 0 0,.slice none 0 0,.int .i64 0,.int .i64 0]⟩ Zlf) fun yb H4=>∃xb zb,x=some ⟨xb,0,none⟩∧z=some ⟨zb,0,none⟩∧K xb zb yb H4:=by
  refine (Znu (me:=1) (by decide) hs).mono ?_
  rintro _ H2 ⟨xb,px,rfl,hx,k12,nx⟩;refine ⟨_,rfl,(Znu (me:=1) (by decide) hs).mono ?_⟩
  rintro _ H3 ⟨zb,pz,rfl,hz,k23,nz⟩;refine ⟨_,rfl,Zbwe fun yb H4 hyb ty k34=>⟨xb,zb,rfl,rfl,?_⟩⟩;have k14:=(k12.trans k23).trans k34;have dxz: ∀y,px.G xb y->¬pz.G zb y:=fun y hy hy2=>(hx.live hy) (nz y hy2);have gy: ∀y,gset (fun _=>none) yb .stack y≠none->y=yb:=fun y h=>Classical.byContradiction fun e=>h (Zec e);obtain ⟨A,T⟩:=Tri.start (N:=2) (H0:=H) (H:=H4) (B:=0) (G:=gset (fun _=>none) yb .stack) (S:=fun _=>newS 1 seed) (pp:=fun k=>if k=0 then px else pz) (sb:=fun k=>if k=0 then xb else zb) (yb:=yb) (Nat.le_refl 2) k14 (fun k hk=>by
      rcases Zct hk with rfl | rfl;exact (hx.keep k23 fun _ _ h=>h).keep k34 fun _ _ h=>h
      . exact hz.keep k34 fun _ _ h=>h) (fun k hk y hy=>by
      rcases Zct hk with rfl | rfl;exact nx y hy
      . exact k12.free (nz y hy)) (fun i j hi hj hij y h1 h2=>by
      rcases Zct hi with rfl | rfl<;>rcases Zct hj with rfl | rfl;exact hij rfl;exact dxz y h1 h2;exact dxz y h2 h1
      . exact hij rfl) ty (fun y hy=>by rw [gy y hy];exact (k12.trans k23).free hyb) (fun k hk y hy=>Classical.byContradiction fun e=>by
      have:=gy y e;subst this;rcases Zct hk with rfl | rfl;exact (k23.live _ (hx.live hy)) hyb
      . exact (hz.live hy) hyb) Zcm
  exact hK xb zb yb H4 A _ _ rfl rfl T
noncomputable def Zbeb (seed:Nat):Stk:=((newS 1 seed).at_ 0).add (9,179,49153) (dial 49153 179 (newS 1 seed).first).2
theorem Zbug (seed:Nat):Lone (Zbeb seed):=⟨rfl,rfl,fun e he=>by
  have he:e∈[(⟨(9,179,49153),1,(dial 49153 179 (newS 1 seed).first).2⟩:En)]:=he;rw [List.mem_singleton.1 he]⟩
theorem Zbin {seed:Nat} (h:Tri N H0 H B G A pp sb S yb) (hk:k<N) (e:S k=newS 1 seed):
    FnW Tryz.prog Zia ⟨[.pointer (some ⟨sb k,0,none⟩),.int .i64 0,.int .u32 (9:Nat),.int .i64 179]⟩ H fun v H'=>∃(x:Int) (a:Option Addr) (n c:Nat) (e':Int) (A':Nat->Nat->Prop) (pp':Nat->StP),v= .tuple ⟨[.int .i64 x,.slice a n c,.int .i64 e']⟩∧Tri N H0 H' B G A' pp' sb (upF S k (Zbeb seed)) yb:=by
  have hst:=h.st k hk;rw [e] at hst;refine (Zbhv hst (now:=0) (n:=179) (to:=9) (Int.le_refl 0) (by decide) (by decide) (by show 0<16;decide) (by show 0<1000000;decide) rfl).mono ?_
  rintro _ H1 ⟨u,rfl,hd⟩;obtain ⟨Hm,p',q1,q2,q3,q4,q5,q6⟩:=hd.ex;obtain ⟨A1,pp1,h1,_,ox⟩:=h.callX hk q1 q2 q3 q4 q5 q6 (Zbgn (Zvs (newS 1 seed).first (show i16 49153=true by decide) (show i16 179=true by decide)).1 1 9)
  obtain ⟨a,n,c,rfl⟩:=ox.slice;exact ⟨_,a,n,c,_,A1,pp1,rfl,h1⟩
end
end Go.Proofs.YtaljkjokbdpdoaaGreat
end
section
set_option maxRecDepth 100000
namespace Go.Proofs.YtaljkjokbdpdoaaGreat
open Go.Sh Go.Pc Go.Conn
section
variable {H0 H H':Heap} {A A':Nat->Nat->Prop}
theorem OutX.len {a:Option Addr} {n c to:Nat} {bs:List (List Int)} (h:OutX H0 H A (.slice a n c) to bs):n=bs.length:=by obtain ⟨a',c',xs,e,hm,_⟩:=h.ex;cases e;rw [← hm,List.length_map]
theorem OutX.at_ {a:Option Addr} {n c to i:Nat} {z:Int} {bs:List (List Int)} {K:Addr->Prop} (h:OutX H0 H A (.slice a n c) to bs) (hz:z=i) (hi:i<n) (hK: ∀q b (x:Option Addr) m d,bs[i]? =some b->H.cell ⟨q,0+i*2,none⟩=some (.int .u32 (to:Int))->H.cell ⟨q,0+i*2+1,none⟩=some (.slice x m d)->Reads H x m (bv b)->AllB b->m <= d->m <= 60000->K ⟨q,0+i*2,none⟩):
    NilP a fun q=>InB z n fun m=>elemAt q m 2 K:=by
  obtain ⟨a',c',xs,e,hm,ho,_,hr⟩:=h.ex;cases e;have hg:xs[i]? =some (xs[i]):=List.getElem?_eq_getElem hi;have hX:=hr _ (List.getElem_mem hi);have hb:bs[i]? =some (xs[i].1):=by rw [← hm,List.getElem?_map,hg];rfl
  generalize xs[i]=x at hg hX hb;obtain ⟨g1,g2⟩:=Zzr to xs i x hg;rcases ho.2.2 with ⟨_,e0,_⟩ | ⟨q,rest,rfl,_,hB,_⟩;omega;refine NilP.intro _ rfl (InB.intro i hz hi ?_);rw [Zw];have hri:Reads H (some ⟨q,0,none⟩) (xs.length*2) (outL to xs):=ho.reads;have c0:=hri.cell (j:=i*2) (by omega)
  have c1:=hri.cell (j:=i*2+1) (by omega)
  rw [g1] at c0;rw [g2] at c1;have r:=Sh.Own.reads hX.own;rw [Nat.mul_one] at r;exact hK q x.1 x.2.1 x.1.length x.2.2 hb c0 c1 r hX.ok (Sh.Own.le hX.own) hX.len
end
end Go.Proofs.YtaljkjokbdpdoaaGreat
end
section
set_option maxRecDepth 100000
namespace Go.Proofs.YtaljkjokbdpdoaaGreat
open Go.Sh Go.Pc Go.Conn
section
variable {H0 H H':Heap} {G G':Gm} {A A':Nat->Nat->Prop} {pp:Nat->StP} {sb:Nat->Nat} {S:Nat->Stk} {yb k B:Nat}
theorem Zbso {aa:Option Addr} {an ac:Nat} {x z:Option Addr} {i:Int} {oa pa:Option Addr} {on oc pn pc to:Nat} {bs:List (List Int)} {next:(Int×Unit)->Heap->Prop} {R:Value->Heap->Prop} (h1:OutX H0 H A (.slice oa on oc) to bs) (h2:OutX H0 H A (.slice pa pn pc) to bs) (hn:on <= 100000) (hend:Ziq aa an ac x z yb i next H R):
    Zkw aa an ac x z yb i oa on oc pa pn pc next false H R:=by
  have e1:=h1.len;have e2:=h2.len;unfold Zkw;refine ifF rfl (Zbt (fun m s Hx=>Hx=H∧∃j:Nat,s=((j:Int),())∧m+j=on) on ⟨rfl,0,rfl,rfl⟩ ?_);rintro m s Hx ⟨e,j,rfl,hm⟩ g;rw [e];clear e;unfold Zbne;refine IfB.intro (fun e=>?_) fun e=>hend;have e:=of_decide_eq_true e;simp only at e;have w1:IntKind.wrap .i64 ((j:Int)+1)=((j+1:Nat):Int):=by rw [Zi (by omega) (by omega)];omega
  refine h1.at_ rfl (by omega) fun q b xx m1 d1 hb c0 c1 r1 _ _ _=>⟨_,c0,h2.at_ rfl (by omega) fun q2 b2 yy m2 d2 hb2 f0 f1 r2 _ _ _=>⟨_,f0,ifF (by simp) (h1.at_ rfl (by omega) fun q b xx m1 d1 hb c0 c1 r1 _ _ _=>⟨_,_,_,c1,h2.at_ rfl (by omega) fun q2 b2 yy m2 d2 hb2 f0 f1 r2 _ _ _=>⟨_,_,_,f1,?_⟩⟩)⟩⟩
  have eb:b2=b:=by rw [hb] at hb2;exact (Option.some.inj hb2).symm
  subst eb;refine (Zbzk r1 r2).mono ?_;rintro _ _ ⟨rfl,e3⟩;rw [e3];refine ⟨_,rfl,?_⟩;unfold Zbbq;exact ifF rfl ⟨m - 1,by omega,rfl,j+1,Prod.ext w1 rfl,by omega⟩
end
end Go.Proofs.YtaljkjokbdpdoaaGreat
end
section
set_option maxRecDepth 100000
namespace Go.Proofs.YtaljkjokbdpdoaaGreat
open Go.Sh Go.Pc Go.Conn
structure ApSt (H1 H:Heap) (sb:Nat->Nat) (yb i:Nat):Prop where
  ex: ∃G A pp S,Tri 2 H1 H (1+4201*i) G A pp sb S yb∧S 0=S 1∧Lone (S 0)∧(S 0).count=1∧(S 0).me=1
section
variable {H1 H H':Heap} {sb:Nat->Nat} {yb i:Nat}
theorem ApSt.next (h:ApSt H1 H sb yb i):ApSt H1 H sb yb (i+1):=by obtain ⟨G,A,pp,S,t,r⟩:=h.ex;exact ⟨G,A,pp,S,⟨t.le,t.reg,t.keep,t.st,t.eqv,t.ty.mono (by omega),t.gm,t.stk⟩,r⟩
theorem ApSt.nil (h:ApSt H1 H sb yb i) (k:Keep Nil H H'):ApSt H1 H' sb yb i:=by obtain ⟨G,A,pp,S,t,r⟩:=h.ex;exact ⟨G,A,pp,S,t.nil k,r⟩
theorem Zbsl (h:ApSt H1 H sb yb i) {d now n by_ i0 i1 i2 i3 i4 i5 i6 i7:Int} {fr:Nat} {ba da:Option Addr} {bn bc dn dc q:Nat} {built near:Bool} (hb:Blk H q Zey ⟨actL d now n by_ fr ba bn bc i0 i1 i2 i3 i4 i5 i6 i7 da dn dc built near⟩) (hfr:fr<4294967296) (hne:fr≠9) {aa:Option Addr} {an ac:Nat} {z:Option Addr} {ii:Int} {next:(Int×Unit)->Heap->Prop} {R:Value->Heap->Prop} (hK: ∀H',ApSt H1 H' sb yb i->Ziq aa an ac (some ⟨sb 0,0,none⟩) z yb ii next H' R):
    Zip aa an ac (some ⟨sb 0,0,none⟩) z yb ii q next true H R:=by
  obtain ⟨G,A,pp,S,t,e01,hl,hc,hme⟩:=h.ex;unfold Zip;refine ifT rfl ⟨[q],Zci hb.some,List.mem_singleton.2 rfl,_,cellL hb 4 rfl,List.mem_singleton.2 rfl,_,cellL hb 8 rfl,_,cellL hb 10 rfl,(Zod i4 (n:=64) (by decide) (by decide)).mono ?_⟩
  rintro _ _ ⟨rfl,e⟩;rw [e];clear e;refine ⟨_,rfl,Zcb hb.some (Keep.refl _ _),(Ztj (da:=none) (dn:=0) (dc:=0) (l:=[]) ⟨rfl,rfl⟩ AllB.nil).mono ?_⟩;rintro _ H2 ⟨a,m,c,e,rfl,o2,_,hm,_,k2⟩;obtain ⟨l,hl2,ro⟩:=By.ro t.ty o2;have ow:=o2;obtain ⟨ll,_,_,ow⟩:=ow;have t2:=t.nil k2;have ra:RoA H2 A a m l:=⟨ro.1,fun h0 x hx=>⟨(ro.2 h0 x hx).1,fun j _ hj=>by
    rcases ow.2.2 with ⟨rfl,_⟩ | ⟨q',rest,rfl,hq',_⟩;cases hx
    . cases hx;exact t.reg.live j q' hj hq'⟩⟩
  refine ⟨_,_,_,_,rfl,Zcb hb.some k2,_,cellL (k2.blk hb fun h=>h) 4 rfl,(Zbbc t2 (k:=0) (by decide) hfr (by rw [hl.now];exact Int.le_refl 0) (by omega) ra hl2 (by omega) ow.le).mono ?_⟩
  rintro _ H3 ⟨u,wa,wc,A3,pp3,rfl,t3,_,ox⟩;obtain ⟨ua,un,uc,rfl⟩:=ox.slice;rw [hl.other hne,Zbiw] at t3;exact ⟨_,_,_,_,_,_,_,rfl,hK H3 ⟨G,A3,pp3,S,t3,e01,hl,hc,hme⟩⟩
theorem Tri.ref0 {N:Nat} {H0:Heap} {G:Gm} {A:Nat->Nat->Prop} {pp:Nat->StP} {S:Nat->Stk} (t:Tri N H0 H (1+4201*i+4201) G A pp sb S yb):Tri N H0 H (1+4201*(i+1)) G A pp sb S yb:=⟨t.le,t.reg,t.keep,t.st,t.eqv,t.ty.mono (by omega),t.gm,t.stk⟩
theorem Zbsm (h:ApSt H1 H sb yb i) (hi:i <= 40) {d now n by_ i0 i1 i2 i3 i4 i5 i6 i7:Int} {fr:Nat} {ba da:Option Addr} {bn bc dn dc q:Nat} {built near:Bool} (hb:Blk H q Zey ⟨actL d now n by_ fr ba bn bc i0 i1 i2 i3 i4 i5 i6 i7 da dn dc built near⟩) (hfr:fr<4294967296) {lB lD:List Int} (rB:Reads H1 ba bn (bv lB)) (hlB:AllB lB) (hbc:bn <= bc) (rD:Reads H1 da dn (bv lD)) (hlD:AllB lD) (hdc:dn <= dc) {aa:Option Addr} {an ac:Nat} {ii:Int} {next:(Int×Unit)->Heap->Prop} {R:Value->Heap->Prop} (hK: ∀H',ApSt H1 H' sb yb (i+1)->Ziq aa an ac (some ⟨sb 0,0,none⟩) (some ⟨sb 1,0,none⟩) yb ii next H' R):
    Zip aa an ac (some ⟨sb 0,0,none⟩) (some ⟨sb 1,0,none⟩) yb ii q next false H R:=by
  obtain ⟨G,A,pp,S,t,e01,hl,hc,hme⟩:=h.ex;unfold Zip;refine ifF rfl (ld17 (o:=0) (Zbse hb) ((Zcbe t (by omega) hfr (t.arg rB) hlB hbc (t.arg rD) hlD hdc).mono ?_))
  rintro _ H2 ⟨z,a,m,c,l,rfl,hz,hl2,ra,hmc,hm,k2⟩;have t2:=t.nil k2;refine ⟨_,_,_,_,rfl,(Zcbf t2 (by omega) hz ra hl2 hm hmc).mono ?_⟩
  rintro _ H3 ⟨oa,on,oc,ea,en,ec,e,G3,A3,rfl,t3,s3⟩;have ra3:=ra.step s3;have hl1:Lone (S 1):=e01▸hl;have hc1:(S 1).count=1:=e01▸hc;refine ⟨_,_,_,_,_,_,_,rfl,(Zbbc t3 (k:=0) (by decide) hz (by rw [hl.now];exact Int.le_refl 0) (by omega) ra3 hl2 (by omega) hmc).mono ?_⟩
  rintro _ H4 ⟨u,wa,wc,A4,pp4,rfl,t4,s4,ox⟩;obtain ⟨ua,un,uc,rfl⟩:=ox.slice;have es1:upF S 0 ((S 0).take 0 z l).S 1=S 1:=Zch (by decide)
  refine ⟨_,_,_,_,_,_,_,rfl,(Zbbc t4 (k:=1) (by decide) hz (by rw [es1,hl1.now];exact Int.le_refl 0) (by rw [es1];omega) (ra3.step s4) hl2 (by omega) hmc).mono ?_⟩
  rintro _ H5 ⟨u2,wa2,wc2,A5,pp5,rfl,t5,s5,ox2⟩;obtain ⟨ua2,un2,uc2,rfl⟩:=ox2.slice;rw [es1,← e01] at ox2 t5 ⊢;have ox5:=ox.step s5;have len1:=ox5.len;have len2:=ox2.len;have hun:un=un2:=by rw [len1,len2]
  refine ⟨_,_,_,_,_,_,_,rfl,ifF (by rw [hun];simp) (ifF (by simp) (ifF rfl ((Zru (t5.st 0 (by decide)) 1).mono ?_)))⟩
  rintro _ _ ⟨rfl,e⟩;rw [e];clear e;refine ⟨_,rfl,(Zru (t5.st 1 (by decide)) 1).mono ?_⟩
  rintro _ _ ⟨rfl,e⟩;rw [e];clear e;have q0:upF (upF S 0 ((S 0).take 0 z l).S) 1 ((S 0).take 0 z l).S 0=((S 0).take 0 z l).S:=by rw [Zch (by decide),Zbz]
  have q1:upF (upF S 0 ((S 0).take 0 z l).S) 1 ((S 0).take 0 z l).S 1=((S 0).take 0 z l).S:=Zbz;obtain ⟨w1,w2⟩:=hl.take z l;obtain ⟨m1,_,_⟩:=Zbik (S 0) 0 z l;rw [q0,q1];refine ⟨_,rfl,?_⟩;rw [show ((Stk.state ((S 0).take 0 z l).S 1:Int) !=Stk.state ((S 0).take 0 z l).S 1)=false by simp]
  have hlen:un <= 100000:=by
    have:=((t.st 0 (by decide)).ok.take (Int.le_refl 0) z hl2).2.2
    rw [len1,List.length_map];omega
  exact Zbso ox5 ox2 hlen (hK H5 ⟨_,_,_,_,t5.ref0,by rw [q0,q1],by rw [q0];exact w1,by rw [q0,w2];exact hc,by rw [q0,m1];exact hme⟩)
end
end Go.Proofs.YtaljkjokbdpdoaaGreat
end
section
set_option maxRecDepth 100000
namespace Go.Proofs.YtaljkjokbdpdoaaGreat
open Go.Sh Go.Pc Go.Conn
section
variable {H1 H H':Heap} {sb:Nat->Nat} {yb i:Nat}
theorem Zbsk (h:ApSt H1 H sb yb i) (hi:i<40) {aa:Option Addr} {an ac:Nat} (ha:Ziw H1 aa an) (hin:i<an) {next:(Int×Unit)->Heap->Prop} {R:Value->Heap->Prop} (hK: ∀H',ApSt H1 H' sb yb (i+1)->next (IntKind.wrap .i64 ((i:Int)+1),()) H'):
    Zkv aa an ac (some ⟨sb 0,0,none⟩) (some ⟨sb 1,0,none⟩) yb (i:Int) next true H R:=by
  obtain ⟨b,o,rfl,d,now,n,by_,fr,ba,bn,bc,s,da,dn,dc,built,near,bs,hc,hfr,rB,hB,hbc,rD,hD,hdc⟩:=ha i hin;have hl:H1 b≠none:=Zbdr (hc 0 (by decide))
  obtain ⟨G,A,pp,S,t,_⟩:=h.ex;have hcH: ∀t',t'<17->H.cell ⟨b,o+i*17+t',none⟩=(actL d now n by_ fr ba bn bc s.src s.dst s.seq s.ack s.flags s.win s.urg s.big da dn dc built near)[t']? :=fun t' ht=>by rw [← hc t' ht];simp only [Heap.cell];rw [t.keep.same b id hl]
  unfold Zkv;refine ifT rfl (NilP.intro _ rfl (InB.intro i rfl hin ?_));rw [Zw];refine ld17 hcH (newB fun q Ha hq b1 k1=>st17 b1 fun Hb b2 k2=>stL b2 (by show 15<17;decide) rfl fun Hc b3 k3=>?_)
  replace b3:Blk Hc q Zey ⟨actL d now n by_ fr ba bn bc s.src s.dst s.seq s.ack s.flags s.win s.urg s.big da dn dc true near⟩:=b3;refine stL b3 (by show 16<17;decide) rfl fun Hd b4 k4=>?_
  replace b4:Blk Hd q Zey ⟨actL d now n by_ fr ba bn bc s.src s.dst s.seq s.ack s.flags s.win s.urg s.big da dn dc true true⟩:=b4;refine stL b4 (by show 3<17;decide) rfl fun He b5 k5=>?_
  replace b5:Blk He q Zey ⟨actL d now n 0 fr ba bn bc s.src s.dst s.seq s.ack s.flags s.win s.urg s.big da dn dc true true⟩:=b5;have k0:Keep Nil H He:=k1.then (((k2.trans k3).trans k4).trans k5) fun y hy=> .inr (hy▸hq);have h2:=h.nil k0;refine ⟨_,cellL b5 0 rfl,(Zod d (n:=2) (by decide) (by decide)).mono ?_⟩
  rintro _ _ ⟨rfl,e⟩;rw [e];clear e;have own:Zip (some ⟨b,o,none⟩) an ac (some ⟨sb 0,0,none⟩) (some ⟨sb 1,0,none⟩) yb (i:Int) q next false He R:=Zbsm h2 (by omega) b5 hfr rB hB hbc rD hD hdc fun H' h'=>by unfold Ziq;exact hK H' h'
  refine ⟨_,rfl,IfB.intro (fun e=>⟨_,cellL b5 4 rfl,?_⟩) fun e=>own⟩;cases e2:((fr:Int) !=9);exact own
  . exact Zbsl h2 b5 hfr (fun e3=>by subst e3;cases e2) fun H' h'=>by unfold Ziq;exact hK H' h'.next
theorem apart_spec {seed:Nat} (hs:seed<4294967296) {aa:Option Addr} {an ac:Nat} (ha:Ziw H aa an):FnW Tryz.prog Zbeg ⟨[.int .u32 seed,.slice aa an ac]⟩ H fun v H'=>v= .bool true∧Keep Nil H H':=by
  refine Zcgd seed aa an ac ?_;unfold Zbng;refine Zcbv.mono ?_;rintro _ H1 ⟨rfl,kw⟩;have ha1:=ha.keep kw;refine ⟨_,rfl,ifF rfl ?_⟩;refine (Zbsp (H:=H1) hs (K:=fun xb zb yb H4=>∃A pp sb,sb 0=xb∧sb 1=zb∧Tri 2 H1 H4 0 (gset (fun _=>none) yb .stack) A pp sb (fun _=>newS 1 seed) yb) fun xb zb yb H4 A pp sb e0 e1 t=>⟨A,pp,sb,e0,e1,t⟩).mono ?_;rintro _ H2 ⟨x,rfl,h2⟩;refine ⟨_,rfl,h2.mono ?_⟩;rintro _ H3 ⟨z,rfl,h3⟩;refine ⟨_,rfl,fun q hq=>?_⟩;obtain ⟨xb,zb,rfl,rfl,A,pp,sb,rfl,rfl,t⟩:=h3 q hq;refine (Zbin t (k:=0) (by decide) rfl).mono ?_
  rintro _ H5 ⟨_,_,_,_,_,A5,p5,rfl,t5⟩;refine ⟨_,_,_,_,_,rfl,(Zbin t5 (k:=1) (by decide) (by rw [Zch (by decide)])).mono ?_⟩
  rintro _ H6 ⟨_,_,_,_,_,A6,p6,rfl,t6⟩;refine ⟨_,_,_,_,_,rfl,(Zbyr t6.ty (by decide) t6.stk (Int.le_refl 0) (by decide) 179).mono ?_⟩
  rintro _ H7 ⟨_,_,_,_,_,G7,rfl,h7,x7⟩;obtain ⟨A7,t7,_⟩:=t6.ref h7 x7;have hl:=Zbug seed;refine ⟨_,_,_,_,_,rfl,Zbt (fun m s Hi=>∃i:Nat,s=((i:Int),())∧m+i=40∧ApSt H1 Hi sb q i) 40 ⟨0,rfl,rfl,⟨_,_,_,_,t7,by rw [Zch (by decide),Zbz,Zbz],by rw [Zch (by decide),Zbz];exact hl,by rw [Zch (by decide),Zbz];rfl,by rw [Zch (by decide),Zbz];rfl⟩⟩ ?_⟩
  rintro m s Hi ⟨i,rfl,hm,hi⟩ g;unfold Zbnf;have fin:Zkv aa an ac (some ⟨sb 0,0,none⟩) (some ⟨sb 1,0,none⟩) q (i:Int) (fun x' H'=>∃k'<m,∃i:Nat,x'=((i:Int),())∧k'+i=40∧ApSt H1 H' sb q i) false Hi fun v H1=>∀H2,Shut H H1 H2->v= .bool true∧Keep Nil H H2:=by unfold Zkv;obtain ⟨_,_,_,_,t,_⟩:=hi.ex;exact ifF rfl fun H8 hs=>⟨rfl,Zk (kw.trans t.keep) hs⟩
  refine IfB.intro (fun e=>?_) fun e=>fin;have e:=of_decide_eq_true e;simp only at e;cases e2:decide ((i:Int)<40);exact fin;have e2:=of_decide_eq_true e2;exact Zbsk hi (by omega) ha1 (by omega) fun H' h'=>⟨m - 1,by omega,i+1,Prod.ext (by rw [Zi (by omega) (by omega)];rfl) rfl,by omega,h'⟩
end
end Go.Proofs.YtaljkjokbdpdoaaGreat
end
