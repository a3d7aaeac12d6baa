/-
  The program library and the walks of this claim, part 5 of 6.
-/
import Derived.Test.YtgmeedgkjlfpeaaGreatQ4
import Derived.Shelf.SlIter.Nil
import Derived.Shelf.SortM.Plain
import Derived.Shelf.SortM.SortNone
set_option linter.unusedSimpArgs false
set_option linter.unusedVariables false
set_option maxHeartbeats 4000000
namespace Go.Proofs.YtgmeedgkjlfpeaaGreat
open Go.Mt
noncomputable section
theorem I8.mono {f:O0} {i:Q9} {v:Nat→Option Bs} {N:Nat} (h:I8 f i v N) (hN:N+1≤60):I8 f i v (N+1):=
 ⟨h.gm,h.gk,h.gh,h.hl,h.sec,by have:=h.len;omega,hN,h.head,⟨h.seq.1,by have:=h.seq.2;omega⟩,h.ls,h.vw,h.kr,h.hr,h.gs,by have:=h.gl;omega,by have:=h.kn;omega⟩
theorem I8.set {f:O0} {i:Q9} {v:Nat→Option Bs} {N:Nat} (h:I8 f i v N) {k:Nat} (hk:k<O9 i.m) {e:B0} {o:Option Bs} (he:X6 i.m.cl e=true) (hu:L8 .u32 e.sum) (hc:kN f.now i.m.cl e o) (hg:Y3 e=true→e.start∈i.gs):
 I8 f (C1O i k e) (fun q=>if q=k then o else v q) N:=by
 have hn:=h.gm.n;have hat:=A8n h.gm.r4 he (i:=k) (by omega);refine⟨h.gm.set hk he hu,h.gk,h.gh,h.hl,h.sec,h.len,h.nb,h.head,h.seq,h.ls,fun q hq=>?_,h.kr,h.hr,fun j hj=>?_,h.gl,h.kn⟩
 ·show kN f.now i.m.cl (L4 (cE i.m.t k e) q) (if q=k then o else v q);rw[hat];by_cases hqk:q=k
  ·rw[if_pos hqk,if_pos hqk];exact hc
  ·rw[if_neg hqk,if_neg hqk];exact h.vw q hq
 ·have hj:Y3 (L4 (cE i.m.t k e) j)=true:=hj;show(L4 (cE i.m.t k e) j).start∈i.gs;rw[hat]at hj⊢;by_cases hjk:j=k
  ·rw[if_pos hjk]at hj⊢;exact hg hj
  ·rw[if_neg hjk]at hj⊢;exact h.gs j hj
def B0w (i:Q9) (k:Nat) (gs:List Int):Q9:=⟨i.nm,i.m,i.kept,i.held,i.last,i.ch,k,gs⟩
structure Ens (f:O0) (i:Q9) (v:Nat→Option Bs) (N:Nat) (d:G4) (x:Bs) (e:B0) (k:Nat) (gs:List Int) (f':O0) (lg:Nat):Prop where
 may:X6 i.m.cl e=true
 u:L8 .u32 e.sum
 cell:kN f'.now i.m.cl e (some x)
 gi:Y3 e=true→e.start∈gs
 ok:I8 f' (B0w i k gs) v (N+1)
 b:f'.b=f.b
 lg:lg≤d.lg+64
theorem kU {d:G4} {nm:Bs} {f:O0} (hf:H5 d.files nm=some f):(⟨d.room,B4 d.files nm f,d.lg⟩:G4)=d:=by rw[gG hf]
theorem A9h {x:Bs} {cl:Int} (hx:x.length=16*2 ^ cl.toNat) (h:∀c∈x,c=0):x=iQ cl:=by
 have h1:x=List.replicate x.length 0:=List.eq_replicate_iff.2 ⟨rfl,h⟩;have h2:=bN cl;rw[h1,hx,←h2];unfold iQ;rw[List.length_replicate]
def oE:E4:=⟨T,R1,A7,A9,52,[],none,.f⟩
theorem A9i:B3 Tryz.prog oE:=⟨L2,A2,A4⟩
theorem I3:F3 Tryz.prog oE:=⟨tOk,A9i⟩
theorem C4H (bd b:Nat) (i:Q9) (T:Nat→Prop) (d:G4) (S:Nat→Prop) (f:O0) (hf:H5 d.files i.nm=some f) (v:Nat→Option Bs) (N:Nat) (h:I8 f i v N) (hN:N+1≤60) (hd:DOk d) (x:Bs) (hx:x.length=16*2 ^ i.m.cl.toNat):C5 Tryz.prog 229 [.c (.ptr 0 b 0),lst .byt x] [K2 bd b i T,C6 bd d S] (fun y:((Nat→Prop)×(Nat→Prop))×B0×Nat×List Int×O0×Nat=>Ens f i v N d x y.2.1 y.2.2.1 y.2.2.2.1 y.2.2.2.2.1 y.2.2.2.2.2) (fun y=> .t [A9V y.2.1,int .i64 0]) (fun y=>[K2 bd b (B0w i y.2.2.1 y.2.2.2.1) y.1.1,C6 bd ⟨d.room,B4 d.files i.nm y.2.2.2.2.1,y.2.2.2.2.2⟩ y.1.2]):=by
 refine I4 (E:=oE) Tryz.func229 (fun M0 W hM0=>?_);have hc:=h.gm.ok.c;have hp:=P3 hc;have hl6:=h.l6;have hxb:x.length≤1024:=by
  rw[hx];have:((2 ^ i.m.cl.toNat:Nat):Int)≤64:=by push_cast;exact hp.2
  omega
 have hsame:=kU hf;refine A3 I3 [] (fun bs=>?_);refine A5 [] (C6o x (by omega)) (fun r hr=>?_);refine A3 I3 [] (fun bs=>?_);refine D4 rfl rfl (fun hb=>?_) (fun hb=>?_)
 ·refine A3 I3 [] (fun bs=>?_);have hz:x=iQ i.m.cl:=by
   rcases hr with⟨h1,h2⟩|⟨h1,_⟩
   ·exact A9h hx h2
   ·subst h1;cases hb
  have hmay:X6 i.m.cl ⟨1,0,0,0,0⟩=true:=by
   show U8 1 0 0 0 0 i.m.cl=true;unfold U8;rw[if_neg (by omega),if_pos (by omega)];rfl
  have hE:Ens f i v N d x ⟨1,0,0,0,0⟩ i.k i.gs f d.lg:=⟨hmay,⟨by decide,by decide⟩,.inl ⟨rfl,hz⟩,fun hs=>absurd hs (by decide),h.mono hN,rfl,by omega⟩
  refine B6 I3 ((T,S),⟨1,0,0,0,0⟩,i.k,i.gs,f,d.lg) hE [0,1] (hl:=?hl)
  case hl=>exact⟨rfl,(show cV (C6 bd d S) (C6 bd ⟨d.room,B4 d.files i.nm f,d.lg⟩ S)from by rw[hsame];exact rfl),trivial⟩
 refine A3 I3 [] (fun bs=>?_);refine A5 [0] (C2Y bd b i T h.gm) (fun u _=>?_);refine N1 0 (fun y hy=>?_);refine A3 I3 [] (fun bs=>?_);refine A5 [5] (C5G y.bk i.k y.S1 x (by omega) (by have:=h.kn;omega)) (fun z hz=>?_);refine J7 0 (O3 bd b i) [0,4,5,6] {y with S1:=z.1} hy (fun T1=>?_);obtain⟨Z,zv,L⟩:=z;have hz:L.length≤i.k:=hz;have hkn:=h.kn;refine A3 I3 [] (fun bs=>?_);refine L5 (fun q:((Nat→Prop)×(Nat→Prop))×Nat×Nat=>[(0,.c (.ptr 0 b 0)),(1,lst .byt x),(4,.c (.ptr 2 q.2.2 0)),(6,.c (.mpt 3 u.2)),(22,.c (.own 4 zv)),(23,int .i64 L.length),(24,int .i64 q.2.1)]) (fun q=>[K2 bd b i q.1.1,C6 bd d q.1.2,.blk q.2.2 185 [.pv (i64 0),.pv (i64 0),.pv (i64 0),.pv (i64 0),.pv (.val (.int .u32 0))],.mp u.2 .ent .int (cmp (E3 i.m.t)),.own zv 185 .ent L]) (fun q=>q.2.1≤L.length) (fun q=>L.length-q.2.1) [0,1,2,3,7] ((T1,S),0,?rr) (Nat.zero_le _) ?wk1 (fun q hq=>?_)
 case wk1=>and_intros<;> (first|exact wk_|refine A6 ?_|skip)
 obtain⟨⟨T2,S2⟩,q,r2⟩:=q;simp only at hq;refine A3 I3 [] (fun bs=>?_);refine I6 rfl rfl (fun hk=>?_) (fun hk=>?_)
 ·have hk:(q:Int)<(L.length:Nat):=hk;have hq2:q<L.length:=by omega
  refine A3 I3 [] (fun bs=>?_);refine D4 (b:=decide (P4 (cmp (E3 i.m.t)) (L.getD q LK.ent.dft)=0)) rfl rfl (fun hz0=>?_) (fun hz0=>?_)
  ·refine A3 I3 [] (fun bs=>?_);exact H3 [0,1,2,3,4] ((T2,S2),q+1,r2) ⟨hq2,by simp only;omega⟩
  ·have hne:P4 (cmp (E3 i.m.t)) (L.getD q LK.ent.dft)≠0:=of_decide_eq_false hz0;obtain⟨l,hl,hle⟩:=(B0t (E3 i.m.t) _).2.1 hne;obtain⟨j,hj1,hj2⟩:=A5A hl;rw[hj1]at hle;have hgood:=bM (gK h.gm.rt j) hj2;have hjn:=kM h.gm.rt hgood.2.2;have hcell:=h.vw j (by omega);have hgj:=h.gs j hj2;have hmayj:=gK h.gm.rt j;have huj:=h.gm.u j;rw[hle]at hcell hgj hj2 hmayj huj;obtain⟨yb,hyb⟩:∃yb,v j=some yb:=by
    cases hv:v j with
    |none=>
     rw[hv]at hcell;have hcell:(L.getD q LK.ent.dft).kind=0:=hcell;have:(L.getD q LK.ent.dft).kind=2∨(L.getD q LK.ent.dft).kind=3:=by simpa[Y3]using hj2
     omega
    |some yb=>exact⟨yb,rfl⟩
   rw[hyb]at hcell;have hyl:yb.length≤1024:=by
    have h64:((2 ^ i.m.cl.toNat:Nat):Int)≤64:=by push_cast;exact hp.2
    rcases hcell with⟨_,h2⟩|h2
    ·rw[h2,bN];omega
    ·rw[h2.xl];omega
   refine A3 I3 [] (fun bs=>?_);refine A5 [0,1] (C5N bd b i T2 d S2 f hf (by omega) h.sec (L.getD q LK.ent.dft) (some yb) hcell hc (fun _=>hgj) (by have:=h.gl;have:=h.nb;omega)) (fun w _=>?_);refine N0 I3 (fun _=>some true) [] (fun bs=>?_);refine A5 [] (bEq (bOf i.m.cl (some yb)) x (by show yb.length≤1000000;omega) (by omega)) (fun re hre=>?_) (hg:=by exact⟨_,rfl,rfl⟩);refine N0 I3 (fun _=>some true) [] (fun bs=>?_);refine D4 rfl rfl (fun hb2=>?_) (fun hb2=>?_)
   ·have hyx:yb=x:=hre.1 hb2;rw[hyx]at hcell;refine A3 I3 [] (fun bs=>?_);refine B6 I3 (w,L.getD q LK.ent.dft,i.k,i.gs,f,d.lg) ⟨hmayj,huj,hcell,fun _=>hgj,h.mono hN,rfl,by dsimp only;omega⟩ [0,1] (hl:=?hl2)
    case hl2=>exact⟨rfl,(show cV (C6 bd d w.2) (C6 bd ⟨d.room,B4 d.files i.nm f,d.lg⟩ w.2)from by rw[hsame];exact rfl),trivial⟩
   ·refine A3 I3 [] (fun bs=>?_);exact H3 [0,1,2,3,4] (w,q+1,r2) ⟨hq2,by simp only;omega⟩
 ·refine A3 I3 [] (fun bs=>?_);refine A5 [0,1] (C5U bd b i T2 d S2 f hf v N h hN hd x hx) (fun w hw=>?_);refine A3 I3 [] (fun bs=>?_);exact B6 I3 (w.1,w.2.1,i.k+1,w.2.1.start::i.gs,w.2.2.1,w.2.2.2) ⟨hw.ent.may,hw.ent.u,.inr hw.ent,fun _=>List.mem_cons_self,hw.ok,hw.b,hw.lg⟩ [0,1]
structure Sm (i j:Q9):Prop where
 nm:j.nm=i.nm
 cl:j.m.cl=i.m.cl
 sz:j.m.size=i.m.size
 bk:j.m.bk=i.m.bk
 hd:j.held=i.held
theorem Sm.trans {i j k:Q9} (h:Sm i j) (g:Sm j k):Sm i k:=⟨g.nm.trans h.nm,g.cl.trans h.cl,g.sz.trans h.sz,g.bk.trans h.bk,g.hd.trans h.hd⟩
def A2a (v:Nat→Option Bs) (k:Nat) (o:Option Bs):Nat→Option Bs:=fun q=>if q=k then o else v q
structure Put (f:O0) (i:Q9) (v:Nat→Option Bs) (N:Nat) (d:G4) (x:Bs) (k:Nat) (j:Q9) (f':O0) (lg:Nat):Prop where
 ok:I8 f' j (A2a v k (some x)) (N+1)
 sm:Sm i j
 ch:j.ch=true
 b:f'.b=f.b
 lg:lg≤d.lg+64
def tZ:E4:=⟨T,R1,A7,A9,60,[],none,.f⟩
theorem B3W:B3 Tryz.prog tZ:=⟨L2,A2,A4⟩
theorem gN:F3 Tryz.prog tZ:=⟨tOk,B3W⟩
theorem C2b (bd b:Nat) (i:Q9) (T:Nat→Prop) (d:G4) (S:Nat→Prop) (f:O0) (hf:H5 d.files i.nm=some f) (v:Nat→Option Bs) (N:Nat) (h:I8 f i v N) (hN:N+1≤60) (hd:DOk d) (k:Nat) (hk:k<O9 i.m) (x:Bs) (hx:x.length=16*2 ^ i.m.cl.toNat):C5 Tryz.prog 166 [.c (.ptr 0 b 0),str [],int .i64 k,lst .byt x] [K2 bd b i T,C6 bd d S] (fun y:((Nat→Prop)×(Nat→Prop))×Q9×O0×Nat=>Put f i v N d x k y.2.1 y.2.2.1 y.2.2.2) (fun y=>int .i64 0) (fun y=>[K2 bd b y.2.1 y.1.1,C6 bd ⟨d.room,B4 d.files i.nm y.2.2.1,y.2.2.2⟩ y.1.2]):=by
 refine I4 (E:=tZ) Tryz.func166 (fun M0 W hM0=>?_);have hl6:=h.l6;have hok:=h.gm.ok;have hc:=hok.c;have hp:=P3 hc;have hn:=h.gm.n.1;have h16:=h.gm.n.2.1;have hxl:(x.length:Int)=16*2 ^ i.m.cl.toNat:=by rw[hx];push_cast;rfl
 refine A3 gN [] (fun bs=>?_);refine A5 [0,1] (iUp bd b d S i T f hf (by omega)) (fun u _=>?_);refine A3 gN [false] (fun bs=>?_);refine A5 [0] (C3z bd b i u.1 hok.c hok.s) (fun w _=>?_);refine N1 0 (fun y hy=>?_);refine G0 gN (fun _=>none) [false,false,false,false] (fun bs=>?_) (fun bs=>?_)
 ·and_intros<;> first|exact trivial|omega|exact rfl|(show i.m.cl≤64;omega)|exact decide_eq_false (by omega)|(simp;omega)
 refine J7 0 (O3 bd b i) [0,2,3,4] y hy (fun T1=>?_);refine A5 [0,1] (C4H bd b i T1 d u.2 f hf v N h hN hd x hx) (fun z hz=>?_);refine A3 gN [false] (fun bs=>?_);obtain⟨q,e,k',gs',f',lg⟩:=z;have hz:Ens f i v N d x e k' gs' f' lg:=hz;refine A5 [0] (C6i bd b (B0w i k' gs') q.1 k e h.gm.plain) (fun T2 _=>?_);refine A3 gN [] (fun bs=>?_);exact B6 gN ((T2,q.2),C1O (B0w i k' gs') k e,f',lg) ⟨hz.ok.set hk hz.may hz.u hz.cell hz.gi,⟨rfl,rfl,rfl,rfl,rfl⟩,rfl,hz.b,hz.lg⟩ [0,1]
def A1R:E4:=⟨T,R1,A7,A9,18,[],none,.f⟩
theorem B7p:B3 Tryz.prog A1R:=⟨L2,A2,A4⟩
theorem wX:F3 Tryz.prog A1R:=⟨tOk,B7p⟩
theorem C5V (bd b:Nat) (i:Q9) (T:Nat→Prop) (d:G4) (S:Nat→Prop) (f:O0) (hf:H5 d.files i.nm=some f) (v:Nat→Option Bs) (N:Nat) (h:I8 f i v N) (hN:N+1≤60) (hd:DOk d) (k:Nat) (hk:k<O9 i.m) (x:Bs) (hx:x.length=16*2 ^ i.m.cl.toNat):C5 Tryz.prog 89 [.c (.ptr 0 b 0),int .i64 k,lst .byt x] [K2 bd b i T,C6 bd d S] (fun y:((Nat→Prop)×(Nat→Prop))×Q9×O0×Nat=>Put f i v N d x k y.2.1 y.2.2.1 y.2.2.2) (fun y=>int .i64 0) (fun y=>[K2 bd b y.2.1 y.1.1,C6 bd ⟨d.room,B4 d.files i.nm y.2.2.1,y.2.2.2⟩ y.1.2]):=by
 refine I4 (E:=A1R) Tryz.func89 (fun M0 W hM0=>?_);have h16:=h.gm.n.2.1;refine A3 wX [] (fun bs=>?_);refine A5 [0,1] (C2b bd b i T d S f hf v N h hN hd k hk x hx) (fun y hy=>?_);refine A3 wX [true] (fun bs=>?_);refine A5 [0] (C4A bd b y.2.1 y.1.1 k hy.ok.gm.plain (by omega)) (fun T2 _=>?_);refine A3 wX [] (fun bs=>?_);exact B6 wX ((T2,y.1.2),y.2) hy [0,1]
section
abbrev HlX:=(Nat→Prop)×Nat×(Nat→Prop)×Nat×Nat×Nat
def jB (m:U7):List C:=[.pv (i64 m.cl),.pv (i64 m.size),.pv (sv m.bk),.pv (.lst .tbl m.t),.pv (.lst .sht []),.pv (.lst .bms []),.pv (.lst (.ints .i64) [])]
def C5W:List C:=[.pv (i64 0),.pv (i64 0),.pv (sv []),.pv (.nil .tbl),.pv (.nil .sht),.pv (.nil .bms),.pv (.nil (.ints .i64))]
def eC:E4:=⟨T,R1,A7,A9,39,[],none,.f⟩
theorem A0:F3 Tryz.prog eC:=⟨tOk,⟨L2,A2,A4⟩⟩
abbrev xa (c:Nat):Nat×A:=(1,.c (.ptr 4 c 0))
abbrev xb (i:Q9):Nat×A:=(12,sS i.m)
abbrev xc (b:Nat):Nat×A:=(16,.c (.ptr 0 b 21))
abbrev xd (b:Nat):Nat×A:=(20,.c (.ptr 0 b 22))
abbrev xe (x:ImX):Nat×A:=(21,.c (.ptr 2 x.bk 0))
abbrev xf (i:Q9):Nat×A:=(13,.g (jB i.m))
abbrev xg (i:Q9):Nat×A:=(17,bool i.ch)
abbrev xh (n:Nat) (q:HlX):Nat×A:=(3,.c (.ptr n q.2.2.2.1 0))
abbrev xi (n:Nat) (q:HlX):Nat×A:=(4,.c (.ptr n q.2.2.2.2.1 0))
abbrev xj (n:Nat) (q:HlX):Nat×A:=(5,.c (.ptr n q.2.2.2.2.2 0))
abbrev xk (n:Nat) (q:HlX):Nat×A:=(22,.c (.ptr n q.2.1 0))
abbrev ya (c b:Nat):HB:= .blk c 56 [.ptr 0 b 0]
abbrev yb (q:HlX):HB:= .blk q.2.2.2.2.2 136 [.pv (.val (.pointer none))]
abbrev yc (q:HlX) (i:Q9):HB:=iP q.2.1 i.k q.2.2.1
abbrev yd (q:HlX):HB:= .blk q.2.2.2.1 82 C5W
abbrev ye (q:HlX):HB:= .blk q.2.2.2.2.1 4 [.pv (bv false)]
abbrev yf (bd b:Nat) (i:Q9) (x:ImX) (q:HlX):List HB:=(O3 bd b i).f {x with S1:=q.1}
abbrev za (q:HlX) (n:Nat):HlX:=(q.1,q.2.1,q.2.2.1,n,q.2.2.2.2)
abbrev zb (q:HlX) (n:Nat):HlX:=(q.1,q.2.1,q.2.2.1,q.2.2.2.1,n,q.2.2.2.2.2)
abbrev zc (q:HlX) (n:Nat):HlX:=(q.1,q.2.1,q.2.2.1,q.2.2.2.1,q.2.2.2.2.1,n)
variable {B : Nat → Prop} {W : World} {M0 : B8} {Q : Exit → Act → World → Prop} {k : List Z3} {ops : List Oper} {r : Nat} {l : List Nat} {st : St}
theorem hj (bd b:Nat) (i:Q9) (x:ImX) (r':Nat) (l':List Nat) (fs:HlX→List (Nat×A)) (hs:HlX→List HB) (hf:∀q,GA Tryz.prog eC B W M0 Q k ops r' l' (mk (fs q) (yf bd b i x q++hs q))) (hk:(∀q,GA Tryz.prog eC B W M0 Q k ops r' l' (mk (fs q) (yf bd b i x q++hs q)))→GA Tryz.prog eC B W M0 Q k ops r l st):GA Tryz.prog eC B W M0 Q k ops r l st:=hk hf
abbrev r5:List Nat:=[0,1,2,3,4]
abbrev r6:List Nat:=[0,1,2,3,4,5]
abbrev r7:List Nat:=[0,1,2,3,4,5,6]
abbrev r8:List Nat:=[0,1,2,3,4,5,6,7]
abbrev r9:List Nat:=[0,1,2,3,4,5,6,7,8]
abbrev r10:List Nat:=[0,1,2,3,4,5,6,7,8,9]
abbrev r11:List Nat:=[0,1,2,3,4,5,6,7,8,9,10]
abbrev r12:List Nat:=[0,1,2,3,4,5,6,7,8,9,10,11]
abbrev r13:List Nat:=[0,1,2,3,4,5,6,7,8,9,10,11,12]
abbrev r14:List Nat:=[0,1,2,3,4,5,6,7,8,9,10,11,12,13]
abbrev r15:List Nat:=[0,1,2,3,4,5,6,7,8,9,10,11,12,13,14]
abbrev r16:List Nat:=[0,1,2,3,4,5,6,7,8,9,10,11,12,13,14,15]
abbrev r17:List Nat:=[0,1,2,3,4,5,6,7,8,9,10,11,12,13,14,15,16]
abbrev r18:List Nat:=[0,1,2,3,4,5,6,7,8,9,10,11,12,13,14,15,16,17]
abbrev r19:List Nat:=[0,1,2,3,4,5,6,7,8,9,10,11,12,13,14,15,16,17,18]
theorem C5X {bd b c:Nat} {i:Q9} {x:ImX} (hsh:i.m.sh=[]) (hmp:i.m.mp=[]) (htl:i.m.t.length≤512) (htf:∀j,(leaf i.m.t j).length≤1000000000) (hk:i.k≤1000) {B:Nat→Prop} {W:World} {M0:B8} {Q:Exit→Act→World→Prop} {k:List Z3}
 (s122:∀q:HlX,True→GA Tryz.prog eC B W M0 Q k (I5 (lft (lC (lC (P2 Tryz.f99))))) 1 r19 (mk [xa c,xb i,xc b,xg i,xd b,xe x,xf i,xk 5 q,xh 6 q,xi 7 q,xj 8 q] (yf bd b i x q++[ya c b,yc q i,.blk q.2.2.2.1 82 (jB i.m),.blk q.2.2.2.2.1 4 [.pv (bv i.ch)],yb q]))) (q:HlX):
 GA Tryz.prog eC B W M0 Q k (I5 (lft (lC (lC (P2 Tryz.f99))))) 16 [0,1,2,3] (mk [xa c,xb i] (yf bd b i x q++[ya c b])):=by
 have s122:=fun q=>s122 q trivial
 refine hj bd b i x 2 r18 (fun q=>[xa c,xb i,xc b,xg i,xd b,xe x,xf i,xk 5 q,xh 6 q,xi 7 q,xj 8 q]) (fun q=>[ya c b,yc q i,.blk q.2.2.2.1 82 (jB i.m),ye q,yb q]) (fun q=>?_) (fun s121=>?_)
 ·refine E8 18 rfl (A8 18 A0 (fun bs=>?_));exact A1 r9 _ _ _ (s122 q)
 refine hj bd b i x 3 [0,1,2,3,4,5,6,7,9,10,11,12,13,14,15,16,17] (fun q=>[xa c,xb i,xc b,xd b,xe x,xf i,xk 5 q,xh 6 q,xi 7 q,xj 8 q]) (fun q=>[ya c b,yc q i,.blk q.2.2.2.1 82 (jB i.m),ye q,yb q]) (fun q=>?_) (fun s104=>?_)
 ·refine E8 8 rfl (A8 8 A0 (fun bs=>?_));exact A1 r9 _ _ _ (s121 q)
 refine hj bd b i x 3 r17 (fun q=>[xa c,xb i,xc b,xg i,xd b,xe x,xf i,xk 5 q,xh 6 q,xi 7 q,xj 8 q]) (fun q=>[ya c b,yc q i,yd q,ye q,yb q]) (fun q=>?_) (fun s120=>?_)
 ·refine E8 17 rfl (A8 17 A0 (fun bs=>?_));exact A1 r9 _ _ _ (s121 q)
 refine hj bd b i x 4 [0,1,2,3,4,5,6,7,9,10,11,12,13,14,15,16] (fun q=>[xa c,xb i,xc b,xd b,xe x,xf i,xk 5 q,xh 6 q,xi 7 q,xj 8 q]) (fun q=>[ya c b,yc q i,yd q,ye q,yb q]) (fun q=>?_) (fun s103=>?_)
 ·refine B5 [8,17] rfl (by simp) ⟨A8 8 A0 (fun bs=>?_),A8 17 A0 (fun bs=>?_),trivial⟩
  ·exact A1 r9 _ _ _ (s120 q)
  ·exact A1 r9 _ _ _ (s104 q)
 refine hj bd b i x 4 [0,1,2,3,4,5,6,7,8,9,10,11,12,14,15,16] (fun q=>[xa c,xb i,xc b,xg i,xd b,xe x,xf i,xh 5 q,xi 6 q,xj 7 q]) (fun q=>[ya c b,yd q,ye q,yb q]) (fun q=>?_) (fun s112=>?_)
 ·refine E8 13 rfl ?_;refine F1 [2] (fun n=>n-2) (U5 x.bk i.k q.1 (by omega)) rfl rfl trivial rfl rfl rfl rfl (by decide) rfl rfl (fun x=>rfl) (fun z _=>?_);exact A1 [0,1,2,3,4,8,5,6,7] _ _ _ (s120 (z.1,z.2.1,z.2.2,q.2.2.2))
 refine hj bd b i x 4 [0,1,2,3,4,5,6,7,8,9,10,11,12,13,15,16] (fun q=>[xa c,xb i,xc b,xg i,xd b,xe x,xf i,xk 5 q,xi 6 q,xj 7 q]) (fun q=>[ya c b,yc q i,ye q,yb q]) (fun q=>?_) (fun s116=>?_)
 ·refine E8 14 rfl (A8 14 A0 (fun bs=>?_));exact A1 [0,1,2,3,4,5,8,6,7] _ _ _ (s120 (za q bs.bn))
 refine hj bd b i x 4 [0,1,2,3,4,5,6,7,8,9,10,11,12,13,14,16] (fun q=>[xa c,xb i,xc b,xg i,xd b,xe x,xf i,xk 5 q,xh 6 q,xj 7 q]) (fun q=>[ya c b,yc q i,yd q,yb q]) (fun q=>?_) (fun s118=>?_)
 ·refine E8 15 rfl (A8 15 A0 (fun bs=>?_));exact A1 [0,1,2,3,4,5,6,8,7] _ _ _ (s120 (zb q bs.bn))
 refine hj bd b i x 4 r16 (fun q=>[xa c,xb i,xc b,xg i,xd b,xe x,xf i,xk 5 q,xh 6 q,xi 7 q]) (fun q=>[ya c b,yc q i,yd q,ye q]) (fun q=>?_) (fun s119=>?_)
 ·refine E8 16 rfl (A8 16 A0 (fun bs=>?_));exact A1 r9 _ _ _ (s120 (zc q bs.bn))
 refine hj bd b i x 5 [0,1,2,3,5,6,7,8,9,10,11,12,14,15,16] (fun q=>[xa c,xb i,xc b,xg i,xd b,xe x,xh 5 q,xi 6 q,xj 7 q]) (fun q=>[ya c b,yd q,ye q,yb q]) (fun q=>?_) (fun s70=>?_)
 ·refine E8 4 rfl (A8 4 A0 (fun bs=>?_) (hob:=fun _=>U9));exact A1 r8 _ _ _ (s112 q)
 refine hj bd b i x 5 [0,1,2,3,4,5,6,7,9,10,11,12,14,15,16] (fun q=>[xa c,xb i,xc b,xd b,xe x,xf i,xh 5 q,xi 6 q,xj 7 q]) (fun q=>[ya c b,yd q,ye q,yb q]) (fun q=>?_) (fun s95=>?_)
 ·refine B5 [8,13] rfl (by simp) ⟨A8 8 A0 (fun bs=>?_),?_,trivial⟩
  ·exact A1 r8 _ _ _ (s112 q)
  ·refine F1 [2] (fun n=>n-2) (U5 x.bk i.k q.1 (by omega)) rfl rfl trivial rfl rfl rfl rfl (by decide) rfl rfl (fun x=>rfl) (fun z _=>?_);exact A1 [0,1,2,3,4,8,5,6,7] _ _ _ (s103 (z.1,z.2.1,z.2.2,q.2.2.2))
 refine hj bd b i x 5 [0,1,2,3,4,5,6,7,9,10,11,12,13,15,16] (fun q=>[xa c,xb i,xc b,xd b,xe x,xf i,xk 5 q,xi 6 q,xj 7 q]) (fun q=>[ya c b,yc q i,ye q,yb q]) (fun q=>?_) (fun s99=>?_)
 ·refine B5 [8,14] rfl (by simp) ⟨A8 8 A0 (fun bs=>?_),A8 14 A0 (fun bs=>?_),trivial⟩
  ·exact A1 r8 _ _ _ (s116 q)
  ·exact A1 [0,1,2,3,4,5,8,6,7] _ _ _ (s103 (za q bs.bn))
 refine hj bd b i x 5 [0,1,2,3,4,5,6,7,9,10,11,12,13,14,16] (fun q=>[xa c,xb i,xc b,xd b,xe x,xf i,xk 5 q,xh 6 q,xj 7 q]) (fun q=>[ya c b,yc q i,yd q,yb q]) (fun q=>?_) (fun s101=>?_)
 ·refine B5 [8,15] rfl (by simp) ⟨A8 8 A0 (fun bs=>?_),A8 15 A0 (fun bs=>?_),trivial⟩
  ·exact A1 r8 _ _ _ (s118 q)
  ·exact A1 [0,1,2,3,4,5,6,8,7] _ _ _ (s103 (zb q bs.bn))
 refine hj bd b i x 5 [0,1,2,3,4,5,6,7,9,10,11,12,13,14,15] (fun q=>[xa c,xb i,xc b,xd b,xe x,xf i,xk 5 q,xh 6 q,xi 7 q]) (fun q=>[ya c b,yc q i,yd q,ye q]) (fun q=>?_) (fun s102=>?_)
 ·refine B5 [8,16] rfl (by simp) ⟨A8 8 A0 (fun bs=>?_),A8 16 A0 (fun bs=>?_),trivial⟩
  ·exact A1 r8 _ _ _ (s119 q)
  ·exact A1 r9 _ _ _ (s103 (zc q bs.bn))
 refine hj bd b i x 5 [0,1,2,3,4,5,6,7,8,9,10,11,12,15,16] (fun q=>[xa c,xb i,xc b,xg i,xd b,xe x,xf i,xi 5 q,xj 6 q]) (fun q=>[ya c b,ye q,yb q]) (fun q=>?_) (fun s108=>?_)
 ·refine B5 [13,14] rfl (by simp) ⟨?_,A8 14 A0 (fun bs=>?_),trivial⟩
  ·refine F1 [2] (fun n=>n-2) (U5 x.bk i.k q.1 (by omega)) rfl rfl trivial rfl rfl rfl rfl (by decide) rfl rfl (fun x=>rfl) (fun z _=>?_);exact A1 [0,1,2,3,4,7,5,6] _ _ _ (s116 (z.1,z.2.1,z.2.2,q.2.2.2))
  ·exact A1 [0,1,2,3,4,7,5,6] _ _ _ (s112 (za q bs.bn))
 refine hj bd b i x 5 [0,1,2,3,4,5,6,7,8,9,10,11,12,14,16] (fun q=>[xa c,xb i,xc b,xg i,xd b,xe x,xf i,xh 5 q,xj 6 q]) (fun q=>[ya c b,yd q,yb q]) (fun q=>?_) (fun s110=>?_)
 ·refine B5 [13,15] rfl (by simp) ⟨?_,A8 15 A0 (fun bs=>?_),trivial⟩
  ·refine F1 [2] (fun n=>n-2) (U5 x.bk i.k q.1 (by omega)) rfl rfl trivial rfl rfl rfl rfl (by decide) rfl rfl (fun x=>rfl) (fun z _=>?_);exact A1 [0,1,2,3,4,7,5,6] _ _ _ (s118 (z.1,z.2.1,z.2.2,q.2.2.2))
  ·exact A1 [0,1,2,3,4,5,7,6] _ _ _ (s112 (zb q bs.bn))
 refine hj bd b i x 5 [0,1,2,3,4,5,6,7,8,9,10,11,12,14,15] (fun q=>[xa c,xb i,xc b,xg i,xd b,xe x,xf i,xh 5 q,xi 6 q]) (fun q=>[ya c b,yd q,ye q]) (fun q=>?_) (fun s111=>?_)
 ·refine B5 [13,16] rfl (by simp) ⟨?_,A8 16 A0 (fun bs=>?_),trivial⟩
  ·refine F1 [2] (fun n=>n-2) (U5 x.bk i.k q.1 (by omega)) rfl rfl trivial rfl rfl rfl rfl (by decide) rfl rfl (fun x=>rfl) (fun z _=>?_);exact A1 [0,1,2,3,4,7,5,6] _ _ _ (s119 (z.1,z.2.1,z.2.2,q.2.2.2))
  ·exact A1 r8 _ _ _ (s112 (zc q bs.bn))
 refine hj bd b i x 5 [0,1,2,3,4,5,6,7,8,9,10,11,12,13,16] (fun q=>[xa c,xb i,xc b,xg i,xd b,xe x,xf i,xk 5 q,xj 6 q]) (fun q=>[ya c b,yc q i,yb q]) (fun q=>?_) (fun s114=>?_)
 ·refine B5 [14,15] rfl (by simp) ⟨A8 14 A0 (fun bs=>?_),A8 15 A0 (fun bs=>?_),trivial⟩
  ·exact A1 [0,1,2,3,4,5,7,6] _ _ _ (s118 (za q bs.bn))
  ·exact A1 [0,1,2,3,4,5,7,6] _ _ _ (s116 (zb q bs.bn))
 refine hj bd b i x 5 [0,1,2,3,4,5,6,7,8,9,10,11,12,13,15] (fun q=>[xa c,xb i,xc b,xg i,xd b,xe x,xf i,xk 5 q,xi 6 q]) (fun q=>[ya c b,yc q i,ye q]) (fun q=>?_) (fun s115=>?_)
 ·refine B5 [14,16] rfl (by simp) ⟨A8 14 A0 (fun bs=>?_),A8 16 A0 (fun bs=>?_),trivial⟩
  ·exact A1 [0,1,2,3,4,5,7,6] _ _ _ (s119 (za q bs.bn))
  ·exact A1 r8 _ _ _ (s116 (zc q bs.bn))
 refine hj bd b i x 5 r15 (fun q=>[xa c,xb i,xc b,xg i,xd b,xe x,xf i,xk 5 q,xh 6 q]) (fun q=>[ya c b,yc q i,yd q]) (fun q=>?_) (fun s117=>?_)
 ·refine B5 [15,16] rfl (by simp) ⟨A8 15 A0 (fun bs=>?_),A8 16 A0 (fun bs=>?_),trivial⟩
  ·exact A1 r8 _ _ _ (s119 (zb q bs.bn))
  ·exact A1 r8 _ _ _ (s118 (zc q bs.bn))
 refine hj bd b i x 6 [0,1,2,3,5,6,7,9,10,11,12,14,15,16] (fun q=>[xa c,xb i,xc b,xd b,xe x,xh 5 q,xi 6 q,xj 7 q]) (fun q=>[ya c b,yd q,ye q,yb q]) (fun q=>?_) (fun s46=>?_)
 ·refine B5 [4,8] rfl (by simp) ⟨A8 4 A0 (fun bs=>?_) (hob:=fun _=>U9),A8 8 A0 (fun bs=>?_),trivial⟩
  ·exact A1 r8 _ _ _ (s95 q)
  ·exact A1 r8 _ _ _ (s70 q)
 refine hj bd b i x 6 [0,1,2,3,5,6,7,8,9,10,11,14,15,16] (fun q=>[xa c,xb i,xc b,xg i,xd b,xh 5 q,xi 6 q,xj 7 q]) (fun q=>[ya c b,yd q,ye q,yb q]) (fun q=>?_) (fun s62=>?_)
 ·refine B5 [4,12] rfl (by simp) ⟨A8 4 A0 (fun bs=>?_) (hob:=fun _=>U9),A8 12 A0 (fun bs=>?_),trivial⟩
  ·refine E1 12 A0 ?_;exact A1 r8 _ _ _ (s112 q)
  ·exact A1 r8 _ _ _ (s70 q)
 refine hj bd b i x 6 [0,1,2,3,5,6,7,8,9,10,11,12,15,16] (fun q=>[xa c,xb i,xc b,xg i,xd b,xe x,xi 5 q,xj 6 q]) (fun q=>[ya c b,ye q,yb q]) (fun q=>?_) (fun s66=>?_)
 ·refine B5 [4,14] rfl (by simp) ⟨A8 4 A0 (fun bs=>?_) (hob:=fun _=>U9),A8 14 A0 (fun bs=>?_),trivial⟩
  ·exact A1 r7 _ _ _ (s108 q)
  ·exact A1 [0,1,2,3,4,7,5,6] _ _ _ (s70 (za q bs.bn))
 refine hj bd b i x 6 [0,1,2,3,5,6,7,8,9,10,11,12,14,16] (fun q=>[xa c,xb i,xc b,xg i,xd b,xe x,xh 5 q,xj 6 q]) (fun q=>[ya c b,yd q,yb q]) (fun q=>?_) (fun s68=>?_)
 ·refine B5 [4,15] rfl (by simp) ⟨A8 4 A0 (fun bs=>?_) (hob:=fun _=>U9),A8 15 A0 (fun bs=>?_),trivial⟩
  ·exact A1 r7 _ _ _ (s110 q)
  ·exact A1 [0,1,2,3,4,5,7,6] _ _ _ (s70 (zb q bs.bn))
 refine hj bd b i x 6 [0,1,2,3,5,6,7,8,9,10,11,12,14,15] (fun q=>[xa c,xb i,xc b,xg i,xd b,xe x,xh 5 q,xi 6 q]) (fun q=>[ya c b,yd q,ye q]) (fun q=>?_) (fun s69=>?_)
 ·refine B5 [4,16] rfl (by simp) ⟨A8 4 A0 (fun bs=>?_) (hob:=fun _=>U9),A8 16 A0 (fun bs=>?_),trivial⟩
  ·exact A1 r7 _ _ _ (s111 q)
  ·exact A1 r8 _ _ _ (s70 (zc q bs.bn))
 refine hj bd b i x 6 [0,1,2,3,4,9,10,11,12,13,14,15,16,17] (fun q=>[xa c,xb i,xd b,xe x,xf i,xk 5 q,xh 6 q,xi 7 q,xj 8 q]) (fun q=>[ya c b,yc q i,.blk q.2.2.2.1 82 (jB i.m),ye q,yb q]) (fun q=>?_) (fun s87=>?_)
 ·refine E8 5 rfl (A8 5 A0 (fun bs=>?_));refine C4 6 ?_;refine C3 7 A0 ?_;exact A1 r9 _ _ _ (s104 q)
 refine hj bd b i x 6 [0,1,2,3,4,5,6,7,9,10,11,12,15,16] (fun q=>[xa c,xb i,xc b,xd b,xe x,xf i,xi 5 q,xj 6 q]) (fun q=>[ya c b,ye q,yb q]) (fun q=>?_) (fun s91=>?_)
 ·refine B5 [8,13,14] rfl (by simp) ⟨A8 8 A0 (fun bs=>?_),?_,A8 14 A0 (fun bs=>?_),trivial⟩
  ·exact A1 r7 _ _ _ (s108 q)
  ·refine F1 [2] (fun n=>n-2) (U5 x.bk i.k q.1 (by omega)) rfl rfl trivial rfl rfl rfl rfl (by decide) rfl rfl (fun x=>rfl) (fun z _=>?_);exact A1 [0,1,2,3,4,7,5,6] _ _ _ (s99 (z.1,z.2.1,z.2.2,q.2.2.2))
  ·exact A1 [0,1,2,3,4,7,5,6] _ _ _ (s95 (za q bs.bn))
 refine hj bd b i x 6 [0,1,2,3,4,5,6,7,9,10,11,12,14,16] (fun q=>[xa c,xb i,xc b,xd b,xe x,xf i,xh 5 q,xj 6 q]) (fun q=>[ya c b,yd q,yb q]) (fun q=>?_) (fun s93=>?_)
 ·refine B5 [8,13,15] rfl (by simp) ⟨A8 8 A0 (fun bs=>?_),?_,A8 15 A0 (fun bs=>?_),trivial⟩
  ·exact A1 r7 _ _ _ (s110 q)
  ·refine F1 [2] (fun n=>n-2) (U5 x.bk i.k q.1 (by omega)) rfl rfl trivial rfl rfl rfl rfl (by decide) rfl rfl (fun x=>rfl) (fun z _=>?_);exact A1 [0,1,2,3,4,7,5,6] _ _ _ (s101 (z.1,z.2.1,z.2.2,q.2.2.2))
  ·exact A1 [0,1,2,3,4,5,7,6] _ _ _ (s95 (zb q bs.bn))
 refine hj bd b i x 6 [0,1,2,3,4,5,6,7,9,10,11,12,14,15] (fun q=>[xa c,xb i,xc b,xd b,xe x,xf i,xh 5 q,xi 6 q]) (fun q=>[ya c b,yd q,ye q]) (fun q=>?_) (fun s94=>?_)
 ·refine B5 [8,13,16] rfl (by simp) ⟨A8 8 A0 (fun bs=>?_),?_,A8 16 A0 (fun bs=>?_),trivial⟩
  ·exact A1 r7 _ _ _ (s111 q)
  ·refine F1 [2] (fun n=>n-2) (U5 x.bk i.k q.1 (by omega)) rfl rfl trivial rfl rfl rfl rfl (by decide) rfl rfl (fun x=>rfl) (fun z _=>?_);exact A1 [0,1,2,3,4,7,5,6] _ _ _ (s102 (z.1,z.2.1,z.2.2,q.2.2.2))
  ·exact A1 r8 _ _ _ (s95 (zc q bs.bn))
 refine hj bd b i x 6 [0,1,2,3,4,5,6,7,9,10,11,12,13,16] (fun q=>[xa c,xb i,xc b,xd b,xe x,xf i,xk 5 q,xj 6 q]) (fun q=>[ya c b,yc q i,yb q]) (fun q=>?_) (fun s97=>?_)
 ·refine B5 [8,14,15] rfl (by simp) ⟨A8 8 A0 (fun bs=>?_),A8 14 A0 (fun bs=>?_),A8 15 A0 (fun bs=>?_),trivial⟩
  ·exact A1 r7 _ _ _ (s114 q)
  ·exact A1 [0,1,2,3,4,5,7,6] _ _ _ (s101 (za q bs.bn))
  ·exact A1 [0,1,2,3,4,5,7,6] _ _ _ (s99 (zb q bs.bn))
 refine hj bd b i x 6 [0,1,2,3,4,5,6,7,9,10,11,12,13,15] (fun q=>[xa c,xb i,xc b,xd b,xe x,xf i,xk 5 q,xi 6 q]) (fun q=>[ya c b,yc q i,ye q]) (fun q=>?_) (fun s98=>?_)
 ·refine B5 [8,14,16] rfl (by simp) ⟨A8 8 A0 (fun bs=>?_),A8 14 A0 (fun bs=>?_),A8 16 A0 (fun bs=>?_),trivial⟩
  ·exact A1 r7 _ _ _ (s115 q)
  ·exact A1 [0,1,2,3,4,5,7,6] _ _ _ (s102 (za q bs.bn))
  ·exact A1 r8 _ _ _ (s99 (zc q bs.bn))
 refine hj bd b i x 6 [0,1,2,3,4,5,6,7,9,10,11,12,13,14] (fun q=>[xa c,xb i,xc b,xd b,xe x,xf i,xk 5 q,xh 6 q]) (fun q=>[ya c b,yc q i,yd q]) (fun q=>?_) (fun s100=>?_)
 ·refine B5 [8,15,16] rfl (by simp) ⟨A8 8 A0 (fun bs=>?_),A8 15 A0 (fun bs=>?_),A8 16 A0 (fun bs=>?_),trivial⟩
  ·exact A1 r7 _ _ _ (s117 q)
  ·exact A1 r8 _ _ _ (s102 (zb q bs.bn))
  ·exact A1 r8 _ _ _ (s101 (zc q bs.bn))
 refine hj bd b i x 6 [0,1,2,3,4,5,6,7,8,9,10,11,12,16] (fun q=>[xa c,xb i,xc b,xg i,xd b,xe x,xf i,xj 5 q]) (fun q=>[ya c b,yb q]) (fun q=>?_) (fun s106=>?_)
 ·refine B5 [13,14,15] rfl (by simp) ⟨?_,A8 14 A0 (fun bs=>?_),A8 15 A0 (fun bs=>?_),trivial⟩
  ·refine F1 [2] (fun n=>n-2) (U5 x.bk i.k q.1 (by omega)) rfl rfl trivial rfl rfl rfl rfl (by decide) rfl rfl (fun x=>rfl) (fun z _=>?_);exact A1 [0,1,2,3,4,6,5] _ _ _ (s114 (z.1,z.2.1,z.2.2,q.2.2.2))
  ·exact A1 [0,1,2,3,4,6,5] _ _ _ (s110 (za q bs.bn))
  ·exact A1 [0,1,2,3,4,6,5] _ _ _ (s108 (zb q bs.bn))
 refine hj bd b i x 6 [0,1,2,3,4,5,6,7,8,9,10,11,12,15] (fun q=>[xa c,xb i,xc b,xg i,xd b,xe x,xf i,xi 5 q]) (fun q=>[ya c b,ye q]) (fun q=>?_) (fun s107=>?_)
 ·refine B5 [13,14,16] rfl (by simp) ⟨?_,A8 14 A0 (fun bs=>?_),A8 16 A0 (fun bs=>?_),trivial⟩
  ·refine F1 [2] (fun n=>n-2) (U5 x.bk i.k q.1 (by omega)) rfl rfl trivial rfl rfl rfl rfl (by decide) rfl rfl (fun x=>rfl) (fun z _=>?_);exact A1 [0,1,2,3,4,6,5] _ _ _ (s115 (z.1,z.2.1,z.2.2,q.2.2.2))
  ·exact A1 [0,1,2,3,4,6,5] _ _ _ (s111 (za q bs.bn))
  ·exact A1 r7 _ _ _ (s108 (zc q bs.bn))
 refine hj bd b i x 6 [0,1,2,3,4,5,6,7,8,9,10,11,12,14] (fun q=>[xa c,xb i,xc b,xg i,xd b,xe x,xf i,xh 5 q]) (fun q=>[ya c b,yd q]) (fun q=>?_) (fun s109=>?_)
 ·refine B5 [13,15,16] rfl (by simp) ⟨?_,A8 15 A0 (fun bs=>?_),A8 16 A0 (fun bs=>?_),trivial⟩
  ·refine F1 [2] (fun n=>n-2) (U5 x.bk i.k q.1 (by omega)) rfl rfl trivial rfl rfl rfl rfl (by decide) rfl rfl (fun x=>rfl) (fun z _=>?_);exact A1 [0,1,2,3,4,6,5] _ _ _ (s117 (z.1,z.2.1,z.2.2,q.2.2.2))
  ·exact A1 r7 _ _ _ (s111 (zb q bs.bn))
  ·exact A1 r7 _ _ _ (s110 (zc q bs.bn))
 refine hj bd b i x 6 r14 (fun q=>[xa c,xb i,xc b,xg i,xd b,xe x,xf i,xk 5 q]) (fun q=>[ya c b,yc q i]) (fun q=>?_) (fun s113=>?_)
 ·refine B5 [14,15,16] rfl (by simp) ⟨A8 14 A0 (fun bs=>?_),A8 15 A0 (fun bs=>?_),A8 16 A0 (fun bs=>?_),trivial⟩
  ·exact A1 r7 _ _ _ (s117 (za q bs.bn))
  ·exact A1 r7 _ _ _ (s115 (zb q bs.bn))
  ·exact A1 r7 _ _ _ (s114 (zc q bs.bn))
 refine hj bd b i x 7 [0,1,2,3,5,6,7,9,10,11,14,15,16] (fun q=>[xa c,xb i,xc b,xd b,xh 5 q,xi 6 q,xj 7 q]) (fun q=>[ya c b,yd q,ye q,yb q]) (fun q=>?_) (fun s38=>?_)
 ·refine B5 [4,8,12] rfl (by simp) ⟨A8 4 A0 (fun bs=>?_) (hob:=fun _=>U9),A8 8 A0 (fun bs=>?_),A8 12 A0 (fun bs=>?_),trivial⟩
  ·refine E1 12 A0 ?_;exact A1 r8 _ _ _ (s95 q)
  ·exact A1 r8 _ _ _ (s62 q)
  ·exact A1 r8 _ _ _ (s46 q)
 refine hj bd b i x 7 [0,1,2,3,5,6,7,9,10,11,12,15,16] (fun q=>[xa c,xb i,xc b,xd b,xe x,xi 5 q,xj 6 q]) (fun q=>[ya c b,ye q,yb q]) (fun q=>?_) (fun s42=>?_)
 ·refine B5 [4,8,14] rfl (by simp) ⟨A8 4 A0 (fun bs=>?_) (hob:=fun _=>U9),A8 8 A0 (fun bs=>?_),A8 14 A0 (fun bs=>?_),trivial⟩
  ·exact A1 r7 _ _ _ (s91 q)
  ·exact A1 r7 _ _ _ (s66 q)
  ·exact A1 [0,1,2,3,4,7,5,6] _ _ _ (s46 (za q bs.bn))
 refine hj bd b i x 7 [0,1,2,3,5,6,7,9,10,11,12,14,16] (fun q=>[xa c,xb i,xc b,xd b,xe x,xh 5 q,xj 6 q]) (fun q=>[ya c b,yd q,yb q]) (fun q=>?_) (fun s44=>?_)
 ·refine B5 [4,8,15] rfl (by simp) ⟨A8 4 A0 (fun bs=>?_) (hob:=fun _=>U9),A8 8 A0 (fun bs=>?_),A8 15 A0 (fun bs=>?_),trivial⟩
  ·exact A1 r7 _ _ _ (s93 q)
  ·exact A1 r7 _ _ _ (s68 q)
  ·exact A1 [0,1,2,3,4,5,7,6] _ _ _ (s46 (zb q bs.bn))
 refine hj bd b i x 7 [0,1,2,3,5,6,7,9,10,11,12,14,15] (fun q=>[xa c,xb i,xc b,xd b,xe x,xh 5 q,xi 6 q]) (fun q=>[ya c b,yd q,ye q]) (fun q=>?_) (fun s45=>?_)
 ·refine B5 [4,8,16] rfl (by simp) ⟨A8 4 A0 (fun bs=>?_) (hob:=fun _=>U9),A8 8 A0 (fun bs=>?_),A8 16 A0 (fun bs=>?_),trivial⟩
  ·exact A1 r7 _ _ _ (s94 q)
  ·exact A1 r7 _ _ _ (s69 q)
  ·exact A1 r8 _ _ _ (s46 (zc q bs.bn))
 refine hj bd b i x 7 [0,1,2,3,5,6,7,8,9,10,11,15,16] (fun q=>[xa c,xb i,xc b,xg i,xd b,xi 5 q,xj 6 q]) (fun q=>[ya c b,ye q,yb q]) (fun q=>?_) (fun s58=>?_)
 ·refine B5 [4,12,14] rfl (by simp) ⟨A8 4 A0 (fun bs=>?_) (hob:=fun _=>U9),A8 12 A0 (fun bs=>?_),A8 14 A0 (fun bs=>?_),trivial⟩
  ·refine E1 12 A0 ?_;exact A1 r7 _ _ _ (s108 q)
  ·exact A1 r7 _ _ _ (s66 q)
  ·exact A1 [0,1,2,3,4,7,5,6] _ _ _ (s62 (za q bs.bn))
 refine hj bd b i x 7 [0,1,2,3,5,6,7,8,9,10,11,14,16] (fun q=>[xa c,xb i,xc b,xg i,xd b,xh 5 q,xj 6 q]) (fun q=>[ya c b,yd q,yb q]) (fun q=>?_) (fun s60=>?_)
 ·refine B5 [4,12,15] rfl (by simp) ⟨A8 4 A0 (fun bs=>?_) (hob:=fun _=>U9),A8 12 A0 (fun bs=>?_),A8 15 A0 (fun bs=>?_),trivial⟩
  ·refine E1 12 A0 ?_;exact A1 r7 _ _ _ (s110 q)
  ·exact A1 r7 _ _ _ (s68 q)
  ·exact A1 [0,1,2,3,4,5,7,6] _ _ _ (s62 (zb q bs.bn))
 refine hj bd b i x 7 [0,1,2,3,5,6,7,8,9,10,11,14,15] (fun q=>[xa c,xb i,xc b,xg i,xd b,xh 5 q,xi 6 q]) (fun q=>[ya c b,yd q,ye q]) (fun q=>?_) (fun s61=>?_)
 ·refine B5 [4,12,16] rfl (by simp) ⟨A8 4 A0 (fun bs=>?_) (hob:=fun _=>U9),A8 12 A0 (fun bs=>?_),A8 16 A0 (fun bs=>?_),trivial⟩
  ·refine E1 12 A0 ?_;exact A1 r7 _ _ _ (s111 q)
  ·exact A1 r7 _ _ _ (s69 q)
  ·exact A1 r8 _ _ _ (s62 (zc q bs.bn))
 refine hj bd b i x 7 [0,1,2,3,5,6,7,8,9,10,11,12,16] (fun q=>[xa c,xb i,xc b,xg i,xd b,xe x,xj 5 q]) (fun q=>[ya c b,yb q]) (fun q=>?_) (fun s64=>?_)
 ·refine B5 [4,14,15] rfl (by simp) ⟨A8 4 A0 (fun bs=>?_) (hob:=fun _=>U9),A8 14 A0 (fun bs=>?_),A8 15 A0 (fun bs=>?_),trivial⟩
  ·exact A1 r6 _ _ _ (s106 q)
  ·exact A1 [0,1,2,3,4,6,5] _ _ _ (s68 (za q bs.bn))
  ·exact A1 [0,1,2,3,4,6,5] _ _ _ (s66 (zb q bs.bn))
 refine hj bd b i x 7 [0,1,2,3,5,6,7,8,9,10,11,12,15] (fun q=>[xa c,xb i,xc b,xg i,xd b,xe x,xi 5 q]) (fun q=>[ya c b,ye q]) (fun q=>?_) (fun s65=>?_)
 ·refine B5 [4,14,16] rfl (by simp) ⟨A8 4 A0 (fun bs=>?_) (hob:=fun _=>U9),A8 14 A0 (fun bs=>?_),A8 16 A0 (fun bs=>?_),trivial⟩
  ·exact A1 r6 _ _ _ (s107 q)
  ·exact A1 [0,1,2,3,4,6,5] _ _ _ (s69 (za q bs.bn))
  ·exact A1 r7 _ _ _ (s66 (zc q bs.bn))
 refine hj bd b i x 7 [0,1,2,3,5,6,7,8,9,10,11,12,14] (fun q=>[xa c,xb i,xc b,xg i,xd b,xe x,xh 5 q]) (fun q=>[ya c b,yd q]) (fun q=>?_) (fun s67=>?_)
 ·refine B5 [4,15,16] rfl (by simp) ⟨A8 4 A0 (fun bs=>?_) (hob:=fun _=>U9),A8 15 A0 (fun bs=>?_),A8 16 A0 (fun bs=>?_),trivial⟩
  ·exact A1 r6 _ _ _ (s109 q)
  ·exact A1 r7 _ _ _ (s69 (zb q bs.bn))
  ·exact A1 r7 _ _ _ (s68 (zc q bs.bn))
 refine hj bd b i x 7 [0,1,2,3,4,9,10,11,12,13,14,15,16] (fun q=>[xa c,xb i,xd b,xe x,xf i,xk 5 q,xh 6 q,xi 7 q,xj 8 q]) (fun q=>[ya c b,yc q i,yd q,ye q,yb q]) (fun q=>?_) (fun s86=>?_)
 ·refine B5 [5,17] rfl (by simp) ⟨A8 5 A0 (fun bs=>?_),A8 17 A0 (fun bs=>?_),trivial⟩
  ·refine C4 6 ?_;refine C3 7 A0 ?_;exact A1 r9 _ _ _ (s103 q)
  ·exact A1 r9 _ _ _ (s87 q)
 refine hj bd b i x 7 [0,1,2,3,4,5,6,7,9,10,11,12,16] (fun q=>[xa c,xb i,xc b,xd b,xe x,xf i,xj 5 q]) (fun q=>[ya c b,yb q]) (fun q=>?_) (fun s89=>?_)
 ·refine B5 [8,13,14,15] rfl (by simp) ⟨A8 8 A0 (fun bs=>?_),?_,A8 14 A0 (fun bs=>?_),A8 15 A0 (fun bs=>?_),trivial⟩
  ·exact A1 r6 _ _ _ (s106 q)
  ·refine F1 [2] (fun n=>n-2) (U5 x.bk i.k q.1 (by omega)) rfl rfl trivial rfl rfl rfl rfl (by decide) rfl rfl (fun x=>rfl) (fun z _=>?_);exact A1 [0,1,2,3,4,6,5] _ _ _ (s97 (z.1,z.2.1,z.2.2,q.2.2.2))
  ·exact A1 [0,1,2,3,4,6,5] _ _ _ (s93 (za q bs.bn))
  ·exact A1 [0,1,2,3,4,6,5] _ _ _ (s91 (zb q bs.bn))
 refine hj bd b i x 7 [0,1,2,3,4,5,6,7,9,10,11,12,15] (fun q=>[xa c,xb i,xc b,xd b,xe x,xf i,xi 5 q]) (fun q=>[ya c b,ye q]) (fun q=>?_) (fun s90=>?_)
 ·refine B5 [8,13,14,16] rfl (by simp) ⟨A8 8 A0 (fun bs=>?_),?_,A8 14 A0 (fun bs=>?_),A8 16 A0 (fun bs=>?_),trivial⟩
  ·exact A1 r6 _ _ _ (s107 q)
  ·refine F1 [2] (fun n=>n-2) (U5 x.bk i.k q.1 (by omega)) rfl rfl trivial rfl rfl rfl rfl (by decide) rfl rfl (fun x=>rfl) (fun z _=>?_);exact A1 [0,1,2,3,4,6,5] _ _ _ (s98 (z.1,z.2.1,z.2.2,q.2.2.2))
  ·exact A1 [0,1,2,3,4,6,5] _ _ _ (s94 (za q bs.bn))
  ·exact A1 r7 _ _ _ (s91 (zc q bs.bn))
 refine hj bd b i x 7 [0,1,2,3,4,5,6,7,9,10,11,12,14] (fun q=>[xa c,xb i,xc b,xd b,xe x,xf i,xh 5 q]) (fun q=>[ya c b,yd q]) (fun q=>?_) (fun s92=>?_)
 ·refine B5 [8,13,15,16] rfl (by simp) ⟨A8 8 A0 (fun bs=>?_),?_,A8 15 A0 (fun bs=>?_),A8 16 A0 (fun bs=>?_),trivial⟩
  ·exact A1 r6 _ _ _ (s109 q)
  ·refine F1 [2] (fun n=>n-2) (U5 x.bk i.k q.1 (by omega)) rfl rfl trivial rfl rfl rfl rfl (by decide) rfl rfl (fun x=>rfl) (fun z _=>?_);exact A1 [0,1,2,3,4,6,5] _ _ _ (s100 (z.1,z.2.1,z.2.2,q.2.2.2))
  ·exact A1 r7 _ _ _ (s94 (zb q bs.bn))
  ·exact A1 r7 _ _ _ (s93 (zc q bs.bn))
 refine hj bd b i x 7 [0,1,2,3,4,5,6,7,9,10,11,12,13] (fun q=>[xa c,xb i,xc b,xd b,xe x,xf i,xk 5 q]) (fun q=>[ya c b,yc q i]) (fun q=>?_) (fun s96=>?_)
 ·refine B5 [8,14,15,16] rfl (by simp) ⟨A8 8 A0 (fun bs=>?_),A8 14 A0 (fun bs=>?_),A8 15 A0 (fun bs=>?_),A8 16 A0 (fun bs=>?_),trivial⟩
  ·exact A1 r6 _ _ _ (s113 q)
  ·exact A1 r7 _ _ _ (s100 (za q bs.bn))
  ·exact A1 r7 _ _ _ (s98 (zb q bs.bn))
  ·exact A1 r7 _ _ _ (s97 (zc q bs.bn))
 refine hj bd b i x 7 r13 (fun q=>[xa c,xb i,xc b,xg i,xd b,xe x,xf i]) (fun q=>[ya c b]) (fun q=>?_) (fun s105=>?_)
 ·refine B5 [13,14,15,16] rfl (by simp) ⟨?_,A8 14 A0 (fun bs=>?_),A8 15 A0 (fun bs=>?_),A8 16 A0 (fun bs=>?_),trivial⟩
  ·refine F1 [2] (fun n=>n-2) (U5 x.bk i.k q.1 (by omega)) rfl rfl trivial rfl rfl rfl rfl (by decide) rfl rfl (fun x=>rfl) (fun z _=>?_);exact A1 r6 _ _ _ (s113 (z.1,z.2.1,z.2.2,q.2.2.2))
  ·exact A1 r6 _ _ _ (s109 (za q bs.bn))
  ·exact A1 r6 _ _ _ (s107 (zb q bs.bn))
  ·exact A1 r6 _ _ _ (s106 (zc q bs.bn))
 refine hj bd b i x 8 [0,1,2,3,5,6,7,9,10,11,15,16] (fun q=>[xa c,xb i,xc b,xd b,xi 5 q,xj 6 q]) (fun q=>[ya c b,ye q,yb q]) (fun q=>?_) (fun s34=>?_)
 ·refine B5 [4,8,12,14] rfl (by simp) ⟨A8 4 A0 (fun bs=>?_) (hob:=fun _=>U9),A8 8 A0 (fun bs=>?_),A8 12 A0 (fun bs=>?_),A8 14 A0 (fun bs=>?_),trivial⟩
  ·refine E1 12 A0 ?_;exact A1 r7 _ _ _ (s91 q)
  ·exact A1 r7 _ _ _ (s58 q)
  ·exact A1 r7 _ _ _ (s42 q)
  ·exact A1 [0,1,2,3,4,7,5,6] _ _ _ (s38 (za q bs.bn))
 refine hj bd b i x 8 [0,1,2,3,5,6,7,9,10,11,14,16] (fun q=>[xa c,xb i,xc b,xd b,xh 5 q,xj 6 q]) (fun q=>[ya c b,yd q,yb q]) (fun q=>?_) (fun s36=>?_)
 ·refine B5 [4,8,12,15] rfl (by simp) ⟨A8 4 A0 (fun bs=>?_) (hob:=fun _=>U9),A8 8 A0 (fun bs=>?_),A8 12 A0 (fun bs=>?_),A8 15 A0 (fun bs=>?_),trivial⟩
  ·refine E1 12 A0 ?_;exact A1 r7 _ _ _ (s93 q)
  ·exact A1 r7 _ _ _ (s60 q)
  ·exact A1 r7 _ _ _ (s44 q)
  ·exact A1 [0,1,2,3,4,5,7,6] _ _ _ (s38 (zb q bs.bn))
 refine hj bd b i x 8 [0,1,2,3,5,6,7,9,10,11,14,15] (fun q=>[xa c,xb i,xc b,xd b,xh 5 q,xi 6 q]) (fun q=>[ya c b,yd q,ye q]) (fun q=>?_) (fun s37=>?_)
 ·refine B5 [4,8,12,16] rfl (by simp) ⟨A8 4 A0 (fun bs=>?_) (hob:=fun _=>U9),A8 8 A0 (fun bs=>?_),A8 12 A0 (fun bs=>?_),A8 16 A0 (fun bs=>?_),trivial⟩
  ·refine E1 12 A0 ?_;exact A1 r7 _ _ _ (s94 q)
  ·exact A1 r7 _ _ _ (s61 q)
  ·exact A1 r7 _ _ _ (s45 q)
  ·exact A1 r8 _ _ _ (s38 (zc q bs.bn))
 refine hj bd b i x 8 [0,1,2,3,5,6,7,9,10,11,12,16] (fun q=>[xa c,xb i,xc b,xd b,xe x,xj 5 q]) (fun q=>[ya c b,yb q]) (fun q=>?_) (fun s40=>?_)
 ·refine B5 [4,8,14,15] rfl (by simp) ⟨A8 4 A0 (fun bs=>?_) (hob:=fun _=>U9),A8 8 A0 (fun bs=>?_),A8 14 A0 (fun bs=>?_),A8 15 A0 (fun bs=>?_),trivial⟩
  ·exact A1 r6 _ _ _ (s89 q)
  ·exact A1 r6 _ _ _ (s64 q)
  ·exact A1 [0,1,2,3,4,6,5] _ _ _ (s44 (za q bs.bn))
  ·exact A1 [0,1,2,3,4,6,5] _ _ _ (s42 (zb q bs.bn))
 refine hj bd b i x 8 [0,1,2,3,5,6,7,9,10,11,12,15] (fun q=>[xa c,xb i,xc b,xd b,xe x,xi 5 q]) (fun q=>[ya c b,ye q]) (fun q=>?_) (fun s41=>?_)
 ·refine B5 [4,8,14,16] rfl (by simp) ⟨A8 4 A0 (fun bs=>?_) (hob:=fun _=>U9),A8 8 A0 (fun bs=>?_),A8 14 A0 (fun bs=>?_),A8 16 A0 (fun bs=>?_),trivial⟩
  ·exact A1 r6 _ _ _ (s90 q)
  ·exact A1 r6 _ _ _ (s65 q)
  ·exact A1 [0,1,2,3,4,6,5] _ _ _ (s45 (za q bs.bn))
  ·exact A1 r7 _ _ _ (s42 (zc q bs.bn))
 refine hj bd b i x 8 [0,1,2,3,5,6,7,9,10,11,12,14] (fun q=>[xa c,xb i,xc b,xd b,xe x,xh 5 q]) (fun q=>[ya c b,yd q]) (fun q=>?_) (fun s43=>?_)
 ·refine B5 [4,8,15,16] rfl (by simp) ⟨A8 4 A0 (fun bs=>?_) (hob:=fun _=>U9),A8 8 A0 (fun bs=>?_),A8 15 A0 (fun bs=>?_),A8 16 A0 (fun bs=>?_),trivial⟩
  ·exact A1 r6 _ _ _ (s92 q)
  ·exact A1 r6 _ _ _ (s67 q)
  ·exact A1 r7 _ _ _ (s45 (zb q bs.bn))
  ·exact A1 r7 _ _ _ (s44 (zc q bs.bn))
 refine hj bd b i x 8 [0,1,2,3,5,6,7,8,9,10,11,16] (fun q=>[xa c,xb i,xc b,xg i,xd b,xj 5 q]) (fun q=>[ya c b,yb q]) (fun q=>?_) (fun s56=>?_)
 ·refine B5 [4,12,14,15] rfl (by simp) ⟨A8 4 A0 (fun bs=>?_) (hob:=fun _=>U9),A8 12 A0 (fun bs=>?_),A8 14 A0 (fun bs=>?_),A8 15 A0 (fun bs=>?_),trivial⟩
  ·refine E1 12 A0 ?_;exact A1 r6 _ _ _ (s106 q)
  ·exact A1 r6 _ _ _ (s64 q)
  ·exact A1 [0,1,2,3,4,6,5] _ _ _ (s60 (za q bs.bn))
  ·exact A1 [0,1,2,3,4,6,5] _ _ _ (s58 (zb q bs.bn))
 refine hj bd b i x 8 [0,1,2,3,5,6,7,8,9,10,11,15] (fun q=>[xa c,xb i,xc b,xg i,xd b,xi 5 q]) (fun q=>[ya c b,ye q]) (fun q=>?_) (fun s57=>?_)
 ·refine B5 [4,12,14,16] rfl (by simp) ⟨A8 4 A0 (fun bs=>?_) (hob:=fun _=>U9),A8 12 A0 (fun bs=>?_),A8 14 A0 (fun bs=>?_),A8 16 A0 (fun bs=>?_),trivial⟩
  ·refine E1 12 A0 ?_;exact A1 r6 _ _ _ (s107 q)
  ·exact A1 r6 _ _ _ (s65 q)
  ·exact A1 [0,1,2,3,4,6,5] _ _ _ (s61 (za q bs.bn))
  ·exact A1 r7 _ _ _ (s58 (zc q bs.bn))
 refine hj bd b i x 8 [0,1,2,3,5,6,7,8,9,10,11,14] (fun q=>[xa c,xb i,xc b,xg i,xd b,xh 5 q]) (fun q=>[ya c b,yd q]) (fun q=>?_) (fun s59=>?_)
 ·refine B5 [4,12,15,16] rfl (by simp) ⟨A8 4 A0 (fun bs=>?_) (hob:=fun _=>U9),A8 12 A0 (fun bs=>?_),A8 15 A0 (fun bs=>?_),A8 16 A0 (fun bs=>?_),trivial⟩
  ·refine E1 12 A0 ?_;exact A1 r6 _ _ _ (s109 q)
  ·exact A1 r6 _ _ _ (s67 q)
  ·exact A1 r7 _ _ _ (s61 (zb q bs.bn))
  ·exact A1 r7 _ _ _ (s60 (zc q bs.bn))
 refine hj bd b i x 8 [0,1,2,3,5,6,7,8,9,10,11,12] (fun q=>[xa c,xb i,xc b,xg i,xd b,xe x]) (fun q=>[ya c b]) (fun q=>?_) (fun s63=>?_)
 ·refine B5 [4,14,15,16] rfl (by simp) ⟨A8 4 A0 (fun bs=>?_) (hob:=fun _=>U9),A8 14 A0 (fun bs=>?_),A8 15 A0 (fun bs=>?_),A8 16 A0 (fun bs=>?_),trivial⟩
  ·exact A1 r5 _ _ _ (s105 q)
  ·exact A1 r6 _ _ _ (s67 (za q bs.bn))
  ·exact A1 r6 _ _ _ (s65 (zb q bs.bn))
  ·exact A1 r6 _ _ _ (s64 (zc q bs.bn))
 refine hj bd b i x 8 [0,1,2,3,4,9,10,11,12,14,15,16] (fun q=>[xa c,xb i,xd b,xe x,xf i,xh 5 q,xi 6 q,xj 7 q]) (fun q=>[ya c b,yd q,ye q,yb q]) (fun q=>?_) (fun s78=>?_)
 ·refine B5 [5,13] rfl (by simp) ⟨A8 5 A0 (fun bs=>?_),?_,trivial⟩
  ·refine C4 6 ?_;refine C3 7 A0 ?_;exact A1 r8 _ _ _ (s95 q)
  ·refine F1 [2] (fun n=>n-2) (U5 x.bk i.k q.1 (by omega)) rfl rfl trivial rfl rfl rfl rfl (by decide) rfl rfl (fun x=>rfl) (fun z _=>?_);exact A1 [0,1,2,3,4,8,5,6,7] _ _ _ (s86 (z.1,z.2.1,z.2.2,q.2.2.2))
 refine hj bd b i x 8 [0,1,2,3,4,9,10,11,12,13,15,16] (fun q=>[xa c,xb i,xd b,xe x,xf i,xk 5 q,xi 6 q,xj 7 q]) (fun q=>[ya c b,yc q i,ye q,yb q]) (fun q=>?_) (fun s82=>?_)
 ·refine B5 [5,14] rfl (by simp) ⟨A8 5 A0 (fun bs=>?_),A8 14 A0 (fun bs=>?_),trivial⟩
  ·refine C4 6 ?_;refine C3 7 A0 ?_;exact A1 r8 _ _ _ (s99 q)
  ·exact A1 [0,1,2,3,4,5,8,6,7] _ _ _ (s86 (za q bs.bn))
 refine hj bd b i x 8 [0,1,2,3,4,9,10,11,12,13,14,16] (fun q=>[xa c,xb i,xd b,xe x,xf i,xk 5 q,xh 6 q,xj 7 q]) (fun q=>[ya c b,yc q i,yd q,yb q]) (fun q=>?_) (fun s84=>?_)
 ·refine B5 [5,15] rfl (by simp) ⟨A8 5 A0 (fun bs=>?_),A8 15 A0 (fun bs=>?_),trivial⟩
  ·refine C4 6 ?_;refine C3 7 A0 ?_;exact A1 r8 _ _ _ (s101 q)
  ·exact A1 [0,1,2,3,4,5,6,8,7] _ _ _ (s86 (zb q bs.bn))
 refine hj bd b i x 8 [0,1,2,3,4,9,10,11,12,13,14,15] (fun q=>[xa c,xb i,xd b,xe x,xf i,xk 5 q,xh 6 q,xi 7 q]) (fun q=>[ya c b,yc q i,yd q,ye q]) (fun q=>?_) (fun s85=>?_)
 ·refine B5 [5,16] rfl (by simp) ⟨A8 5 A0 (fun bs=>?_),A8 16 A0 (fun bs=>?_),trivial⟩
  ·refine C4 6 ?_;refine C3 7 A0 ?_;exact A1 r8 _ _ _ (s102 q)
  ·exact A1 r9 _ _ _ (s86 (zc q bs.bn))
 refine hj bd b i x 8 [0,1,2,3,4,5,6,7,9,10,11,12] (fun q=>[xa c,xb i,xc b,xd b,xe x,xf i]) (fun q=>[ya c b]) (fun q=>?_) (fun s88=>?_)
 ·refine B5 [8,13,14,15,16] rfl (by simp) ⟨A8 8 A0 (fun bs=>?_),?_,A8 14 A0 (fun bs=>?_),A8 15 A0 (fun bs=>?_),A8 16 A0 (fun bs=>?_),trivial⟩
  ·exact A1 r5 _ _ _ (s105 q)
  ·refine F1 [2] (fun n=>n-2) (U5 x.bk i.k q.1 (by omega)) rfl rfl trivial rfl rfl rfl rfl (by decide) rfl rfl (fun x=>rfl) (fun z _=>?_);exact A1 r6 _ _ _ (s96 (z.1,z.2.1,z.2.2,q.2.2.2))
  ·exact A1 r6 _ _ _ (s92 (za q bs.bn))
  ·exact A1 r6 _ _ _ (s90 (zb q bs.bn))
  ·exact A1 r6 _ _ _ (s89 (zc q bs.bn))
 refine hj bd b i x 9 [0,1,2,3,9,10,11,12,14,15,16] (fun q=>[xa c,xb i,xd b,xe x,xh 5 q,xi 6 q,xj 7 q]) (fun q=>[ya c b,yd q,ye q,yb q]) (fun q=>?_) (fun s22=>?_)
 ·refine B5 [4,5] rfl (by simp) ⟨A8 4 A0 (fun bs=>?_) (hob:=fun _=>U9),A8 5 A0 (fun bs=>?_),trivial⟩
  ·exact A1 r8 _ _ _ (s78 q)
  ·refine C4 6 ?_;refine C3 7 A0 ?_;exact A1 r8 _ _ _ (s46 q)
 refine hj bd b i x 9 [0,1,2,3,5,6,7,9,10,11,16] (fun q=>[xa c,xb i,xc b,xd b,xj 5 q]) (fun q=>[ya c b,yb q]) (fun q=>?_) (fun s32=>?_)
 ·refine B5 [4,8,12,14,15] rfl (by simp) ⟨A8 4 A0 (fun bs=>?_) (hob:=fun _=>U9),A8 8 A0 (fun bs=>?_),A8 12 A0 (fun bs=>?_),A8 14 A0 (fun bs=>?_),A8 15 A0 (fun bs=>?_),trivial⟩
  ·refine E1 12 A0 ?_;exact A1 r6 _ _ _ (s89 q)
  ·exact A1 r6 _ _ _ (s56 q)
  ·exact A1 r6 _ _ _ (s40 q)
  ·exact A1 [0,1,2,3,4,6,5] _ _ _ (s36 (za q bs.bn))
  ·exact A1 [0,1,2,3,4,6,5] _ _ _ (s34 (zb q bs.bn))
 refine hj bd b i x 9 [0,1,2,3,5,6,7,9,10,11,15] (fun q=>[xa c,xb i,xc b,xd b,xi 5 q]) (fun q=>[ya c b,ye q]) (fun q=>?_) (fun s33=>?_)
 ·refine B5 [4,8,12,14,16] rfl (by simp) ⟨A8 4 A0 (fun bs=>?_) (hob:=fun _=>U9),A8 8 A0 (fun bs=>?_),A8 12 A0 (fun bs=>?_),A8 14 A0 (fun bs=>?_),A8 16 A0 (fun bs=>?_),trivial⟩
  ·refine E1 12 A0 ?_;exact A1 r6 _ _ _ (s90 q)
  ·exact A1 r6 _ _ _ (s57 q)
  ·exact A1 r6 _ _ _ (s41 q)
  ·exact A1 [0,1,2,3,4,6,5] _ _ _ (s37 (za q bs.bn))
  ·exact A1 r7 _ _ _ (s34 (zc q bs.bn))
 refine hj bd b i x 9 [0,1,2,3,5,6,7,9,10,11,14] (fun q=>[xa c,xb i,xc b,xd b,xh 5 q]) (fun q=>[ya c b,yd q]) (fun q=>?_) (fun s35=>?_)
 ·refine B5 [4,8,12,15,16] rfl (by simp) ⟨A8 4 A0 (fun bs=>?_) (hob:=fun _=>U9),A8 8 A0 (fun bs=>?_),A8 12 A0 (fun bs=>?_),A8 15 A0 (fun bs=>?_),A8 16 A0 (fun bs=>?_),trivial⟩
  ·refine E1 12 A0 ?_;exact A1 r6 _ _ _ (s92 q)
  ·exact A1 r6 _ _ _ (s59 q)
  ·exact A1 r6 _ _ _ (s43 q)
  ·exact A1 r7 _ _ _ (s37 (zb q bs.bn))
  ·exact A1 r7 _ _ _ (s36 (zc q bs.bn))
 refine hj bd b i x 9 [0,1,2,3,5,6,7,9,10,11,12] (fun q=>[xa c,xb i,xc b,xd b,xe x]) (fun q=>[ya c b]) (fun q=>?_) (fun s39=>?_)
 ·refine B5 [4,8,14,15,16] rfl (by simp) ⟨A8 4 A0 (fun bs=>?_) (hob:=fun _=>U9),A8 8 A0 (fun bs=>?_),A8 14 A0 (fun bs=>?_),A8 15 A0 (fun bs=>?_),A8 16 A0 (fun bs=>?_),trivial⟩
  ·exact A1 r5 _ _ _ (s88 q)
  ·exact A1 r5 _ _ _ (s63 q)
  ·exact A1 r6 _ _ _ (s43 (za q bs.bn))
  ·exact A1 r6 _ _ _ (s41 (zb q bs.bn))
  ·exact A1 r6 _ _ _ (s40 (zc q bs.bn))
 refine hj bd b i x 9 [0,1,2,3,5,6,7,8,14,15,16] (fun q=>[xa c,xb i,xc b,xg i,xh 5 q,xi 6 q,xj 7 q]) (fun q=>[ya c b,yd q,ye q,yb q]) (fun q=>?_) (fun s54=>?_)
 ·refine B5 [4,9] rfl (by simp) ⟨A8 4 A0 (fun bs=>?_) (hob:=fun _=>U9),A8 9 A0 (fun bs=>?_),trivial⟩
  ·refine E1 9 A0 ?_;refine C4 10 ?_;refine C3 11 A0 ?_;refine E1 12 A0 ?_;exact A1 r8 _ _ _ (s112 q)
  ·refine C4 10 ?_;refine C3 11 A0 ?_;exact A1 r8 _ _ _ (s62 q)
 refine hj bd b i x 9 [0,1,2,3,5,6,7,8,9,10,11] (fun q=>[xa c,xb i,xc b,xg i,xd b]) (fun q=>[ya c b]) (fun q=>?_) (fun s55=>?_)
 ·refine B5 [4,12,14,15,16] rfl (by simp) ⟨A8 4 A0 (fun bs=>?_) (hob:=fun _=>U9),A8 12 A0 (fun bs=>?_),A8 14 A0 (fun bs=>?_),A8 15 A0 (fun bs=>?_),A8 16 A0 (fun bs=>?_),trivial⟩
  ·refine E1 12 A0 ?_;exact A1 r5 _ _ _ (s105 q)
  ·exact A1 r5 _ _ _ (s63 q)
  ·exact A1 r6 _ _ _ (s59 (za q bs.bn))
  ·exact A1 r6 _ _ _ (s57 (zb q bs.bn))
  ·exact A1 r6 _ _ _ (s56 (zc q bs.bn))
 refine hj bd b i x 9 [0,1,2,3,4,9,10,11,12,15,16] (fun q=>[xa c,xb i,xd b,xe x,xf i,xi 5 q,xj 6 q]) (fun q=>[ya c b,ye q,yb q]) (fun q=>?_) (fun s74=>?_)
 ·refine B5 [5,13,14] rfl (by simp) ⟨A8 5 A0 (fun bs=>?_),?_,A8 14 A0 (fun bs=>?_),trivial⟩
  ·refine C4 6 ?_;refine C3 7 A0 ?_;exact A1 r7 _ _ _ (s91 q)
  ·refine F1 [2] (fun n=>n-2) (U5 x.bk i.k q.1 (by omega)) rfl rfl trivial rfl rfl rfl rfl (by decide) rfl rfl (fun x=>rfl) (fun z _=>?_);exact A1 [0,1,2,3,4,7,5,6] _ _ _ (s82 (z.1,z.2.1,z.2.2,q.2.2.2))
  ·exact A1 [0,1,2,3,4,7,5,6] _ _ _ (s78 (za q bs.bn))
 refine hj bd b i x 9 [0,1,2,3,4,9,10,11,12,14,16] (fun q=>[xa c,xb i,xd b,xe x,xf i,xh 5 q,xj 6 q]) (fun q=>[ya c b,yd q,yb q]) (fun q=>?_) (fun s76=>?_)
 ·refine B5 [5,13,15] rfl (by simp) ⟨A8 5 A0 (fun bs=>?_),?_,A8 15 A0 (fun bs=>?_),trivial⟩
  ·refine C4 6 ?_;refine C3 7 A0 ?_;exact A1 r7 _ _ _ (s93 q)
  ·refine F1 [2] (fun n=>n-2) (U5 x.bk i.k q.1 (by omega)) rfl rfl trivial rfl rfl rfl rfl (by decide) rfl rfl (fun x=>rfl) (fun z _=>?_);exact A1 [0,1,2,3,4,7,5,6] _ _ _ (s84 (z.1,z.2.1,z.2.2,q.2.2.2))
  ·exact A1 [0,1,2,3,4,5,7,6] _ _ _ (s78 (zb q bs.bn))
 refine hj bd b i x 9 [0,1,2,3,4,9,10,11,12,14,15] (fun q=>[xa c,xb i,xd b,xe x,xf i,xh 5 q,xi 6 q]) (fun q=>[ya c b,yd q,ye q]) (fun q=>?_) (fun s77=>?_)
 ·refine B5 [5,13,16] rfl (by simp) ⟨A8 5 A0 (fun bs=>?_),?_,A8 16 A0 (fun bs=>?_),trivial⟩
  ·refine C4 6 ?_;refine C3 7 A0 ?_;exact A1 r7 _ _ _ (s94 q)
  ·refine F1 [2] (fun n=>n-2) (U5 x.bk i.k q.1 (by omega)) rfl rfl trivial rfl rfl rfl rfl (by decide) rfl rfl (fun x=>rfl) (fun z _=>?_);exact A1 [0,1,2,3,4,7,5,6] _ _ _ (s85 (z.1,z.2.1,z.2.2,q.2.2.2))
  ·exact A1 r8 _ _ _ (s78 (zc q bs.bn))
 refine hj bd b i x 9 [0,1,2,3,4,9,10,11,12,13,16] (fun q=>[xa c,xb i,xd b,xe x,xf i,xk 5 q,xj 6 q]) (fun q=>[ya c b,yc q i,yb q]) (fun q=>?_) (fun s80=>?_)
 ·refine B5 [5,14,15] rfl (by simp) ⟨A8 5 A0 (fun bs=>?_),A8 14 A0 (fun bs=>?_),A8 15 A0 (fun bs=>?_),trivial⟩
  ·refine C4 6 ?_;refine C3 7 A0 ?_;exact A1 r7 _ _ _ (s97 q)
  ·exact A1 [0,1,2,3,4,5,7,6] _ _ _ (s84 (za q bs.bn))
  ·exact A1 [0,1,2,3,4,5,7,6] _ _ _ (s82 (zb q bs.bn))
 refine hj bd b i x 9 [0,1,2,3,4,9,10,11,12,13,15] (fun q=>[xa c,xb i,xd b,xe x,xf i,xk 5 q,xi 6 q]) (fun q=>[ya c b,yc q i,ye q]) (fun q=>?_) (fun s81=>?_)
 ·refine B5 [5,14,16] rfl (by simp) ⟨A8 5 A0 (fun bs=>?_),A8 14 A0 (fun bs=>?_),A8 16 A0 (fun bs=>?_),trivial⟩
  ·refine C4 6 ?_;refine C3 7 A0 ?_;exact A1 r7 _ _ _ (s98 q)
  ·exact A1 [0,1,2,3,4,5,7,6] _ _ _ (s85 (za q bs.bn))
  ·exact A1 r8 _ _ _ (s82 (zc q bs.bn))
 refine hj bd b i x 9 [0,1,2,3,4,9,10,11,12,13,14] (fun q=>[xa c,xb i,xd b,xe x,xf i,xk 5 q,xh 6 q]) (fun q=>[ya c b,yc q i,yd q]) (fun q=>?_) (fun s83=>?_)
 ·refine B5 [5,15,16] rfl (by simp) ⟨A8 5 A0 (fun bs=>?_),A8 15 A0 (fun bs=>?_),A8 16 A0 (fun bs=>?_),trivial⟩
  ·refine C4 6 ?_;refine C3 7 A0 ?_;exact A1 r7 _ _ _ (s100 q)
  ·exact A1 r8 _ _ _ (s85 (zb q bs.bn))
  ·exact A1 r8 _ _ _ (s84 (zc q bs.bn))
 refine hj bd b i x 10 [0,1,2,3,9,10,11,14,15,16] (fun q=>[xa c,xb i,xd b,xh 5 q,xi 6 q,xj 7 q]) (fun q=>[ya c b,yd q,ye q,yb q]) (fun q=>?_) (fun s14=>?_)
 ·refine B5 [4,5,12] rfl (by simp) ⟨A8 4 A0 (fun bs=>?_) (hob:=fun _=>U9),A8 5 A0 (fun bs=>?_),A8 12 A0 (fun bs=>?_),trivial⟩
  ·refine E1 12 A0 ?_;exact A1 r8 _ _ _ (s78 q)
  ·refine C4 6 ?_;refine C3 7 A0 ?_;exact A1 r8 _ _ _ (s38 q)
  ·exact A1 r8 _ _ _ (s22 q)
 refine hj bd b i x 10 [0,1,2,3,9,10,11,12,15,16] (fun q=>[xa c,xb i,xd b,xe x,xi 5 q,xj 6 q]) (fun q=>[ya c b,ye q,yb q]) (fun q=>?_) (fun s18=>?_)
 ·refine B5 [4,5,14] rfl (by simp) ⟨A8 4 A0 (fun bs=>?_) (hob:=fun _=>U9),A8 5 A0 (fun bs=>?_),A8 14 A0 (fun bs=>?_),trivial⟩
  ·exact A1 r7 _ _ _ (s74 q)
  ·refine C4 6 ?_;refine C3 7 A0 ?_;exact A1 r7 _ _ _ (s42 q)
  ·exact A1 [0,1,2,3,4,7,5,6] _ _ _ (s22 (za q bs.bn))
 refine hj bd b i x 10 [0,1,2,3,9,10,11,12,14,16] (fun q=>[xa c,xb i,xd b,xe x,xh 5 q,xj 6 q]) (fun q=>[ya c b,yd q,yb q]) (fun q=>?_) (fun s20=>?_)
 ·refine B5 [4,5,15] rfl (by simp) ⟨A8 4 A0 (fun bs=>?_) (hob:=fun _=>U9),A8 5 A0 (fun bs=>?_),A8 15 A0 (fun bs=>?_),trivial⟩
  ·exact A1 r7 _ _ _ (s76 q)
  ·refine C4 6 ?_;refine C3 7 A0 ?_;exact A1 r7 _ _ _ (s44 q)
  ·exact A1 [0,1,2,3,4,5,7,6] _ _ _ (s22 (zb q bs.bn))
 refine hj bd b i x 10 [0,1,2,3,9,10,11,12,14,15] (fun q=>[xa c,xb i,xd b,xe x,xh 5 q,xi 6 q]) (fun q=>[ya c b,yd q,ye q]) (fun q=>?_) (fun s21=>?_)
 ·refine B5 [4,5,16] rfl (by simp) ⟨A8 4 A0 (fun bs=>?_) (hob:=fun _=>U9),A8 5 A0 (fun bs=>?_),A8 16 A0 (fun bs=>?_),trivial⟩
  ·exact A1 r7 _ _ _ (s77 q)
  ·refine C4 6 ?_;refine C3 7 A0 ?_;exact A1 r7 _ _ _ (s45 q)
  ·exact A1 r8 _ _ _ (s22 (zc q bs.bn))
 refine hj bd b i x 10 [0,1,2,3,5,6,7,14,15,16] (fun q=>[xa c,xb i,xc b,xh 5 q,xi 6 q,xj 7 q]) (fun q=>[ya c b,yd q,ye q,yb q]) (fun q=>?_) (fun s30=>?_)
 ·refine B5 [4,8,9] rfl (by simp) ⟨A8 4 A0 (fun bs=>?_) (hob:=fun _=>U9),A8 8 A0 (fun bs=>?_),A8 9 A0 (fun bs=>?_),trivial⟩
  ·refine E1 9 A0 ?_;refine C4 10 ?_;refine C3 11 A0 ?_;refine E1 12 A0 ?_;exact A1 r8 _ _ _ (s95 q)
  ·exact A1 r8 _ _ _ (s54 q)
  ·refine C4 10 ?_;refine C3 11 A0 ?_;exact A1 r8 _ _ _ (s38 q)
 refine hj bd b i x 10 [0,1,2,3,5,6,7,9,10,11] (fun q=>[xa c,xb i,xc b,xd b]) (fun q=>[ya c b]) (fun q=>?_) (fun s31=>?_)
 ·refine B5 [4,8,12,14,15,16] rfl (by simp) ⟨A8 4 A0 (fun bs=>?_) (hob:=fun _=>U9),A8 8 A0 (fun bs=>?_),A8 12 A0 (fun bs=>?_),A8 14 A0 (fun bs=>?_),A8 15 A0 (fun bs=>?_),A8 16 A0 (fun bs=>?_),trivial⟩
  ·refine E1 12 A0 ?_;exact A1 r5 _ _ _ (s88 q)
  ·exact A1 r5 _ _ _ (s55 q)
  ·exact A1 r5 _ _ _ (s39 q)
  ·exact A1 r6 _ _ _ (s35 (za q bs.bn))
  ·exact A1 r6 _ _ _ (s33 (zb q bs.bn))
  ·exact A1 r6 _ _ _ (s32 (zc q bs.bn))
 refine hj bd b i x 10 [0,1,2,3,5,6,7,8,15,16] (fun q=>[xa c,xb i,xc b,xg i,xi 5 q,xj 6 q]) (fun q=>[ya c b,ye q,yb q]) (fun q=>?_) (fun s50=>?_)
 ·refine B5 [4,9,14] rfl (by simp) ⟨A8 4 A0 (fun bs=>?_) (hob:=fun _=>U9),A8 9 A0 (fun bs=>?_),A8 14 A0 (fun bs=>?_),trivial⟩
  ·refine E1 9 A0 ?_;refine C4 10 ?_;refine C3 11 A0 ?_;refine E1 12 A0 ?_;exact A1 r7 _ _ _ (s108 q)
  ·refine C4 10 ?_;refine C3 11 A0 ?_;exact A1 r7 _ _ _ (s58 q)
  ·exact A1 [0,1,2,3,4,7,5,6] _ _ _ (s54 (za q bs.bn))
 refine hj bd b i x 10 [0,1,2,3,5,6,7,8,14,16] (fun q=>[xa c,xb i,xc b,xg i,xh 5 q,xj 6 q]) (fun q=>[ya c b,yd q,yb q]) (fun q=>?_) (fun s52=>?_)
 ·refine B5 [4,9,15] rfl (by simp) ⟨A8 4 A0 (fun bs=>?_) (hob:=fun _=>U9),A8 9 A0 (fun bs=>?_),A8 15 A0 (fun bs=>?_),trivial⟩
  ·refine E1 9 A0 ?_;refine C4 10 ?_;refine C3 11 A0 ?_;refine E1 12 A0 ?_;exact A1 r7 _ _ _ (s110 q)
  ·refine C4 10 ?_;refine C3 11 A0 ?_;exact A1 r7 _ _ _ (s60 q)
  ·exact A1 [0,1,2,3,4,5,7,6] _ _ _ (s54 (zb q bs.bn))
 refine hj bd b i x 10 [0,1,2,3,5,6,7,8,14,15] (fun q=>[xa c,xb i,xc b,xg i,xh 5 q,xi 6 q]) (fun q=>[ya c b,yd q,ye q]) (fun q=>?_) (fun s53=>?_)
 ·refine B5 [4,9,16] rfl (by simp) ⟨A8 4 A0 (fun bs=>?_) (hob:=fun _=>U9),A8 9 A0 (fun bs=>?_),A8 16 A0 (fun bs=>?_),trivial⟩
  ·refine E1 9 A0 ?_;refine C4 10 ?_;refine C3 11 A0 ?_;refine E1 12 A0 ?_;exact A1 r7 _ _ _ (s111 q)
  ·refine C4 10 ?_;refine C3 11 A0 ?_;exact A1 r7 _ _ _ (s61 q)
  ·exact A1 r8 _ _ _ (s54 (zc q bs.bn))
 refine hj bd b i x 10 [0,1,2,3,4,9,10,11,12,16] (fun q=>[xa c,xb i,xd b,xe x,xf i,xj 5 q]) (fun q=>[ya c b,yb q]) (fun q=>?_) (fun s72=>?_)
 ·refine B5 [5,13,14,15] rfl (by simp) ⟨A8 5 A0 (fun bs=>?_),?_,A8 14 A0 (fun bs=>?_),A8 15 A0 (fun bs=>?_),trivial⟩
  ·refine C4 6 ?_;refine C3 7 A0 ?_;exact A1 r6 _ _ _ (s89 q)
  ·refine F1 [2] (fun n=>n-2) (U5 x.bk i.k q.1 (by omega)) rfl rfl trivial rfl rfl rfl rfl (by decide) rfl rfl (fun x=>rfl) (fun z _=>?_);exact A1 [0,1,2,3,4,6,5] _ _ _ (s80 (z.1,z.2.1,z.2.2,q.2.2.2))
  ·exact A1 [0,1,2,3,4,6,5] _ _ _ (s76 (za q bs.bn))
  ·exact A1 [0,1,2,3,4,6,5] _ _ _ (s74 (zb q bs.bn))
 refine hj bd b i x 10 [0,1,2,3,4,9,10,11,12,15] (fun q=>[xa c,xb i,xd b,xe x,xf i,xi 5 q]) (fun q=>[ya c b,ye q]) (fun q=>?_) (fun s73=>?_)
 ·refine B5 [5,13,14,16] rfl (by simp) ⟨A8 5 A0 (fun bs=>?_),?_,A8 14 A0 (fun bs=>?_),A8 16 A0 (fun bs=>?_),trivial⟩
  ·refine C4 6 ?_;refine C3 7 A0 ?_;exact A1 r6 _ _ _ (s90 q)
  ·refine F1 [2] (fun n=>n-2) (U5 x.bk i.k q.1 (by omega)) rfl rfl trivial rfl rfl rfl rfl (by decide) rfl rfl (fun x=>rfl) (fun z _=>?_);exact A1 [0,1,2,3,4,6,5] _ _ _ (s81 (z.1,z.2.1,z.2.2,q.2.2.2))
  ·exact A1 [0,1,2,3,4,6,5] _ _ _ (s77 (za q bs.bn))
  ·exact A1 r7 _ _ _ (s74 (zc q bs.bn))
 refine hj bd b i x 10 [0,1,2,3,4,9,10,11,12,14] (fun q=>[xa c,xb i,xd b,xe x,xf i,xh 5 q]) (fun q=>[ya c b,yd q]) (fun q=>?_) (fun s75=>?_)
 ·refine B5 [5,13,15,16] rfl (by simp) ⟨A8 5 A0 (fun bs=>?_),?_,A8 15 A0 (fun bs=>?_),A8 16 A0 (fun bs=>?_),trivial⟩
  ·refine C4 6 ?_;refine C3 7 A0 ?_;exact A1 r6 _ _ _ (s92 q)
  ·refine F1 [2] (fun n=>n-2) (U5 x.bk i.k q.1 (by omega)) rfl rfl trivial rfl rfl rfl rfl (by decide) rfl rfl (fun x=>rfl) (fun z _=>?_);exact A1 [0,1,2,3,4,6,5] _ _ _ (s83 (z.1,z.2.1,z.2.2,q.2.2.2))
  ·exact A1 r7 _ _ _ (s77 (zb q bs.bn))
  ·exact A1 r7 _ _ _ (s76 (zc q bs.bn))
 refine hj bd b i x 10 [0,1,2,3,4,9,10,11,12,13] (fun q=>[xa c,xb i,xd b,xe x,xf i,xk 5 q]) (fun q=>[ya c b,yc q i]) (fun q=>?_) (fun s79=>?_)
 ·refine B5 [5,14,15,16] rfl (by simp) ⟨A8 5 A0 (fun bs=>?_),A8 14 A0 (fun bs=>?_),A8 15 A0 (fun bs=>?_),A8 16 A0 (fun bs=>?_),trivial⟩
  ·refine C4 6 ?_;refine C3 7 A0 ?_;exact A1 r6 _ _ _ (s96 q)
  ·exact A1 r7 _ _ _ (s83 (za q bs.bn))
  ·exact A1 r7 _ _ _ (s81 (zb q bs.bn))
  ·exact A1 r7 _ _ _ (s80 (zc q bs.bn))
 refine hj bd b i x 11 [0,1,2,3,9,10,11,15,16] (fun q=>[xa c,xb i,xd b,xi 5 q,xj 6 q]) (fun q=>[ya c b,ye q,yb q]) (fun q=>?_) (fun s10=>?_)
 ·refine B5 [4,5,12,14] rfl (by simp) ⟨A8 4 A0 (fun bs=>?_) (hob:=fun _=>U9),A8 5 A0 (fun bs=>?_),A8 12 A0 (fun bs=>?_),A8 14 A0 (fun bs=>?_),trivial⟩
  ·refine E1 12 A0 ?_;exact A1 r7 _ _ _ (s74 q)
  ·refine C4 6 ?_;refine C3 7 A0 ?_;exact A1 r7 _ _ _ (s34 q)
  ·exact A1 r7 _ _ _ (s18 q)
  ·exact A1 [0,1,2,3,4,7,5,6] _ _ _ (s14 (za q bs.bn))
 refine hj bd b i x 11 [0,1,2,3,9,10,11,14,16] (fun q=>[xa c,xb i,xd b,xh 5 q,xj 6 q]) (fun q=>[ya c b,yd q,yb q]) (fun q=>?_) (fun s12=>?_)
 ·refine B5 [4,5,12,15] rfl (by simp) ⟨A8 4 A0 (fun bs=>?_) (hob:=fun _=>U9),A8 5 A0 (fun bs=>?_),A8 12 A0 (fun bs=>?_),A8 15 A0 (fun bs=>?_),trivial⟩
  ·refine E1 12 A0 ?_;exact A1 r7 _ _ _ (s76 q)
  ·refine C4 6 ?_;refine C3 7 A0 ?_;exact A1 r7 _ _ _ (s36 q)
  ·exact A1 r7 _ _ _ (s20 q)
  ·exact A1 [0,1,2,3,4,5,7,6] _ _ _ (s14 (zb q bs.bn))
 refine hj bd b i x 11 [0,1,2,3,9,10,11,14,15] (fun q=>[xa c,xb i,xd b,xh 5 q,xi 6 q]) (fun q=>[ya c b,yd q,ye q]) (fun q=>?_) (fun s13=>?_)
 ·refine B5 [4,5,12,16] rfl (by simp) ⟨A8 4 A0 (fun bs=>?_) (hob:=fun _=>U9),A8 5 A0 (fun bs=>?_),A8 12 A0 (fun bs=>?_),A8 16 A0 (fun bs=>?_),trivial⟩
  ·refine E1 12 A0 ?_;exact A1 r7 _ _ _ (s77 q)
  ·refine C4 6 ?_;refine C3 7 A0 ?_;exact A1 r7 _ _ _ (s37 q)
  ·exact A1 r7 _ _ _ (s21 q)
  ·exact A1 r8 _ _ _ (s14 (zc q bs.bn))
 refine hj bd b i x 11 [0,1,2,3,9,10,11,12,16] (fun q=>[xa c,xb i,xd b,xe x,xj 5 q]) (fun q=>[ya c b,yb q]) (fun q=>?_) (fun s16=>?_)
 ·refine B5 [4,5,14,15] rfl (by simp) ⟨A8 4 A0 (fun bs=>?_) (hob:=fun _=>U9),A8 5 A0 (fun bs=>?_),A8 14 A0 (fun bs=>?_),A8 15 A0 (fun bs=>?_),trivial⟩
  ·exact A1 r6 _ _ _ (s72 q)
  ·refine C4 6 ?_;refine C3 7 A0 ?_;exact A1 r6 _ _ _ (s40 q)
  ·exact A1 [0,1,2,3,4,6,5] _ _ _ (s20 (za q bs.bn))
  ·exact A1 [0,1,2,3,4,6,5] _ _ _ (s18 (zb q bs.bn))
 refine hj bd b i x 11 [0,1,2,3,9,10,11,12,15] (fun q=>[xa c,xb i,xd b,xe x,xi 5 q]) (fun q=>[ya c b,ye q]) (fun q=>?_) (fun s17=>?_)
 ·refine B5 [4,5,14,16] rfl (by simp) ⟨A8 4 A0 (fun bs=>?_) (hob:=fun _=>U9),A8 5 A0 (fun bs=>?_),A8 14 A0 (fun bs=>?_),A8 16 A0 (fun bs=>?_),trivial⟩
  ·exact A1 r6 _ _ _ (s73 q)
  ·refine C4 6 ?_;refine C3 7 A0 ?_;exact A1 r6 _ _ _ (s41 q)
  ·exact A1 [0,1,2,3,4,6,5] _ _ _ (s21 (za q bs.bn))
  ·exact A1 r7 _ _ _ (s18 (zc q bs.bn))
 refine hj bd b i x 11 [0,1,2,3,9,10,11,12,14] (fun q=>[xa c,xb i,xd b,xe x,xh 5 q]) (fun q=>[ya c b,yd q]) (fun q=>?_) (fun s19=>?_)
 ·refine B5 [4,5,15,16] rfl (by simp) ⟨A8 4 A0 (fun bs=>?_) (hob:=fun _=>U9),A8 5 A0 (fun bs=>?_),A8 15 A0 (fun bs=>?_),A8 16 A0 (fun bs=>?_),trivial⟩
  ·exact A1 r6 _ _ _ (s75 q)
  ·refine C4 6 ?_;refine C3 7 A0 ?_;exact A1 r6 _ _ _ (s43 q)
  ·exact A1 r7 _ _ _ (s21 (zb q bs.bn))
  ·exact A1 r7 _ _ _ (s20 (zc q bs.bn))
 refine hj bd b i x 11 [0,1,2,3,5,6,7,15,16] (fun q=>[xa c,xb i,xc b,xi 5 q,xj 6 q]) (fun q=>[ya c b,ye q,yb q]) (fun q=>?_) (fun s26=>?_)
 ·refine B5 [4,8,9,14] rfl (by simp) ⟨A8 4 A0 (fun bs=>?_) (hob:=fun _=>U9),A8 8 A0 (fun bs=>?_),A8 9 A0 (fun bs=>?_),A8 14 A0 (fun bs=>?_),trivial⟩
  ·refine E1 9 A0 ?_;refine C4 10 ?_;refine C3 11 A0 ?_;refine E1 12 A0 ?_;exact A1 r7 _ _ _ (s91 q)
  ·exact A1 r7 _ _ _ (s50 q)
  ·refine C4 10 ?_;refine C3 11 A0 ?_;exact A1 r7 _ _ _ (s34 q)
  ·exact A1 [0,1,2,3,4,7,5,6] _ _ _ (s30 (za q bs.bn))
 refine hj bd b i x 11 [0,1,2,3,5,6,7,14,16] (fun q=>[xa c,xb i,xc b,xh 5 q,xj 6 q]) (fun q=>[ya c b,yd q,yb q]) (fun q=>?_) (fun s28=>?_)
 ·refine B5 [4,8,9,15] rfl (by simp) ⟨A8 4 A0 (fun bs=>?_) (hob:=fun _=>U9),A8 8 A0 (fun bs=>?_),A8 9 A0 (fun bs=>?_),A8 15 A0 (fun bs=>?_),trivial⟩
  ·refine E1 9 A0 ?_;refine C4 10 ?_;refine C3 11 A0 ?_;refine E1 12 A0 ?_;exact A1 r7 _ _ _ (s93 q)
  ·exact A1 r7 _ _ _ (s52 q)
  ·refine C4 10 ?_;refine C3 11 A0 ?_;exact A1 r7 _ _ _ (s36 q)
  ·exact A1 [0,1,2,3,4,5,7,6] _ _ _ (s30 (zb q bs.bn))
 refine hj bd b i x 11 [0,1,2,3,5,6,7,14,15] (fun q=>[xa c,xb i,xc b,xh 5 q,xi 6 q]) (fun q=>[ya c b,yd q,ye q]) (fun q=>?_) (fun s29=>?_)
 ·refine B5 [4,8,9,16] rfl (by simp) ⟨A8 4 A0 (fun bs=>?_) (hob:=fun _=>U9),A8 8 A0 (fun bs=>?_),A8 9 A0 (fun bs=>?_),A8 16 A0 (fun bs=>?_),trivial⟩
  ·refine E1 9 A0 ?_;refine C4 10 ?_;refine C3 11 A0 ?_;refine E1 12 A0 ?_;exact A1 r7 _ _ _ (s94 q)
  ·exact A1 r7 _ _ _ (s53 q)
  ·refine C4 10 ?_;refine C3 11 A0 ?_;exact A1 r7 _ _ _ (s37 q)
  ·exact A1 r8 _ _ _ (s30 (zc q bs.bn))
 refine hj bd b i x 11 [0,1,2,3,5,6,7,8,16] (fun q=>[xa c,xb i,xc b,xg i,xj 5 q]) (fun q=>[ya c b,yb q]) (fun q=>?_) (fun s48=>?_)
 ·refine B5 [4,9,14,15] rfl (by simp) ⟨A8 4 A0 (fun bs=>?_) (hob:=fun _=>U9),A8 9 A0 (fun bs=>?_),A8 14 A0 (fun bs=>?_),A8 15 A0 (fun bs=>?_),trivial⟩
  ·refine E1 9 A0 ?_;refine C4 10 ?_;refine C3 11 A0 ?_;refine E1 12 A0 ?_;exact A1 r6 _ _ _ (s106 q)
  ·refine C4 10 ?_;refine C3 11 A0 ?_;exact A1 r6 _ _ _ (s56 q)
  ·exact A1 [0,1,2,3,4,6,5] _ _ _ (s52 (za q bs.bn))
  ·exact A1 [0,1,2,3,4,6,5] _ _ _ (s50 (zb q bs.bn))
 refine hj bd b i x 11 [0,1,2,3,5,6,7,8,15] (fun q=>[xa c,xb i,xc b,xg i,xi 5 q]) (fun q=>[ya c b,ye q]) (fun q=>?_) (fun s49=>?_)
 ·refine B5 [4,9,14,16] rfl (by simp) ⟨A8 4 A0 (fun bs=>?_) (hob:=fun _=>U9),A8 9 A0 (fun bs=>?_),A8 14 A0 (fun bs=>?_),A8 16 A0 (fun bs=>?_),trivial⟩
  ·refine E1 9 A0 ?_;refine C4 10 ?_;refine C3 11 A0 ?_;refine E1 12 A0 ?_;exact A1 r6 _ _ _ (s107 q)
  ·refine C4 10 ?_;refine C3 11 A0 ?_;exact A1 r6 _ _ _ (s57 q)
  ·exact A1 [0,1,2,3,4,6,5] _ _ _ (s53 (za q bs.bn))
  ·exact A1 r7 _ _ _ (s50 (zc q bs.bn))
 refine hj bd b i x 11 [0,1,2,3,5,6,7,8,14] (fun q=>[xa c,xb i,xc b,xg i,xh 5 q]) (fun q=>[ya c b,yd q]) (fun q=>?_) (fun s51=>?_)
 ·refine B5 [4,9,15,16] rfl (by simp) ⟨A8 4 A0 (fun bs=>?_) (hob:=fun _=>U9),A8 9 A0 (fun bs=>?_),A8 15 A0 (fun bs=>?_),A8 16 A0 (fun bs=>?_),trivial⟩
  ·refine E1 9 A0 ?_;refine C4 10 ?_;refine C3 11 A0 ?_;refine E1 12 A0 ?_;exact A1 r6 _ _ _ (s109 q)
  ·refine C4 10 ?_;refine C3 11 A0 ?_;exact A1 r6 _ _ _ (s59 q)
  ·exact A1 r7 _ _ _ (s53 (zb q bs.bn))
  ·exact A1 r7 _ _ _ (s52 (zc q bs.bn))
 refine hj bd b i x 11 [0,1,2,3,4,9,10,11,12] (fun q=>[xa c,xb i,xd b,xe x,xf i]) (fun q=>[ya c b]) (fun q=>?_) (fun s71=>?_)
 ·refine B5 [5,13,14,15,16] rfl (by simp) ⟨A8 5 A0 (fun bs=>?_),?_,A8 14 A0 (fun bs=>?_),A8 15 A0 (fun bs=>?_),A8 16 A0 (fun bs=>?_),trivial⟩
  ·refine C4 6 ?_;refine C3 7 A0 ?_;exact A1 r5 _ _ _ (s88 q)
  ·refine F1 [2] (fun n=>n-2) (U5 x.bk i.k q.1 (by omega)) rfl rfl trivial rfl rfl rfl rfl (by decide) rfl rfl (fun x=>rfl) (fun z _=>?_);exact A1 r6 _ _ _ (s79 (z.1,z.2.1,z.2.2,q.2.2.2))
  ·exact A1 r6 _ _ _ (s75 (za q bs.bn))
  ·exact A1 r6 _ _ _ (s73 (zb q bs.bn))
  ·exact A1 r6 _ _ _ (s72 (zc q bs.bn))
 refine hj bd b i x 12 [0,1,2,3,9,10,11,16] (fun q=>[xa c,xb i,xd b,xj 5 q]) (fun q=>[ya c b,yb q]) (fun q=>?_) (fun s8=>?_)
 ·refine B5 [4,5,12,14,15] rfl (by simp) ⟨A8 4 A0 (fun bs=>?_) (hob:=fun _=>U9),A8 5 A0 (fun bs=>?_),A8 12 A0 (fun bs=>?_),A8 14 A0 (fun bs=>?_),A8 15 A0 (fun bs=>?_),trivial⟩
  ·refine E1 12 A0 ?_;exact A1 r6 _ _ _ (s72 q)
  ·refine C4 6 ?_;refine C3 7 A0 ?_;exact A1 r6 _ _ _ (s32 q)
  ·exact A1 r6 _ _ _ (s16 q)
  ·exact A1 [0,1,2,3,4,6,5] _ _ _ (s12 (za q bs.bn))
  ·exact A1 [0,1,2,3,4,6,5] _ _ _ (s10 (zb q bs.bn))
 refine hj bd b i x 12 [0,1,2,3,9,10,11,15] (fun q=>[xa c,xb i,xd b,xi 5 q]) (fun q=>[ya c b,ye q]) (fun q=>?_) (fun s9=>?_)
 ·refine B5 [4,5,12,14,16] rfl (by simp) ⟨A8 4 A0 (fun bs=>?_) (hob:=fun _=>U9),A8 5 A0 (fun bs=>?_),A8 12 A0 (fun bs=>?_),A8 14 A0 (fun bs=>?_),A8 16 A0 (fun bs=>?_),trivial⟩
  ·refine E1 12 A0 ?_;exact A1 r6 _ _ _ (s73 q)
  ·refine C4 6 ?_;refine C3 7 A0 ?_;exact A1 r6 _ _ _ (s33 q)
  ·exact A1 r6 _ _ _ (s17 q)
  ·exact A1 [0,1,2,3,4,6,5] _ _ _ (s13 (za q bs.bn))
  ·exact A1 r7 _ _ _ (s10 (zc q bs.bn))
 refine hj bd b i x 12 [0,1,2,3,9,10,11,14] (fun q=>[xa c,xb i,xd b,xh 5 q]) (fun q=>[ya c b,yd q]) (fun q=>?_) (fun s11=>?_)
 ·refine B5 [4,5,12,15,16] rfl (by simp) ⟨A8 4 A0 (fun bs=>?_) (hob:=fun _=>U9),A8 5 A0 (fun bs=>?_),A8 12 A0 (fun bs=>?_),A8 15 A0 (fun bs=>?_),A8 16 A0 (fun bs=>?_),trivial⟩
  ·refine E1 12 A0 ?_;exact A1 r6 _ _ _ (s75 q)
  ·refine C4 6 ?_;refine C3 7 A0 ?_;exact A1 r6 _ _ _ (s35 q)
  ·exact A1 r6 _ _ _ (s19 q)
  ·exact A1 r7 _ _ _ (s13 (zb q bs.bn))
  ·exact A1 r7 _ _ _ (s12 (zc q bs.bn))
 refine hj bd b i x 12 [0,1,2,3,9,10,11,12] (fun q=>[xa c,xb i,xd b,xe x]) (fun q=>[ya c b]) (fun q=>?_) (fun s15=>?_)
 ·refine B5 [4,5,14,15,16] rfl (by simp) ⟨A8 4 A0 (fun bs=>?_) (hob:=fun _=>U9),A8 5 A0 (fun bs=>?_),A8 14 A0 (fun bs=>?_),A8 15 A0 (fun bs=>?_),A8 16 A0 (fun bs=>?_),trivial⟩
  ·exact A1 r5 _ _ _ (s71 q)
  ·refine C4 6 ?_;refine C3 7 A0 ?_;exact A1 r5 _ _ _ (s39 q)
  ·exact A1 r6 _ _ _ (s19 (za q bs.bn))
  ·exact A1 r6 _ _ _ (s17 (zb q bs.bn))
  ·exact A1 r6 _ _ _ (s16 (zc q bs.bn))
 refine hj bd b i x 12 [0,1,2,3,5,6,7,16] (fun q=>[xa c,xb i,xc b,xj 5 q]) (fun q=>[ya c b,yb q]) (fun q=>?_) (fun s24=>?_)
 ·refine B5 [4,8,9,14,15] rfl (by simp) ⟨A8 4 A0 (fun bs=>?_) (hob:=fun _=>U9),A8 8 A0 (fun bs=>?_),A8 9 A0 (fun bs=>?_),A8 14 A0 (fun bs=>?_),A8 15 A0 (fun bs=>?_),trivial⟩
  ·refine E1 9 A0 ?_;refine C4 10 ?_;refine C3 11 A0 ?_;refine E1 12 A0 ?_;exact A1 r6 _ _ _ (s89 q)
  ·exact A1 r6 _ _ _ (s48 q)
  ·refine C4 10 ?_;refine C3 11 A0 ?_;exact A1 r6 _ _ _ (s32 q)
  ·exact A1 [0,1,2,3,4,6,5] _ _ _ (s28 (za q bs.bn))
  ·exact A1 [0,1,2,3,4,6,5] _ _ _ (s26 (zb q bs.bn))
 refine hj bd b i x 12 [0,1,2,3,5,6,7,15] (fun q=>[xa c,xb i,xc b,xi 5 q]) (fun q=>[ya c b,ye q]) (fun q=>?_) (fun s25=>?_)
 ·refine B5 [4,8,9,14,16] rfl (by simp) ⟨A8 4 A0 (fun bs=>?_) (hob:=fun _=>U9),A8 8 A0 (fun bs=>?_),A8 9 A0 (fun bs=>?_),A8 14 A0 (fun bs=>?_),A8 16 A0 (fun bs=>?_),trivial⟩
  ·refine E1 9 A0 ?_;refine C4 10 ?_;refine C3 11 A0 ?_;refine E1 12 A0 ?_;exact A1 r6 _ _ _ (s90 q)
  ·exact A1 r6 _ _ _ (s49 q)
  ·refine C4 10 ?_;refine C3 11 A0 ?_;exact A1 r6 _ _ _ (s33 q)
  ·exact A1 [0,1,2,3,4,6,5] _ _ _ (s29 (za q bs.bn))
  ·exact A1 r7 _ _ _ (s26 (zc q bs.bn))
 refine hj bd b i x 12 [0,1,2,3,5,6,7,14] (fun q=>[xa c,xb i,xc b,xh 5 q]) (fun q=>[ya c b,yd q]) (fun q=>?_) (fun s27=>?_)
 ·refine B5 [4,8,9,15,16] rfl (by simp) ⟨A8 4 A0 (fun bs=>?_) (hob:=fun _=>U9),A8 8 A0 (fun bs=>?_),A8 9 A0 (fun bs=>?_),A8 15 A0 (fun bs=>?_),A8 16 A0 (fun bs=>?_),trivial⟩
  ·refine E1 9 A0 ?_;refine C4 10 ?_;refine C3 11 A0 ?_;refine E1 12 A0 ?_;exact A1 r6 _ _ _ (s92 q)
  ·exact A1 r6 _ _ _ (s51 q)
  ·refine C4 10 ?_;refine C3 11 A0 ?_;exact A1 r6 _ _ _ (s35 q)
  ·exact A1 r7 _ _ _ (s29 (zb q bs.bn))
  ·exact A1 r7 _ _ _ (s28 (zc q bs.bn))
 refine hj bd b i x 12 [0,1,2,3,5,6,7,8] (fun q=>[xa c,xb i,xc b,xg i]) (fun q=>[ya c b]) (fun q=>?_) (fun s47=>?_)
 ·refine B5 [4,9,14,15,16] rfl (by simp) ⟨A8 4 A0 (fun bs=>?_) (hob:=fun _=>U9),A8 9 A0 (fun bs=>?_),A8 14 A0 (fun bs=>?_),A8 15 A0 (fun bs=>?_),A8 16 A0 (fun bs=>?_),trivial⟩
  ·refine E1 9 A0 ?_;refine C4 10 ?_;refine C3 11 A0 ?_;refine E1 12 A0 ?_;exact A1 r5 _ _ _ (s105 q)
  ·refine C4 10 ?_;refine C3 11 A0 ?_;exact A1 r5 _ _ _ (s55 q)
  ·exact A1 r6 _ _ _ (s51 (za q bs.bn))
  ·exact A1 r6 _ _ _ (s49 (zb q bs.bn))
  ·exact A1 r6 _ _ _ (s48 (zc q bs.bn))
 refine hj bd b i x 13 [0,1,2,3,14,15,16] (fun q=>[xa c,xb i,xh 5 q,xi 6 q,xj 7 q]) (fun q=>[ya c b,yd q,ye q,yb q]) (fun q=>?_) (fun s6=>?_)
 ·refine B5 [4,5,9] rfl (by simp) ⟨A8 4 A0 (fun bs=>?_) (hob:=fun _=>U9),A8 5 A0 (fun bs=>?_),A8 9 A0 (fun bs=>?_),trivial⟩
  ·refine E1 9 A0 ?_;refine C4 10 ?_;refine C3 11 A0 ?_;refine E1 12 A0 ?_;exact A1 r8 _ _ _ (s78 q)
  ·refine C4 6 ?_;refine C3 7 A0 ?_;exact A1 r8 _ _ _ (s30 q)
  ·refine C4 10 ?_;refine C3 11 A0 ?_;exact A1 r8 _ _ _ (s14 q)
 refine hj bd b i x 13 [0,1,2,3,9,10,11] (fun q=>[xa c,xb i,xd b]) (fun q=>[ya c b]) (fun q=>?_) (fun s7=>?_)
 ·refine B5 [4,5,12,14,15,16] rfl (by simp) ⟨A8 4 A0 (fun bs=>?_) (hob:=fun _=>U9),A8 5 A0 (fun bs=>?_),A8 12 A0 (fun bs=>?_),A8 14 A0 (fun bs=>?_),A8 15 A0 (fun bs=>?_),A8 16 A0 (fun bs=>?_),trivial⟩
  ·refine E1 12 A0 ?_;exact A1 r5 _ _ _ (s71 q)
  ·refine C4 6 ?_;refine C3 7 A0 ?_;exact A1 r5 _ _ _ (s31 q)
  ·exact A1 r5 _ _ _ (s15 q)
  ·exact A1 r6 _ _ _ (s11 (za q bs.bn))
  ·exact A1 r6 _ _ _ (s9 (zb q bs.bn))
  ·exact A1 r6 _ _ _ (s8 (zc q bs.bn))
 refine hj bd b i x 13 [0,1,2,3,5,6,7] (fun q=>[xa c,xb i,xc b]) (fun q=>[ya c b]) (fun q=>?_) (fun s23=>?_)
 ·refine B5 [4,8,9,14,15,16] rfl (by simp) ⟨A8 4 A0 (fun bs=>?_) (hob:=fun _=>U9),A8 8 A0 (fun bs=>?_),A8 9 A0 (fun bs=>?_),A8 14 A0 (fun bs=>?_),A8 15 A0 (fun bs=>?_),A8 16 A0 (fun bs=>?_),trivial⟩
  ·refine E1 9 A0 ?_;refine C4 10 ?_;refine C3 11 A0 ?_;refine E1 12 A0 ?_;exact A1 r5 _ _ _ (s88 q)
  ·exact A1 r5 _ _ _ (s47 q)
  ·refine C4 10 ?_;refine C3 11 A0 ?_;exact A1 r5 _ _ _ (s31 q)
  ·exact A1 r6 _ _ _ (s27 (za q bs.bn))
  ·exact A1 r6 _ _ _ (s25 (zb q bs.bn))
  ·exact A1 r6 _ _ _ (s24 (zc q bs.bn))
 refine hj bd b i x 14 [0,1,2,3,15,16] (fun q=>[xa c,xb i,xi 5 q,xj 6 q]) (fun q=>[ya c b,ye q,yb q]) (fun q=>?_) (fun s2=>?_)
 ·refine B5 [4,5,9,14] rfl (by simp) ⟨A8 4 A0 (fun bs=>?_) (hob:=fun _=>U9),A8 5 A0 (fun bs=>?_),A8 9 A0 (fun bs=>?_),A8 14 A0 (fun bs=>?_),trivial⟩
  ·refine E1 9 A0 ?_;refine C4 10 ?_;refine C3 11 A0 ?_;refine E1 12 A0 ?_;exact A1 r7 _ _ _ (s74 q)
  ·refine C4 6 ?_;refine C3 7 A0 ?_;exact A1 r7 _ _ _ (s26 q)
  ·refine C4 10 ?_;refine C3 11 A0 ?_;exact A1 r7 _ _ _ (s10 q)
  ·exact A1 [0,1,2,3,4,7,5,6] _ _ _ (s6 (za q bs.bn))
 refine hj bd b i x 14 [0,1,2,3,14,16] (fun q=>[xa c,xb i,xh 5 q,xj 6 q]) (fun q=>[ya c b,yd q,yb q]) (fun q=>?_) (fun s4=>?_)
 ·refine B5 [4,5,9,15] rfl (by simp) ⟨A8 4 A0 (fun bs=>?_) (hob:=fun _=>U9),A8 5 A0 (fun bs=>?_),A8 9 A0 (fun bs=>?_),A8 15 A0 (fun bs=>?_),trivial⟩
  ·refine E1 9 A0 ?_;refine C4 10 ?_;refine C3 11 A0 ?_;refine E1 12 A0 ?_;exact A1 r7 _ _ _ (s76 q)
  ·refine C4 6 ?_;refine C3 7 A0 ?_;exact A1 r7 _ _ _ (s28 q)
  ·refine C4 10 ?_;refine C3 11 A0 ?_;exact A1 r7 _ _ _ (s12 q)
  ·exact A1 [0,1,2,3,4,5,7,6] _ _ _ (s6 (zb q bs.bn))
 refine hj bd b i x 14 [0,1,2,3,14,15] (fun q=>[xa c,xb i,xh 5 q,xi 6 q]) (fun q=>[ya c b,yd q,ye q]) (fun q=>?_) (fun s5=>?_)
 ·refine B5 [4,5,9,16] rfl (by simp) ⟨A8 4 A0 (fun bs=>?_) (hob:=fun _=>U9),A8 5 A0 (fun bs=>?_),A8 9 A0 (fun bs=>?_),A8 16 A0 (fun bs=>?_),trivial⟩
  ·refine E1 9 A0 ?_;refine C4 10 ?_;refine C3 11 A0 ?_;refine E1 12 A0 ?_;exact A1 r7 _ _ _ (s77 q)
  ·refine C4 6 ?_;refine C3 7 A0 ?_;exact A1 r7 _ _ _ (s29 q)
  ·refine C4 10 ?_;refine C3 11 A0 ?_;exact A1 r7 _ _ _ (s13 q)
  ·exact A1 r8 _ _ _ (s6 (zc q bs.bn))
 refine hj bd b i x 15 [0,1,2,3,16] (fun q=>[xa c,xb i,xj 5 q]) (fun q=>[ya c b,yb q]) (fun q=>?_) (fun s0=>?_)
 ·refine B5 [4,5,9,14,15] rfl (by simp) ⟨A8 4 A0 (fun bs=>?_) (hob:=fun _=>U9),A8 5 A0 (fun bs=>?_),A8 9 A0 (fun bs=>?_),A8 14 A0 (fun bs=>?_),A8 15 A0 (fun bs=>?_),trivial⟩
  ·refine E1 9 A0 ?_;refine C4 10 ?_;refine C3 11 A0 ?_;refine E1 12 A0 ?_;exact A1 r6 _ _ _ (s72 q)
  ·refine C4 6 ?_;refine C3 7 A0 ?_;exact A1 r6 _ _ _ (s24 q)
  ·refine C4 10 ?_;refine C3 11 A0 ?_;exact A1 r6 _ _ _ (s8 q)
  ·exact A1 [0,1,2,3,4,6,5] _ _ _ (s4 (za q bs.bn))
  ·exact A1 [0,1,2,3,4,6,5] _ _ _ (s2 (zb q bs.bn))
 refine hj bd b i x 15 [0,1,2,3,15] (fun q=>[xa c,xb i,xi 5 q]) (fun q=>[ya c b,ye q]) (fun q=>?_) (fun s1=>?_)
 ·refine B5 [4,5,9,14,16] rfl (by simp) ⟨A8 4 A0 (fun bs=>?_) (hob:=fun _=>U9),A8 5 A0 (fun bs=>?_),A8 9 A0 (fun bs=>?_),A8 14 A0 (fun bs=>?_),A8 16 A0 (fun bs=>?_),trivial⟩
  ·refine E1 9 A0 ?_;refine C4 10 ?_;refine C3 11 A0 ?_;refine E1 12 A0 ?_;exact A1 r6 _ _ _ (s73 q)
  ·refine C4 6 ?_;refine C3 7 A0 ?_;exact A1 r6 _ _ _ (s25 q)
  ·refine C4 10 ?_;refine C3 11 A0 ?_;exact A1 r6 _ _ _ (s9 q)
  ·exact A1 [0,1,2,3,4,6,5] _ _ _ (s5 (za q bs.bn))
  ·exact A1 r7 _ _ _ (s2 (zc q bs.bn))
 refine hj bd b i x 15 [0,1,2,3,14] (fun q=>[xa c,xb i,xh 5 q]) (fun q=>[ya c b,yd q]) (fun q=>?_) (fun s3=>?_)
 ·refine B5 [4,5,9,15,16] rfl (by simp) ⟨A8 4 A0 (fun bs=>?_) (hob:=fun _=>U9),A8 5 A0 (fun bs=>?_),A8 9 A0 (fun bs=>?_),A8 15 A0 (fun bs=>?_),A8 16 A0 (fun bs=>?_),trivial⟩
  ·refine E1 9 A0 ?_;refine C4 10 ?_;refine C3 11 A0 ?_;refine E1 12 A0 ?_;exact A1 r6 _ _ _ (s75 q)
  ·refine C4 6 ?_;refine C3 7 A0 ?_;exact A1 r6 _ _ _ (s27 q)
  ·refine C4 10 ?_;refine C3 11 A0 ?_;exact A1 r6 _ _ _ (s11 q)
  ·exact A1 r7 _ _ _ (s5 (zb q bs.bn))
  ·exact A1 r7 _ _ _ (s4 (zc q bs.bn))
 refine B5 [4,5,9,14,15,16] rfl (by simp) ⟨A8 4 A0 (fun bs=>?_) (hob:=fun _=>U9),A8 5 A0 (fun bs=>?_),A8 9 A0 (fun bs=>?_),A8 14 A0 (fun bs=>?_),A8 15 A0 (fun bs=>?_),A8 16 A0 (fun bs=>?_),trivial⟩
 ·refine E1 9 A0 ?_;refine C4 10 ?_;refine C3 11 A0 ?_;refine E1 12 A0 ?_;exact A1 r5 _ _ _ (s71 q)
 ·refine C4 6 ?_;refine C3 7 A0 ?_;exact A1 r5 _ _ _ (s23 q)
 ·refine C4 10 ?_;refine C3 11 A0 ?_;exact A1 r5 _ _ _ (s7 q)
 ·exact A1 r6 _ _ _ (s3 (za q bs.bn))
 ·exact A1 r6 _ _ _ (s1 (zb q bs.bn))
 ·exact A1 r6 _ _ _ (s0 (zc q bs.bn))
end
def L7 (i:Q9) (l:List U7):Q9:=⟨i.nm,i.m,i.kept,l,i.last,i.ch,i.k,i.gs⟩
structure HdX where
 T:Nat→Prop
 m:Nat
 h:Nat
 kp:Nat
 c:Nat
 n:Nat
 bk:Nat
 S:Nat→Prop
def B7q (bd b:Nat) (i:Q9) (m0:U7) (ch0:Bool) (k0:Nat) (len:Int) (y:HdX):List HB:=
 [K2 bd b i y.T,.blk y.m 82 (jB m0),.blk y.h 4 [.pv (bv ch0)],.blk y.kp 136 [.ptr 6 y.bk 0],.blk y.c 56 [.ptr 0 b 0],.blk y.n 3 [.pv (i64 len)],iP y.bk k0 y.S]
abbrev C5Y (y:HdX):A:= .c (.clo 183 [.ptr 1 y.m 0,.ptr 2 y.h 0,.ptr 3 y.kp 0,.ptr 4 y.c 0,.ptr 5 y.n 0])
def uA:E4:=⟨T,R1,A7,A9,39,[],none,.f⟩
theorem B3X:B3 Tryz.prog uA:=⟨L2,A2,A4⟩
theorem H6:F3 Tryz.prog uA:=⟨tOk,B3X⟩
theorem B7r (bd b:Nat) (i:Q9) (T:Nat→Prop) (h:GM i.m) (hk:i.k≤1000) (hl:i.held.length≤1000):C5 Tryz.prog 99 [.c (.ptr 0 b 0)] [K2 bd b i T] (fun _=>True) (fun y:HdX=>C5Y y) (fun y=>B7q bd b (L7 i (i.held++[i.m])) i.m i.ch i.k (i.held++[i.m]).length y):=by
 refine I4 (E:=uA) Tryz.func99 (fun M0 W hM0=>?_);have hpl:=h.plain;have hsh:=h.ok.sh;have hmp:=h.ok.mp;have htl:=hpl.tl;have htf:=hpl.hf;refine A3 H6 [false] (fun bs=>?_);refine N1 0 (fun x hx=>?_);refine yJ (ns:=[0,2,3,4,1]) (fs:=fun c=>[(1,.c (.ptr 4 c 0))]) (hs:=fun c=>(O3 bd b i).f x++[.blk c 56 [.ptr 0 b 0]]) ?cc rfl ?wk0 (fun c=>?_)
 case wk0=>and_intros<;> (first|exact wk_|refine A6 ?_|skip)
 refine yO 20 ?_;refine E1 0 H6 ?_;refine C4 1 ?_;refine C3 2 H6 ?_;refine E1 3 H6 ?_;refine A1 [0,1,2,3,4] _ _ _ (C5X hsh hmp htl htf hk (fun q _=>?_) (x.S1,0,x.S1,0,0,0));obtain⟨S1,bk,S2,b3,b4,b5⟩:=q;refine G1 19 H6 (fun _=>?_);refine jW ?_;refine A3 H6 [] (fun bs=>?_);refine jF 9 rfl ?_;refine yO 11 ?_;refine E1 1 H6 ?_;refine C4 2 ?_;refine C3 3 H6 ?_;refine E1 4 H6 ?_;refine E1 5 H6 ?_;refine tR (X:=Value) (fun _=>True) 0 [0,1,2,3,4,5,6,7,8,9,10] (fun z=>[(1,.c (.ptr 4 c 0)),(3,.c (.ptr 6 b3 0)),(4,.c (.ptr 7 b4 0)),(5,.c (.ptr 8 b5 0))]) (fun z=>(O3 bd b (L7 i (i.held++[i.m]))).f {x with v:=z,S1:=S1}++[.blk c 56 [.ptr 0 b 0],iP bk i.k S2,.blk b3 82 (jB i.m),.blk b4 4 [.pv (bv i.ch)],.blk b5 136 [.ptr 5 bk 0]]) ?_ (fun fin=>?_)
 rotate_left
 refine B5 [0,6] rfl (by simp) ⟨A8 0 H6 (fun _=>?_),A8 6 H6 (fun _=>?_),trivial⟩
 ·refine G1 6 H6 (fun _=>?_);refine G1 7 H6 (fun u=>?_);refine C4 8 ?_;refine C3 9 H6 ?_;refine G1 10 H6 (fun _=>?_);refine G2 [0,10,2,3,4,5,6,7,8] _ _ _ (fin u trivial) (h:=?wk1)
  case wk1=>
   and_intros<;> (first|exact wk_|refine A6 ?_|skip)
   all_goals exact congrArg (fun m=>i.held++[m]) h.bare
 ·refine B5 [0,7] rfl (by simp) ⟨A8 0 H6 (fun _=>?_),A8 7 H6 (fun u=>?_),trivial⟩
  ·refine G1 7 H6 (fun u=>?_);refine C4 8 ?_;refine C3 9 H6 ?_;refine G1 10 H6 (fun _=>?_);refine G2 [0,10,2,3,4,5,6,7,8] _ _ _ (fin u trivial) (h:=?wk2)
   case wk2=>
    and_intros<;> (first|exact wk_|refine A6 ?_|skip)
    all_goals exact congrArg (fun m=>i.held++[m]) h.bare
  ·refine G1 0 H6 (fun _=>?_);refine C4 8 ?_;refine C3 9 H6 ?_;refine G1 10 H6 (fun _=>?_);refine G2 [0,10,2,3,4,5,6,7,8] _ _ _ (fin u trivial) (h:=?wk3)
   case wk3=>
    and_intros<;> (first|exact wk_|refine A6 ?_|skip)
    all_goals exact congrArg (fun m=>i.held++[m]) h.bare
 intro z _;refine jW ?_;refine A3 H6 [] (fun bs=>?_);refine J7 0 (O3 bd b (L7 i (i.held++[i.m]))) [0,1,2,3] {x with v:=z,S1:=S1} hx (fun T1=>?_);exact B6 H6 ⟨T1,b3,b4,b5,c,?nn,bk,S2⟩ trivial [0,6,7,8,4,9,5]
def A1S:E4:=⟨T,R1,A7,A9,31,[],none,.f⟩
theorem B7s:B3 Tryz.prog A1S:=⟨L2,A2,A4⟩
theorem B9:F3 Tryz.prog A1S:=⟨tOk,B7s⟩
theorem C4I (bd b:Nat) (i:Q9) (m0:U7) (ch0:Bool) (k0:Nat) (y:HdX) (n:Nat) (hn:i.held.length=n+1) (hb:n≤1000):C5 Tryz.prog 183 [bool false,.c (.ptr 1 y.m 0),.c (.ptr 2 y.h 0),.c (.ptr 3 y.kp 0),.c (.ptr 4 y.c 0),.c (.ptr 5 y.n 0)] (B7q bd b i m0 ch0 k0 i.held.length y) (fun _=>True) (fun _:Nat→Prop=> .t []) (fun T=>[K2 bd b (L7 i (i.held.take n)) T]):=by
 refine I4 (E:=A1S) Tryz.func183 (fun M0 W hM0=>?_);have hmv:((i.held.length:Nat):Int)-1=(n:Nat):=by omega
 refine A3 B9 [false] (fun bs=>?_);refine N1 0 (fun x hx=>?_);refine yO 11 ?_;refine E1 5 B9 ?_;refine tR (X:=Value) (fun _=>True) 0 [0,1,2,3,4,5,6,7,8,9,10] (fun z=>[]) (fun z=>(O3 bd b (L7 i (i.held.take n))).f {x with v:=z}) ?_ (fun fin=>?_)
 rotate_left
 refine B5 [0,1,6] rfl (by simp) ⟨A8 0 B9 (fun _=>?_),A8 1 B9 (fun _=>?_),A8 6 B9 (fun _=>?_),trivial⟩
 ·refine B5 [1,6] rfl (by simp) ⟨A8 1 B9 (fun _=>?_),A8 6 B9 (fun _=>?_),trivial⟩
  ·refine C4 2 ?_;refine C3 3 B9 ?_;refine B5 [4,6] rfl (by simp) ⟨A8 4 B9 (fun _=>?_),A8 6 B9 (fun _=>?_),trivial⟩
   ·refine E8 6 rfl (A8 6 B9 (fun _=>?_));refine E8 7 rfl (eA 7 B9 (lk:= .mta) (L:=i.held) hmv (by omega) (fun v=>?_));refine C4 8 ?_;refine C3 9 B9 ?_;refine G1 10 B9 (fun _=>?_);exact G2 [0,7,8,9] _ _ _ (fin v trivial)
   ·refine E8 4 rfl (A8 4 B9 (fun _=>?_));refine E8 7 rfl (eA 7 B9 (lk:= .mta) (L:=i.held) hmv (by omega) (fun v=>?_));refine C4 8 ?_;refine C3 9 B9 ?_;refine G1 10 B9 (fun _=>?_);exact G2 [0,7,8,9] _ _ _ (fin v trivial)
  ·refine E8 1 rfl (A8 1 B9 (fun _=>?_));refine C4 2 ?_;refine C3 3 B9 ?_;refine E8 4 rfl (A8 4 B9 (fun _=>?_));refine E8 7 rfl (eA 7 B9 (lk:= .mta) (L:=i.held) hmv (by omega) (fun v=>?_));refine C4 8 ?_;refine C3 9 B9 ?_;refine G1 10 B9 (fun _=>?_);exact G2 [0,7,8,9] _ _ _ (fin v trivial)
 ·refine C4 2 ?_;refine C3 3 B9 ?_;refine B5 [0,4,6] rfl (by simp) ⟨A8 0 B9 (fun _=>?_),A8 4 B9 (fun _=>?_),A8 6 B9 (fun _=>?_),trivial⟩
  ·refine B5 [4,6] rfl (by simp) ⟨A8 4 B9 (fun _=>?_),A8 6 B9 (fun _=>?_),trivial⟩
   ·refine E8 6 rfl (A8 6 B9 (fun _=>?_));refine E8 7 rfl (eA 7 B9 (lk:= .mta) (L:=i.held) hmv (by omega) (fun v=>?_));refine C4 8 ?_;refine C3 9 B9 ?_;refine G1 10 B9 (fun _=>?_);exact G2 [0,7,8,9] _ _ _ (fin v trivial)
   ·refine E8 4 rfl (A8 4 B9 (fun _=>?_));refine E8 7 rfl (eA 7 B9 (lk:= .mta) (L:=i.held) hmv (by omega) (fun v=>?_));refine C4 8 ?_;refine C3 9 B9 ?_;refine G1 10 B9 (fun _=>?_);exact G2 [0,7,8,9] _ _ _ (fin v trivial)
  ·refine B5 [0,6] rfl (by simp) ⟨A8 0 B9 (fun _=>?_),A8 6 B9 (fun _=>?_),trivial⟩
   ·refine E8 6 rfl (A8 6 B9 (fun _=>?_));refine E8 7 rfl (eA 7 B9 (lk:= .mta) (L:=i.held) hmv (by omega) (fun v=>?_));refine C4 8 ?_;refine C3 9 B9 ?_;refine G1 10 B9 (fun _=>?_);exact G2 [0,7,8,9] _ _ _ (fin v trivial)
   ·refine B5 [0,7] rfl (by simp) ⟨A8 0 B9 (fun _=>?_),eA 7 B9 (lk:= .mta) (L:=i.held) hmv (by omega) (fun v=>?_),trivial⟩
    ·refine E8 7 rfl (eA 7 B9 (lk:= .mta) (L:=i.held) hmv (by omega) (fun v=>?_));refine C4 8 ?_;refine C3 9 B9 ?_;refine G1 10 B9 (fun _=>?_);exact G2 [0,7,8,9] _ _ _ (fin v trivial)
    ·refine E8 0 rfl (A8 0 B9 (fun _=>?_));refine C4 8 ?_;refine C3 9 B9 ?_;refine G1 10 B9 (fun _=>?_);exact G2 [0,7,8,9] _ _ _ (fin v trivial)
  ·refine B5 [0,4] rfl (by simp) ⟨A8 0 B9 (fun _=>?_),A8 4 B9 (fun _=>?_),trivial⟩
   ·refine E8 4 rfl (A8 4 B9 (fun _=>?_));refine E8 7 rfl (eA 7 B9 (lk:= .mta) (L:=i.held) hmv (by omega) (fun v=>?_));refine C4 8 ?_;refine C3 9 B9 ?_;refine G1 10 B9 (fun _=>?_);exact G2 [0,7,8,9] _ _ _ (fin v trivial)
   ·refine B5 [0,7] rfl (by simp) ⟨A8 0 B9 (fun _=>?_),eA 7 B9 (lk:= .mta) (L:=i.held) hmv (by omega) (fun v=>?_),trivial⟩
    ·refine E8 7 rfl (eA 7 B9 (lk:= .mta) (L:=i.held) hmv (by omega) (fun v=>?_));refine C4 8 ?_;refine C3 9 B9 ?_;refine G1 10 B9 (fun _=>?_);exact G2 [0,7,8,9] _ _ _ (fin v trivial)
    ·refine E8 0 rfl (A8 0 B9 (fun _=>?_));refine C4 8 ?_;refine C3 9 B9 ?_;refine G1 10 B9 (fun _=>?_);exact G2 [0,7,8,9] _ _ _ (fin v trivial)
 ·refine B5 [0,1] rfl (by simp) ⟨A8 0 B9 (fun _=>?_),A8 1 B9 (fun _=>?_),trivial⟩
  ·refine E8 1 rfl (A8 1 B9 (fun _=>?_));refine C4 2 ?_;refine C3 3 B9 ?_;refine E8 4 rfl (A8 4 B9 (fun _=>?_));refine E8 7 rfl (eA 7 B9 (lk:= .mta) (L:=i.held) hmv (by omega) (fun v=>?_));refine C4 8 ?_;refine C3 9 B9 ?_;refine G1 10 B9 (fun _=>?_);exact G2 [0,7,8,9] _ _ _ (fin v trivial)
  ·refine C4 2 ?_;refine C3 3 B9 ?_;refine B5 [0,4] rfl (by simp) ⟨A8 0 B9 (fun _=>?_),A8 4 B9 (fun _=>?_),trivial⟩
   ·refine E8 4 rfl (A8 4 B9 (fun _=>?_));refine E8 7 rfl (eA 7 B9 (lk:= .mta) (L:=i.held) hmv (by omega) (fun v=>?_));refine C4 8 ?_;refine C3 9 B9 ?_;refine G1 10 B9 (fun _=>?_);exact G2 [0,7,8,9] _ _ _ (fin v trivial)
   ·refine B5 [0,7] rfl (by simp) ⟨A8 0 B9 (fun _=>?_),eA 7 B9 (lk:= .mta) (L:=i.held) hmv (by omega) (fun v=>?_),trivial⟩
    ·refine E8 7 rfl (eA 7 B9 (lk:= .mta) (L:=i.held) hmv (by omega) (fun v=>?_));refine C4 8 ?_;refine C3 9 B9 ?_;refine G1 10 B9 (fun _=>?_);exact G2 [0,7,8,9] _ _ _ (fin v trivial)
    ·refine E8 0 rfl (A8 0 B9 (fun _=>?_));refine C4 8 ?_;refine C3 9 B9 ?_;refine G1 10 B9 (fun _=>?_);exact G2 [0,7,8,9] _ _ _ (fin v trivial)
 intro z _;refine jW ?_;refine A3 B9 [] (fun bs=>?_);refine J7 0 (O3 bd b (L7 i (i.held.take n))) [0,1,2,3] {x with v:=z} hx (fun T1=>?_);exact Z5 B9 T1 trivial [0]
def pcX (w at_ n:Int):A5a:=⟨at_ / w,at_%w,min n (w-at_%w)⟩
def Q1 (w:Int):Nat→Int→Int→List A5a
 |0,_,_=>[]
 |k+1,a,n=>match decide (n > 0)with
  |true=>pcX w a n::Q1 w k (a+min n (w-a%w)) (n-min n (w-a%w))
  |false=>[]
def A1T (a n c:Int):Int:=if c<0∨6<c∨a<0∨n<0∨4096<a∨4096<n then 1 else 0
def A2b (a n c:Int):List A5a:=if A1T a n c=0 then Q1 (2 ^ c.toNat) n.toNat a n else[]
theorem V9 (w:Int) (k:Nat) (a n:Int) (h:n≤0):Q1 w k a n=[]:=by
 cases k with
 |zero=>rfl
 |succ k=>simp only[Q1,decide_eq_false (show¬n > 0 by omega)]
theorem W0 (w:Int) (k:Nat) (a n:Int) (h:0<n):Q1 w (k+1) a n=pcX w a n::Q1 w k (a+min n (w-a%w)) (n-min n (w-a%w)):=by
 simp only[Q1,decide_eq_true h]
theorem kV {w:Int} (hw:0<w):∀(k k':Nat) (a n:Int),n≤k→n≤k'→Q1 w k a n=Q1 w k' a n:=by
 intro k
 induction k with
 |zero=>intro k' a n h1 h2;rw[V9 w 0 a n h1,V9 w k' a n h1]
 |succ k ih=>
  intro k' a n h1 h2;by_cases hn:0<n
  ·obtain⟨j,rfl⟩:∃j,k'=j+1:=⟨k'-1,by omega⟩
   have hm:=Int.emod_lt_of_pos a hw;rw[W0 w k a n hn,W0 w j a n hn,ih j _ _ (by omega) (by omega)]
  ·rw[V9 w _ a n (by omega),V9 w _ a n (by omega)]
theorem A1U {w:Int} (hw:0<w):∀(k:Nat) (a n:Int),(Q1 w k a n).length≤k:=by
 intro k
 induction k with
 |zero=>intro a n;simp[Q1]
 |succ k ih=>
  intro a n;simp only[Q1];split
  ·simp only[List.length_cons];have:=ih (a+min n (w-a%w)) (n-min n (w-a%w));omega
  ·simp
def oF:E4:=⟨T,R1,A7,A9,66,[],none,.t⟩
theorem A1V:B3 Tryz.prog oF:=⟨L2,A2,A4⟩
theorem bR:F3 Tryz.prog oF:=⟨tOk,A1V⟩
theorem B3Y (a:Int) (n:Int) (c:Int):aE Tryz.prog 68 false [int .i64 a,int .i64 n,int .i64 c] (.ot 156 .pcs (A2b a n c) [.c (i64 (A1T a n c))]):=by
 refine dF (E:=oF) Tryz.func68 (fun M0 W hM0=>?_);refine D3 bR 60 (fun _=>none) (fun bs=>?_);refine D4 rfl rfl (fun h=>?_) (fun h=>?_)
 ·refine D3 bR 60 (fun _=>none) (fun bs=>?_);have he:A1T a n c=1:=by simp at h;unfold A1T;rw[if_pos (by omega)]
  exact D8 tOk hM0 rfl rfl ⟨trivial,trivial,trivial⟩ ⟨(show A2b a n c=[] by simp[A2b,he]),⟨rfl,he.symm⟩,trivial⟩
 have hc:0≤c∧c≤6:=by simp at h;omega
 have ha:0≤a∧a≤4096:=by simp at h;omega
 have hn:0≤n∧n≤4096:=by simp at h;omega
 clear h;have he:A1T a n c=0:=by unfold A1T;rw[if_neg (by omega)]
 have hp:=P3 hc;have hu:A2b a n c=Q1 (2 ^ c.toNat) n.toNat a n:=by unfold A2b;rw[if_pos he]
 rw[hu,he];obtain⟨w,hw⟩:∃w:Int,2 ^ c.toNat=w:=⟨_,rfl⟩
 rw[hw]at hp⊢;have hw0:0<w:=by omega
 have hw1:(1:Int)*2 ^ c.toNat=w:=by rw[hw];omega
 refine H8 tOk A1V 60 (fun _=>none) (fun bs=>rfl) (fun bs=>?_) (fun bs=>?_)
 ·simp only[hw1]
  and_intros<;> (intros;first|exact U3|omega|skip)
 refine oY 8 156 rfl ?_;refine P8 (fun x:Int×Value×List A5a=>[(0,int .i64 x.1),(8,.c (.own 0 x.2.1)),(9,int .i64 w),(10,int .i64 (a+n))]) (fun x=>[.own x.2.1 156 .pcs x.2.2])
  (fun x=>0≤x.1∧x.1≤a+n∧x.2.2.length≤8192-(a+n-x.1).toNat∧x.2.2++Q1 w (a+n-x.1).toNat x.1 (a+n-x.1)=Q1 w n.toNat a n) (fun x=>(a+n-x.1).toNat) rfl [0] (a,?v0,[]) ⟨ha.1,by simp only;omega,by simp,?ini⟩ ?wk (fun x hx=>?_)
 case ini=>simp only[List.nil_append];rw[show a+n-a=n by omega]
 case wk=>
  and_intros<;> (first|exact wk_|refine A6 ?_|skip)
  all_goals simp only[hw1]
 obtain⟨p,v,out⟩:=x;obtain⟨h1,h2,h3,h4⟩:=hx;dsimp only at h1 h2 h3 h4;refine D3 bR 60 (fun _=>none) (fun bs=>?_);refine I6 rfl rfl (fun hk=>?_) (fun hk=>?_)
 ·have hk':p<a+n:=hk;have m0:=Int.emod_nonneg p (show w≠0 by omega);have m1:=Int.emod_lt_of_pos p hw0;have m2:0≤p / w:=Int.ediv_nonneg h1 (by omega);have m3:p / w≤p:=Int.ediv_le_self _ h1;obtain⟨N,hN⟩:∃N,(a+n-p).toNat=N+1:=⟨(a+n-p).toNat-1,by omega⟩
  rw[hN,W0 w N p _ (by omega)]at h4;obtain⟨k,hkk⟩:∃k:Int,min (w-p%w) (a+n-p)=k:=⟨_,rfl⟩
  have hkk2:min (a+n-p) (w-p%w)=k:=by rw[Int.min_comm];exact hkk
  have hk1:1≤k∧k≤a+n-p:=by omega
  refine D3 bR 60 (fun _=>none) (fun bs=>?_);refine C2K bR (fun _=>none) 10 [0,0,0,6,0,0,48,0,254,510,1023,2047] [] (fun bs=>?_);refine D3 bR 60 (fun _=>none) (fun bs=>?_);refine G8 [11] (p+k,?v1,out++[pcX w p (a+n-p)]) ?ok1 ?wk1
  case ok1=>
   refine⟨⟨by simp only;omega,by simp only;omega,by simp;omega,?_⟩,by simp only;omega⟩;simp only;rw[←h4,List.append_assoc,hkk2];simp only[List.singleton_append];rw[show a+n-p-k=a+n-(p+k) by omega];rw[kV hw0 (a+n-(p+k)).toNat N _ _ (by omega) (by omega)]
  case wk1=>
   and_intros<;> (first|exact wk_|refine A6 ?_|skip)
   all_goals(simp only[pcX,hkk,hkk2])
 ·have hk':p=a+n:=by have:¬p<a+n:=hk;omega
  subst hk';refine D3 bR 60 (fun _=>none) (fun bs=>?_);refine D8 tOk hM0 rfl rfl ⟨trivial,trivial,trivial⟩ ⟨⟨rfl,rfl,rfl,A6 ?_⟩,⟨rfl,rfl⟩,trivial⟩;rw[←h4,V9 w _ _ _ (by omega),List.append_nil]
def A1W:C8
 |[.c (.pv (.val (.int .i64 a))),.c (.pv (.val (.int .i64 n))),.c (.pv (.val (.int .i64 c)))]=>some (True,false,.ot 156 .pcs (A2b a n c) [.c (i64 (A1T a n c))])
 |_=>none
theorem A7c:F5 Tryz.prog 68 A1W:=by
 intro args pre sh rv h hp;unfold A1W at h;split at h
 ·cases h;exact B3Y _ _ _
 ·cases h
def J8:FuncId→Option C8:=E0 68 A1W R1
theorem H4:G9 Tryz.prog J8:=C1 A7c L2
abbrev oN:=List (Nat×Q9)
def Y5 (bd:Nat) (p:Nat×Q9) (S:Nat→Prop):HB:=K2 bd p.1 p.2 S
structure Lk where
 b:Nat
 i:Q9
 f:O0
 v:Nat→Option Bs
 n:Nat
structure R7 (d:G4) (L:oN) (k:Lk):Prop where
 mem:(k.b,k.i)∈L
 f:H5 d.files k.i.nm=some k.f
 ok:I8 k.f k.i k.v k.n
def K4:List Lk→Nat→Bs
 |[],_=>iB
 |k::r,j=>if(j:Int)<k.i.m.size then(match k.v (j / 2 ^ k.i.m.cl.toNat)with
  |some x=>(x.drop (16*(j%2 ^ k.i.m.cl.toNat))).take 16
  |none=>K4 r j)else iB
def W5 (c:List Lk) (a:Nat):Nat→Bs
 |0=>[]
 |n+1=>W5 c a n++K4 c (a+n)
def B7t (bd:Nat) (L:oN) (d:G4) (c:List Lk):Prop:=∀(T S:Nat→Prop) (a m:Nat),(∀k r,c=k::r→((a+m:Nat):Int)≤k.i.m.size)→c≠[]→
 C5 Tryz.prog 33 [lst .ptr (c.map fun k=>k.b),str [],int .i64 a,int .i64 m] [O8 (Y5 bd) L T,C6 bd d S] (fun _=>True) (fun y:((Nat→Prop)×(Nat→Prop))×Value=> .t [.c (.own 2 y.2),int .i64 0]) (fun y=>[O8 (Y5 bd) L y.1.1,C6 bd d y.1.2,.own y.2 5 .byt (W5 c a m)])
theorem A1X {d:G4} {L:oN}:∀{c:List Lk},(∀k∈c,R7 d L k)→∀j,(K4 c j).length=16:=by
 intro c
 induction c with
 |nil=>intro _ j;rfl
 |cons k r ih=>
  intro h j;unfold K4;split
  ·rename_i hj;have hk:=(h k (by simp)).ok;have hc:=hk.gm.ok.c;obtain⟨w,hw⟩:∃w:Nat,w=2 ^ k.i.m.cl.toNat:=⟨_,rfl⟩
   have hw0:0<w:=by rw[hw];exact Nat.pow_pos (by omega)
   have hn:=hk.gm.n.2.2;rw[show(2 ^ k.i.m.cl.toNat:Int)=(w:Int) by rw[hw];push_cast;rfl]at hn;have hjw:j / w<O9 k.i.m:=by
    rw[Nat.div_lt_iff_lt_mul hw0];have:(j:Int)<((O9 k.i.m*w:Nat):Int):=by push_cast;omega
    omega
   have hv:=hk.vw _ hjw;rw[←hw];cases hvv:k.v (j / w)with
   |none=>exact ih (fun x hx=>h x (by simp[hx])) j
   |some x=>
    rw[hvv]at hv;have hx:x.length=16*w:=by
     rcases hv with⟨_,h2⟩|h2
     ·rw[h2,bN,hw]
     ·rw[h2.xl,hw]
    have:=Nat.mod_lt j hw0;simp only[List.length_take,List.length_drop,hx];have:16*(j%w)+16≤16*w:=by omega
    omega
  ·rfl
theorem X3 {d:G4} {L:oN} {c:List Lk} (h:∀k∈c,R7 d L k) (a:Nat):∀n,(W5 c a n).length=16*n:=by
 intro n
 induction n with
 |zero=>rfl
 |succ n ih=>rw[W5,List.length_append,ih,A1X h];omega
theorem wY (c:List Lk) (a m:Nat):∀n,W5 c a (m+n)=W5 c a m++W5 c (a+m) n:=by
 intro n
 induction n with
 |zero=>simp[W5]
 |succ n ih=>rw[←Nat.add_assoc,W5,ih,W5,List.append_assoc,Nat.add_assoc]
theorem kW {c:List Lk} {a:Nat}:∀n,(∀j,j<n→K4 c (a+j)=iB)→W5 c a n=List.replicate (16*n) 0:=by
 intro n
 induction n with
 |zero=>intro _;rfl
 |succ n ih=>
  intro h;rw[W5,ih (fun j hj=>h j (by omega)),h n (by omega),show 16*(n+1)=16*n+16 by omega,←List.replicate_append_replicate]
theorem B7u {d:G4} {L:oN} {k:Lk} {r:List Lk} (h:∀x∈k::r,R7 d L x) {a n s:Nat} (hs:k.i.m.size=(s:Nat)):
 W5 (k::r) a n=W5 (k::r) (min a s) (min n (s-a))++List.replicate (16*n-16*min n (s-a)) 0:=by
 have hz:∀j,s≤j→K4 (k::r) j=iB:=fun j hj=>by unfold K4;rw[if_neg (by omega)]
 by_cases ha:s≤a
 ·rw[show s-a=0 by omega,Nat.min_zero];rw[kW n (fun j _=>hz _ (by omega))];simp[W5]
 ·rw[show min a s=a by omega];obtain⟨m,hm⟩:∃m,m=min n (s-a):=⟨_,rfl⟩
  rw[←hm];have:n=m+(n-m):=by omega
  rw[this,wY]
  congr 1
  by_cases hnm:n≤m
  ·rw[show n-m=0 by omega];simp[W5]
  ·rw[kW _ (fun j _=>hz _ (by omega))]
   congr 1
   omega
def A1Y:E4:=⟨T,J8,A7,A9,48,[],none,.f⟩
theorem B7v:B3 Tryz.prog A1Y:=⟨H4,A2,A4⟩
theorem lP:F3 Tryz.prog A1Y:=⟨tOk,B7v⟩
theorem C6q (bd:Nat) (L:oN) (T:Nat→Prop) (d:G4) (S:Nat→Prop) (c:List Lk) (hc:∀k∈c,R7 d L k) (ih:B7t bd L d c) (a n:Nat) (hn:n≤4096) (ha:a≤4096):C5 Tryz.prog 70 [lst .ptr (c.map fun k=>k.b),int .i64 a,int .i64 n] [O8 (Y5 bd) L T,C6 bd d S] (fun _=>True) (fun y:((Nat→Prop)×(Nat→Prop))×Value=> .t [.c (.own 2 y.2),int .i64 0]) (fun y=>[O8 (Y5 bd) L y.1.1,C6 bd d y.1.2,.own y.2 5 .byt (W5 c a n)]):=by
 refine I4 (E:=A1Y) Tryz.func70 (fun M0 W hM0=>?_);cases c with
 |nil=>
  refine A3 lP [true] (fun bs=>?_);refine B6 lP ((T,S),?v) trivial [0,1,2] (hl:=?hl)
  case hl=>
   and_intros<;> (first|exact wk_|refine A6 ?_|skip)
   all_goals
    rw[show((n:Nat)*16:Int).toNat=16*n by omega];exact(kW n (fun _ _=>rfl)).symm
 |cons k r=>
  have hk:=hc k (by simp);obtain⟨l1,l2,hL⟩:=List.append_of_mem hk.mem;have hsz:=hk.ok.gm.ok.s;obtain⟨s,hs⟩:=Int.eq_ofNat_of_zero_le hsz.1;refine A3 lP [false] (fun bs=>?_);refine U2 0 3 hL (fun S1 S2=>?_);refine A5 [3] (iS bd k.b k.i S2 hk.ok.gm) (fun S3 _=>?_);refine dR 0 3 hL (fun S4=>?_);refine A3 lP [] (fun bs=>?_);refine A5 [0,1] (ih S4 S (min a s) (min n (s-a)) (fun k' r' e=>by cases e;omega) (by simp)) (fun y _=>?_);refine A3 lP [] (fun bs=>?_);refine B6 lP (y.1,?v2) trivial [0,1,2] (hl:=?hl2)
  case hl2=>
   and_intros<;> (first|exact wk_|refine A6 ?_|skip)
   all_goals
    refine Eq.trans ?_ (B7u hc hs).symm;rw[List.length_replicate,show((n:Nat)*16:Int).toNat=16*n by omega,X3 hc,List.take_of_length_le (by rw[X3 hc];omega),List.drop_replicate];rfl
theorem B7w (x:Bs) (p:Nat):∀n,((x.drop (16*p)).take (16*n))=(List.range n).flatMap fun j=>(x.drop (16*(p+j))).take 16:=by
 intro n
 induction n with
 |zero=>simp
 |succ n ih=>
  rw[List.range_succ,List.flatMap_append,←ih,show 16*(n+1)=16*n+16 by omega,List.take_add,List.drop_drop];simp only[List.flatMap_cons,List.flatMap_nil,List.append_nil];rw[show 16*p+16*n=16*(p+n) by omega]
theorem A7d (c:List Lk) (a:Nat):∀n,W5 c a n=(List.range n).flatMap fun j=>K4 c (a+j):=by
 intro n
 induction n with
 |zero=>rfl
 |succ n ih=>rw[W5,ih,List.range_succ,List.flatMap_append];simp
theorem B7x {d:G4} {L:oN} {k:Lk} {r:List Lk} (hk:R7 d L k) {w a n:Nat} (hw:w=2 ^ k.i.m.cl.toNat) (hn:a%w+n≤w) (hs:((a+n:Nat):Int)≤k.i.m.size):
 W5 (k::r) a n=match k.v (a / w)with
  |some x=>(x.drop (16*(a%w))).take (16*n)
  |none=>W5 r a n:=by
 have hw0:0<w:=by rw[hw];exact Nat.pow_pos (by omega)
 have hj:∀j,j<n→K4 (k::r) (a+j)=match k.v (a / w)with
  |some x=>(x.drop (16*(a%w+j))).take 16
  |none=>K4 r (a+j):=by
  intro j hj;have hm:=Nat.mod_add_div a w;have h1:(a+j) / w=a / w:=by
   rw[Nat.div_eq_iff (by omega)];have:w*(a / w)=a / w*w:=Nat.mul_comm _ _;omega
  have h2:(a+j)%w=a%w+j:=by
   have:=Nat.mod_add_div (a+j) w;rw[h1]at this;omega
  have hs1:K4 (k::r) (a+j)=if((a+j:Nat):Int)<k.i.m.size then(match k.v ((a+j) / 2 ^ k.i.m.cl.toNat)with
   |some x=>(x.drop (16*((a+j)%2 ^ k.i.m.cl.toNat))).take 16
   |none=>K4 r (a+j))else iB:=rfl
  rw[hs1,if_pos (by omega),←hw,h1,h2]
 rw[A7d];cases hv:k.v (a / w)with
 |some x=>
  simp only;rw[B7w];refine congrArg List.flatten (List.map_congr_left fun j hj'=>?_);rw[hj j (List.mem_range.1 hj'),hv]
 |none=>
  simp only;rw[A7d];refine congrArg List.flatten (List.map_congr_left fun j hj'=>?_);rw[hj j (List.mem_range.1 hj'),hv]
def A5I:E4:=⟨T,J8,A7,A9,113,[],none,.f⟩
theorem C1f:B3 Tryz.prog A5I:=⟨H4,A2,A4⟩
theorem eD:F3 Tryz.prog A5I:=⟨tOk,C1f⟩
theorem cRd (bd:Nat) (L:oN) (T:Nat→Prop) (d:G4) (S:Nat→Prop) (k:Lk) (r:List Lk) (hc:∀x∈k::r,R7 d L x) (ih:B7t bd L d r) (a n:Nat) (hs:((a+n:Nat):Int)≤k.i.m.size):C5 Tryz.prog 33 [lst .ptr ((k::r).map fun k=>k.b),str [],int .i64 a,int .i64 n] [O8 (Y5 bd) L T,C6 bd d S] (fun _=>True) (fun y:((Nat→Prop)×(Nat→Prop))×Value=> .t [.c (.own 2 y.2),int .i64 0]) (fun y=>[O8 (Y5 bd) L y.1.1,C6 bd d y.1.2,.own y.2 5 .byt (W5 (k::r) a n)]):=by
 refine I4 (E:=A5I) Tryz.func33 (fun M0 W hM0=>?_);have hk:=hc k (by simp);obtain⟨l1,l2,hL⟩:=List.append_of_mem hk.mem;have hok:=hk.ok.gm.ok;have hsz:=hok.s;have hz16:=hk.ok.gm.sz;have X7:=hok.c;have hp:=P3 X7;obtain⟨w,hw⟩:∃w:Nat,w=2 ^ k.i.m.cl.toNat:=⟨_,rfl⟩
 have hwi:(2 ^ k.i.m.cl.toNat:Int)=(w:Int):=by rw[hw];push_cast;rfl
 rw[hwi]at hp;have hw0:0<w:=by omega
 refine A3 eD [false] (fun bs=>?_);refine U2 0 2 hL (fun S1 S2=>?_);refine A5 [2] (iS bd k.b k.i S2 hk.ok.gm) (fun S3 _=>?_);refine dR 0 2 hL (fun S4=>?_);refine G0 eD (fun _=>none) [false,false,false,false,false] (fun bs=>?_) (fun bs=>?_)
 ·and_intros<;> first|exact trivial|omega|exact rfl|exact decide_eq_false (by omega)|(simp;omega)
 refine oY 15 5 rfl ?_;have hE:A1T a n k.i.m.cl=0:=by unfold A1T;rw[if_neg (by omega)]
 obtain⟨P,hP⟩:∃P,P=A2b a n k.i.m.cl:=⟨_,rfl⟩
 have hP2:P=Q1 w n a n:=by rw[hP,A2b,if_pos hE,hwi,Int.toNat_natCast]
 have hPl:P.length≤n:=by rw[hP2];exact A1U (by omega) _ _ _
 refine L5 (fun q:((Nat→Prop)×(Nat→Prop))×Nat×Nat×Value×Value=>[(0,lst .ptr ((k::r).map fun k=>k.b)),(1,str []),(11,int .i64 k.i.m.cl),(15,.c (.own 3 q.2.2.2.1)),(57,.c (.own 2 q.2.2.2.2)),(58,int .i64 P.length),(59,int .i64 q.2.2.1)]) (fun q=>[O8 (Y5 bd) L q.1.1,C6 bd d q.1.2,.own q.2.2.2.2 156 .pcs P,.own q.2.2.2.1 5 .byt (W5 (k::r) a (q.2.1-a))])
  (fun q=>q.2.2.1≤P.length∧a≤q.2.1∧q.2.1≤a+n∧P.drop q.2.2.1=Q1 w (a+n-q.2.1) q.2.1 ((a+n-q.2.1:Nat):Int)) (fun q=>P.length-q.2.2.1) [0,1,3,4] ((S4,S),a,0,?ov,?pv) ⟨Nat.zero_le _,Nat.le_refl _,by simp only;omega,by simp only[List.drop_zero];rw[hP2,show a+n-a=n by omega]⟩ ?wk1 (fun q hq=>?_)
 case wk1=>
  rw[hP]
  and_intros<;> (first|exact wk_|refine A6 ?_|skip)
  all_goals(simp only[Nat.sub_self];rfl)
 obtain⟨⟨T1,D1⟩,p,q,ov,pv⟩:=q;obtain⟨hq1,hq2,hq3,hq4⟩:=hq;simp only at hq1 hq2 hq3 hq4;refine A3 eD [] (fun bs=>?_);refine I6 rfl rfl (fun hk2=>?_) (fun hk2=>?_)
 ·have hk2:(q:Int)<(P.length:Nat):=hk2;have hqP:q<P.length:=by omega
  obtain⟨N,hN⟩:∃N,a+n-p=N+1:=by
   refine⟨a+n-p-1,?_⟩;apply Decidable.byContradiction;intro hne;rw[V9 _ _ _ _ (by omega)]at hq4;have:=congrArg List.length hq4;rw[List.length_drop]at this;simp at this;omega
  have hq5:=hq4;rw[hN,W0 _ _ _ _ (by omega)]at hq5;obtain⟨cnt,hcnt⟩:∃cnt,cnt=min (a+n-p) (w-p%w):=⟨_,rfl⟩
  have hpm:=Nat.mod_lt p hw0;have hPq:P.getD q LK.pcs.dft=⟨((p / w:Nat):Int),((p%w:Nat):Int),(cnt:Nat)⟩:=by
   have h1:P.getD q LK.pcs.dft=(P.drop q).getD 0 LK.pcs.dft:=by simp[List.getD]
   rw[h1,hq5];show pcX (w:Int) (p:Int) _=_;unfold pcX;rw[←Int.natCast_ediv,←Int.natCast_emod]
   congr 1
   omega
  have hpw:p / w<O9 k.i.m:=by
   have hn:=hk.ok.gm.n.2.2;rw[hwi]at hn;rw[Nat.div_lt_iff_lt_mul hw0];have:(p:Int)<((O9 k.i.m*w:Nat):Int):=by push_cast;omega
   omega
  have hcell:=hk.ok.vw _ hpw;have hkd:=hcell.kd;have hbl:(bOf k.i.m.cl (k.v (p / w))).length=16*w:=by
   cases hv:k.v (p / w)with
   |none=>show(iQ k.i.m.cl).length=_;rw[bN,hw]
   |some x=>
    rw[hv]at hcell;show x.length=_;rcases hcell with⟨_,h2⟩|h2
    ·rw[h2,bN,hw]
    ·rw[h2.xl,hw]
  have hmul2:((p / w:Nat):Int)*2 ^ k.i.m.cl.toNat+((p%w:Nat):Int)=p:=by
   rw[hwi];have h2:((w*(p / w)+p%w:Nat):Int)=p:=by rw[Nat.div_add_mod]
   rw[Int.mul_comm]
   push_cast at h2⊢
   exact h2
  have hmul3:0≤((p / w:Nat):Int)*2 ^ k.i.m.cl.toNat:=by rw[hwi];exact Int.mul_nonneg (Int.natCast_nonneg _) (Int.natCast_nonneg _)
  have hrl:(W5 (k::r) a (p-a)).length=16*(p-a):=X3 hc _ _;have hpc:=B7x (r:=r) hk hw (a:=p) (n:=cnt) (by omega) (by omega);have hout:W5 (k::r) a (p+cnt-a)=W5 (k::r) a (p-a)++W5 (k::r) p cnt:=by
   rw[show p+cnt-a=(p-a)+cnt by omega,wY,show a+(p-a)=p by omega]
  have hdrop:P.drop (q+1)=Q1 w (a+n-(p+cnt)) ((p+cnt:Nat):Int) ((a+n-(p+cnt):Nat):Int):=by
   have h1:P.drop (q+1)=(P.drop q).tail:=by rw[List.tail_drop]
   rw[h1,hq5,List.tail_cons];have e1:(p:Int)+min ((N+1:Nat):Int) ((w:Int)-(p:Int)%w)=((p+cnt:Nat):Int):=by
    rw[←Int.natCast_emod];omega
   have e2:((N+1:Nat):Int)-min ((N+1:Nat):Int) ((w:Int)-(p:Int)%w)=((a+n-(p+cnt):Nat):Int):=by
    rw[←Int.natCast_emod];omega
   rw[e1,e2];exact kV (by omega) _ _ _ _ (by omega) (by omega)
  refine A3 eD [] (fun bs=>?_);refine U2 0 5 hL (fun S1 S2=>?_);refine yJ (ns:=[0,1,2,3,4,5]) (fs:=fun c=>[(0,lst .ptr ((k::r).map fun k=>k.b)),(1,str []),(11,int .i64 k.i.m.cl),(15,.c (.own 3 ov)),(17,.c (.ptr 4 c 0)),(57,.c (.own 2 pv)),(58,int .i64 P.length),(59,int .i64 q)]) (hs:=fun c=>[O8 (Y5 bd) (l1++l2) S1,C6 bd d D1,.own pv 156 .pcs P,.own ov 5 .byt (W5 (k::r) a (p-a)),.blk c 156 [.pv (i64 ((p / w:Nat):Int)),.pv (i64 ((p%w:Nat):Int)),.pv (i64 (cnt:Nat))],K2 bd k.b k.i S2]) ?cc rfl ?wk2 (fun c=>?_)
  case wk2=>
   and_intros<;> (first|exact wk_|refine A6 ?_|skip)
   all_goals(dsimp only;rw[Int.toNat_natCast,hPq])
  refine pH eD 13 [0,1,3,0,0,16,63,127,255,255,255,511,3071,8191] 6 [5,1] [2,3,4] (C5O bd k.b k.i S2 d D1 k.f hk.f k.v k.n hk.ok (p / w) hpw) (fun y _=>?_);refine dR 0 5 hL (fun S5=>?_);refine G0 eD (fun _=>none) [false] (fun bs=>?_) (fun bs=>?_)
  ·and_intros<;> first|exact trivial|exact rfl|omega|(simp only[hbl];omega)
  refine D4 (b:=decide ((L4 k.i.m.t ((p / w:Nat):Int)).kind=0)) rfl rfl (fun hb=>?_) (fun hb=>?_)
  ·have hb:(L4 k.i.m.t ((p / w:Nat):Int)).kind=0:=of_decide_eq_true hb;have hx:=hkd.2 hb;rw[hx]at hpc;refine pH eD 16 [0,1,0,4,0,28,0,64,252,0,512,2047,4095,8191,8191,16383,65535] 11 [0,1] [2,3,4] (C6q bd L S5 d y.2 r (fun x hx=>hc x (by simp[hx])) ih p cnt (by omega) (by omega)) (fun z _=>?_) (hsim:=?hs3) (hp0:=?hp3)
   case hs3=>
    and_intros<;> (first|exact wk_|refine A6 ?_|skip)
    all_goals first|exact hmul2|(rw[List.take_of_length_le (by simp)];exact rfl)|(rw[List.take_of_length_le (by simp)];exact⟨rfl,rfl⟩)
   case hp3=>and_intros<;> first|exact trivial|exact rfl|omega|(show k.i.m.cl≤64;omega)|(simp;omega)
   refine I1 6 [21] rfl ⟨rfl,trivial⟩ ?_;refine G0 eD (fun _=>none) [false] (fun bs=>?_) (fun bs=>?_)
   ·and_intros<;> first|exact trivial|exact rfl|omega|(simp only[X3 (fun x hx=>hc x (List.mem_cons_of_mem _ hx)),hrl];omega)
   refine G8 [0,1,2,7] (z.1,p+cnt,q+1,?ov3,pv) ⟨⟨by simp only;omega,by simp only;omega,by simp only;omega,hdrop⟩,by simp only;omega⟩ ?wk4
   case wk4=>
    and_intros<;> (first|exact wk_|refine A6 ?_|skip)
    all_goals
     have hpc:W5 (k::r) p cnt=W5 r p cnt:=hpc;show _=W5 (k::r) a (p+cnt-a);rw[hout,hpc]
  ·have hb:(L4 k.i.m.t ((p / w:Nat):Int)).kind≠0:=of_decide_eq_false hb;obtain⟨x,hx⟩:∃x,k.v (p / w)=some x:=by
    cases hv:k.v (p / w)with
    |none=>exact absurd (hkd.1 hv) hb
    |some x=>exact⟨x,rfl⟩
   rw[hx]at hpc;refine G0 eD (fun _=>none) [false] (fun bs=>?_) (fun bs=>?_)
   ·and_intros<;> first|exact trivial|exact rfl|omega|(simp only[List.length_drop,List.length_take,hbl,hrl];omega)
   refine G8 [0,1,2,6] ((S5,y.2),p+cnt,q+1,?ov2,pv) ⟨⟨by simp only;omega,by simp only;omega,by simp only;omega,hdrop⟩,by simp only;omega⟩ ?wk3
   case wk3=>
    and_intros<;> (first|exact wk_|refine A6 ?_|skip)
    all_goals
     have hpc:W5 (k::r) p cnt=(x.drop (16*(p%w))).take (16*cnt):=hpc;show _=W5 (k::r) a (p+cnt-a);rw[hout,hpc,hx];show _++List.drop (((p%w:Nat):Int)*16).toNat (List.take ((((p%w:Nat):Int)+(cnt:Nat))*16).toNat x)=_;rw[show(((p%w:Nat):Int)*16).toNat=16*(p%w) by omega,show((((p%w:Nat):Int)+(cnt:Nat))*16).toNat=16*(p%w)+16*cnt by omega,List.drop_take,Nat.add_sub_cancel_left]
 ·refine A3 eD [] (fun bs=>?_);have hk2:¬((q:Int)<(P.length:Nat)):=hk2;have hpe:p=a+n:=by
   rw[List.drop_eq_nil_of_le (by omega)]at hq4;apply Decidable.byContradiction;intro hne;obtain⟨N,hN⟩:∃N,a+n-p=N+1:=⟨a+n-p-1,by omega⟩
   rw[hN,W0 _ _ _ _ (by omega)]at hq4;cases hq4
  subst hpe;exact B6 eD ((T1,D1),ov) trivial [0,1,3] (hl:=by
   and_intros<;> (first|exact wk_|refine A6 ?_|skip)
   all_goals(simp only[Nat.add_sub_cancel_left]))
theorem B7y (bd:Nat) (L:oN) (d:G4):∀c:List Lk,(∀x∈c,R7 d L x)→B7t bd L d c:=by
 intro c
 induction c with
 |nil=>intro _ T S a m _ hne;exact absurd rfl hne
 |cons k r ih=>intro hc T S a m h _;exact cRd bd L T d S k r hc (ih fun x hx=>hc x (by simp[hx])) a m (h k r rfl)
end
end Go.Proofs.YtgmeedgkjlfpeaaGreat
namespace Go.Mt
open Go.RowKit
noncomputable section
section
variable {P : Program} {E : E4} {B : Nat → Prop} {W : World} {M0 : B8} {Q : Exit → Act → World → Prop} {k : List Z3} {st : St}
theorem C5Z (hE:F3 P E) {all:List Oper} {i:Nat} {o:Oper} {d s:Operand} {td ts e:TypeId} {n lo hi s1 s2 s3 s4:Nat} {z z':List C} {v:Value} {ty:TypeId} {l m:List UInt8} {x:A} {ob:Prop} {f':Nat→Option Ent}
 (hm0:0<m.length) (hlo:lo+m.length≤l.length) (hhi:hi=l.length)
 (hk:G P E B W M0 Q (.ops all (i+1)::k) ⟨f',D7 st.H n (some (.own v ty .byt (l.take lo++m++l.drop (lo+m.length)))),st.nx⟩)
 (hd:R5 i all=o::R5 (i+1) all:=by exact rfl) (hg:o.guard=none:=by exact rfl) (ho:o.op= .call ⟨.builtin .copy,⟨[d,s]⟩,⟨[td,ts]⟩⟩:=by exact rfl)
 (h1:V2 st.f [] d=some (.c (.osl n v lo hi 1)):=by exact rfl) (h2:V2 st.f [] s=some x:=by exact rfl) (h3:oO st.H x=some ⟨.byt,m,ob⟩:=by exact rfl) (hob:ob:=by first|exact trivial|exact rfl)
 (ht:E.T td=some ⟨.slc e .byt,s1,s2,z⟩:=by exact rfl) (hte:E.T e=some ⟨.int .u8,s3,s4,z'⟩:=by exact rfl) (hn:st.H n=some (.own v ty .byt l):=by exact rfl)
 (hf:P6 E.N i (C9 all all) st.f o.dst (some (.u (int .i64 (m.length:Nat))))=some f':=by exact rfl):G P E B W M0 Q (.ops all i::k) st:=by
 subst hhi;intro M a w hS;show xU E.ro P all.toArray (after E.ro P Q k) (R5 i all) a w;rw[hd];refine P1 fun K hK=>?_
 have hw:Region.wanted o (yielded all.toArray a.tmps)=true:=by unfold Region.wanted;rw[hg]
 rw[if_pos hw];obtain⟨dst,op,tyo,pos,aft,guard⟩:=o;simp only at ho hg hf;subst ho hg;have hr:=J6 hS (Γ:=[]) (by simp);have v1:a.eval d=osV v lo l.length 1:=by
  exact(hr _ _ h1).osl_inv
 obtain⟨hu,_⟩:=cU hE.T ht;obtain⟨inf,zv,i1,i2,i3,i4,i5,i6⟩:=(hE.T _ _ hte).info;obtain⟨hu2,inf2,i1',hsz⟩:=cU hE.T ht;rw[i1]at i1';cases i1';have h1sz:(P.info? e).map (·.size)=some 1:=by rw[i1];simp[hsz,LK.sz]
 obtain⟨ad,c,b',o',hsv,q1,q2,q3,q4⟩:=oP hS.h (hr _ _ h2) h3 hob;have hmne:m≠[]:=by intro h;rw[h]at hm0;exact absurd hm0 (by decide)
 have:=q1 hmne;subst this;rcases hS.h.ok _ _ hn with⟨hv0,hl0⟩|⟨b,cap,us,hv0,g1,g2,g3,g4,g5,g6,g7⟩
 ·have:l.length=0:=by rw[hl0];rfl
  omega
 ·have hne:cap≠lo:=by omega
  have v2:a.eval d= .slice (some ⟨b,0+lo*1,none⟩) (l.length-lo) (cap-lo):=by rw[v1,hv0];show Value.slice (some ⟨b,if cap=lo then 0 else 0+lo*1,none⟩) _ _=_;rw[if_neg hne]
  let cs:List Value:=m.map (fun x=> .int .u8 (x.toNat:Int))
  have X7:cs.length=m.length:=by simp[cs]
  simp only[LK.sz,Nat.mul_one]at g6;have hrun:=run_copy_row (P:=P) w td ts tyo e b (0+lo*1) (l.length-lo) (cap-lo) ⟨b',o',none⟩ m.length c us ty cs hu h1sz g3 (by rw[X7];show _=min m.length (l.length-lo);omega) (fun j u hj=>by
   have hjl:j<m.length:=by have:=(gS_.1 hj).1;simpa[cs]using this
   obtain⟨u',hu',hru⟩:=q4 j m[j] 0 (.val (.int .u8 (m[j]).toNat)) (gE_ hjl) rfl;have:=hru.val_eq;subst this;simp[cs,hjl]at hj;rw[←hj,Addr.add_lit];simpa[LK.sz]using hu') (by rw[X7];omega) (fun u hu=>by obtain⟨x,_,rfl⟩:=List.mem_map.1 hu;rfl)
  have hexec:(execOp a.eval ⟨dst,.call ⟨.builtin .copy,⟨[d,s]⟩,⟨[td,ts]⟩⟩,tyo,pos,aft,none⟩).run P w= .ok (.value (goInt cs.length)) (w.setRow b (us.toList.take (0+lo*1)++cs++us.toList.drop (0+lo*1+cs.length)).toArray):=by
   rw[←v2,←hsv]at hrun;simp[execOp,resolve,invoke,Go.builtin,hrun]
  refine G3 hexec ?_;have hlen2:(l.take lo++m++l.drop (lo+m.length)).length=l.length:=by simp;omega
  refine hK _ _ (hk M _ _ (J2.put hS (S':=fun j=>j<i+1) (Nat.lt_irrefl i) (fun j hj=>Nat.lt_succ_of_lt hj) (B8.ext_refl _ _) ?_ hf (E9 _ _) (fun e' he=>by cases he;rw[X7];exact .c (.pv (.val rfl))) (by simp)));refine hS.h.step (nn:=n) (xx:= .own v ty .byt (l.take lo++m++l.drop (lo+m.length))) (row:=some b) (J0 w b _) (fun q hq=>by cases hq;exact⟨g1,g2⟩) (fun m' y hm' hy=>?_) (B7 _ _ _) ?_ (fun q hq=> .inr (by rw[hv0]at hq;exact hq))
  ·have hy':D7 st.H n _ m'=some y:=hy;rw[C2 _ _ hm']at hy';exact⟨hy',fun q hq=>by cases hq;rw[hv0]at hn;exact hS.h.inj n m' _ y b (fun e=>hm' e.symm) hn hy' rfl⟩
  ·rw[hv0];refine .inr ⟨b,cap,_,by rw[hlen2],g1,g2,setRow_heap w b us _ ty _ g3,by rw[hlen2];exact g4,g5,?_,fun i x j y e1 e2=>?_⟩
   ·simp[LK.sz,X7];omega
   ·have hj:=M9 e2;have hj0:j=0:=by simp[LK.sz]at hj;exact hj
    subst hj0;simp[LK.enc]at e2;subst e2;have hil:i<l.length:=by have:=(gS_.1 e1).1;omega
    refine⟨.int .u8 (x.toNat:Int),?_,.val rfl⟩;simp only[LK.sz,Nat.mul_one,Nat.add_zero,Nat.zero_add,List.getElem?_toArray];by_cases hi1:i<lo
    ·rw[List.append_assoc,List.getElem?_append_left (by simp;omega),List.getElem?_take,if_pos hi1];rw[List.append_assoc,List.getElem?_append_left (by simp;omega),List.getElem?_take,if_pos hi1]at e1;obtain⟨u,hu,hru⟩:=g7 i x 0 (.val (.int .u8 x.toNat)) e1 rfl;have:=hru.val_eq;subst this;simp only[LK.sz,Nat.mul_one,Nat.add_zero]at hu;rw[Array.getElem?_toList];exact hu
    ·have htl:(us.toList.take lo).length=lo:=by simp;omega
     have htl2:(l.take lo).length=lo:=by simp;omega
     rw[List.append_assoc,List.getElem?_append_right (by rw[htl];omega),htl];rw[List.append_assoc,List.getElem?_append_right (by rw[htl2];omega),htl2]at e1;by_cases hi2:i-lo<m.length
     ·rw[List.getElem?_append_left (by rw[X7];exact hi2)];rw[List.getElem?_append_left hi2]at e1;simp only[cs,List.getElem?_map,e1,Option.map_some]
     ·rw[List.getElem?_append_right (by rw[X7];omega),List.getElem?_drop,X7];rw[List.getElem?_append_right (by omega),List.getElem?_drop]at e1;rw[show lo+m.length+(i-lo-m.length)=i by omega]at e1⊢;obtain⟨u,hu,hru⟩:=g7 i x 0 (.val (.int .u8 x.toNat)) e1 rfl;have:=hru.val_eq;subst this;simp only[LK.sz,Nat.mul_one,Nat.add_zero]at hu;rw[Array.getElem?_toList];exact hu
end
end
end Go.Mt
namespace Go.Proofs.YtgmeedgkjlfpeaaGreat
open Go.Mt
noncomputable section
def kX:E4:=⟨T,J8,A7,A9,37,[],none,.f⟩
theorem A7e:B3 Tryz.prog kX:=⟨H4,A2,A4⟩
theorem oG:F3 Tryz.prog kX:=⟨tOk,A7e⟩
theorem C1g (bd:Nat) (L:oN) (T:Nat→Prop) (d:G4) (S:Nat→Prop) (k:Lk) (r:List Lk) (hk:R7 d L k) (a n:Nat) (hs:((a+n:Nat):Int)≤k.i.m.size):C5 Tryz.prog 86 [lst .ptr ((k::r).map fun k=>k.b),int .i64 a,int .i64 n] [O8 (Y5 bd) L T,C6 bd d S] (fun _=>True) (fun y:((Nat→Prop)×(Nat→Prop))=>int .i64 0) (fun y=>[O8 (Y5 bd) L y.1,C6 bd d y.2]):=by
 refine I4 (E:=kX) Tryz.func86 (fun M0 W hM0=>?_);obtain⟨l1,l2,hL⟩:=List.append_of_mem hk.mem;have hok:=hk.ok.gm.ok;have hsz:=hok.s;have hz16:=hk.ok.gm.sz;refine A3 oG [false] (fun bs=>?_);refine U2 0 2 hL (fun S1 S2=>?_);refine A5 [2] (iS bd k.b k.i S2 hk.ok.gm) (fun S3 _=>?_);refine dR 0 2 hL (fun S4=>?_);refine G0 oG (fun _=>none) [false,false,false,false,false] (fun bs=>?_) (fun bs=>?_)
 ·and_intros<;> first|exact trivial|omega|exact rfl|exact decide_eq_false (by omega)|(simp;omega)
 exact B6 oG (S4,S) trivial [0,1]
def iT:E4:=⟨T,J8,A7,A9,44,[],none,.f⟩
theorem A5J:B3 Tryz.prog iT:=⟨H4,A2,A4⟩
theorem cH:F3 Tryz.prog iT:=⟨tOk,A5J⟩
theorem B7z (bd:Nat) (L:oN) (T:Nat→Prop) (d:G4) (S:Nat→Prop) (k:Lk) (r:List Lk) (hc:∀x∈k::r,R7 d L x) (w:Nat) (hw:w=2 ^ k.i.m.cl.toNat) (p:Nat) (hp:p<O9 k.i.m):C5 Tryz.prog 76 [lst .ptr ((k::r).map fun k=>k.b),str [],int .i64 p] [O8 (Y5 bd) L T,C6 bd d S] (fun _=>True) (fun y:((Nat→Prop)×(Nat→Prop))×Value=> .t [.c (.own 2 y.2),int .i64 0]) (fun y=>[O8 (Y5 bd) L y.1.1,C6 bd d y.1.2,.own y.2 5 .byt (W5 (k::r) (p*w) w)]):=by
 refine I4 (E:=iT) Tryz.func76 (fun M0 W hM0=>?_);have hk:=hc k (by simp);obtain⟨l1,l2,hL⟩:=List.append_of_mem hk.mem;have hok:=hk.ok.gm.ok;have hsz:=hok.s;have hz16:=hk.ok.gm.sz;have X7:=hok.c;have hp2:=P3 X7;have hwi:(2 ^ k.i.m.cl.toNat:Int)=(w:Int):=by rw[hw];push_cast;rfl
 rw[hwi]at hp2;have hn:=hk.ok.gm.n.2.2;rw[hwi]at hn;have hle:((p*w+w:Nat):Int)≤k.i.m.size:=by
  have:(p+1)*w≤O9 k.i.m*w:=Nat.mul_le_mul_right _ hp;rw[Nat.add_mul,Nat.one_mul]at this;have h2:((O9 k.i.m*w:Nat):Int)=(O9 k.i.m:Int)*w:=by push_cast;rfl
  omega
 refine A3 cH [false] (fun bs=>?_);refine U2 0 2 hL (fun S1 S2=>?_);refine A5 [2] (iS bd k.b k.i S2 hk.ok.gm) (fun S3 _=>?_);refine dR 0 2 hL (fun S4=>?_);refine G0 cH (fun _=>none) [false,false,false] (fun bs=>?_) (fun bs=>?_)
 ·and_intros<;> first|exact trivial|omega|exact rfl|exact decide_eq_false (by omega)|exact decide_eq_false (by rw[←hk.ok.gm.n.1];omega)|(show k.i.m.cl≤64;omega)|(simp;omega)
 have hpw:(p:Int)*2 ^ k.i.m.cl.toNat=((p*w:Nat):Int):=by rw[hwi];push_cast;rfl
 refine pH cH 10 [0,0,0,0,12,0,32,127,255,255,1023,2047] 7 [0,1] [] (B7y bd L d (k::r) hc S4 S (p*w) w (fun k' r' e=>by cases e;exact hle) (by simp)) (fun y _=>?_) (hsim:=?hs3) (hp0:=?hp3)
 case hs3=>
  and_intros<;> (first|exact wk_|refine A6 ?_|skip)
  all_goals first|exact hpw|exact hwi|(rw[Int.one_mul];exact hwi)
 case hp3=>and_intros<;> first|exact trivial|exact rfl|omega|(show k.i.m.cl≤64;omega)|(rw[hpw];omega)|(simp;omega)
 refine A3 cH [] (fun bs=>?_);exact B6 cH y trivial [0,1,3]
abbrev pcA (a b c:Int):A:= .g [.pv (i64 a),.pv (i64 b),.pv (i64 c)]
abbrev A2c (c:List Lk) (p w a:Nat) (x:Bs):Bs:=(W5 c (p*w) w).take (16*a)++x++(W5 c (p*w) w).drop (16*a+x.length)
def uC:E4:=⟨T,J8,A7,A9,33,[],none,.f⟩
theorem B3Z:B3 Tryz.prog uC:=⟨H4,A2,A4⟩
theorem eE:F3 Tryz.prog uC:=⟨tOk,B3Z⟩
theorem C5a (bd:Nat) (l1 l2:oN) (T:Nat→Prop) (d:G4) (S:Nat→Prop) (k:Lk) (r:List Lk) (hc:∀x∈k::r,R7 d (l1++(k.b,k.i)::l2) x) (hN:k.n+1≤60) (hd:DOk d) (w:Nat) (hw:w=2 ^ k.i.m.cl.toNat) (p a n:Nat) (hp:p<O9 k.i.m) (x:Bs) (hx:x.length=16*n) (hn0:0<n) (han:a+n≤w):C5 Tryz.prog 91 [lst .ptr ((k::r).map fun k=>k.b),pcA p a n,lst .byt x] [O8 (Y5 bd) (l1++(k.b,k.i)::l2) T,C6 bd d S] (fun y:((Nat→Prop)×(Nat→Prop))×Q9×O0×Nat=>Put k.f k.i k.v k.n d (A2c (k::r) p w a x) p y.2.1 y.2.2.1 y.2.2.2) (fun y=>int .i64 0) (fun y=>[O8 (Y5 bd) (l1++(k.b,y.2.1)::l2) y.1.1,C6 bd ⟨d.room,B4 d.files k.i.nm y.2.2.1,y.2.2.2⟩ y.1.2]):=by
 refine I4 (E:=uC) Tryz.func91 (fun M0 W hM0=>?_);have hk:=hc k (by simp);have hok:=hk.ok.gm.ok;have X7:=hok.c;have hp2:=P3 X7;have hwi:(2 ^ k.i.m.cl.toNat:Int)=(w:Int):=by rw[hw];push_cast;rfl
 rw[hwi]at hp2;refine A3 eE [] (fun bs=>?_);refine A5 [0,1] (B7z bd _ T d S k r hc w hw p hp) (fun y _=>?_);have hal:(W5 (k::r) (p*w) w).length=16*w:=X3 hc _ _;have h16:((a:Int)*16).toNat=16*a:=by omega
 refine A3 eE [false] (fun bs=>?_);refine C5Z eE (n:=3) (lo:=((a:Int)*16).toNat) (m:=x) (l:=W5 (k::r) (p*w) w) (by omega) (by rw[h16];omega) (Int.toNat_natCast _) ?_;refine A3 eE [] (fun bs=>?_);refine I1 3 [7] rfl ⟨rfl,trivial⟩ ?_;refine U2 0 5 rfl (fun S1 S2=>?_);refine yJ (ns:=[0,1,2,5]) (fs:=fun c=>[(0,lst .ptr ((k::r).map fun k=>k.b)),(4,.c (.ptr 2 c 0)),(7,lst .byt (A2c (k::r) p w a x))]) (hs:=fun c=>[O8 (Y5 bd) (l1++l2) S1,C6 bd d y.1.2,.blk c 156 [.pv (i64 p),.pv (i64 a),.pv (i64 n)],K2 bd k.b k.i S2]) ?cc rfl ?wk2 (fun c=>?_)
 case wk2=>
  and_intros<;> (first|exact wk_|refine A6 ?_|skip)
  all_goals(dsimp only[dJ,mX,D7];rw[h16];exact rfl)
 refine Q6 eE 6 [0,1,3,0,8,0,63,127] [] (fun bs=>?_);refine A5 [3,1] (C5V bd k.b k.i S2 d y.1.2 k.f hk.f k.v k.n hk.ok hN hd p hp (A2c (k::r) p w a x) (by simp only[List.length_append,List.length_take,List.length_drop,hal];rw[←hw];omega)) (fun z hz=>?_);refine lZ 0 3 (l:=l1++(k.b,z.2.1)::l2) (l0:=l1++l2) (l1:=l1) (l2:=l2) (x:=(k.b,z.2.1)) rfl rfl (fun S5=>?_);refine A3 eE [] (fun bs=>?_);exact B6 eE ((S5,z.1.2),z.2) hz [0,1]
theorem B8A {d:G4} {L:oN} {c:List Lk} (hc:∀k∈c,R7 d L k) {p w:Nat} {x:Bs} (hx:x.length=16*w):A2c c p w 0 x=x:=by
 show(W5 c (p*w) w).take (16*0)++x++(W5 c (p*w) w).drop (16*0+x.length)=x;rw[Nat.mul_zero,List.take_zero,List.nil_append,List.drop_eq_nil_of_le (by rw[X3 hc];omega),List.append_nil]
def A1Z:E4:=⟨T,J8,A7,A9,31,[],none,.f⟩
theorem B8B:B3 Tryz.prog A1Z:=⟨H4,A2,A4⟩
theorem fH:F3 Tryz.prog A1Z:=⟨tOk,B8B⟩
theorem C6r (bd:Nat) (l1 l2:oN) (T:Nat→Prop) (d:G4) (S:Nat→Prop) (k:Lk) (r:List Lk) (hc:∀x∈k::r,R7 d (l1++(k.b,k.i)::l2) x) (hN:k.n+1≤60) (hd:DOk d) (w:Nat) (hw:w=2 ^ k.i.m.cl.toNat) (p a n:Nat) (hp:p<O9 k.i.m) (b:Bs) (fr:Nat) (hb:fr+16*n≤b.length) (hbl:b.length≤100000) (hn0:0<n) (han:a+n≤w) (bx lx:Nat):C5 Tryz.prog 88 [pcA p a n,bool (decide ((n:Int)=(w:Int))),int .i64 fr,.c (.ptr 2 bx 0),.c (.ptr 3 lx 0)] [O8 (Y5 bd) (l1++(k.b,k.i)::l2) T,C6 bd d S,.blk bx 22 [.pv (.lst .byt b)],.blk lx 85 [.pv (.lst .ptr ((k::r).map fun k=>k.b))]] (fun y:((Nat→Prop)×(Nat→Prop))×Q9×O0×Nat=>Put k.f k.i k.v k.n d (A2c (k::r) p w a ((b.drop fr).take (16*n))) p y.2.1 y.2.2.1 y.2.2.2) (fun y=>int .i64 0) (fun y=>[O8 (Y5 bd) (l1++(k.b,y.2.1)::l2) y.1.1,C6 bd ⟨d.room,B4 d.files k.i.nm y.2.2.1,y.2.2.2⟩ y.1.2,.blk bx 22 [.pv (.lst .byt b)],.blk lx 85 [.pv (.lst .ptr ((k::r).map fun k=>k.b))]]):=by
 refine I4 (E:=A1Z) Tryz.func88 (fun M0 W hM0=>?_);have hk:=hc k (by simp);have hok:=hk.ok.gm.ok;have X7:=hok.c;have hp2:=P3 X7;have hwi:(2 ^ k.i.m.cl.toNat:Int)=(w:Int):=by rw[hw];push_cast;rfl
 rw[hwi]at hp2;refine A3 fH [] (fun bs=>?_);have hsl:List.drop ((fr:Int)).toNat (List.take ((fr:Int)+(n:Int)*16).toNat b)=(b.drop fr).take (16*n):=by
  rw[Int.toNat_natCast,show((fr:Int)+(n:Int)*16).toNat=fr+16*n by omega,List.drop_take,Nat.add_sub_cancel_left]
 obtain⟨x,hx⟩:∃x,x=(b.drop fr).take (16*n):=⟨_,rfl⟩
 have hxl:x.length=16*n:=by rw[hx];simp;omega
 rw[←hx];refine D4 (b:=decide ((n:Int)=(w:Int))) rfl rfl (fun hb2=>?_) (fun hb2=>?_)
 ·have hnw:n=w:=by have:=of_decide_eq_true hb2;omega
  have ha0:a=0:=by omega
  refine A3 fH [] (fun bs=>?_);refine U2 0 5 rfl (fun S1 S2=>?_);refine yJ (ns:=[0,1,2,3,4,5]) (fs:=fun c=>[(4,.c (.ptr 3 lx 0)),(5,.c (.ptr 4 c 0)),(9,lst .byt x)]) (hs:=fun c=>[O8 (Y5 bd) (l1++l2) S1,C6 bd d S,.blk bx 22 [.pv (.lst .byt b)],.blk lx 85 [.pv (.lst .ptr ((k::r).map fun k=>k.b))],.blk c 156 [.pv (i64 p),.pv (i64 a),.pv (i64 n)],K2 bd k.b k.i S2]) ?cc rfl ?wk2 (fun c=>?_)
  case wk2=>
   and_intros<;> (first|exact wk_|refine A6 ?_|skip)
   all_goals(dsimp only[dJ,mX,D7];rw[hsl,hx];exact rfl)
  refine Q6 fH 7 [0,1,3,0,8,0,32,127,255] [] (fun bs=>?_);refine A5 [5,1] (C5V bd k.b k.i S2 d S k.f hk.f k.v k.n hk.ok hN hd p hp x (by rw[hxl,hnw,hw])) (fun z hz=>?_);refine lZ 0 5 (l:=l1++(k.b,z.2.1)::l2) (l0:=l1++l2) (l1:=l1) (l2:=l2) (x:=(k.b,z.2.1)) rfl rfl (fun S5=>?_);refine A3 fH [] (fun bs=>?_);rw[hnw]at hxl;exact B6 fH ((S5,z.1.2),z.2) (by subst ha0;rw[B8A hc hxl];exact hz) [0,1,2,3]
 ·refine A3 fH [] (fun bs=>?_);refine A5 [0,1] (C5a bd l1 l2 T d S k r hc hN hd w hw p a n hp x hxl hn0 han) (fun z hz=>?_) (hsim:=?hs3)
  case hs3=>
   and_intros<;> (first|exact wk_|refine A6 ?_|skip)
   all_goals(rw[hsl,hx];exact rfl)
  refine A3 fH [] (fun bs=>?_);exact B6 fH z hz [0,1,2,3]
theorem R7.turn {d:G4} {l1 l2:oN} {k x:Lk} (h:R7 d (l1++(k.b,k.i)::l2) x) (hne:x.i.nm≠k.i.nm) (j:Q9) (f':O0) (lg:Nat):R7 ⟨d.room,B4 d.files k.i.nm f',lg⟩ (l1++(k.b,j)::l2) x:=by
 refine⟨?_,?_,h.ok⟩
 ·have hm:=h.mem;simp only[List.mem_append,List.mem_cons]at hm⊢;rcases hm with hm|hm|hm
  ·exact .inl hm
  ·exact absurd (congrArg (fun q:Nat×Q9=>q.2.nm) hm) hne
  ·exact .inr (.inr hm)
 ·show H5 (B4 d.files k.i.nm f') x.i.nm=_;rw[K7,if_neg hne];exact h.f
theorem A9j {d:G4} {L:oN} {c:List Lk} (h:∀k∈c,R7 d L k) (a n m:Nat) (hm:m<n):((W5 c a n).drop (16*m)).take 16=K4 c (a+m):=by
 have e:n=m+(1+(n-m-1)):=by omega
 rw[e,wY,List.drop_append,List.drop_eq_nil_of_le (by rw[X3 h];omega),List.nil_append,X3 h,Nat.sub_self,List.drop_zero,wY];have e1:W5 c (a+m) 1=K4 c (a+m):=by show[]++K4 c (a+m+0)=_;rfl
 rw[e1,List.take_append_of_le_length (by rw[A1X h];omega),List.take_of_length_le (by rw[A1X h];omega)]
theorem wZ {k k':Lk} {r:List Lk} (hs:k'.i.m.size=k.i.m.size) (hc:k'.i.m.cl=k.i.m.cl) {q:Nat} (hv:k'.v (q / 2 ^ k.i.m.cl.toNat)=k.v (q / 2 ^ k.i.m.cl.toNat)):K4 (k'::r) q=K4 (k::r) q:=by
 unfold K4;rw[hs,hc,hv]
theorem C1h {d:G4} {L:oN} {k:Lk} {r:List Lk} (hc:∀x∈k::r,R7 d L x) {w p a n:Nat} (hw:w=2 ^ k.i.m.cl.toNat) (hp:p<O9 k.i.m) {x:Bs} (hx:x.length=16*n) (han:a+n≤w) {k':Lk} (hsm:Sm k.i k'.i) (hv:k'.v=A2a k.v p (some (A2c (k::r) p w a x))) (q:Nat):
 K4 (k'::r) q=if p*w+a≤q∧q<p*w+a+n then(x.drop (16*(q-(p*w+a)))).take 16 else K4 (k::r) q:=by
 have hk:=hc k (by simp);have hw0:0<w:=by rw[hw];exact Nat.pow_pos (by omega)
 have hn:=hk.ok.gm.n.2.2;rw[show(2 ^ k.i.m.cl.toNat:Int)=(w:Int) by rw[hw];push_cast;rfl]at hn;have hle:((p*w+w:Nat):Int)≤k.i.m.size:=by
  have:(p+1)*w≤O9 k.i.m*w:=Nat.mul_le_mul_right _ hp;rw[Nat.add_mul,Nat.one_mul]at this;have h2:((O9 k.i.m*w:Nat):Int)=(O9 k.i.m:Int)*w:=by push_cast;rfl
  omega
 by_cases hq:q / w=p
 ·have hqm:=Nat.mod_add_div q w;have hml:=Nat.mod_lt q hw0;rw[hq,Nat.mul_comm]at hqm;have hqs:(q:Int)<k.i.m.size:=by omega
  have e1:K4 (k'::r) q=((A2c (k::r) p w a x).drop (16*(q%w))).take 16:=by
   unfold K4;rw[hsm.sz,hsm.cl,if_pos hqs,←hw,hq,hv];unfold A2a;rw[if_pos rfl]
  have e2:K4 (k::r) q=((W5 (k::r) (p*w) w).drop (16*(q%w))).take 16:=by
   rw[A9j hc _ _ _ hml]
   congr 1
   omega
  have hl:(W5 (k::r) (p*w) w).length=16*w:=X3 hc _ _;rw[e1,e2];unfold A2c;generalize hR:W5 (k::r) (p*w) w=R at hl⊢;obtain⟨m,hm⟩:∃m,m=q%w:=⟨_,rfl⟩
  rw[←hm]at hqm hml⊢;have ht:(R.take (16*a)).length=16*a:=by rw[List.length_take];omega
  by_cases h1:m<a
  ·rw[if_neg (by omega),List.append_assoc,List.drop_append_of_le_length (by rw[ht];omega),List.take_append_of_le_length (by rw[List.length_drop,ht];omega),List.drop_take,List.take_take]
   congr 1
   omega
  ·have e3:R.take (16*a)++x++R.drop (16*a+x.length)=R.take (16*a)++(x++R.drop (16*a+x.length)):=List.append_assoc _ _ _;rw[e3,List.drop_append,List.drop_eq_nil_of_le (by rw[ht];omega),List.nil_append,ht];by_cases h2:m<a+n
   ·rw[if_pos (by omega),List.drop_append_of_le_length (by omega),List.take_append_of_le_length (by rw[List.length_drop];omega),show 16*m-16*a=16*(q-(p*w+a)) by omega]
   ·rw[if_neg (by omega),List.drop_append,List.drop_eq_nil_of_le (by omega),List.nil_append,List.drop_drop,hx,show 16*a+16*n+(16*m-16*a-16*n)=16*m by omega]
 ·have hout:¬(p*w+a≤q∧q<p*w+a+n):=fun h=>hq (by
   rw[Nat.div_eq_iff hw0];omega)
  rw[if_neg hout];refine wZ hsm.sz hsm.cl ?_;rw[hv,←hw];unfold A2a;rw[if_neg hq]
structure fR (d:G4) (nm:Bs) (N l:Nat):Prop where
 fl:∀p∈d.files,p.2.now.length≤4000
 fc:d.files.length≤32
 room:∀f':O0,f'.now.length≤2+64*N→Y1 (B4 d.files nm f')+70≤d.room
 rm:d.room≤1048576
 lg:d.lg+l≤900000000
theorem fR.ok {d:G4} {nm:Bs} {N l:Nat} (h:fR d nm N l) {f:O0} (hf:H5 d.files nm=some f) (hl:f.now.length≤2+64*N):DOk d:=
 ⟨h.fl,h.fc,by have:=h.room f hl;rwa [gG hf]at this,h.rm,by have:=h.lg;omega⟩
theorem eG {kk:KK} {V:Type} {k:kk.T} {v f:V} {l:List (kk.T×V)} (h:H5 l k=some f) {p:kk.T×V} (hp:p∈B4 l k v):p∈l∨p.2=v:=by
 obtain⟨l1,l2,e1,e2,_⟩:=bH h;rw[e2 v]at hp;rw[e1];simp only[List.mem_append,List.mem_cons]at hp⊢;rcases hp with hp|hp|hp
 ·exact .inl (.inl hp)
 ·exact .inr (by rw[hp])
 ·exact .inl (.inr (.inr hp))
theorem fR.step {d:G4} {nm:Bs} {N l:Nat} (h:fR d nm N l) {f:O0} (hf:H5 d.files nm=some f) {f':O0} (hl:f'.now.length≤4000) {lg m:Nat} (hlg:lg+m≤d.lg+l):fR ⟨d.room,B4 d.files nm f',lg⟩ nm N m:=
 ⟨fun p hp=>by rcases eG hf hp with h1|h1;exact h.fl p h1;rw[h1];exact hl,by show(B4 d.files nm f').length≤32;rw[dT hf];exact h.fc,fun f2 h2=>by show Y1 (B4 (B4 d.files nm f') nm f2)+70≤d.room;rw[W8];exact h.room f2 h2,h.rm,by have:=h.lg;show lg+m≤900000000;omega⟩
def C4J (bd b:Nat) (i:Q9) (m0:U7) (ch0:Bool) (k0:Nat) (y:HdX) (b1 b2:Nat):List HB:=
 [K2 bd b i y.T,.blk b2 27 [.pv (i64 0)],.blk y.m 82 (jB m0),.blk y.h 4 [.pv (bv ch0)],.blk y.kp 136 [.ptr 7 y.bk 0],.blk y.c 56 [.ptr 0 b 0],.blk y.n 3 [.pv (i64 i.held.length)],iP y.bk k0 y.S,
  .blk b1 200 [.clo 183 [.ptr 2 y.m 0,.ptr 3 y.h 0,.ptr 4 y.kp 0,.ptr 5 y.c 0,.ptr 6 y.n 0]]]
def A5K:E4:=⟨T,J8,A7,A9,6,[],none,.f⟩
theorem C1i:B3 Tryz.prog A5K:=⟨H4,A2,A4⟩
theorem A9k:F3 Tryz.prog A5K:=⟨tOk,C1i⟩
theorem pcD (bd b:Nat) (i:Q9) (m0:U7) (ch0:Bool) (k0:Nat) (y:HdX) (n:Nat) (hn:i.held.length=n+1) (hb:n≤1000) (b1 b2:Nat):A6Z (X:=((Nat→Prop))) Tryz.prog 169 [.c (.ptr 8 b1 0),.c (.ptr 1 b2 0)] (C4J bd b i m0 ch0 k0 y b1 b2) (fun _=>True) (fun T=>[K2 bd b (L7 i (i.held.take n)) T,.blk b2 27 [.pv (i64 0)]]):=by
 refine jV (E:=A5K) Tryz.func169 rfl (by decide) rfl rfl (fun M0 W hM0=>?_);refine A3 A9k [] (fun bs=>?_);refine A5 [0,2,3,4,5,6,7] (C4I bd b i m0 ch0 k0 y n hn hb) (fun T _=>?_);refine A3 A9k [] (fun bs=>?_);exact A3y A9k T trivial [0,1]
structure Wrt (d:G4) (k:Lk) (r:List Lk) (a n:Nat) (b:Bs) (k':Lk) (lg:Nat):Prop where
 bb:k'.b=k.b
 sm:Sm k.i k'.i
 ok:I8 k'.f k'.i k'.v k'.n
 st:k'.n≤k.n+n
 lg:lg≤d.lg+64*n
 fb:k'.f.b=k.f.b
 sec:∀q,K4 (k'::r) q=if a≤q∧q<a+n then(b.drop (16*(q-a))).take 16 else K4 (k::r) q
def aY (k:Lk) (l:List U7):Lk:=⟨k.b,L7 k.i l,k.f,k.v,k.n⟩
theorem I8.hold {f:O0} {i:Q9} {v:Nat→Option Bs} {N:Nat} (h:I8 f i v N) (hl:i.held.length≤1):I8 f (L7 i (i.held++[i.m])) v N:=by
 refine⟨h.gm,h.gk,fun m hm=>?_,by simp[L7];omega,h.sec,h.len,h.nb,h.head,h.seq,h.ls,h.vw,h.kr,fun m hm j hj=>?_,h.gs,h.gl,h.kn⟩
 ·have hm:m∈i.held++[i.m]:=hm;rcases List.mem_append.1 hm with hm|hm
  ·exact h.gh m hm
  ·rw[List.mem_singleton.1 hm];exact h.gm
 ·have hm:m∈i.held++[i.m]:=hm;rcases List.mem_append.1 hm with hm|hm
  ·exact h.hr m hm j hj
  ·rw[List.mem_singleton.1 hm]at hj⊢;exact h.ez j hj
theorem I8.unhold {f:O0} {i:Q9} {v:Nat→Option Bs} {N:Nat} (h:I8 f i v N) (l:List U7) (hl:∀m∈l,m∈i.held) (hn:l.length≤2):I8 f (L7 i l) v N:=
 ⟨h.gm,h.gk,fun m hm=>h.gh m (hl m hm),hn,h.sec,h.len,h.nb,h.head,h.seq,h.ls,h.vw,h.kr,fun m hm=>h.hr m (hl m hm),h.gs,h.gl,h.kn⟩
def A1a:E4:=⟨T,J8,A7,A9,62,[],none,.f⟩
theorem B8C:B3 Tryz.prog A1a:=⟨H4,A2,A4⟩
theorem bX:F3 Tryz.prog A1a:=⟨tOk,B8C⟩
theorem C6s (bd:Nat) (l1 l2:oN) (T:Nat→Prop) (d:G4) (S:Nat→Prop) (k:Lk) (r:List Lk) (hc:∀x∈k::r,R7 d (l1++(k.b,k.i)::l2) x) (hnr:∀x∈r,x.i.nm≠k.i.nm) (hh:k.i.held.length≤1) (a n:Nat) (hs:((a+n:Nat):Int)≤k.i.m.size) (b:Bs) (hb:b.length=16*n) (hN:k.n+n≤60) (hd:fR d k.i.nm (k.n+n) (64*n)) (bx lx:Nat):C5 Tryz.prog 87 [lst .ptr ((k::r).map fun k=>k.b),int .i64 a,int .i64 n,.c (.clo 88 [.ptr 2 bx 0,.ptr 3 lx 0])] [O8 (Y5 bd) (l1++(k.b,k.i)::l2) T,C6 bd d S,.blk bx 22 [.pv (.lst .byt b)],.blk lx 85 [.pv (.lst .ptr ((k::r).map fun k=>k.b))]] (fun y:((Nat→Prop)×(Nat→Prop))×Lk×Nat=>Wrt d k r a n b y.2.1 y.2.2) (fun y=>int .i64 0) (fun y=>[O8 (Y5 bd) (l1++(y.2.1.b,y.2.1.i)::l2) y.1.1,C6 bd ⟨d.room,B4 d.files k.i.nm y.2.1.f,y.2.2⟩ y.1.2,.blk bx 22 [.pv (.lst .byt b)],.blk lx 85 [.pv (.lst .ptr ((k::r).map fun k=>k.b))]]):=by
 refine I4 (E:=A1a) Tryz.func87 (fun M0 W hM0=>?_);have hk:=hc k (by simp);have hok:=hk.ok.gm.ok;have hsz:=hok.s;have hz16:=hk.ok.gm.sz;have X7:=hok.c;have hp:=P3 X7;have hkn:=hk.ok.kn;have hknb:=hk.ok.nb;obtain⟨w,hw⟩:∃w:Nat,w=2 ^ k.i.m.cl.toNat:=⟨_,rfl⟩
 have hwi:(2 ^ k.i.m.cl.toNat:Int)=(w:Int):=by rw[hw];push_cast;rfl
 rw[hwi]at hp;have hw0:0<w:=by omega
 refine A3 bX [] (fun bs=>?_);generalize(bs 0 0 0).bn=b8;refine U2 0 5 rfl (fun S1 S2=>?_);refine A5 [5] (iS bd k.b k.i S2 hk.ok.gm) (fun S3 _=>?_);refine A3 bX [] (fun bs=>?_);refine A5 [5] (B7r bd k.b k.i S3 hk.ok.gm (by omega) (by omega)) (fun y _=>?_);refine A3 bX [] (fun bs=>?_);generalize(bs 0 0 0).bn=b12;refine B5I (f:=169) (bs:=[b12,b8]) ?_;refine A3 (bX.df _) [] (fun bs=>?_);refine lZ 0 5 (l:=l1++(k.b,L7 k.i (k.i.held++[k.i.m]))::l2) (l0:=l1++l2) (l1:=l1) (l2:=l2) (x:=(k.b,L7 k.i (k.i.held++[k.i.m]))) rfl rfl (fun S4=>?_);have hE:A1T a n k.i.m.cl=0:=by unfold A1T;rw[if_neg (by omega)]
 obtain⟨P,hP⟩:∃P,P=A2b a n k.i.m.cl:=⟨_,rfl⟩
 have hP2:P=Q1 w n a n:=by rw[hP,A2b,if_pos hE,hwi,Int.toNat_natCast]
 have hPl:P.length≤n:=by rw[hP2];exact A1U (by omega) _ _ _
 obtain⟨kh,hkh⟩:∃kh,kh=aY k (k.i.held++[k.i.m]):=⟨_,rfl⟩
 have hW0:Wrt d kh r a 0 b kh d.lg:=⟨rfl,⟨rfl,rfl,rfl,rfl,rfl⟩,by rw[hkh];exact hk.ok.hold hh,Nat.le_refl _,Nat.le_refl _,rfl,fun q=>by rw[if_neg (by omega)]⟩
 refine L5 (fun q:((Nat→Prop)×(Nat→Prop))×Lk×Nat×Nat×Nat×Value=>[(3,.c (.clo 88 [.ptr 2 bx 0,.ptr 3 lx 0])),(8,.c (.ptr 4 b8 0)),(10,int .i64 k.i.m.cl),(15,int .i64 (16*(q.2.2.2.1-a):Nat)),(38,.c (.own 12 q.2.2.2.2.2)),(39,int .i64 P.length),(40,int .i64 q.2.2.2.2.1)])
  (fun q=>[O8 (Y5 bd) (l1++(k.b,q.2.1.i)::l2) q.1.1,C6 bd ⟨d.room,B4 d.files k.i.nm q.2.1.f,q.2.2.1⟩ q.1.2,.blk bx 22 [.pv (.lst .byt b)],.blk lx 85 [.pv (.lst .ptr ((k::r).map fun k=>k.b))],.blk b8 27 [.pv (i64 0)],
   .blk y.m 82 (jB k.i.m),.blk y.h 4 [.pv (bv k.i.ch)],.blk y.kp 136 [.ptr 10 y.bk 0],.blk y.c 56 [.pv (.val (.pointer (some ⟨k.b,0,none⟩)))],.blk y.n 3 [.pv (i64 (k.i.held++[k.i.m]:List U7).length)],iP y.bk k.i.k y.S,
   .blk b12 200 [.clo 183 [.ptr 5 y.m 0,.ptr 6 y.h 0,.ptr 7 y.kp 0,.ptr 8 y.c 0,.ptr 9 y.n 0]],.own q.2.2.2.2.2 156 .pcs P])
  (fun q=>Wrt d kh r a (q.2.2.2.1-a) b q.2.1 q.2.2.1∧q.2.2.2.2.1≤P.length∧a≤q.2.2.2.1∧q.2.2.2.1≤a+n∧P.drop q.2.2.2.2.1=Q1 w (a+n-q.2.2.2.1) q.2.2.2.1 ((a+n-q.2.2.2.1:Nat):Int))
  (fun q=>P.length-q.2.2.2.2.1) [0,1,2,3,4,6,7,8,9,10,11,12,13] ((S4,S),kh,d.lg,a,0,?pv) ⟨by simp only[Nat.sub_self];exact hW0,Nat.zero_le _,Nat.le_refl _,by simp only;omega,by simp only[List.drop_zero];rw[hP2,show a+n-a=n by omega]⟩ ?wk1 (fun q hq=>?_)
 case wk1=>
  rw[hP,hkh]
  and_intros<;> (first|exact wk_|refine A6 ?_|skip)
  all_goals first|exact(show cV (C6 bd d S) (C6 bd ⟨d.room,B4 d.files k.i.nm k.f,d.lg⟩ S)from by rw[kU hk.f];exact rfl)|(show(0:Int)=((16*(a-a):Nat):Int);simp;done)
 obtain⟨⟨T1,D1⟩,⟨kb,ki,kf,kv,kn⟩,lg,p,q,pv⟩:=q;obtain⟨hW,hq1,hq2,hq3,hq4⟩:=hq;simp only at hW hq1 hq2 hq3 hq4;have hkb:kb=kh.b:=hW.bb;have hkb:kb=k.b:=by rw[hkb,hkh];rfl
 subst hkb;have hnm:ki.nm=k.i.nm:=by rw[hW.sm.nm,hkh];rfl
 have hkcl:ki.m.cl=k.i.m.cl:=by rw[hW.sm.cl,hkh];rfl
 have hksz:ki.m.size=k.i.m.size:=by rw[hW.sm.sz,hkh];rfl
 have hst:kn≤k.n+(p-a):=by have:=hW.st;rw[hkh]at this;exact this
 have hlg:lg≤d.lg+64*(p-a):=hW.lg;refine A3 (bX.df _) [] (fun bs=>?_);refine I6 rfl rfl (fun hk2=>?_) (fun hk2=>?_)
 ·have hk2:(q:Int)<(P.length:Nat):=hk2;have hqP:q<P.length:=by omega
  obtain⟨N,hN2⟩:∃N,a+n-p=N+1:=by
   refine⟨a+n-p-1,?_⟩;apply Decidable.byContradiction;intro hne;rw[V9 _ _ _ _ (by omega)]at hq4;have:=congrArg List.length hq4;rw[List.length_drop]at this;simp at this;omega
  have hq5:=hq4;rw[hN2,W0 _ _ _ _ (by omega)]at hq5;obtain⟨cnt,hcnt⟩:∃cnt,cnt=min (a+n-p) (w-p%w):=⟨_,rfl⟩
  have hpm:=Nat.mod_lt p hw0;have hPq:P.getD q LK.pcs.dft=⟨((p / w:Nat):Int),((p%w:Nat):Int),(cnt:Nat)⟩:=by
   have h1:P.getD q LK.pcs.dft=(P.drop q).getD 0 LK.pcs.dft:=by simp[List.getD]
   rw[h1,hq5];show pcX (w:Int) (p:Int) _=_;unfold pcX;rw[←Int.natCast_ediv,←Int.natCast_emod]
   congr 1
   omega
  have hkn':O9 ki.m=O9 k.i.m:=by unfold O9;rw[hkcl,hksz]
  have hpw:p / w<O9 ki.m:=by
   have hn:=hk.ok.gm.n.2.2;rw[hwi]at hn;rw[hkn',Nat.div_lt_iff_lt_mul hw0];have:(p:Int)<((O9 k.i.m*w:Nat):Int):=by push_cast;omega
   omega
  have hdrop:P.drop (q+1)=Q1 w (a+n-(p+cnt)) ((p+cnt:Nat):Int) ((a+n-(p+cnt):Nat):Int):=by
   have h1:P.drop (q+1)=(P.drop q).tail:=by rw[List.tail_drop]
   rw[h1,hq5,List.tail_cons];have e1:(p:Int)+min ((N+1:Nat):Int) ((w:Int)-(p:Int)%w)=((p+cnt:Nat):Int):=by
    rw[←Int.natCast_emod];omega
   have e2:((N+1:Nat):Int)-min ((N+1:Nat):Int) ((w:Int)-(p:Int)%w)=((a+n-(p+cnt):Nat):Int):=by
    rw[←Int.natCast_emod];omega
   rw[e1,e2];exact kV (by omega) _ _ _ _ (by omega) (by omega)
  obtain⟨kc,hkc⟩:∃kc:Lk,kc=⟨k.b,ki,kf,kv,kn⟩:=⟨_,rfl⟩
  have hokc:I8 kf ki kv kn:=hW.ok;have hf':H5 (B4 d.files k.i.nm kf) ki.nm=some kf:=by rw[hnm,K7,if_pos rfl]
  have hlen:=hokc.len;have hnb:=hokc.nb;have hc':∀x∈(⟨k.b,ki,kf,kv,kn⟩:Lk)::r,R7 ⟨d.room,B4 d.files k.i.nm kf,lg⟩ (l1++(k.b,ki)::l2) x:=by
   intro x hx;rcases List.mem_cons.1 hx with hx|hx
   ·rw[hx];exact⟨by simp,hf',hokc⟩
   ·exact(hc x (by simp[hx])).turn (hnr x hx) ki kf lg
  have hd':fR ⟨d.room,B4 d.files k.i.nm kf,lg⟩ k.i.nm (k.n+n) (64*(a+n-p)):=hd.step hk.f (by omega) (by omega);have hdo:DOk ⟨d.room,B4 d.files k.i.nm kf,lg⟩:=hd'.ok (f:=kf) (by show H5 (B4 d.files k.i.nm kf) k.i.nm=some kf;rw[K7,if_pos rfl]) (by omega);refine A3 (bX.df _) [] (fun bs=>?_);refine yJ (ns:=[0,1,2,3,4,5,6,7,8,9,10,11,12,13]) (fs:=fun c=>[(3,.c (.clo 88 [.ptr 2 bx 0,.ptr 3 lx 0])),(8,.c (.ptr 4 b8 0)),(10,int .i64 k.i.m.cl),(15,int .i64 (16*(p-a):Nat)),(17,.c (.ptr 13 c 0)),(38,.c (.own 12 pv)),(39,int .i64 P.length),(40,int .i64 q)])
   (hs:=fun c=>[O8 (Y5 bd) (l1++(k.b,ki)::l2) T1,C6 bd ⟨d.room,B4 d.files k.i.nm kf,lg⟩ D1,.blk bx 22 [.pv (.lst .byt b)],.blk lx 85 [.pv (.lst .ptr ((k::r).map fun k=>k.b))],.blk b8 27 [.pv (i64 0)],
    .blk y.m 82 (jB k.i.m),.blk y.h 4 [.pv (bv k.i.ch)],.blk y.kp 136 [.ptr 10 y.bk 0],.blk y.c 56 [.pv (.val (.pointer (some ⟨k.b,0,none⟩)))],.blk y.n 3 [.pv (i64 (k.i.held++[k.i.m]:List U7).length)],iP y.bk k.i.k y.S,
    .blk b12 200 [.clo 183 [.ptr 5 y.m 0,.ptr 6 y.h 0,.ptr 7 y.kp 0,.ptr 8 y.c 0,.ptr 9 y.n 0]],.own pv 156 .pcs P,.blk c 156 [.pv (i64 ((p / w:Nat):Int)),.pv (i64 ((p%w:Nat):Int)),.pv (i64 (cnt:Nat))]]) ?cc rfl ?wk2 (fun c=>?_)
  case wk2=>
   and_intros<;> (first|exact wk_|refine A6 ?_|skip)
   all_goals(dsimp only;rw[Int.toNat_natCast,hPq])
  refine Q6 (bX.df _) 8 [0,0,0,4,0,16,60,0,255,511] [] (fun bs=>?_) (hchk:=by dsimp only;decide+kernel);refine A5 [0,1,2,3] (C6r bd l1 l2 T1 ⟨d.room,B4 d.files k.i.nm kf,lg⟩ D1 ⟨k.b,ki,kf,kv,kn⟩ r hc' (by show kn+1≤60;omega) hdo w (by show w=2 ^ ki.m.cl.toNat;rw[hkcl];exact hw) (p / w) (p%w) cnt hpw b (16*(p-a)) (by omega) (by omega) (by omega) (by omega) bx lx) (fun z hz=>?_) (hsim:=?hs3)
  case hs3=>
   and_intros<;> (first|exact wk_|refine A6 ?_|skip)
   all_goals(rw[Int.one_mul,hwi];exact rfl)
  obtain⟨⟨T2,D2⟩,j,f',lg'⟩:=z;have hz:Put kf ki kv kn ⟨d.room,B4 d.files k.i.nm kf,lg⟩ (A2c ((⟨k.b,ki,kf,kv,kn⟩:Lk)::r) (p / w) w (p%w) ((b.drop (16*(p-a))).take (16*cnt))) (p / w) j f' lg':=hz;have hms:B4 (B4 d.files k.i.nm kf) ki.nm f'=B4 d.files k.i.nm f':=by rw[hnm,W8]
  have hmd:p / w*w+p%w=p:=by rw[Nat.mul_comm];exact Nat.div_add_mod p w
  have hW2:Wrt d kh r a (p+cnt-a) b ⟨k.b,j,f',A2a kv (p / w) (some (A2c ((⟨k.b,ki,kf,kv,kn⟩:Lk)::r) (p / w) w (p%w) ((b.drop (16*(p-a))).take (16*cnt)))),kn+1⟩ lg':=by
   refine⟨by rw[hkh];rfl,hW.sm.trans hz.sm,hz.ok,?_,?_,hz.b.trans hW.fb,fun s=>?_⟩
   ·rw[hkh];show kn+1≤k.n+_;omega
   ·have:lg'≤lg+64:=hz.lg;omega
   ·rw[C1h hc' (w:=w) (p:=p / w) (a:=p%w) (n:=cnt) (x:=(b.drop (16*(p-a))).take (16*cnt)) (by show w=2 ^ ki.m.cl.toNat;rw[hkcl];exact hw) hpw (by simp;omega) (by omega) hz.sm rfl s,hmd];have h2:=hW.sec s;rw[h2];by_cases h3:p≤s∧s<p+cnt
    ·rw[if_pos h3,if_pos (by omega),List.drop_take,List.take_take,List.drop_drop];rw[show 16*(p-a)+16*(s-p)=16*(s-a) by omega]
     congr 1
     omega
    ·rw[if_neg h3];by_cases h4:a≤s∧s<a+(p-a)
     ·rw[if_pos h4,if_pos (by omega)]
     ·rw[if_neg h4,if_neg (by omega)]
  refine A3 (bX.df _) [false] (fun bs=>?_);refine H3 [0,1,2,3,4,5,6,7,8,9,10,11,12] ((T2,D2),⟨k.b,j,f',_,kn+1⟩,lg',p+cnt,q+1,pv) ⟨⟨hW2,by simp only;omega,by simp only;omega,by simp only;omega,hdrop⟩,by simp only;omega⟩ (h:=?wk4)
  case wk4=>
   and_intros<;> (first|exact wk_|refine A6 ?_|skip)
   all_goals first|exact(show cV (C6 bd ⟨d.room,B4 (B4 d.files k.i.nm kf) ki.nm f',lg'⟩ D2) (C6 bd ⟨d.room,B4 d.files k.i.nm f',lg'⟩ D2)from by rw[hms];exact rfl)|(show((16*(p-a):Nat):Int)+(cnt:Int)*16=((16*(p+cnt-a):Nat):Int);omega)
 ·refine A3 (bX.df _) [] (fun bs=>?_);have hk2:¬((q:Int)<(P.length:Nat)):=hk2;have hpe:p=a+n:=by
   rw[List.drop_eq_nil_of_le (by omega)]at hq4;apply Decidable.byContradiction;intro hne;obtain⟨N,hN3⟩:∃N,a+n-p=N+1:=⟨a+n-p-1,by omega⟩
   rw[hN3,W0 _ _ _ _ (by omega)]at hq4;cases hq4
  subst hpe;have hheld:ki.held=k.i.held++[k.i.m]:=by rw[hW.sm.hd,hkh];rfl
  have hWf:Wrt d k r a n b ⟨k.b,L7 ki k.i.held,kf,kv,kn⟩ lg:=by
   have h1:=hW.sec;have h2:=hW.st;rw[hkh]at h2;rw[Nat.add_sub_cancel_left]at h1 h2 hlg;exact⟨rfl,⟨hnm,hkcl,hksz,by show ki.m.bk=_;rw[hW.sm.bk,hkh];rfl,rfl⟩,hW.ok.unhold _ (fun m hm=>by show m∈ki.held;rw[hheld];simp[hm]) (by omega),h2,hlg,by rw[hW.fb,hkh];rfl,fun s=>by have:=h1 s;rw[hkh]at this;exact this⟩
  refine U2 0 13 rfl (fun S5 S6=>?_);refine B5K [13,4,5,6,7,8,9,10,11] (pcD bd k.b ki k.i.m k.i.ch k.i.k ⟨S6,y.m,y.h,y.kp,y.c,y.n,y.bk,y.S⟩ k.i.held.length (by rw[hheld];simp) (by omega) b12 b8) (fun T3 _=>?_) (hl:=?hl5)
  case hl5=>
   and_intros<;> (first|exact wk_|refine A6 ?_|skip)
   all_goals first|(rw[hheld];done)
  rw[show ki.held.take k.i.held.length=k.i.held from by rw[hheld];exact List.take_left];refine lZ 0 13 (l:=l1++(k.b,L7 ki k.i.held)::l2) (l0:=l1++l2) (l1:=l1) (l2:=l2) (x:=(k.b,L7 ki k.i.held)) rfl rfl (fun S7=>?_);exact Z5 ((bX.df _).df _) ((S7,D1),⟨k.b,L7 ki k.i.held,kf,kv,kn⟩,lg) hWf [0,1,2,3]
def oH:E4:=⟨T,J8,A7,A9,31,[],none,.f⟩
theorem A9l:B3 Tryz.prog oH:=⟨H4,A2,A4⟩
theorem lQ:F3 Tryz.prog oH:=⟨tOk,A9l⟩
theorem B8D (bd:Nat) (l1 l2:oN) (T:Nat→Prop) (d:G4) (S:Nat→Prop) (k:Lk) (r:List Lk) (hc:∀x∈k::r,R7 d (l1++(k.b,k.i)::l2) x) (hnr:∀x∈r,x.i.nm≠k.i.nm) (hh:k.i.held.length≤1) (a n:Nat) (hs:((a+n:Nat):Int)≤k.i.m.size) (b:Bs) (hb:b.length=16*n) (hN:k.n+n≤60) (hd:fR d k.i.nm (k.n+n) (64*n)):C5 Tryz.prog 45 [lst .ptr ((k::r).map fun k=>k.b),int .i64 a,lst .byt b] [O8 (Y5 bd) (l1++(k.b,k.i)::l2) T,C6 bd d S] (fun y:((Nat→Prop)×(Nat→Prop))×Lk×Nat=>Wrt d k r a n b y.2.1 y.2.2) (fun y=>int .i64 0) (fun y=>[O8 (Y5 bd) (l1++(y.2.1.b,y.2.1.i)::l2) y.1.1,C6 bd ⟨d.room,B4 d.files k.i.nm y.2.1.f,y.2.2⟩ y.1.2]):=by
 refine I4 (E:=oH) Tryz.func45 (fun M0 W hM0=>?_);have hk:=hc k (by simp);have hz16:=hk.ok.gm.sz;have hq:(b.length:Int) / 16=(n:Nat):=by rw[hb];omega
 refine G0 lQ (fun _=>none) [false,false] (fun bs=>?_) (fun bs=>?_)
 ·and_intros<;> first|exact trivial|exact rfl|omega|(show(!decide (((b.length:Nat):Int)%16=0))=false;rw[decide_eq_true (by omega)];rfl)
 refine A5 [0,1] (C1g bd _ T d S k r hk a n hs) (fun y _=>?_) (hsim:=?hs1)
 case hs1=>
  and_intros<;> (first|exact wk_|refine A6 ?_|skip)
  all_goals first|exact hq
 refine A3 lQ [false] (fun bs=>?_);refine A5 [0,1,3,2] (C6s bd l1 l2 y.1 d y.2 k r hc hnr hh a n hs b hb hN hd ?bx ?lx) (fun z hz=>?_) (hsim:=?hs2)
 case hs2=>
  and_intros<;> (first|exact wk_|refine A6 ?_|skip)
  all_goals first|exact hq
 refine A3 lQ [] (fun bs=>?_);exact B6 lQ z hz [0,1]
end
end Go.Proofs.YtgmeedgkjlfpeaaGreat
namespace Go.Mt
open Go.RowKit
noncomputable section
section
variable {P : Program} {E : E4} {B : Nat → Prop} {W : World} {M0 : B8} {Q : Exit → Act → World → Prop} {k : List Z3} {st : St}
theorem C5b (hE:F3 P E) {all:List Oper} {i:Nat} {o:Oper} {t:TypeId} {x y v:Operand} {r:HR} {f':Nat→Option Ent}
 (hk:G P E B W M0 Q (.ops all (i+1)::k) ⟨f',r.H,r.nx⟩)
 (hd:R5 i all=o::R5 (i+1) all:=by exact rfl) (hg:o.guard=none:=by exact rfl) (ho:o.op= .insert t x y v:=by exact rfl)
 (h:E7 E st.H st.nx (V2 st.f []) undef (.mapUpdate t x y v)=some r:=by exact rfl) (hob:r.ob:=by and_intros<;> first|exact trivial|exact rfl)
 (hf:P6 E.N i (C9 all all) st.f o.dst (some (.u r.x))=some f':=by exact rfl):G P E B W M0 Q (.ops all i::k) st:=by
 intro M a w hS;show xU E.ro P all.toArray (after E.ro P Q k) (R5 i all) a w;rw[hd];refine P1 fun K hK=>?_
 have hw:Region.wanted o (yielded all.toArray a.tmps)=true:=by unfold Region.wanted;rw[hg]
 rw[if_pos hw];obtain⟨dst,op,tyo,pos,aft,guard⟩:=o;simp only at ho hg hf;subst ho hg;have hr:=J6 hS (Γ:=[]) (by simp);show Oper.wp P ⟨dst,.mapUpdate t x y v,tyo,pos,aft,none⟩ a w K _;refine oU hE.T hS.h hr (nx:=st.nx) (fun u=>⟨r,?_,hob,fun v' w' M' hM hS2 hv=>?_⟩)
 ·rw[←h];rfl
 ·refine hK _ _ (hk M' _ w' ?_);exact J2.put hS (S':=fun j=>j<i+1) (Nat.lt_irrefl i) (fun j hj=>Nat.lt_succ_of_lt hj) hM hS2 hf (E9 _ _) (fun e' he=>by cases he;exact hv) (by simp)
end
end
end Go.Mt
namespace Go.Proofs.YtgmeedgkjlfpeaaGreat
open Go.Mt
noncomputable section
abbrev fS:bD:=⟨[],[]⟩
def ysB (l:List bD):List (Nat×bD):=(List.range l.length).map fun j=>(l.length-1-j,l.getD (l.length-1-j) fS)
theorem xA (l:List bD):(ysB l).length=l.length:=by simp[ysB]
theorem B8E {l:List bD} {j:Nat} (h:j<l.length):(ysB l)[j]? =some (l.length-1-j,l.getD (l.length-1-j) fS):=by
 simp[ysB,h]
def evB (y:Nat×bD):List Value:=[.int .i64 y.1,.agg #[.string ⟨y.2.nm.toArray⟩,.string ⟨y.2.bk.toArray⟩]]
def eaB (y:Nat×bD):List A:=[int .i64 y.1,.g [.pv (sv y.2.nm),.pv (sv y.2.bk)]]
theorem C4K (M:B8) (y:Nat×bD) (vs:Array Value) (h:cB M (eaB y) vs):vs=(evB y).toArray:=by
 obtain⟨h1,h2⟩:=h;obtain⟨vs⟩:=vs
 match vs,h1,h2 with
 |[u,v],_,h2=>
  have a0:=h2 0 _ u rfl rfl;have a1:=h2 1 _ v rfl rfl;cases a0 with|c a0=>cases a0 with|pv a0=>
  cases a1 with| @g _ us hr=>
  obtain⟨g1,g2⟩:=hr;obtain⟨us⟩:=us
  match us,g1,g2 with
  |[u0,u1],_,g2=>
   have c0:=g2 0 _ u0 rfl rfl;have c1:=g2 1 _ u1 rfl rfl;cases c0 with|pv c0=>cases c1 with|pv c1=>
   rw[a0.val_eq,c0.val_eq,c1.val_eq];rfl
theorem C4L (M:B8) (y:Nat×bD):cB M (eaB y) (evB y).toArray:=by
 refine⟨rfl,fun j a v e1 e2=>?_⟩
 match j,e1,e2 with
 |0,e1,e2=>cases e1;cases e2;exact .c (.pv (.val rfl))
 |1,e1,e2=>
  cases e1;cases e2;refine .g ⟨rfl,fun j c u e1 e2=>?_⟩
  match j,e1,e2 with
  |0,e1,e2=>cases e1;cases e2;exact .pv (.val rfl)
  |1,e1,e2=>cases e1;cases e2;exact .pv (.val rfl)
def A5L:E4:=⟨T,J8,A7,A9,19,[],some 0,.f⟩
theorem C1j:B3 Tryz.prog A5L:=⟨H4,A2,A4⟩
theorem uD:F3 Tryz.prog A5L:=⟨tOk,C1j⟩
theorem C1k (l:List bD) (hl:l.length≤1000000):B9d Tryz.prog 115 [.cel [.lst .lnk l]] evB (ysB l):=by
 refine A6Q (E:=A5L) Tryz.func115 (by decide) rfl rfl rfl rfl rfl (fun args w=>?_) (fun M lid J Jx w hJ hJx h0 hy=>?_)
 ·simp[callFunc,Tryz.func115,Tryz.f115]
 refine A3 uD [] (fun bs=>?_);refine A6P (J:=J) (n:=l.length) rfl hJ (fun i=>[(0,pv (.val (.func (.yield lid) #[] #[]))),(1,.c (.cel [.lst .lnk l])),(3,int .i64 ((l.length:Int)-1-(i:Nat)))]) rfl h0 ?wk (fun i w' M' hi hJi=>?_)
 case wk=>
  and_intros<;> (first|exact wk_|refine A6 ?_|skip)
  all_goals first|omega
 refine A3 uD [] (fun bs=>?_);refine I6 rfl rfl (fun hk=>?_) (fun hk=>?_)
 ·have hk:(l.length:Int)-1-(i:Nat) ≥ 0:=hk;have hk':i<l.length:=by omega
  have e:(l.length:Int)-1-(i:Nat)=((l.length-1-i:Nat):Int):=by omega
  simp only[e];refine A3 uD [] (fun bs=>?_);refine B0P (J:=J) (Jx:=Jx) (i:=i) rfl rfl hJ (by exact trivial) rfl evB eaB C4K (y:=(l.length-1-i,l.getD (l.length-1-i) fS)) rfl rfl hJi (hy _ _ (B8E hk')) (fun b=>rfl) (fun W2 M2 h3=>?_) (fun W2 M2 h3=>?_)
  ·refine A3 uD [false] (fun bs=>?_);refine A8F (J:=J) rfl hJ hk' h3 ?wk3
   case wk3=>
    and_intros<;> (first|exact wk_|refine A6 ?_|skip)
    all_goals first|omega
  ·refine A3 uD [true] (fun bs=>?_);exact B0M rfl hJ hJx rfl (.inr ⟨i+1,by rw[xA];omega,h3⟩)
 ·have hk:¬((l.length:Int)-1-(i:Nat) ≥ 0):=hk;have hk':i=(ysB l).length:=by rw[xA];omega
  subst hk';refine A3 uD [] (fun bs=>?_);exact B0N rfl hJ hJx (.inl hJi)
def uE:E4:=⟨T,J8,A7,A9,4,[],none,.f⟩
theorem B3a:B3 Tryz.prog uE:=⟨H4,A2,A4⟩
theorem A7f:F3 Tryz.prog uE:=⟨tOk,B3a⟩
theorem C5c (l:List bD):C5 Tryz.prog 56 [lst .lnk l] [] (fun _=>True) (fun _:Unit=> .c (.clo 115 [.cel [.lst .lnk l]])) (fun _=>[]):=by
 refine I4 (E:=uE) Tryz.func56 (fun M0 W hM0=>?_);refine A3 A7f [] (fun bs=>?_);refine rQ 2 0 0 (ys:=[.lst .lnk l]) rfl rfl rfl ?_;exact B6 A7f () trivial []
abbrev C5d:=List (KK.str.T×VK.str.T)
def mB (l:List bD):Nat→C5d
 |0=>[]
 |i+1=>B4 (mB l i) (l.getD (l.length-1-i) fS).nm (l.getD (l.length-1-i) fS).bk
theorem C5e {l:List bD} (hinj:∀x∈l,∀y∈l,x.nm=y.nm→x=y):∀i,i≤l.length→∀j,j<i→H5 (mB l i) (l.getD (l.length-1-j) fS).nm=some (l.getD (l.length-1-j) fS).bk:=by
 have hm:∀j,j<l.length→l.getD (l.length-1-j) fS∈l:=fun j hj=>by
  rw[List.getD_eq_getElem?_getD,gE_ (by omega)];exact List.getElem_mem _
 intro i
 induction i with
 |zero=>intro _ j hj;omega
 |succ i ih=>
  intro hi j hj;rw[mB,K7];split
  ·rename_i h;rw[hinj _ (hm j (by omega)) _ (hm i (by omega)) h]
  ·rename_i h;refine ih (by omega) j ?_;rcases Nat.lt_or_ge j i with h2|h2
   ·exact h2
   ·exact absurd (by rw[show j=i by omega]) h
theorem C4M {l:List bD} (hinj:∀x∈l,∀y∈l,x.nm=y.nm→x=y) {x:bD} (hx:x∈l):H5 (mB l l.length) x.nm=some x.bk:=by
 obtain⟨j,hj,e⟩:=List.getElem_of_mem hx;have h:=C5e hinj l.length (Nat.le_refl _) (l.length-1-j) (by omega);rw[show l.length-1-(l.length-1-j)=j by omega,List.getD_eq_getElem?_getD,gE_ hj]at h;rw[←e];exact h
structure Way (l:List bD) (p:List bD):Prop where
 inj:∀x∈l,∀y∈l,x.nm=y.nm→x=y
 n:l.length≤1000
 mem:∀x∈p,x∈l
 nxt:∀i,i<p.length→(p.getD i fS).bk=(p.getD (i+1) fS).nm
 ne:∀i,0<i→i<p.length→(p.getD i fS).nm≠[]
 uniq:∀i j,i<p.length→j<p.length→(p.getD i fS).nm=(p.getD j fS).nm→i=j
 pos:0<p.length
 le:p.length≤8
theorem A7g (l:Nat):F3 Tryz.prog (rd ⟨T,J8,A7,A9,61,[],none,.t⟩ l):=⟨tOk,C2F ⟨H4,A2,A4⟩⟩
def A1b:E4:=⟨T,J8,A7,A9,61,[],none,.t⟩
theorem B8F:B3 Tryz.prog A1b:=⟨H4,A2,A4⟩
theorem fI:F3 Tryz.prog A1b:=⟨tOk,B8F⟩
theorem C1l (l:List bD) (nm:List UInt8) (hp:∃p,Way l p∧(p.getD 0 fS).nm=nm):aE Tryz.prog 25 false [lst .lnk l,str nm] (.x (.c (i64 0))):=by
 refine dF (E:=A1b) Tryz.func25 (fun M0 W hM0=>?_);obtain⟨p,hw,hnm⟩:=hp;have hll:=hw.n;refine A3 fI [] (fun bs=>?_);refine A5 [] (C5c l) (fun _ _=>?_);refine A3 fI [] (fun bs=>?_);refine B0L (C1k l (by omega)) eaB C4L rfl rfl (c:=_) (o:=_) (ps:=[17,18]) rfl (by decide) (by decide) (fun _=>rfl) rfl [(1,str nm),(5,.c (.ptr 1 ?b5 0))] (fun m:C5d=>[.mp ?bm .str .str m,.blk ?b5 126 [.mpt 0 ?bm]]) (fun i m=>m=mB l i) (fun _ _=>False) [0,1] [] rfl ?wk rfl (fun lid M1 M2 J1 i x y hy hok hb=>?_) (fun x hx=>?_) (fun i x hi hx=>hx.elim)
 case wk=>and_intros<;> (first|exact wk_|refine A6 ?_|skip)
 ·subst hok;refine A3 (A7g lid) [] (fun bs=>?_);refine hb _ ?_;have hlt:i<l.length:=by have:=(gS_.1 hy).1;rwa [xA]at this
  rw[B8E hlt]at hy;cases hy;refine A3 (A7g lid) [] (fun bs=>?_);exact G8 [0,1] (B4 (mB l i) (l.getD (l.length-1-i) fS).nm (l.getD (l.length-1-i) fS).bk) rfl (by and_intros<;> (first|exact wk_|refine A6 ?_|skip))
 ·subst hx;rw[xA];have hat:∀i,i<p.length→H5 (mB l l.length) (p.getD i fS).nm=some (p.getD (i+1) fS).nm:=fun i hi=>by
   have hm:p.getD i fS∈p:=by rw[List.getD_eq_getElem?_getD,gE_ hi];exact List.getElem_mem _
   rw[C4M hw.inj (hw.mem _ hm),hw.nxt i hi]
  have h0:=hat 0 hw.pos;rw[hnm]at h0;refine G0 fI (fun _=>none) [false] (fun bs=>?_) (fun bs=>?_)
  ·and_intros<;> first|exact trivial|exact rfl|(show(!A5b (H5 (mB l l.length) nm))=false;rw[h0];rfl)
  refine X5 8 (y:=str (p.getD 1 fS).nm) rfl (fun M v h=>by rw[h0]at h;exact h) ?_;refine C5b fI ?_;refine A3 fI [] (fun bs=>?_);refine L5 (fun q:Nat×List (KK.str.T×VK.int.T)×Nat×Nat×Nat=>[(5,.c (.ptr 1 q.2.2.1 0)),(8,str (p.getD q.1 fS).nm),(10,.c (.mpt 2 q.2.2.2.1)),(11,int .i64 q.1)]) (fun q=>[.mp q.2.2.2.2 .str .str (mB l l.length),.blk q.2.2.1 126 [.mpt 0 q.2.2.2.2],.mp q.2.2.2.1 .str .int q.2.1])
   (fun q=>1≤q.1∧q.1≤p.length∧∀x,(∀j,j<q.1→(p.getD j fS).nm≠x)→H5 q.2.1 x=none) (fun q=>p.length-q.1) [0,1,2] (1,B4 [] nm 1,?c5,?cS,?cm) ⟨Nat.le_refl _,hw.pos,fun x hx=>?ini⟩ ?wk1 (fun q hq=>?_)
  case ini=>
   rw[K7,if_neg (fun h=>hx 0 (by omega) (by rw[hnm,h]))];rfl
  case wk1=>
   and_intros<;> (first|exact wk_|refine A6 ?_|skip)
  obtain⟨n,S,c5,cS,cm⟩:=q;obtain⟨hq1,hq2,hq3⟩:=hq;simp only at hq1 hq2 hq3;refine A3 fI [] (fun bs=>?_);refine D4 (b:= !decide ((p.getD n fS).nm=[])) rfl rfl (fun hk=>?_) (fun hk=>?_)
  ·have hne:(p.getD n fS).nm≠[]:=by simpa using hk
   have hnp:n<p.length:=by
    apply Decidable.byContradiction;intro h;exact hne (by rw[List.getD_eq_getElem?_getD,List.getElem?_eq_none (by omega)];rfl)
   have h1:=hat n hnp;have h2:H5 S (p.getD n fS).nm=none:=hq3 _ (fun j hj h=>by have:=hw.uniq j n (by omega) hnp h;omega);have hle:=hw.le;refine G0 fI (fun _=>none) [false,false,false] (fun bs=>?_) (fun bs=>?_)
   ·and_intros<;> first|exact trivial|exact rfl|(rw[h1];rfl)|(rw[h2];exact rfl)|(exact decide_eq_false (by omega))|(dsimp only;rw[h2];exact(by decide))|(dsimp only;omega)
   refine X5 8 (y:=str (p.getD (n+1) fS).nm) rfl (fun M v h=>by dsimp only at h;rw[h1]at h;exact h) ?_;exact H3 [0,1,2] (n+1,B4 S (p.getD n fS).nm (P0 VK.int.dft (H5 S (p.getD n fS).nm)+1),c5,cS,cm) ⟨⟨by simp only;omega,hnp,fun x hx=>by rw[K7,if_neg (fun h=>hx n (by simp only;omega) h.symm)];exact hq3 x (fun j hj=>hx j (by simp only;omega))⟩,by simp only;omega⟩
  ·have hn:(p.getD n fS).nm=[]:=by simpa using hk
   refine A3 fI [] (fun bs=>?_);exact D8 tOk hM0 rfl rfl ⟨trivial,trivial⟩ ⟨rfl,rfl⟩
def A9m:C8
 |[.c (.pv (.lst .lnk l)),.c (.pv (.val (.string ⟨⟨nm⟩⟩)))]=>some ((∃p,Way l p∧(p.getD 0 fS).nm=nm),false,.x (.c (i64 0)))
 |_=>none
theorem B3b:F5 Tryz.prog 25 A9m:=by
 intro args pre sh rv h hp;unfold A9m at h;split at h
 ·cases h;have hp:=hp;exact C1l _ _ hp
 ·cases h
def D6:FuncId→Option C8:=E0 25 A9m J8
theorem C0:G9 Tryz.prog D6:=C1 B3b H4
def A1c:E4:=⟨T,D6,A7,A9,48,[],none,.f⟩
theorem B8G:B3 Tryz.prog A1c:=⟨C0,A2,A4⟩
theorem lR:F3 Tryz.prog A1c:=⟨tOk,B8G⟩
theorem C5f (bd:Nat) (L:oN) (T:Nat→Prop) (d:G4) (S:Nat→Prop) (c:List Lk) (hc:∀k∈c,R7 d L k) (a n:Nat) (hn:n≤4096) (ha:a≤4096):C5 Tryz.prog 228 [lst .ptr (c.map fun k=>k.b),int .i64 a,int .i64 n] [O8 (Y5 bd) L T,C6 bd d S] (fun _=>True) (fun y:((Nat→Prop)×(Nat→Prop))×Value=> .t [.c (.own 2 y.2),int .i64 0]) (fun y=>[O8 (Y5 bd) L y.1.1,C6 bd d y.1.2,.own y.2 5 .byt (W5 c a n)]):=by
 refine I4 (E:=A1c) Tryz.func228 (fun M0 W hM0=>?_);cases c with
 |nil=>
  refine A3 lR [true] (fun bs=>?_);refine B6 lR ((T,S),?v) trivial [0,1,2] (hl:=?hl)
  case hl=>
   and_intros<;> (first|exact wk_|refine A6 ?_|skip)
   all_goals
    rw[show((n:Nat)*16:Int).toNat=16*n by omega];exact(kW n (fun _ _=>rfl)).symm
 |cons k r=>
  have hk:=hc k (by simp);obtain⟨l1,l2,hL⟩:=List.append_of_mem hk.mem;have hsz:=hk.ok.gm.ok.s;obtain⟨s,hs⟩:=Int.eq_ofNat_of_zero_le hsz.1;refine A3 lR [false] (fun bs=>?_);refine U2 0 3 hL (fun S1 S2=>?_);refine A5 [3] (iS bd k.b k.i S2 hk.ok.gm) (fun S3 _=>?_);refine dR 0 3 hL (fun S4=>?_);refine A3 lR [] (fun bs=>?_);refine A5 [0,1] (B7y bd L d (k::r) hc S4 S (min a s) (min n (s-a)) (fun k' r' e=>by cases e;omega) (by simp)) (fun y _=>?_);refine A3 lR [] (fun bs=>?_);refine B6 lR (y.1,?v2) trivial [0,1,2] (hl:=?hl2)
  case hl2=>
   and_intros<;> (first|exact wk_|refine A6 ?_|skip)
   all_goals
    refine Eq.trans ?_ (B7u hc hs).symm;rw[List.length_replicate,show((n:Nat)*16:Int).toNat=16*n by omega,X3 hc,List.take_of_length_le (by rw[X3 hc];omega),List.drop_replicate];rfl
def A1d:E4:=⟨T,D6,A7,A9,10,[],none,.f⟩
theorem B8H:B3 Tryz.prog A1d:=⟨C0,A2,A4⟩
theorem A5M:F3 Tryz.prog A1d:=⟨tOk,B8H⟩
theorem C6t (bd:Nat) (l1 l2:oN) (T:Nat→Prop) (d:G4) (S:Nat→Prop) (k:Lk) (hf:H5 d.files k.i.nm=some k.f) (h:I8 k.f k.i k.v k.n) (hN:k.n+1≤60) (hd:DOk d) (p:Nat) (hp:p<O9 k.i.m) (x:Bs) (hx:x.length=16*2 ^ k.i.m.cl.toNat) (bi:Nat):C5 Tryz.prog 165 [int .i64 p,lst .byt x,.c (.ptr 2 bi 0)] [O8 (Y5 bd) (l1++(k.b,k.i)::l2) T,C6 bd d S,.blk bi 56 [.pv (.val (.pointer (some ⟨k.b,0,none⟩)))]] (fun y:((Nat→Prop)×(Nat→Prop))×Q9×O0×Nat=>Put k.f k.i k.v k.n d x p y.2.1 y.2.2.1 y.2.2.2) (fun y=>int .i64 0) (fun y=>[O8 (Y5 bd) (l1++(k.b,y.2.1)::l2) y.1.1,C6 bd ⟨d.room,B4 d.files k.i.nm y.2.2.1,y.2.2.2⟩ y.1.2,.blk bi 56 [.pv (.val (.pointer (some ⟨k.b,0,none⟩)))]]):=by
 refine I4 (E:=A1d) Tryz.func165 (fun M0 W hM0=>?_);refine U2 0 3 rfl (fun S1 S2=>?_);refine A3 A5M [] (fun bs=>?_);refine A5 [3,1] (C2b bd k.b k.i S2 d S k.f hf k.v k.n h hN hd p hp x hx) (fun z hz=>?_);refine lZ 0 3 (l:=l1++(k.b,z.2.1)::l2) (l0:=l1++l2) (l1:=l1) (l2:=l2) (x:=(k.b,z.2.1)) rfl rfl (fun S5=>?_);refine A3 A5M [] (fun bs=>?_);exact B6 A5M ((S5,z.1.2),z.2) hz [0,1,2]
abbrev zr (w:Nat):Bs:=List.replicate (16*w) 0
def A9n (r:List Lk) (w:Nat) (v:Nat→Option Bs) (p:Nat):Option Bs:=match v p with
 |some x=>some x
 |none=>if W5 r (p*w) w=zr w then none else some (W5 r (p*w) w)
structure Flt (d:G4) (k:Lk) (r:List Lk) (w n:Nat) (k':Lk) (lg:Nat):Prop where
 bb:k'.b=k.b
 sm:Sm k.i k'.i
 ok:I8 k'.f k'.i k'.v k'.n
 st:k'.n≤k.n+n
 lg:lg≤d.lg+64*n
 fb:k'.f.b=k.f.b
 vw:∀p,p<n→k'.v p=A9n r w k.v p
 vr:∀p,n≤p→k'.v p=k.v p
 ch:k'.i.ch=true∨k'=k
def A1e:E4:=⟨T,D6,A7,A9,70,[],none,.f⟩
theorem B8I:B3 Tryz.prog A1e:=⟨C0,A2,A4⟩
theorem R8:F3 Tryz.prog A1e:=⟨tOk,B8I⟩
theorem C6u (bd:Nat) (l1 l2:oN) (T:Nat→Prop) (d:G4) (S:Nat→Prop) (k:Lk) (r:List Lk) (hc:∀x∈k::r,R7 d (l1++(k.b,k.i)::l2) x) (hnr:∀x∈r,x.i.nm≠k.i.nm) (w:Nat) (hw:w=2 ^ k.i.m.cl.toNat) (hN:k.n+O9 k.i.m≤60) (hd:fR d k.i.nm (k.n+O9 k.i.m) (64*O9 k.i.m)) (bk:Bs) (ct:List Int) (bi:Nat):C5 Tryz.prog 164 [sS ⟨k.i.m.cl,k.i.m.size,bk,k.i.m.t,[],[],ct⟩,.g [.pv (.lst .tbl k.i.m.t)],int .i64 k.i.m.size,lst .ptr (r.map fun k=>k.b),lst .ptr [],.c (.clo 165 [.ptr 2 bi 0])] [O8 (Y5 bd) (l1++(k.b,k.i)::l2) T,C6 bd d S,.blk bi 56 [.pv (.val (.pointer (some ⟨k.b,0,none⟩)))]] (fun y:((Nat→Prop)×(Nat→Prop))×Lk×Nat=>Flt d k r w (O9 k.i.m) y.2.1 y.2.2) (fun y=>int .i64 0) (fun y=>[O8 (Y5 bd) (l1++(k.b,y.2.1.i)::l2) y.1.1,C6 bd ⟨d.room,B4 d.files k.i.nm y.2.1.f,y.2.2⟩ y.1.2,.blk bi 56 [.pv (.val (.pointer (some ⟨k.b,0,none⟩)))]]):=by
 refine I4 (E:=A1e) Tryz.func164 (fun M0 W hM0=>?_);have hk:=hc k (by simp);have hok:=hk.ok.gm.ok;have hsz:=hok.s;have hz16:=hk.ok.gm.sz;have X7:=hok.c;have hp:=P3 X7;have hkn:=hk.ok.kn;have hknb:=hk.ok.nb;have hwi:(2 ^ k.i.m.cl.toNat:Int)=(w:Int):=by rw[hw];push_cast;rfl
 have hn:=hk.ok.gm.n;have hn0:=hk.ok.gm.n.1;have hpl:=hk.ok.gm.plain;have htl:=hpl.tl;have htf:=hpl.hf;rw[hwi]at hp hn;have hw0:0<w:=by omega
 have hW0:Flt d k r w 0 k d.lg:=⟨rfl,⟨rfl,rfl,rfl,rfl,rfl⟩,hk.ok,Nat.le_refl _,Nat.le_refl _,rfl,fun p hp=>by omega,fun p hp=>rfl,.inr rfl⟩
 refine A3 R8 [] (fun bs=>?_);refine L5 (fun q:((Nat→Prop)×(Nat→Prop))×Lk×Nat×Nat×Nat×Nat=>[(3,lst .ptr (r.map fun k=>k.b)),(4,lst .ptr []),(5,.c (.clo 165 [.ptr 2 bi 0])),(6,.c (.ptr 3 q.2.2.2.2.1 0)),(7,.c (.ptr 4 q.2.2.2.2.2 0)),(23,int .i64 (O9 k.i.m:Nat)),(24,int .i64 q.2.2.2.1)])
  (fun q=>[O8 (Y5 bd) (l1++(k.b,q.2.1.i)::l2) q.1.1,C6 bd ⟨d.room,B4 d.files k.i.nm q.2.1.f,q.2.2.1⟩ q.1.2,.blk bi 56 [.pv (.val (.pointer (some ⟨k.b,0,none⟩)))],
   .blk q.2.2.2.2.1 82 [.pv (i64 k.i.m.cl),.pv (i64 k.i.m.size),.pv (sv bk),.pv (.lst .tbl k.i.m.t),.pv (.lst .sht []),.pv (.lst .bms []),.pv (.lst (.ints .i64) ct)],.blk q.2.2.2.2.2 77 [.pv (.lst .tbl k.i.m.t)]])
  (fun q=>Flt d k r w q.2.2.2.1 q.2.1 q.2.2.1∧q.2.2.2.1≤O9 k.i.m) (fun q=>O9 k.i.m-q.2.2.2.1) [0,1,2,3,4] ((T,S),k,d.lg,0,?b6,?b7) ⟨hW0,Nat.zero_le _⟩ ?wk1 (fun q hq=>?_)
 case wk1=>
  and_intros<;> (first|exact wk_|refine A6 ?_|skip)
  all_goals first|exact(show cV (C6 bd d S) (C6 bd ⟨d.room,B4 d.files k.i.nm k.f,d.lg⟩ S)from by rw[kU hk.f];exact rfl)|exact hn0.symm
 obtain⟨⟨T1,D1⟩,⟨kb,ki,kf,kv,kn⟩,lg,p,b6,b7⟩:=q;obtain⟨hW,hq1⟩:=hq;simp only at hW hq1;have hkb:kb=k.b:=hW.bb;subst hkb;have hnm:ki.nm=k.i.nm:=hW.sm.nm;have hkcl:ki.m.cl=k.i.m.cl:=hW.sm.cl;have hksz:ki.m.size=k.i.m.size:=hW.sm.sz;have hst:kn≤k.n+p:=hW.st;have hlg:lg≤d.lg+64*p:=hW.lg;refine A3 R8 [] (fun bs=>?_);refine I6 rfl rfl (fun hk2=>?_) (fun hk2=>?_)
 ·have hk2:(p:Int)<(O9 k.i.m:Nat):=hk2;have hpn:p<O9 k.i.m:=by omega
  have hkd:=(hk.ok.vw p hpn).kd;have hvp:kv p=k.v p:=hW.vr p (Nat.le_refl _);have hle:p*w+w≤16:=by
   have:(p+1)*w≤O9 k.i.m*w:=Nat.mul_le_mul_right _ hpn;rw[Nat.add_mul,Nat.one_mul]at this;have h2:((O9 k.i.m*w:Nat):Int)=(O9 k.i.m:Int)*w:=by push_cast;rfl
   omega
  have hpw:(p:Int)*2 ^ k.i.m.cl.toNat=((p*w:Nat):Int):=by rw[hwi];push_cast;rfl
  have hskip:A9n r w k.v p=k.v p→Flt d k r w (p+1) ⟨k.b,ki,kf,kv,kn⟩ lg:=fun he=>
   ⟨hW.bb,hW.sm,hW.ok,by show kn≤_;omega,by omega,hW.fb,fun s hs=>by
    rcases Nat.lt_or_ge s p with h2|h2
    ·exact hW.vw s h2
    ·have:s=p:=by omega
     subst this;rw[he];exact hvp,fun s hs=>hW.vr s (by omega),hW.ch⟩
  refine G0 R8 (fun _=>none) [] (fun bs=>?_) (fun bs=>?_)
  ·and_intros<;> first|exact trivial|exact htl|exact htf|exact rfl|(simp only;omega)|omega
  refine D4 (b:= !decide ((L4 k.i.m.t (p:Nat)).kind=0)) rfl rfl (fun hb=>?_) (fun hb=>?_)
  ·refine A3 R8 [] (fun bs=>?_);have hne:k.v p≠none:=fun h=>by have:=hkd.1 h;rw[show(L4 k.i.m.t (p:Nat)).kind=0 from this]at hb;cases hb
   refine H3 [0,1,2,3,4] ((T1,D1),⟨k.b,ki,kf,kv,kn⟩,lg,p+1,b6,b7) ⟨⟨hskip (by unfold A9n;cases hv:k.v p with|none=>exact absurd hv hne|some x=>rfl),hpn⟩,by simp only;omega⟩
  ·have hnone:k.v p=none:=hkd.2 (by simpa using hb);have hokc:I8 kf ki kv kn:=hW.ok;have hf':H5 (B4 d.files k.i.nm kf) ki.nm=some kf:=by rw[hnm,K7,if_pos rfl]
   have hlen:=hokc.len;have hnb:=hokc.nb;have hcr:∀x∈r,R7 ⟨d.room,B4 d.files k.i.nm kf,lg⟩ (l1++(k.b,ki)::l2) x:=fun x hx=>(hc x (by simp[hx])).turn (hnr x hx) ki kf lg
   have hd':fR ⟨d.room,B4 d.files k.i.nm kf,lg⟩ k.i.nm (k.n+O9 k.i.m) (64*(O9 k.i.m-p)):=hd.step hk.f (by omega) (by omega);have hdo:DOk ⟨d.room,B4 d.files k.i.nm kf,lg⟩:=hd'.ok (f:=kf) (by show H5 (B4 d.files k.i.nm kf) k.i.nm=some kf;rw[K7,if_pos rfl]) (by omega);refine A3 R8 [] (fun bs=>?_);refine mL R8 8 [0,0,2,7,0,16,48,15,255] [] (fun bs=>?_) (fun bs=>?_)
   ·and_intros<;> first|exact trivial|exact rfl|omega|(show k.i.m.cl≤64;omega)|(simp only[hpw];omega)|(simp;omega)
   refine A3 R8 [] (fun bs=>?_);refine A5 [0,1] (C5f bd (l1++(k.b,ki)::l2) T1 ⟨d.room,B4 d.files k.i.nm kf,lg⟩ D1 r hcr (p*w) w (by omega) (by omega)) (fun y _=>?_) (hsim:=?hs3)
   case hs3=>
    and_intros<;> (first|exact wk_|refine A6 ?_|skip)
    all_goals first|exact hpw|exact hwi|(rw[Int.one_mul];exact hwi)
   refine A3 R8 [false] (fun bs=>?_);refine A5 [0,1] (C5f bd (l1++(k.b,ki)::l2) y.1.1 ⟨d.room,B4 d.files k.i.nm kf,lg⟩ y.1.2 [] (fun _ h=>by cases h) (p*w) w (by omega) (by omega)) (fun z _=>?_) (hsim:=?hs4)
   case hs4=>
    and_intros<;> (first|exact wk_|refine A6 ?_|skip)
    all_goals first|exact hpw|exact hwi|(rw[Int.one_mul];exact hwi)
   refine A3 R8 [false] (fun bs=>?_);have hlA:(W5 r (p*w) w).length=16*w:=X3 hcr _ _;have hBz:W5 [] (p*w) w=zr w:=kW w (fun _ _=>rfl);have hlB:(W5 [] (p*w) w).length=16*w:=by rw[hBz];exact List.length_replicate
   refine I1 13 [16,59] rfl ⟨rfl,rfl,trivial⟩ ?_;refine I1 14 [18,60] rfl ⟨rfl,rfl,trivial⟩ ?_;refine A5 [] (bEq (W5 r (p*w) w) (W5 [] (p*w) w) (by omega) (by omega)) (fun e he=>?_);rw[hBz]at he;refine A3 R8 [] (fun bs=>?_);refine D4 (b:=e) rfl rfl (fun hb2=>?_) (fun hb2=>?_)
   ·have hz:=he.1 hb2;refine A3 R8 [] (fun bs=>?_);refine H3 [0,1,2,3,4] ((z.1.1,z.1.2),⟨k.b,ki,kf,kv,kn⟩,lg,p+1,b6,b7) ⟨⟨hskip (by unfold A9n;rw[hnone,if_pos hz]),hpn⟩,by simp only;omega⟩
   ·have hz:W5 r (p*w) w≠zr w:=fun h=>by have:=he.2 h;rw[this]at hb2;cases hb2
    refine A3 R8 [] (fun bs=>?_);refine A5 [0,1,2] (C6t bd l1 l2 z.1.1 ⟨d.room,B4 d.files k.i.nm kf,lg⟩ z.1.2 ⟨k.b,ki,kf,kv,kn⟩ hf' hokc (by show kn+1≤60;omega) hdo p (by show p<O9 ki.m;unfold O9;rw[hkcl,hksz];exact hpn) (W5 r (p*w) w) (by rw[hlA];show _=16*2 ^ ki.m.cl.toNat;rw[hkcl,hw]) bi) (fun u hu=>?_);obtain⟨⟨T2,D2⟩,j,f',lg'⟩:=u;have hu:Put kf ki kv kn ⟨d.room,B4 d.files k.i.nm kf,lg⟩ (W5 r (p*w) w) p j f' lg':=hu;have hms:B4 (B4 d.files k.i.nm kf) ki.nm f'=B4 d.files k.i.nm f':=by rw[hnm,W8]
    have hW2:Flt d k r w (p+1) ⟨k.b,j,f',A2a kv p (some (W5 r (p*w) w)),kn+1⟩ lg':=by
     refine⟨rfl,hW.sm.trans hu.sm,hu.ok,by show kn+1≤_;omega,?_,hu.b.trans hW.fb,fun s hs=>?_,fun s hs=>?_,.inl hu.ch⟩
     ·have:lg'≤lg+64:=hu.lg;omega
     ·show A2a kv p _ s=_;unfold A2a;by_cases h2:s=p
      ·rw[if_pos h2,h2];unfold A9n;rw[hnone,if_neg hz]
      ·rw[if_neg h2];exact hW.vw s (by omega)
     ·show A2a kv p _ s=_;unfold A2a;rw[if_neg (by omega)];exact hW.vr s (by omega)
    refine A3 R8 [false] (fun bs=>?_);refine H3 [0,1,2,3,4] ((T2,D2),⟨k.b,j,f',_,kn+1⟩,lg',p+1,b6,b7) ⟨⟨hW2,hpn⟩,by simp only;omega⟩ (h:=?wk4)
    case wk4=>
     and_intros<;> (first|exact wk_|refine A6 ?_|skip)
     all_goals first|exact(show cV (C6 bd ⟨d.room,B4 (B4 d.files k.i.nm kf) ki.nm f',lg'⟩ D2) (C6 bd ⟨d.room,B4 d.files k.i.nm f',lg'⟩ D2)from by rw[hms];exact rfl)
 ·refine A3 R8 [] (fun bs=>?_);have hk2:¬((p:Int)<(O9 k.i.m:Nat)):=hk2;have hpe:p=O9 k.i.m:=by omega
  subst hpe;exact B6 R8 ((T1,D1),⟨k.b,ki,kf,kv,kn⟩,lg) hW [0,1,2]
structure Rbs (d:G4) (k:Lk) (r:List Lk) (w:Nat) (k':Lk) (lg:Nat):Prop where
 bb:k'.b=k.b
 nm:k'.i.nm=k.i.nm
 cl:k'.i.m.cl=k.i.m.cl
 sz:k'.i.m.size=k.i.m.size
 bk:k'.i.m.bk=[]
 hd:k'.i.held=k.i.held
 ok:I8 k'.f k'.i k'.v k'.n
 st:k'.n≤k.n+O9 k.i.m+1
 lg:lg≤d.lg+64*O9 k.i.m+64
 fb:k'.f.b=k.f.b
 vw:∀p,p<O9 k.i.m→k'.v p=A9n r w k.v p
theorem R7.swap {d:G4} {l1 l2:oN} {k x:Lk} (h:R7 d (l1++(k.b,k.i)::l2) x) (hne:x.i.nm≠k.i.nm) (j:Q9):R7 d (l1++(k.b,j)::l2) x:=
 ⟨(h.turn hne j k.f 0).mem,h.f,h.ok⟩
def upon0 (m:U7):U7:=⟨m.cl,m.size,[],m.t,m.sh,m.mp,m.ct⟩
theorem GM.upon0 {m:U7} (h:GM m):GM (upon0 m):=⟨⟨h.ok.sh,h.ok.mp,h.ok.c,h.ok.s,h.ok.d,.inl rfl,h.ok.t,h.ok.n,h.ok.k⟩,h.ct,h.sz,h.u⟩
theorem I8.turn {f:O0} {i:Q9} {v:Nat→Option Bs} {N:Nat} (h:I8 f i v N) {m:U7} (hm:GM m) (e1:m.t=i.m.t) (e2:m.cl=i.m.cl) (e3:m.size=i.m.size):I8 f (kR i m) v N:=by
 obtain⟨cl,sz,bk,t,sh,mp,ct⟩:=m;simp only at e1 e2 e3;subst e1 e2 e3;exact⟨hm,h.gk,h.gh,h.hl,h.sec,h.len,h.nb,h.head,h.seq,h.ls,h.vw,h.kr,h.hr,h.gs,h.gl,h.kn⟩
def A1f:E4:=⟨T,D6,A7,A9,10,[],none,.f⟩
theorem B8J:B3 Tryz.prog A1f:=⟨C0,A2,A4⟩
theorem A5N:F3 Tryz.prog A1f:=⟨tOk,B8J⟩
theorem C6v (bd b:Nat) (i:Q9) (m0:U7) (ch0:Bool) (k0:Nat) (y:HdX) (n:Nat) (hn:i.held.length=n+1) (hb:n≤1000) (b1 b2:Nat):A6Z (X:=((Nat→Prop))) Tryz.prog 163 [.c (.ptr 8 b1 0),.c (.ptr 1 b2 0)] (C4J bd b i m0 ch0 k0 y b1 b2) (fun _=>True) (fun T=>[K2 bd b (L7 i (i.held.take n)) T,.blk b2 27 [.pv (i64 0)]]):=by
 refine jV (E:=A1f) Tryz.func163 rfl (by decide) rfl rfl (fun M0 W hM0=>?_);refine N0 A5N (fun _=>some false) [] (fun bs=>?_);refine A5 [0,2,3,4,5,6,7] (C4I bd b i m0 ch0 k0 y n hn hb) (fun T _=>?_);refine A3 A5N [] (fun bs=>?_);exact A3y A5N T trivial [0,1]
def A1g:E4:=⟨T,D6,A7,A9,83,[],none,.f⟩
theorem B8K:B3 Tryz.prog A1g:=⟨C0,A2,A4⟩
theorem aZ:F3 Tryz.prog A1g:=⟨tOk,B8K⟩
theorem C6w (bd:Nat) (l1 l2:oN) (T:Nat→Prop) (d:G4) (S:Nat→Prop) (k:Lk) (r:List Lk) (hc:∀x∈k::r,R7 d (l1++(k.b,k.i)::l2) x) (hnr:∀x∈r,x.i.nm≠k.i.nm) (hh:k.i.held.length≤1) (w:Nat) (hw:w=2 ^ k.i.m.cl.toNat) (hN:k.n+O9 k.i.m+1≤60) (hd:fR d k.i.nm (k.n+O9 k.i.m+1) (64*O9 k.i.m+64)):C5 Tryz.prog 83 [lst .ptr ((k::r).map fun k=>k.b),lst .ptr [],str []] [O8 (Y5 bd) (l1++(k.b,k.i)::l2) T,C6 bd d S] (fun y:((Nat→Prop)×(Nat→Prop))×Lk×Nat=>Rbs d k r w y.2.1 y.2.2) (fun y=>int .i64 0) (fun y=>[O8 (Y5 bd) (l1++(y.2.1.b,y.2.1.i)::l2) y.1.1,C6 bd ⟨d.room,B4 d.files k.i.nm y.2.1.f,y.2.2⟩ y.1.2]):=by
 refine I4 (E:=A1g) Tryz.func83 (fun M0 W hM0=>?_);have hk:=hc k (by simp);have hok:=hk.ok.gm.ok;have X7:=hok.c;have hp:=P3 X7;have hkn:=hk.ok.kn;have hknb:=hk.ok.nb;refine N0 aZ (fun _=>some false) [false,false,false] (fun bs=>?_);generalize(bs 0 0 0).bn=b6;refine U2 0 4 rfl (fun S1 S2=>?_);refine A5 [4] (B7r bd k.b k.i S2 hk.ok.gm (by omega) (by omega)) (fun y _=>?_);refine A3 aZ [] (fun bs=>?_);generalize(bs 0 0 0).bn=b8;refine B5I (f:=163) (bs:=[b8,b6]) ?_;refine A3 (aZ.df _) [] (fun bs=>?_);have hoh:I8 k.f (L7 k.i (k.i.held++[k.i.m])) k.v k.n:=hk.ok.hold hh;refine A5 [4,1] (mR bd k.b (L7 k.i (k.i.held++[k.i.m])) y.T d S k.f hk.f k.v k.n hoh) (fun u _=>?_)
 refine A3 (aZ.df _) [] (fun bs=>?_);refine lZ 0 4 (l:=l1++(k.b,L7 k.i (k.i.held++[k.i.m]))::l2) (l0:=l1++l2) (l1:=l1) (l2:=l2) (x:=(k.b,L7 k.i (k.i.held++[k.i.m]))) rfl rfl (fun S4=>?_);have hcK:∀x∈(aY k (k.i.held++[k.i.m]))::r,R7 d (l1++((aY k (k.i.held++[k.i.m])).b,(aY k (k.i.held++[k.i.m])).i)::l2) x:=by
  intro x hx;rcases List.mem_cons.1 hx with rfl|hx
  ·exact⟨by simp,hk.f,hoh⟩
  ·exact(hc x (by simp[hx])).swap (hnr x hx) _
 have hdK:fR d (aY k (k.i.held++[k.i.m])).i.nm ((aY k (k.i.held++[k.i.m])).n+O9 (aY k (k.i.held++[k.i.m])).i.m) (64*O9 (aY k (k.i.held++[k.i.m])).i.m):=⟨hd.fl,hd.fc,fun f' hf'=>hd.room f' (by have hf':f'.now.length≤2+64*(k.n+O9 k.i.m):=hf';omega),hd.rm,by have:=hd.lg;show d.lg+64*O9 k.i.m≤_;omega⟩
 refine Q6 (aZ.df _) 9 [0,0,2,0,8,0,32,0,0,511,1023] [] (fun bs=>?_) (hchk:=by dsimp only;decide+kernel);refine A5 [0,1,3] (C6u bd l1 l2 S4 d u.2 (aY k (k.i.held++[k.i.m])) r hcK hnr w hw (by show k.n+O9 k.i.m≤60;omega) hdK k.i.m.bk (V8 (E3 k.i.m.t) k.f.now.length) _) (fun z hz=>?_) (hsim:=?hs1)
 case hs1=>
  and_intros<;> (first|exact wk_|refine A6 ?_|skip)
  all_goals first|(rw[List.take_of_length_le (by simp)];exact rfl)|(rw[List.take_of_length_le (by simp)];exact⟨rfl,rfl⟩)
 refine A3 (aZ.df _) [] (fun bs=>?_);obtain⟨⟨T1,D1⟩,⟨kb,ki,kf,kv,kn⟩,lg⟩:=z;have hz:Flt d (aY k (k.i.held++[k.i.m])) r w (O9 (aY k (k.i.held++[k.i.m])).i.m) ⟨kb,ki,kf,kv,kn⟩ lg:=hz;have hkb:kb=k.b:=hz.bb;subst hkb;have hnm:ki.nm=k.i.nm:=hz.sm.nm;have hheld:ki.held=k.i.held++[k.i.m]:=hz.sm.hd;have hst:kn≤k.n+O9 k.i.m:=hz.st;have hlg:lg≤d.lg+64*O9 k.i.m:=hz.lg;have hoz:I8 kf ki kv kn:=hz.ok;have hlen:=hoz.len;have hf':H5 (B4 d.files k.i.nm kf) ki.nm=some kf:=by rw[hnm,K7,if_pos rfl]
 have hd':fR ⟨d.room,B4 d.files k.i.nm kf,lg⟩ k.i.nm (k.n+O9 k.i.m+1) 64:=hd.step hk.f (by omega) (by omega);have hdo:DOk ⟨d.room,B4 d.files k.i.nm kf,lg⟩:=hd'.ok (f:=kf) (by show H5 (B4 d.files k.i.nm kf) k.i.nm=some kf;rw[K7,if_pos rfl]) (by omega);refine L5 (fun q:Nat×Nat=>[(2,str []),(6,.c (.ptr 2 b6 0)),(7,.c (.ptr 3 q.1 0)),(9,.c (.ptr 11 q.2 0)),(50,int .i64 0),(51,int .i64 0)])
  (fun q=>[O8 (Y5 bd) (l1++(k.b,ki)::l2) T1,C6 bd ⟨d.room,B4 d.files k.i.nm kf,lg⟩ D1,.blk b6 27 [.pv (i64 0)],.blk q.1 56 [.pv (.val (.pointer (some ⟨k.b,0,none⟩)))],
   .blk y.m 82 (jB k.i.m),.blk y.h 4 [.pv (bv k.i.ch)],.blk y.kp 136 [.ptr 9 y.bk 0],.blk y.c 56 [.pv (.val (.pointer (some ⟨k.b,0,none⟩)))],.blk y.n 3 [.pv (i64 (k.i.held++[k.i.m]).length)],iP y.bk k.i.k y.S,
   .blk b8 200 [.clo 183 [.ptr 4 y.m 0,.ptr 5 y.h 0,.ptr 6 y.kp 0,.ptr 7 y.c 0,.ptr 8 y.n 0]],
   .blk q.2 82 [.pv (i64 k.i.m.cl),.pv (i64 k.i.m.size),.pv (sv k.i.m.bk),.pv (.lst .tbl k.i.m.t),.pv (.lst .sht []),.pv (.lst .bms []),.pv (.lst (.ints .i64) (V8 (E3 k.i.m.t) k.f.now.length))]])
  (fun _=>True) (fun _=>0) [0,1,2,3,5,6,7,8,9,10,11,12] (?b7,?b9) trivial ?wk1 (fun q _=>?_)
 case wk1=>
  and_intros<;> (first|exact wk_|refine A6 ?_|skip)
 obtain⟨b7,b9⟩:=q;refine A3 (aZ.df _) [false,false] (fun bs=>?_);refine U2 0 12 rfl (fun S5 S6=>?_);refine A5 [12,1] (mR bd k.b ki S6 ⟨d.room,B4 d.files k.i.nm kf,lg⟩ D1 kf hf' kv kn hoz) (fun u2 _=>?_);refine A3 (aZ.df _) [] (fun bs=>?_);have hm1:=hoz.gm.upon0;refine A5 [12] (C2Z bd k.b ki u2.1 hoz.gm (upon0 ki.m) hm1 (V8 (E3 ki.m.t) kf.now.length) (fun l hl=>⟨l,hl,rfl⟩)) (fun T4 _=>?_) (hsim:=?hs2)
 case hs2=>
  have hsh:(upon0 ki.m).sh=[]:=hm1.ok.sh;have hmp:(upon0 ki.m).mp=[]:=hm1.ok.mp;rw[hsh,hmp]
  and_intros<;> (first|exact wk_|refine A6 ?_|skip)
 refine A3 (aZ.df _) [true] (fun bs=>?_);have hot:I8 kf (kR ki (upon0 ki.m)) kv kn:=hoz.turn hm1 rfl rfl rfl;refine A5 [12,1] (A5E bd k.b (kR ki (upon0 ki.m)) T4 ⟨d.room,B4 d.files k.i.nm kf,lg⟩ u2.2 kf hf' kv kn hot (by omega) hdo rfl) (fun u3 hu3=>?_);obtain⟨⟨T5,D5⟩,f3,s3,lg3⟩:=u3;obtain⟨h31,h32,h33⟩:=hu3;refine A3 (aZ.df _) [] (fun bs=>?_);obtain⟨j,hj⟩:∃j:Q9,j=⟨ki.nm,upon0 ki.m,upon0 ki.m,ki.held,s3,false,ki.k,ki.gs⟩:=⟨_,rfl⟩
 have hoj:I8 f3 j kv (kn+1):=by rw[hj];exact h31
 have hjh:j.held=k.i.held++[k.i.m]:=by rw[hj];exact hheld
 have hms:B4 (B4 d.files k.i.nm kf) ki.nm f3=B4 d.files k.i.nm f3:=by rw[hnm,W8]
 have hR:Rbs d k r w ⟨k.b,L7 j k.i.held,f3,kv,kn+1⟩ lg3:=by
  have h33:lg3≤lg+60:=h33;refine⟨rfl,by rw[hj];exact hnm,by rw[hj];exact hz.sm.cl,by rw[hj];exact hz.sm.sz,by rw[hj];rfl,rfl,hoj.unhold _ (fun m hm=>by rw[hjh];simp[hm]) (by omega),by show kn+1≤_;omega,by omega,h32.trans hz.fb,fun p hp=>hz.vw p hp⟩
 refine B5K [12,2,4,5,6,7,8,9,10] (C6v bd k.b j k.i.m k.i.ch k.i.k ⟨T5,y.m,y.h,y.kp,y.c,y.n,y.bk,y.S⟩ k.i.held.length (by rw[hjh];simp) (by omega) b8 b6) (fun T6 _=>?_) (hl:=?hl5)
 case hl5=>
  rw[hj]
  and_intros<;> (first|exact wk_|refine A6 ?_|skip)
  all_goals first|(rw[hheld];done)
 rw[show j.held.take k.i.held.length=k.i.held from by rw[hjh];exact List.take_left];refine lZ 0 12 (l:=l1++(k.b,L7 j k.i.held)::l2) (l0:=l1++l2) (l1:=l1) (l2:=l2) (x:=(k.b,L7 j k.i.held)) rfl rfl (fun S7=>?_);refine Z5 ((aZ.df _).df _) ((S7,D5),⟨k.b,L7 j k.i.held,f3,kv,kn+1⟩,lg3) hR [0,1] (hl:=?hl6)
 case hl6=>
  and_intros<;> (first|exact wk_|refine A6 ?_|skip)
  all_goals first|exact(show cV (C6 bd ⟨d.room,B4 (B4 d.files k.i.nm kf) ki.nm f3,lg3⟩ D5) (C6 bd ⟨d.room,B4 d.files k.i.nm f3,lg3⟩ D5)from by rw[hms];exact rfl)
def J5 (c:List Lk):oN:=c.map fun k=>(k.b,k.i)
def Z0 (c:List Lk):List (KK.str.T×VK.ptr.T):=c.map fun k=>(k.i.nm,some k.b)
def flC (c:List Lk):vC:=c.map fun k=>(k.i.nm,k.f)
def bY (c:List Lk):List Bs:=c.map fun k=>k.i.nm
theorem B0x {α:Type} (g:α→Bs) {V:Type} (v:α→V):∀{c:List α},(c.map g).Nodup→∀{k:α},k∈c→H5 (kk:= .str) (c.map fun k=>(g k,v k)) (g k)=some (v k):=by
 intro c
 induction c with
 |nil=>intro _ k hk;cases hk
 |cons x c ih=>
  intro hn k hk;simp only[List.map_cons,List.nodup_cons,List.mem_map,not_exists,not_and]at hn;simp only[List.map_cons,H5];rcases List.mem_cons.1 hk with rfl|hk
  ·rw[KK.eqb_iff.2 (rfl:g k=g k)]
  ·have:KK.eqb (k:= .str) (g k) (g x)=false:=by
    cases hb:KK.eqb (k:= .str) (g k) (g x)with
    |false=>rfl
    |true=>exact absurd (KK.eqb_iff.1 hb) (hn.1 k hk)
   rw[this];exact ih hn.2 hk
theorem B8L {kk:KK} {V:Type} {k:kk.T}:∀{l:List (kk.T×V)},(∀p∈l,p.1≠k)→H5 l k=none:=by
 intro l
 induction l with
 |nil=>intro _;rfl
 |cons p l ih=>
  intro h;have:kk.eqb k p.1=false:=by
   cases hb:kk.eqb k p.1 with
   |false=>rfl
   |true=>exact absurd (KK.eqb_iff.1 hb).symm (h p (by simp))
  simp only[H5,this];exact ih fun q hq=>h q (by simp[hq])
structure F9 (d:G4) (c:List Lk):Prop where
 fl:d.files=flC c
 nd:(bY c).Nodup
 ok:∀k∈c,I8 k.f k.i k.v k.n
 hd:∀k∈c,k.i.held=[]
 ne:∀k∈c,k.i.nm≠[]
 n:c.length≤8
theorem F9.lk {d:G4} {c:List Lk} (h:F9 d c) {k:Lk} (hk:k∈c):R7 d (J5 c) k:=
 ⟨List.mem_map.2 ⟨k,hk,rfl⟩,by rw[h.fl];exact B0x (fun k:Lk=>k.i.nm) (fun k:Lk=>k.f) h.nd hk,h.ok k hk⟩
theorem F9.pt {d:G4} {c:List Lk} (h:F9 d c) {k:Lk} (hk:k∈c):H5 (Z0 c) k.i.nm=some (some k.b):=B0x (fun k:Lk=>k.i.nm) (fun k:Lk=>(some k.b:VK.ptr.T)) h.nd hk
theorem A5O {c:List Lk} {nm:Bs} (h:∀k∈c,k.i.nm≠nm):H5 (Z0 c) nm=none:=B8L fun p hp=>by obtain⟨k,hk,rfl⟩:=List.mem_map.1 hp;exact h k hk
theorem F9.nf {d:G4} {c:List Lk} (h:F9 d c) {nm:Bs} (hn:∀k∈c,k.i.nm≠nm):H5 d.files nm=none:=by rw[h.fl];exact B8L fun p hp=>by obtain⟨k,hk,rfl⟩:=List.mem_map.1 hp;exact hn k hk
theorem F9.one {d:G4} {c:List Lk} (h:F9 d c) {x y:Lk} (hx:x∈c) (hy:y∈c) (e:x.i.nm=y.i.nm):x=y:=by
 obtain⟨i,hi,rfl⟩:=List.getElem_of_mem hx;obtain⟨j,hj,rfl⟩:=List.getElem_of_mem hy;have:=(List.getElem_inj (xs:=bY c) (i:=i) (j:=j) (h₀:=by simpa[bY]using hi) (h₁:=by simpa[bY]using hj) h.nd).1 (by simpa[bY]using e);subst this;rfl
inductive eI (c:List Lk):Bs→List Lk→Prop
 |nil:eI c [] []
 |cons {k:Lk} {p:List Lk}:k∈c→eI c k.i.m.bk p→eI c k.i.nm (k::p)
theorem eI.mem {c:List Lk} {nm:Bs} {p:List Lk} (h:eI c nm p):∀k∈p,k∈c:=by
 induction h with
 |nil=>intro k hk;cases hk
 |cons hk _ ih=>intro x hx;rcases List.mem_cons.1 hx with rfl|hx;exact hk;exact ih x hx
theorem eI.det {d:G4} {c:List Lk} (hc:F9 d c) {nm:Bs} {p:List Lk} (h:eI c nm p):∀{q:List Lk},eI c nm q→p=q:=by
 induction h with
 |nil=>
  intro q hq;generalize hnm:([]:Bs)=nm at hq;cases hq with
  |nil=>rfl
  |cons hk _=>exact absurd hnm.symm (hc.ne _ hk)
 | @cons k p hk _ ih=>
  intro q hq;generalize hnm:k.i.nm=nm at hq;cases hq with
  |nil=>exact absurd hnm (hc.ne _ hk)
  | @cons k' q hk' hq'=>
   have:=hc.one hk hk' hnm;subst this;rw[ih hq']
theorem eI.sub {c:List Lk} {nm:Bs} {p:List Lk} (h:eI c nm p):∀k∈p,∃q,eI c k.i.nm (k::q)∧(k::q).length≤p.length:=by
 induction h with
 |nil=>intro k hk;cases hk
 | @cons x p hx hp ih=>
  intro k hk;rcases List.mem_cons.1 hk with rfl|hk
  ·exact⟨p,.cons hx hp,Nat.le_refl _⟩
  ·obtain⟨q,h1,h2⟩:=ih k hk;exact⟨q,h1,Nat.le_trans h2 (Nat.le_succ _)⟩
theorem eI.un {d:G4} {c:List Lk} (hc:F9 d c) {nm:Bs} {p:List Lk} (h:eI c nm p):(bY p).Nodup:=by
 induction h with
 |nil=>exact List.nodup_nil
 | @cons k p hk hp ih=>
  refine List.nodup_cons.2 ⟨fun hm=>?_,ih⟩;obtain⟨x,hx,e⟩:=List.mem_map.1 hm;have hxk:x=k:=hc.one (hp.mem x hx) hk e;subst hxk;obtain⟨q,h1,h2⟩:=hp.sub x hx;have:=(eI.cons hk hp).det hc h1;have:=congrArg List.length this;simp only[List.length_cons]at this h2;omega
def oI (k:Lk):bD:=⟨k.i.nm,k.i.m.bk⟩
structure A7h (c:List Lk) (nm to:Bs) (l:List bD):Prop where
 mem:∀x,x∈l↔x=⟨nm,to⟩∨∃k∈c,k.i.nm≠nm∧x=oI k
 n:l.length≤c.length+1
theorem A7h.inj {d:G4} {c:List Lk} (hc:F9 d c) {nm to:Bs} {l:List bD} (h:A7h c nm to l):∀x∈l,∀y∈l,x.nm=y.nm→x=y:=by
 intro x hx y hy e;rcases(h.mem x).1 hx with rfl|⟨k,hk,h1,rfl⟩<;> rcases(h.mem y).1 hy with rfl|⟨k',hk',h2,rfl⟩
 ·rfl
 ·exact absurd e.symm h2
 ·exact absurd e h1
 ·rw[hc.one hk hk' e]
theorem eI.links {c:List Lk} {nm:Bs} {p:List Lk} (h:eI c nm p):(∀i,i<p.length→((p.map oI).getD i fS).bk=((p.map oI).getD (i+1) fS).nm)∧((p.map oI).getD 0 fS).nm=nm:=by
 induction h with
 |nil=>exact⟨fun i hi=>absurd hi (Nat.not_lt_zero _),rfl⟩
 | @cons k p hk hp ih=>
  refine⟨fun i hi=>?_,rfl⟩;cases i with
  |zero=>
   show k.i.m.bk=_;rw[←ih.2];rfl
  |succ i=>exact ih.1 i (Nat.lt_of_succ_lt_succ hi)
theorem eJ {α β:Type} (f:α→β) (l:List α) (x:β) (i:Nat) (hi:i<l.length):(l.map f).getD i x=f l[i]:=by
 simp[List.getD,hi]
theorem A9o {d:G4} {c:List Lk} (hc:F9 d c) {nm to:Bs} {l:List bD} (h:A7h c nm to l) {p:List Lk} (hp:eI c to p) (hn:nm∉bY p) (hl:p.length≤7):Way l (⟨nm,to⟩::p.map oI):=by
 obtain⟨h1,h2⟩:=hp.links;have hun:=hp.un hc;have hnot:∀i,i<p.length→nm≠((p.map oI).getD i fS).nm:=fun i hi e=>by
  rw[eJ _ _ _ _ hi]at e;exact hn (List.mem_map.2 ⟨p[i],List.getElem_mem hi,e.symm⟩)
 refine⟨h.inj hc,by have:=h.n;have:=hc.n;omega,fun x hx=>?_,fun i hi=>?_,fun i h0 hi=>?_,fun i j hi hj e=>?_,Nat.succ_pos _,by simp;omega⟩
 ·rcases List.mem_cons.1 hx with rfl|hx
  ·exact(h.mem _).2 (.inl rfl)
  ·obtain⟨k,hk,rfl⟩:=List.mem_map.1 hx;exact(h.mem _).2 (.inr ⟨k,hp.mem k hk,fun e=>hn (e▸List.mem_map.2 ⟨k,hk,rfl⟩),rfl⟩)
 ·cases i with
  |zero=>exact h2.symm
  |succ i=>exact h1 i (by simp at hi;omega)
 ·cases i with
  |zero=>omega
  |succ i=>
   have hi:i<p.length:=by simp at hi;omega
   show((p.map oI).getD i fS).nm≠[];rw[eJ _ _ _ _ hi];exact hc.ne _ (hp.mem _ (List.getElem_mem hi))
 ·simp only[List.length_cons,List.length_map]at hi hj;cases i with
  |zero=>cases j with
   |zero=>rfl
   |succ j=>exact absurd e (hnot j (by omega))
  |succ i=>cases j with
   |zero=>exact absurd e.symm (hnot i (by omega))
   |succ j=>
    have hi:i<p.length:=by omega
    have hj:j<p.length:=by omega
    have e:((p.map oI).getD i fS).nm=((p.map oI).getD j fS).nm:=e;rw[eJ _ _ _ _ hi,eJ _ _ _ _ hj]at e;have:=(List.getElem_inj (xs:=bY p) (i:=i) (j:=j) (h₀:=by simpa[bY]using hi) (h₁:=by simpa[bY]using hj) hun).1 (by simpa[bY,oI]using e);rw[this]
theorem C4N {d:G4} {c:List Lk} (hc:F9 d c) {nm to:Bs} {l:List bD} (h:A7h c nm to l) {x:Bs} {p:List Lk} (hp:eI c x p) (hx:p≠[]) (hn:nm∉bY p) (hl:p.length≤8):Way l (p.map oI):=by
 obtain⟨h1,h2⟩:=hp.links;have hun:=hp.un hc;refine⟨h.inj hc,by have:=h.n;have:=hc.n;omega,fun x hx=>?_,fun i hi=>h1 i (by simpa using hi),fun i h0 hi=>?_,fun i j hi hj e=>?_,by simpa using List.length_pos_iff.2 hx,by simpa using hl⟩
 ·obtain⟨k,hk,rfl⟩:=List.mem_map.1 hx;exact(h.mem _).2 (.inr ⟨k,hp.mem k hk,fun e=>hn (e▸List.mem_map.2 ⟨k,hk,rfl⟩),rfl⟩)
 ·have hi:i<p.length:=by simpa using hi
  rw[eJ _ _ _ _ hi];exact hc.ne _ (hp.mem _ (List.getElem_mem hi))
 ·have hi:i<p.length:=by simpa using hi
  have hj:j<p.length:=by simpa using hj
  rw[eJ _ _ _ _ hi,eJ _ _ _ _ hj]at e;exact(List.getElem_inj (xs:=bY p) (i:=i) (j:=j) (h₀:=by simpa[bY]using hi) (h₁:=by simpa[bY]using hj) hun).1 (by simpa[bY,oI]using e)
def aF (ba bd bm:Nat) (d:G4) (c:List Lk) (n:Int) (T S:Nat→Prop):List HB:=[.blk ba 49 [.ptr 3 bd 0,.mpt 1 bm,.pv (i64 n)],.mp bm .str .ptr (Z0 c),O8 (Y5 bd) (J5 c) T,C6 bd d S]
def oJ:E4:=⟨T,D6,A7,A9,65,[],none,.f⟩
theorem A9p:B3 Tryz.prog oJ:=⟨C0,A2,A4⟩
theorem uF:F3 Tryz.prog oJ:=⟨tOk,A9p⟩
theorem C4O (b:Nat) (d:G4) (S:Nat→Prop) (nm:Bs) (hf:H5 d.files nm=none):C5 Tryz.prog 22 [.c (.ptr 0 b 0),str nm,int .i64 0,int .i64 0] [C6 b d S] (fun _=>True) (fun _:Nat→Prop=> .t [pv (.nil .byt),int .i64 4]) (fun S=>[C6 b d S]):=by
 refine I4 (E:=oJ) Tryz.func22 (fun M0 W hM0=>?_);refine A3 uF [] (fun bs=>?_);refine A5 [0] (C4n b d S nm hf) (fun S1 _=>?_);refine A3 uF [true] (fun bs=>?_);exact B6 uF S1 trivial [0]
def A1h:E4:=⟨T,D6,A7,A9,13,[],none,.f⟩
theorem B8M:B3 Tryz.prog A1h:=⟨C0,A2,A4⟩
theorem A5P:F3 Tryz.prog A1h:=⟨tOk,B8M⟩
theorem A5Q (b:Nat) (d:G4) (S:Nat→Prop) (hf:H5 d.files []=none):C5 Tryz.prog 11 [.c (.ptr 0 b 0)] [C6 b d S] (fun _=>True) (fun _:Nat→Prop=>int .i64 0) (fun S=>[C6 b d S]):=by
 refine I4 (E:=A1h) Tryz.func11 (fun M0 W hM0=>?_);refine A3 A5P [] (fun bs=>?_);refine A5 [0] (C4O b d S [] hf) (fun S1 _=>?_);refine A3 A5P [false] (fun bs=>?_);exact B6 A5P S1 trivial [0]
def abv (c:List Lk) (nm:Bs) (vs:List Nat):Nat:=(vs.filter fun j=>decide ((c.map fun k=>k.i.m.bk)[j]? =some nm)).length
theorem C1m {c:List Lk} {nm:Bs} {vs:List Nat} (h1:vs.Nodup) (h2:∀i∈vs,i<c.length) (h3:∀i,i<c.length→i∈vs):abv c nm vs=abv c nm (List.range c.length):=by
 have hp:vs.Perm (List.range c.length):=(List.perm_ext_iff_of_nodup h1 List.nodup_range).2 (fun i=>⟨fun h=>List.mem_range.2 (h2 i h),fun h=>h3 i (List.mem_range.1 h)⟩);exact(hp.filter _).length_eq
theorem B8N {c:List Lk} {nm:Bs} (h:∀k∈c,k.i.m.bk≠nm) (vs:List Nat):abv c nm vs=0:=by
 unfold abv;rw[List.length_eq_zero_iff,List.filter_eq_nil_iff];intro j _;rw[decide_eq_true_iff,List.getElem?_map];cases hj:c[j]? with
 |none=>simp
 |some k=>simp only[Option.map_some,Option.some.injEq];exact h k (List.mem_of_getElem? hj)
theorem B8O {c:List Lk} {j:Nat} (h:j<c.length):((Z0 c).getD j (KK.str.dft,VK.ptr.dft))=(c[j].i.nm,some c[j].b):=by
 simp[List.getD,Z0,h]
def A1i:E4:=⟨T,D6,A7,A9,25,[],none,.f⟩
theorem B8P:B3 Tryz.prog A1i:=⟨C0,A2,A4⟩
theorem fJ:F3 Tryz.prog A1i:=⟨tOk,B8P⟩
theorem C4P (ba bd bm:Nat) (d:G4) (c:List Lk) (hc:F9 d c) (n:Int) (T S:Nat→Prop) (nm:Bs):C5 Tryz.prog 43 [.c (.ptr 0 ba 0),str nm] (aF ba bd bm d c n T S) (fun _=>True) (fun _:(Nat→Prop)×(Nat→Prop)=>int .i64 (abv c nm (List.range c.length))) (fun y=>aF ba bd bm d c n y.1 y.2):=by
 refine I4 (E:=A1i) Tryz.func43 (fun M0 W hM0=>?_);refine A3 fJ [] (fun bs=>?_);refine V3 (fun q:List Nat×Nat×(Nat→Prop)×(Nat→Prop)=>[(1,str nm),(5,int .i64 (abv c nm q.1)),(12,.c (.ptr 1 q.2.1 0))]) (fun q=>[.blk ba 49 [.ptr 3 bd 0,.mpt 1 bm,.pv (i64 n)],.mpr bm .str .ptr (Z0 c) q.2.1 q.1,O8 (Y5 bd) (J5 c) q.2.2.1,C6 bd d q.2.2.2]) (fun q=>q.1.Nodup∧∀i∈q.1,i<c.length) (fun q=>c.length-q.1.length) [0,1,2,3] ([],?bi,T,S) ⟨List.nodup_nil,by simp⟩ (fun q hq=>?_);obtain⟨vs,bi,T1,S1⟩:=q;obtain⟨hq1,hq2⟩:=hq;simp only at hq1 hq2;refine A3 fJ [] (fun bs=>?_);refine A8O 1 rfl (fun j hj hnv=>?_) (fun hall=>?_)
 ·have hj':j<c.length:=by simpa[Z0]using hj
  have hnd:(j::vs).Nodup:=List.nodup_cons.2 ⟨hnv,hq1⟩;have hlt:∀i∈j::vs,i<c.length:=fun i hi=>by
   rcases List.mem_cons.1 hi with rfl|hi
   ·exact hj'
   ·exact hq2 i hi
  have hle:=lI hnd hlt;have hn8:=hc.n;have hav:abv c nm vs≤vs.length:=List.length_filter_le _ _;simp only[List.length_cons]at hle;have hkm:=List.getElem_mem hj';have hk:=hc.lk hkm;obtain⟨l1,l2,hL⟩:=List.append_of_mem hk.mem;have hst:abv c nm (j::vs)=abv c nm vs+(if c[j].i.m.bk=nm then 1 else 0):=by
   unfold abv;rw[List.filter_cons,List.getElem?_map,gE_ hj'];simp only[Option.map_some,Option.some.injEq,decide_eq_true_eq];split<;> rfl
  have ep:((Z0 c).getD j (KK.str.dft,VK.ptr.dft)).2=some c[j].b:=by rw[B8O hj']
  refine A3 fJ [true] (fun bs=>?_);refine Y0 17 4 ep ?_;refine U2 2 4 hL (fun S2 S3=>?_);refine A5 [4,3] (mR bd c[j].b c[j].i S3 d S1 c[j].f hk.f c[j].v c[j].n hk.ok) (fun y _=>?_);refine dR 2 4 hL (fun S4=>?_);refine A3 fJ [] (fun bs=>?_);refine D4 (b:=decide (c[j].i.m.bk=nm)) rfl rfl (fun hb=>?_) (fun hb=>?_)
  ·have hb:=of_decide_eq_true hb;rw[if_pos hb]at hst;refine X9 fJ [] (fun bs=>?_) (fun bs=>?_)
   ·and_intros<;> first|exact trivial|(simp only;omega)
   refine H3 [0,1,2,3] (j::vs,bi,S4,y.2) ⟨⟨hnd,hlt⟩,by simp only[List.length_cons];omega⟩ (h:=?wk1)
   case wk1=>
    and_intros<;> (first|exact wk_|refine A6 ?_|skip)
    all_goals(rw[hst];push_cast;rfl)
  ·have hb:=of_decide_eq_false hb;rw[if_neg hb]at hst;refine A3 fJ [] (fun bs=>?_);refine H3 [0,1,2,3] (j::vs,bi,S4,y.2) ⟨⟨hnd,hlt⟩,by simp only[List.length_cons];omega⟩ (h:=?wk2)
   case wk2=>
    and_intros<;> (first|exact wk_|refine A6 ?_|skip)
    all_goals(rw[hst];rfl)
 ·have e:=C1m (nm:=nm) hq1 hq2 (fun i hi=>hall i (by simpa[Z0]using hi));refine A3 fJ [false] (fun bs=>?_);refine B4z 1 ?_;rw[e];exact B6 fJ (T1,S1) trivial [0,1,2,3]
def uG:E4:=⟨T,D6,A7,A9,9,[],none,.f⟩
theorem B3c:B3 Tryz.prog uG:=⟨C0,A2,A4⟩
theorem A1j:F3 Tryz.prog uG:=⟨tOk,B3c⟩
theorem C2c (ba bd bm:Nat) (d:G4) (c:List Lk) (hc:F9 d c) (n:Int) (T S:Nat→Prop) (nm:Bs) (h0:∀k∈c,k.i.m.bk≠nm):C5 Tryz.prog 40 [.c (.ptr 0 ba 0),str nm] (aF ba bd bm d c n T S) (fun _=>True) (fun _:(Nat→Prop)×(Nat→Prop)=>int .i64 0) (fun y=>aF ba bd bm d c n y.1 y.2):=by
 refine I4 (E:=uG) Tryz.func40 (fun M0 W hM0=>?_);refine A3 A1j [] (fun bs=>?_);refine A5 [0,1,2,3] (C4P ba bd bm d c hc n T S nm) (fun y _=>?_);rw[B8N h0];refine A3 A1j [false] (fun bs=>?_);exact B6 A1j y trivial [0,1,2,3]
structure C4Q (c:List Lk) (nm to:Bs) (vs:List Nat) (l:List bD):Prop where
 mem:∀x,x∈l↔x=⟨nm,to⟩∨∃j∈vs,∃k,c[j]? =some k∧k.i.nm≠nm∧x=oI k
 n:l.length≤vs.length+1
def A1k:E4:=⟨T,D6,A7,A9,36,[],none,.f⟩
theorem B8Q:B3 Tryz.prog A1k:=⟨C0,A2,A4⟩
theorem fK:F3 Tryz.prog A1k:=⟨tOk,B8Q⟩
theorem C4R (ba bd bm:Nat) (d:G4) (c:List Lk) (hc:F9 d c) (n:Int) (T S:Nat→Prop) (nm to:Bs):C5 Tryz.prog 26 [.c (.ptr 0 ba 0),str nm,str to] (aF ba bd bm d c n T S) (fun y:((Nat→Prop)×(Nat→Prop))×List bD=>A7h c nm to y.2) (fun y=>lst .lnk y.2) (fun y=>aF ba bd bm d c n y.1.1 y.1.2):=by
 refine I4 (E:=A1k) Tryz.func26 (fun M0 W hM0=>?_);refine A3 fK [] (fun bs=>?_);refine V3 (fun q:List Nat×Nat×(Nat→Prop)×(Nat→Prop)×Value×List bD=>[(1,str nm),(7,.c (.own 4 q.2.2.2.2.1)),(18,.c (.ptr 1 q.2.1 0))]) (fun q=>[.blk ba 49 [.ptr 3 bd 0,.mpt 1 bm,.pv (i64 n)],.mpr bm .str .ptr (Z0 c) q.2.1 q.1,O8 (Y5 bd) (J5 c) q.2.2.1,C6 bd d q.2.2.2.1,.own q.2.2.2.2.1 116 .lnk q.2.2.2.2.2]) (fun q=>q.1.Nodup∧(∀i∈q.1,i<c.length)∧C4Q c nm to q.1 q.2.2.2.2.2) (fun q=>c.length-q.1.length) [0,1,2,3,4] ([],?bi,T,S,?ov,[⟨nm,to⟩]) ⟨List.nodup_nil,by simp,by simp,by simp⟩ (fun q hq=>?_);obtain⟨vs,bi,T1,S1,ov,l⟩:=q
 obtain⟨hq1,hq2,hq3⟩:=hq;simp only at hq1 hq2 hq3;refine A3 fK [] (fun bs=>?_);refine A8O 1 rfl (fun j hj hnv=>?_) (fun hall=>?_)
 ·have hj':j<c.length:=by simpa[Z0]using hj
  have hnd:(j::vs).Nodup:=List.nodup_cons.2 ⟨hnv,hq1⟩;have hlt:∀i∈j::vs,i<c.length:=fun i hi=>by
   rcases List.mem_cons.1 hi with rfl|hi
   ·exact hj'
   ·exact hq2 i hi
  have hle:=lI hnd hlt;have hn8:=hc.n;have hll:=hq3.n;simp only[List.length_cons]at hle;have hkm:=List.getElem_mem hj';have hk:=hc.lk hkm;obtain⟨l1,l2,hL⟩:=List.append_of_mem hk.mem;have hgj:c[j]? =some c[j]:=gE_ hj';have ep:((Z0 c).getD j (KK.str.dft,VK.ptr.dft))=(c[j].i.nm,some c[j].b):=B8O hj';have ep2:((Z0 c).getD j (KK.str.dft,VK.ptr.dft)).2=some c[j].b:=by rw[ep]
  refine A3 fK [true] (fun bs=>?_);refine X5 8 (y:=str c[j].i.nm) rfl (fun M v h=>by rw[ep]at h;exact h) ?_;refine X5 9 (y:= .c (.opt (some c[j].b))) rfl (fun M v h=>by rw[ep]at h;exact h) ?_;refine D4 (b:= !decide (((Z0 c).getD j (KK.str.dft,VK.ptr.dft)).1=nm)) rfl rfl (fun hb=>?_) (fun hb=>?_)
  ·rw[ep]at hb;have hb:c[j].i.nm≠nm:=by simpa using hb
   refine A3 fK [] (fun bs=>?_);refine Y0 29 5 rfl ?_;refine U2 2 5 hL (fun S2 S3=>?_);refine A5 [5,3] (mR bd c[j].b c[j].i S3 d S1 c[j].f hk.f c[j].v c[j].n hk.ok) (fun y _=>?_);refine dR 2 5 hL (fun S4=>?_);have hV:C4Q c nm to (j::vs) (l++[oI c[j]]):=by
    refine⟨fun x=>?_,by simp only[List.length_append,List.length_cons,List.length_nil];omega⟩;rw[List.mem_append,hq3.mem,List.mem_singleton]
    constructor
    ·rintro ((h|⟨i,hi,k,h1,h2,h3⟩)|h)
     ·exact .inl h
     ·exact .inr ⟨i,List.mem_cons_of_mem _ hi,k,h1,h2,h3⟩
     ·exact .inr ⟨j,by simp,_,hgj,hb,h⟩
    ·rintro (h|⟨i,hi,k,h1,h2,h3⟩)
     ·exact .inl (.inl h)
     ·rcases List.mem_cons.1 hi with rfl|hi
      ·rw[hgj]at h1;cases h1;exact .inr h3
      ·exact .inl (.inr ⟨i,hi,k,h1,h2,h3⟩)
   refine A3 fK [] (fun bs=>?_);refine H3 [0,1,2,3,7] (j::vs,bi,S4,y.2,?ov2,l++[oI c[j]]) ⟨⟨hnd,hlt,hV⟩,by simp only[List.length_cons];omega⟩ (h:=?wk1)
   case wk1=>
    and_intros<;> (first|exact wk_|refine A6 ?_|skip)
  ·rw[ep]at hb;have hb:c[j].i.nm=nm:=by simpa using hb
   have hV:C4Q c nm to (j::vs) l:=by
    refine⟨fun x=>?_,by simp only[List.length_cons];omega⟩;rw[hq3.mem];refine or_congr_right ⟨fun⟨i,hi,h⟩=>⟨i,List.mem_cons_of_mem _ hi,h⟩,fun⟨i,hi,k,h1,h2,h3⟩=>?_⟩;rcases List.mem_cons.1 hi with rfl|hi
    ·rw[hgj]at h1;cases h1;exact absurd hb h2
    ·exact⟨i,hi,k,h1,h2,h3⟩
   refine A3 fK [] (fun bs=>?_);exact H3 [0,1,2,3,4] (j::vs,bi,T1,S1,ov,l) ⟨⟨hnd,hlt,hV⟩,by simp only[List.length_cons];omega⟩
 ·refine A3 fK [false] (fun bs=>?_);refine B4z 1 ?_;refine I1 4 [6] rfl ⟨rfl,trivial⟩ ?_;refine B6 fK ((T1,S1),l) ⟨fun x=>?_,?_⟩ [0,1,2,3]
  ·rw[hq3.mem];refine or_congr_right ⟨fun⟨j,hj,k,h1,h2,h3⟩=>⟨k,List.mem_of_getElem? h1,h2,h3⟩,fun⟨k,h1,h2,h3⟩=>?_⟩;obtain⟨j,hj,rfl⟩:=List.getElem_of_mem h1;exact⟨j,hall j (by simpa[Z0]using hj),_,gE_ hj,h2,h3⟩
  ·have h1:=hq3.n;have h2:=lI hq1 hq2;show l.length≤c.length+1;omega
def B3d (ba bd bm:Nat) (d:G4) (c:List Lk) (n:Int) (T S:Nat→Prop) (bA bl bw:Nat) (v:Value) (l:List Nat):List HB:=aF ba bd bm d c n T S++[.blk bA 24 [.ptr 0 ba 0],.blk bl 85 [.own 7 v],.blk bw 160 [.clo 71 [.ptr 4 bA 0,.ptr 5 bl 0,.ptr 6 bw 0]],.own v 56 .ptr l]
def C5g (ba bd bm:Nat) (d:G4) (c:List Lk) (n:Int) (bA bl bw:Nat) (nm:Bs) (p:List Lk):Prop:=∀(T S:Nat→Prop) (v:Value) (l:List Nat),l.length+p.length≤100→
 C5 Tryz.prog 71 [str nm,.c (.ptr 4 bA 0),.c (.ptr 5 bl 0),.c (.ptr 6 bw 0)] (B3d ba bd bm d c n T S bA bl bw v l) (fun _=>True) (fun _:((Nat→Prop)×(Nat→Prop))×Value=> .t []) (fun y=>B3d ba bd bm d c n y.1.1 y.1.2 bA bl bw y.2 (l++p.map fun k=>k.b))
def uH:E4:=⟨T,D6,A7,A9,23,[],none,.f⟩
theorem B3e:B3 Tryz.prog uH:=⟨C0,A2,A4⟩
theorem A1l:F3 Tryz.prog uH:=⟨tOk,B3e⟩
theorem C5h (ba bd bm:Nat) (d:G4) (c:List Lk) (hc:F9 d c) (n:Int) (T S:Nat→Prop) (bA bl bw:Nat) (v:Value) (l:List Nat) (nm:Bs) (h0:∀k∈c,k.i.nm≠nm):C5 Tryz.prog 71 [str nm,.c (.ptr 4 bA 0),.c (.ptr 5 bl 0),.c (.ptr 6 bw 0)] (B3d ba bd bm d c n T S bA bl bw v l) (fun _=>True) (fun _:((Nat→Prop)×(Nat→Prop))×Value=> .t []) (fun y=>B3d ba bd bm d c n y.1.1 y.1.2 bA bl bw y.2 l):=by
 refine I4 (E:=uH) Tryz.func71 (fun M0 W hM0=>?_);have e0:P0 VK.ptr.dft (H5 (Z0 c) nm)=none:=by rw[A5O h0];rfl
 refine A3 A1l [] (fun bs=>?_);refine hZ 5 e0 ?_;refine hZ 12 e0 ?_;refine A3 A1l [false] (fun bs=>?_);exact Z5 A1l ((T,S),v) trivial [0,1,2,3,4,5,6,7]
def uI:E4:=⟨T,D6,A7,A9,23,[],none,.f⟩
theorem B3f:B3 Tryz.prog uI:=⟨C0,A2,A4⟩
theorem kY:F3 Tryz.prog uI:=⟨tOk,B3f⟩
theorem C5i (ba bd bm:Nat) (d:G4) (c:List Lk) (hc:F9 d c) (n:Int) (T S:Nat→Prop) (bA bl bw:Nat) (v:Value) (l:List Nat) (k:Lk) (p:List Lk) (hk:k∈c) (hl:l.length+(p.length+1)≤100) (ih:C5g ba bd bm d c n bA bl bw k.i.m.bk p):C5 Tryz.prog 71 [str k.i.nm,.c (.ptr 4 bA 0),.c (.ptr 5 bl 0),.c (.ptr 6 bw 0)] (B3d ba bd bm d c n T S bA bl bw v l) (fun _=>True) (fun _:((Nat→Prop)×(Nat→Prop))×Value=> .t []) (fun y=>B3d ba bd bm d c n y.1.1 y.1.2 bA bl bw y.2 (l++(k::p).map fun k=>k.b)):=by
 refine I4 (E:=uI) Tryz.func71 (fun M0 W hM0=>?_);have e0:P0 VK.ptr.dft (H5 (Z0 c) k.i.nm)=some k.b:=by rw[hc.pt hk];rfl
 have hko:=hc.lk hk;obtain⟨l1,l2,hL⟩:=List.append_of_mem hko.mem;refine A3 kY [] (fun bs=>?_);refine Y0 5 20 e0 ?_;refine Y0 12 20 e0 ?_;refine A3 kY [true] (fun bs=>?_);refine U2 2 20 hL (fun S2 S3=>?_);refine pH kY 4 [0,0,2,6,15] 2 [20,3] [4,5,6] (mR bd k.b k.i S3 d S k.f hko.f k.v k.n hko.ok) (fun y _=>?_);refine dR 2 20 hL (fun S4=>?_);refine A5 [0,1,2,3,4,5,6,9] (ih S4 y.2 _ (l++[k.b]) (by simp;omega)) (fun z _=>?_);refine A3 kY [] (fun bs=>?_);refine Z5 kY z trivial [0,1,2,3,4,5,6,9] (hl:=?hl)
 case hl=>
  and_intros<;> (first|exact wk_|refine A6 ?_|skip)
  all_goals simp
theorem C6x (ba bd bm:Nat) (d:G4) (c:List Lk) (hc:F9 d c) (n:Int) (bA bl bw:Nat) {nm:Bs} {p:List Lk} (hp:eI c nm p):C5g ba bd bm d c n bA bl bw nm p:=by
 induction hp with
 |nil=>
  intro T S v l hl;have:=C5h ba bd bm d c hc n T S bA bl bw v l [] hc.ne;simpa using this
 |cons hk hp ih=>intro T S v l hl;exact C5i ba bd bm d c hc n T S bA bl bw v l _ _ hk (by simpa using hl) ih
def A1m:E4:=⟨T,D6,A7,A9,12,[],none,.f⟩
theorem B8R:B3 Tryz.prog A1m:=⟨C0,A2,A4⟩
theorem A5R:F3 Tryz.prog A1m:=⟨tOk,B8R⟩
theorem A5S (ba bd bm:Nat) (d:G4) (c:List Lk) (hc:F9 d c) (n:Int) (T S:Nat→Prop) (nm:Bs) (p:List Lk) (hp:eI c nm p) (hl:p.length≤100):C5 Tryz.prog 34 [.c (.ptr 0 ba 0),str nm] (aF ba bd bm d c n T S) (fun _=>True) (fun _:(Nat→Prop)×(Nat→Prop)=>lst .ptr (p.map fun k=>k.b)) (fun y=>aF ba bd bm d c n y.1 y.2):=by
 refine I4 (E:=A1m) Tryz.func34 (fun M0 W hM0=>?_);refine A3 A5R [] (fun bs=>?_);refine gZ 5 0 56 rfl rfl ?_;refine A5 [0,1,2,3,4,5,6,7] (C6x ba bd bm d c hc n _ _ _ hp T S (.slice none 0 0) [] (by simpa using hl)) (fun y _=>?_);refine A3 A5R [] (fun bs=>?_);refine I1 7 [4] rfl ⟨rfl,trivial⟩ ?_;exact B6 A5R y.1 trivial [0,1,2,3]
theorem C5.imp {P:Program} {f:FuncId} {xs:List A} {hs:List HB} {X Y:Type} {ok:X→Prop} {rx:X→A} {hs':X→List HB} {ok2:Y→Prop} {rx2:Y→A} {hs2:Y→List HB} (h:C5 P f xs hs ok rx hs') (g:X→Y) (h1:∀x,ok x→ok2 (g x)) (h2:∀x,rx2 (g x)=rx x) (h3:∀x,ok x→hs2 (g x)=hs' x):C5 P f xs hs ok2 rx2 hs2:=
 ⟨h.1,fun M w vs hS hr=>(h.2 M w vs hS hr).mono fun e w' ⟨v,M',x,a1,a2,a3,a4,a5⟩=>⟨v,M',g x,a1,a2,h1 x a3,by rw[h2];exact a4,by rw[h3 x a3];exact a5⟩⟩
structure C1n (i:Q9) (v:Nat→Option Bs) (n:Nat) (f:O0) (lg0:Nat) (j:Q9) (f':O0) (n' lg:Nat):Prop where
 ok:I8 f' j v n'
 sm:Sm i j
 m:j.m=i.m
 n:n≤n'∧n'≤n+1
 b:f'.b=f.b
 lg:lg≤lg0+60
structure Dwn (d:G4) (k k1:Lk) (r:List Lk) (n:Nat) (k':Lk) (lg:Nat):Prop where
 bb:k'.b=k1.b
 sm:Sm k1.i k'.i
 ok:I8 k'.f k'.i k'.v k'.n
 st:k'.n≤k1.n+n
 lg:lg≤d.lg+64*n
 fb:k'.f.b=k1.f.b
 sec:∀q,K4 (k'::r) q=if q<n then K4 (k::k1::r) q else K4 (k1::r) q
structure Dwf (d:G4) (k k1:Lk) (r:List Lk) (k':Lk) (lg:Nat):Prop where
 bb:k'.b=k1.b
 sm:Sm k1.i k'.i
 ok:I8 k'.f k'.i k'.v k'.n
 st:k'.n≤k1.n+17
 lg:lg≤d.lg+64*17
 fb:k'.f.b=k1.f.b
 sec:∀q,K4 (k'::r) q=K4 (k::k1::r) q
theorem fR.le {d:G4} {nm:Bs} {N l N' l':Nat} (h:fR d nm N l) (h1:N'≤N) (h2:l'≤l):fR d nm N' l':=
 ⟨h.fl,h.fc,fun f' hf'=>h.room f' (by omega),h.rm,by have:=h.lg;omega⟩
theorem C1o {k:Lk} {r r':List Lk} {q:Nat} (h:K4 r q=K4 r' q):K4 (k::r) q=K4 (k::r') q:=by
 unfold K4;rw[h]
theorem xB {k:Lk} {r:List Lk} {w p q:Nat} (hw:w=2 ^ k.i.m.cl.toNat) (hw0:0<w) (h1:p*w≤q) (h2:q<p*w+w) (hs:(q:Int)<k.i.m.size):K4 (k::r) q=match k.v p with
 |some x=>(x.drop (16*(q-p*w))).take 16
 |none=>K4 r q:=by
 have e1:q / w=p:=by rw[Nat.div_eq_iff hw0];omega
 have e2:q%w=q-p*w:=by
  have:=Nat.mod_add_div q w;rw[e1,Nat.mul_comm w p]at this;omega
 have:K4 (k::r) q=if(q:Int)<k.i.m.size then(match k.v (q / 2 ^ k.i.m.cl.toNat)with
  |some x=>(x.drop (16*(q%2 ^ k.i.m.cl.toNat))).take 16
  |none=>K4 r q)else iB:=rfl
 rw[this,if_pos hs,←hw,e1,e2]
theorem iFl (bd b:Nat) (i:Q9) (T:Nat→Prop) (d:G4) (S:Nat→Prop) (f:O0) (hf:H5 d.files i.nm=some f) (v:Nat→Option Bs) (n:Nat) (h:I8 f i v n) (hn:n+1≤60) (hd:DOk d):
 C5 (X:=((Nat→Prop)×(Nat→Prop))×Q9×O0×Nat×Nat) Tryz.prog 27 [.c (.ptr 0 b 0)] [K2 bd b i T,C6 bd d S] (fun y=>C1n i v n f d.lg y.2.1 y.2.2.1 y.2.2.2.1 y.2.2.2.2) (fun _=>int .i64 0) (fun y=>[K2 bd b y.2.1 y.1.1,C6 bd ⟨d.room,B4 d.files i.nm y.2.2.1,y.2.2.2.2⟩ y.1.2]):=by
 cases hch:i.ch with
 |true=>exact C5.imp (A5E bd b i T d S f hf v n h hn hd hch) (fun y=>(y.1,⟨i.nm,i.m,i.m,i.held,y.2.2.1,false,i.k,i.gs⟩,y.2.1,n+1,y.2.2.2)) (fun y hy=>⟨hy.1,⟨rfl,rfl,rfl,rfl,rfl⟩,rfl,⟨Nat.le_succ _,Nat.le_refl _⟩,hy.2.1,hy.2.2⟩) (fun _=>rfl) (fun _ _=>rfl)
 |false=>exact C5.imp (C1Z bd b i T d S f hf v n h hch) (fun y=>(y,i,f,n,d.lg)) (fun y _=>⟨h,⟨rfl,rfl,rfl,rfl,rfl⟩,rfl,⟨Nat.le_refl _,Nat.le_succ _⟩,rfl,Nat.le_add_right _ _⟩) (fun _=>rfl) (fun y _=>by show[K2 bd b i y.1,C6 bd ⟨d.room,B4 d.files i.nm f,d.lg⟩ y.2]=_;rw[kU hf])
def A1n:E4:=⟨T,D6,A7,A9,45,[],none,.f⟩
theorem B8S:B3 Tryz.prog A1n:=⟨C0,A2,A4⟩
theorem xC:F3 Tryz.prog A1n:=⟨tOk,B8S⟩
theorem C6y (bd:Nat) (L:oN) (T:Nat→Prop) (d:G4) (k k1:Lk) (r:List Lk) (hk:R7 d L k) (hk1:R7 d L k1) (hs:k.i.m.size≤k1.i.m.size):C5 Tryz.prog 84 [lst .ptr ((k::k1::r).map fun k=>k.b)] [O8 (Y5 bd) L T] (fun _=>True) (fun _:Nat→Prop=> .t [int .i64 k1.i.m.size,bool true]) (fun T=>[O8 (Y5 bd) L T]):=by
 refine I4 (E:=A1n) Tryz.func84 (fun M0 W hM0=>?_);obtain⟨l1,l2,hL⟩:=List.append_of_mem hk.mem;obtain⟨l3,l4,hL1⟩:=List.append_of_mem hk1.mem;refine A3 xC [] (fun bs=>?_);refine U2 0 1 hL (fun S1 S2=>?_);refine A5 [1] (iS bd k.b k.i S2 hk.ok.gm) (fun S3 _=>?_);refine dR 0 1 hL (fun S4=>?_);refine A3 xC [] (fun bs=>?_);refine U2 0 1 hL1 (fun S1 S2=>?_);refine A5 [1] (iS bd k1.b k1.i S2 hk1.ok.gm) (fun S3 _=>?_);refine dR 0 1 hL1 (fun S5=>?_);refine A3 xC [true] (fun bs=>?_);exact B6 xC S5 trivial [0]
def A1o:E4:=⟨T,D6,A7,A9,10,[],none,.f⟩
theorem B8T:B3 Tryz.prog A1o:=⟨C0,A2,A4⟩
theorem A5T:F3 Tryz.prog A1o:=⟨tOk,B8T⟩
theorem C6z (bd b:Nat) (i:Q9) (m0:U7) (ch0:Bool) (k0:Nat) (y:HdX) (n:Nat) (hn:i.held.length=n+1) (hb:n≤1000) (b1 b2:Nat):A6Z (X:=((Nat→Prop))) Tryz.prog 168 [.c (.ptr 8 b1 0),.c (.ptr 1 b2 0)] (C4J bd b i m0 ch0 k0 y b1 b2) (fun _=>True) (fun T=>[K2 bd b (L7 i (i.held.take n)) T,.blk b2 27 [.pv (i64 0)]]):=by
 refine jV (E:=A1o) Tryz.func168 rfl (by decide) rfl rfl (fun M0 W hM0=>?_);refine N0 A5T (fun _=>some false) [] (fun bs=>?_);refine A5 [0,2,3,4,5,6,7] (C4I bd b i m0 ch0 k0 y n hn hb) (fun T _=>?_);refine A3 A5T [] (fun bs=>?_);exact A3y A5T T trivial [0,1]
def A1p:E4:=⟨T,D6,A7,A9,80,[],none,.f⟩
theorem B8U:B3 Tryz.prog A1p:=⟨C0,A2,A4⟩
theorem R9:F3 Tryz.prog A1p:=⟨tOk,B8U⟩
theorem C7A (bd:Nat) (l1 l2:oN) (T:Nat→Prop) (d:G4) (S:Nat→Prop) (k k1:Lk) (r:List Lk) (hc:∀x∈k::k1::r,R7 d (l1++(k1.b,k1.i)::l2) x) (hkn:k.i.nm≠k1.i.nm) (hnr:∀x∈r,x.i.nm≠k1.i.nm) (hh:k1.i.held=[]) (hs:k.i.m.size=k1.i.m.size) (hN:k1.n+17≤60) (hd:fR d k1.i.nm (k1.n+17) (64*17)):C5 Tryz.prog 85 [lst .ptr ((k::k1::r).map fun k=>k.b),int .i64 k1.i.m.size] [O8 (Y5 bd) (l1++(k1.b,k1.i)::l2) T,C6 bd d S] (fun y:((Nat→Prop)×(Nat→Prop))×Lk×Nat=>Dwf d k k1 r y.2.1 y.2.2) (fun y=>int .i64 0) (fun y=>[O8 (Y5 bd) (l1++(y.2.1.b,y.2.1.i)::l2) y.1.1,C6 bd ⟨d.room,B4 d.files k1.i.nm y.2.1.f,y.2.2⟩ y.1.2]):=by
 refine I4 (E:=A1p) Tryz.func85 (fun M0 W hM0=>?_);have hk:=hc k (by simp);have hk1:=hc k1 (by simp);refine A3 R9 [] (fun bs=>?_);generalize(bs 0 0 0).bn=b4;refine U2 0 3 rfl (fun S1 S2=>?_);refine A5 [3] (B7r bd k1.b k1.i S2 hk1.ok.gm (by have:=hk1.ok.kn;have:=hk1.ok.nb;omega) (by rw[hh];exact Nat.zero_le _)) (fun y _=>?_);refine A3 R9 [] (fun bs=>?_);generalize(bs 0 0 0).bn=b10;refine B5I (f:=168) (bs:=[b10,b4]) ?_;refine A3 (R9.df _) [] (fun bs=>?_);have hoh:I8 k1.f (L7 k1.i (k1.i.held++[k1.i.m])) k1.v k1.n:=hk1.ok.hold (by rw[hh];exact Nat.zero_le _);refine A5 [3] (iS bd k1.b (L7 k1.i (k1.i.held++[k1.i.m])) y.T hoh.gm) (fun T3 _=>?_)
 refine X9 (R9.df _) [false] (fun bs=>?_) (fun bs=>?_)
 ·and_intros<;> first|exact trivial|exact rfl|(show decide (k1.i.m.size<k1.i.m.size)=false;exact decide_eq_false (Int.lt_irrefl _))|omega|(simp;omega)
 refine lZ 0 3 (l:=l1++(k1.b,L7 k1.i (k1.i.held++[k1.i.m]))::l2) (l0:=l1++l2) (l1:=l1) (l2:=l2) (x:=(k1.b,L7 k1.i (k1.i.held++[k1.i.m]))) rfl rfl (fun S4=>?_);have hmem:∀j:Q9,(k.b,k.i)∈l1++(k1.b,j)::l2:=fun j=>(hk.swap hkn j).mem
 obtain⟨m1,m2,hL⟩:=List.append_of_mem (hmem (L7 k1.i (k1.i.held++[k1.i.m])));refine U2 0 11 hL (fun S5 S6=>?_);refine A5 [11,1] (mR bd k.b k.i S6 d S k.f hk.f k.v k.n hk.ok) (fun u _=>?_);refine dR 0 11 hL (fun S7=>?_);refine X9 (R9.df _) [] (fun bs=>?_) (fun bs=>?_)
 ·and_intros<;> first|exact trivial|exact rfl|(show k.i.m.cl≤64;have:=hk.ok.gm.ok.c;omega)|(show 0≤k.i.m.cl;have:=hk.ok.gm.ok.c;omega)|omega|(simp;omega)
 obtain⟨w,hw⟩:∃w:Nat,w=2 ^ k.i.m.cl.toNat:=⟨_,rfl⟩
 have hwi:(2 ^ k.i.m.cl.toNat:Int)=(w:Int):=by rw[hw];push_cast;rfl
 have hw0:0<w:=by rw[hw];exact Nat.pow_pos (by omega)
 have X7:=hk.ok.gm.ok.c;have hz16:=hk.ok.gm.sz;have hn:=hk.ok.gm.n;have hn0:=hn.1;rw[hwi]at hn;have htl:=hk.ok.gm.plain.tl;have hW0:Dwn d k (aY k1 (k1.i.held++[k1.i.m])) r 0 (aY k1 (k1.i.held++[k1.i.m])) d.lg:=⟨rfl,⟨rfl,rfl,rfl,rfl,rfl⟩,hoh,Nat.le_refl _,Nat.le_refl _,rfl,fun q=>by rw[if_neg (Nat.not_lt_zero _)]⟩
 refine L5 (fun q:((Nat→Prop)×(Nat→Prop))×Lk×Nat×Nat×Nat=>[(0,lst .ptr ((k::k1::r).map fun k=>k.b)),(4,.c (.ptr 2 b4 0)),(9,.c (.ptr 10 q.2.2.2.2 0)),(46,int .i64 (O9 k.i.m:Nat)),(47,int .i64 q.2.2.2.1)])
  (fun q=>[O8 (Y5 bd) (l1++(k1.b,q.2.1.i)::l2) q.1.1,C6 bd ⟨d.room,B4 d.files k1.i.nm q.2.1.f,q.2.2.1⟩ q.1.2,.blk b4 27 [.pv (i64 0)],
   .blk y.m 82 (jB k1.i.m),.blk y.h 4 [.pv (bv k1.i.ch)],.blk y.kp 136 [.ptr 8 y.bk 0],.blk y.c 56 [.pv (.val (.pointer (some ⟨k1.b,0,none⟩)))],.blk y.n 3 [.pv (i64 (k1.i.held++[k1.i.m]).length)],iP y.bk k1.i.k y.S,
   .blk b10 200 [.clo 183 [.ptr 3 y.m 0,.ptr 4 y.h 0,.ptr 5 y.kp 0,.ptr 6 y.c 0,.ptr 7 y.n 0]],
   .blk q.2.2.2.2 82 [.pv (i64 k.i.m.cl),.pv (i64 k.i.m.size),.pv (sv k.i.m.bk),.pv (.lst .tbl k.i.m.t),.pv (.lst .sht []),.pv (.lst .bms []),.pv (.lst (.ints .i64) (V8 (E3 k.i.m.t) k.f.now.length))]])
  (fun q=>Dwn d k (aY k1 (k1.i.held++[k1.i.m])) r (q.2.2.2.1*w) q.2.1 q.2.2.1∧q.2.2.2.1≤O9 k.i.m) (fun q=>O9 k.i.m-q.2.2.2.1) [0,1,2,4,5,6,7,8,9,10,12] ((S7,u.2),(aY k1 (k1.i.held++[k1.i.m])),d.lg,0,?b9) ⟨by simp only[Nat.zero_mul];exact hW0,Nat.zero_le _⟩ ?wk1 (fun q hq=>?_)
 case wk1=>
  and_intros<;> (first|exact wk_|refine A6 ?_|skip)
  all_goals first|exact(show cV (C6 bd d u.2) (C6 bd ⟨d.room,B4 d.files k1.i.nm k1.f,d.lg⟩ u.2)from by rw[kU hk1.f];exact rfl)|exact hn0.symm
 obtain⟨⟨T1,D1⟩,⟨kb,ki,kf,kv,kn⟩,lg,p,b9⟩:=q;obtain⟨hW,hq1⟩:=hq;simp only at hW hq1;have hkb:kb=k1.b:=hW.bb;subst hkb;have hnm:ki.nm=k1.i.nm:=hW.sm.nm;have hkcl:ki.m.cl=k1.i.m.cl:=hW.sm.cl;have hksz:ki.m.size=k1.i.m.size:=hW.sm.sz;have hkh:ki.held=k1.i.held++[k1.i.m]:=hW.sm.hd;have hst:kn≤k1.n+p*w:=hW.st;have hlg:lg≤d.lg+64*(p*w):=hW.lg;have hokc:I8 kf ki kv kn:=hW.ok;have hf':H5 (B4 d.files k1.i.nm kf) ki.nm=some kf:=by rw[hnm,K7,if_pos rfl]
 have hkf':H5 (B4 d.files k1.i.nm kf) k.i.nm=some k.f:=by rw[K7,if_neg hkn];exact hk.f
 have hlen:=hokc.len;have hc':∀x∈(⟨k1.b,ki,kf,kv,kn⟩:Lk)::r,R7 ⟨d.room,B4 d.files k1.i.nm kf,lg⟩ (l1++(k1.b,ki)::l2) x:=by
  intro x hx;rcases List.mem_cons.1 hx with hx|hx
  ·rw[hx];exact⟨by simp,hf',hokc⟩
  ·exact(hc x (by simp[hx])).turn (hnr x hx) ki kf lg
 have hpw16:p*w≤16:=by
  have:p*w≤O9 k.i.m*w:=Nat.mul_le_mul_right _ hq1;have h2:((O9 k.i.m*w:Nat):Int)=(O9 k.i.m:Int)*w:=by push_cast;rfl
  omega
 have hd':fR ⟨d.room,B4 d.files k1.i.nm kf,lg⟩ k1.i.nm (k1.n+17) (64*(17-p*w)):=hd.step hk1.f (by omega) (by omega);have hdo:DOk ⟨d.room,B4 d.files k1.i.nm kf,lg⟩:=hd'.ok (f:=kf) (by show H5 (B4 d.files k1.i.nm kf) k1.i.nm=some kf;rw[K7,if_pos rfl]) (by omega);refine A3 (R9.df _) [] (fun bs=>?_);refine I6 rfl rfl (fun hk2=>?_) (fun hk2=>?_)
 ·have hk2:(p:Int)<(O9 k.i.m:Nat):=hk2;have hpn:p<O9 k.i.m:=by omega
  have hle:p*w+w≤16:=by
   have:(p+1)*w≤O9 k.i.m*w:=Nat.mul_le_mul_right _ hpn;rw[Nat.add_mul,Nat.one_mul]at this;have h2:((O9 k.i.m*w:Nat):Int)=(O9 k.i.m:Int)*w:=by push_cast;rfl
   omega
  have hles:((p*w+w:Nat):Int)≤k.i.m.size:=by
   have:(p+1)*w≤O9 k.i.m*w:=Nat.mul_le_mul_right _ hpn;rw[Nat.add_mul,Nat.one_mul]at this;have h2:((O9 k.i.m*w:Nat):Int)=(O9 k.i.m:Int)*w:=by push_cast;rfl
   omega
  have hp1:(p+1)*w=p*w+w:=by rw[Nat.add_mul,Nat.one_mul]
  have hpw:(p:Int)*2 ^ k.i.m.cl.toNat=((p*w:Nat):Int):=by rw[hwi];push_cast;rfl
  have hvw:=hk.ok.vw p hpn;have hkd:=hvw.kd;refine A3 (R9.df _) [] (fun bs=>?_);obtain⟨n1,n2,hL2⟩:=List.append_of_mem (hmem ki);refine U2 0 11 hL2 (fun S5 S6=>?_);refine A5 [11,1] (C5O bd k.b k.i S6 ⟨d.room,B4 d.files k1.i.nm kf,lg⟩ D1 k.f hkf' k.v k.n hk.ok p hpn) (fun u2 _=>?_);refine dR 0 11 hL2 (fun S8=>?_);refine A3 (R9.df _) [false] (fun bs=>?_);refine D4 (b:=decide ((L4 k.i.m.t (p:Nat)).kind=0)) rfl rfl (fun hb=>?_) (fun hb=>?_)
  ·have hnone:k.v p=none:=hkd.2 (of_decide_eq_true hb);have hW2:Dwn d k (aY k1 (k1.i.held++[k1.i.m])) r ((p+1)*w) ⟨k1.b,ki,kf,kv,kn⟩ lg:=by
    refine⟨rfl,hW.sm,hokc,by show kn≤_+_;rw[hp1];show kn≤k1.n+_;omega,by omega,hW.fb,fun q=>?_⟩;rw[hW.sec q,hp1];by_cases h1:q<p*w
    ·rw[if_pos h1,if_pos (by omega)]
    ·rw[if_neg h1];by_cases h2:q<p*w+w
     ·rw[if_pos h2,xB hw hw0 (by omega) h2 (by omega),hnone]
     ·rw[if_neg h2]
   refine A3 (R9.df _) [] (fun bs=>?_);refine H3 [0,1,2,3,4,5,6,7,8,9,10] ((S8,u2.2),⟨k1.b,ki,kf,kv,kn⟩,lg,p+1,b9) ⟨⟨hW2,hpn⟩,by simp only;omega⟩
  ·obtain⟨x,hx⟩:∃x,k.v p=some x:=by
    cases hv:k.v p with
    |none=>exact absurd (hkd.1 hv) (of_decide_eq_false hb)
    |some x=>exact⟨x,rfl⟩
   have hxl:x.length=16*w:=by
    rw[hx]at hvw;rcases hvw with⟨_,h2⟩|h2
    ·rw[h2,bN,hw]
    ·rw[h2.xl,hw]
   refine A3 (R9.df _) [] (fun bs=>?_);refine mL (R9.df _) 7 [0,1,0,0,8,28,0,127,255] [] (fun bs=>?_) (fun bs=>?_) (hchk:=by dsimp only;decide+kernel)
   ·and_intros<;> first|exact trivial|exact rfl|omega|(show k.i.m.cl≤64;omega)|(simp only[hpw];omega)|(simp;omega)
   refine A5 [0,1] (B8D bd l1 l2 S8 ⟨d.room,B4 d.files k1.i.nm kf,lg⟩ u2.2 ⟨k1.b,ki,kf,kv,kn⟩ r hc' (fun x hx=>by show x.i.nm≠ki.nm;rw[hnm];exact hnr x hx) (by show ki.held.length≤1;rw[hkh,hh];exact Nat.le_refl _) (p*w) w (by show((p*w+w:Nat):Int)≤ki.m.size;rw[hksz,←hs];exact hles) x hxl (by show kn+w≤60;omega) (by show fR _ ki.nm (kn+w) (64*w);rw[hnm];exact hd'.le (by omega) (by omega))) (fun z hz=>?_) (hsim:=?hs3)
   case hs3=>
    and_intros<;> (first|exact wk_|refine A6 ?_|skip)
    all_goals first|exact hpw|(rw[List.take_of_length_le (by simp<;> omega)];exact rfl)|(rw[List.take_of_length_le (by simp<;> omega)];exact⟨rfl,rfl⟩)|(rw[hx];exact rfl)
   obtain⟨⟨T2,D2⟩,⟨zb,zi,zf,zv,zn⟩,lg'⟩:=z;have hz:Wrt ⟨d.room,B4 d.files k1.i.nm kf,lg⟩ ⟨k1.b,ki,kf,kv,kn⟩ r (p*w) w x ⟨zb,zi,zf,zv,zn⟩ lg':=hz;have hzb:zb=k1.b:=hz.bb;subst hzb;have hms:B4 (B4 d.files k1.i.nm kf) ki.nm zf=B4 d.files k1.i.nm zf:=by rw[hnm,W8]
   have hW2:Dwn d k (aY k1 (k1.i.held++[k1.i.m])) r ((p+1)*w) ⟨k1.b,zi,zf,zv,zn⟩ lg':=by
    have h1:zn≤kn+w:=hz.st;have h2:lg'≤lg+64*w:=hz.lg;refine⟨rfl,hW.sm.trans hz.sm,hz.ok,by show zn≤_+_;rw[hp1];show zn≤k1.n+_;omega,by omega,hz.fb.trans hW.fb,fun q=>?_⟩;rw[hz.sec q,hW.sec q,hp1];by_cases h1:q<p*w
    ·rw[if_neg (by omega),if_pos h1,if_pos (by omega)]
    ·by_cases h2:q<p*w+w
     ·rw[if_pos ⟨by omega,h2⟩,if_pos h2,xB hw hw0 (by omega) h2 (by omega),hx]
     ·rw[if_neg (by omega),if_neg h1,if_neg h2]
   refine A3 (R9.df _) [false] (fun bs=>?_);refine H3 [0,1,2,3,4,5,6,7,8,9,10] ((T2,D2),⟨k1.b,zi,zf,zv,zn⟩,lg',p+1,b9) ⟨⟨hW2,hpn⟩,by simp only;omega⟩ (h:=?wk4)
   case wk4=>
    and_intros<;> (first|exact wk_|refine A6 ?_|skip)
    all_goals first|exact(show cV (C6 bd ⟨d.room,B4 (B4 d.files k1.i.nm kf) ki.nm zf,lg'⟩ D2) (C6 bd ⟨d.room,B4 d.files k1.i.nm zf,lg'⟩ D2)from by rw[hms];exact rfl)
 ·refine A3 (R9.df _) [] (fun bs=>?_);have hk2:¬((p:Int)<(O9 k.i.m:Nat)):=hk2;have hpe:p=O9 k.i.m:=by omega
  subst hpe;refine U2 0 11 rfl (fun S5 S6=>?_);refine A5 [11,1] (iFl bd k1.b ki S6 ⟨d.room,B4 d.files k1.i.nm kf,lg⟩ D1 kf hf' kv kn hokc (by omega) hdo) (fun u2 hu2=>?_);obtain⟨⟨T2,D2⟩,j,f3,n3,lg3⟩:=u2;have hu2:C1n ki kv kn kf lg j f3 n3 lg3:=hu2;refine A3 (R9.df _) [] (fun bs=>?_);have hjh:j.held=k1.i.held++[k1.i.m]:=hu2.sm.hd.trans hkh;have hms:B4 (B4 d.files k1.i.nm kf) ki.nm f3=B4 d.files k1.i.nm f3:=by rw[hnm,W8]
  have hF:Dwf d k k1 r ⟨k1.b,L7 j k1.i.held,f3,kv,n3⟩ lg3:=by
   have h1:=hu2.n;have h2:=hu2.lg;refine⟨rfl,⟨hu2.sm.nm.trans hnm,hu2.sm.cl.trans hkcl,hu2.sm.sz.trans hksz,hu2.sm.bk.trans hW.sm.bk,rfl⟩,hu2.ok.unhold _ (fun m hm=>by rw[hh]at hm;cases hm) (by rw[hh];exact Nat.zero_le _),by show n3≤_;omega,by omega,hu2.b.trans hW.fb,fun q=>?_⟩;have e1:K4 (⟨k1.b,L7 j k1.i.held,f3,kv,n3⟩::r) q=K4 (⟨k1.b,ki,kf,kv,kn⟩::r) q:=wZ (show j.m.size=ki.m.size by rw[hu2.m]) (show j.m.cl=ki.m.cl by rw[hu2.m]) rfl;rw[e1,hW.sec q];by_cases h4:q<O9 k.i.m*w
   ·rw[if_pos h4];exact C1o (r:=(aY k1 (k1.i.held++[k1.i.m]))::r) (r':=k1::r) rfl
   ·rw[if_neg h4];have h5:((O9 k.i.m*w:Nat):Int)=(O9 k.i.m:Int)*w:=by push_cast;rfl
    have h6:¬((q:Int)<k.i.m.size):=by omega
    have e2:K4 (k::k1::r) q=iB:=by
     show(if(q:Int)<k.i.m.size then _ else iB)=iB;rw[if_neg h6]
    have e3:K4 ((aY k1 (k1.i.held++[k1.i.m]))::r) q=iB:=by
     show(if(q:Int)<k1.i.m.size then _ else iB)=iB;rw[if_neg (by rw[←hs];exact h6)]
    rw[e2,e3]
  refine B5K [11,2,3,4,5,6,7,8,9] (C6z bd k1.b j k1.i.m k1.i.ch k1.i.k ⟨T2,y.m,y.h,y.kp,y.c,y.n,y.bk,y.S⟩ k1.i.held.length (by rw[hjh];simp) (by rw[hh];exact Nat.zero_le _) b10 b4) (fun T6 _=>?_) (hl:=?hl5)
  case hl5=>
   and_intros<;> (first|exact wk_|refine A6 ?_|skip)
   all_goals first|(rw[hjh];done)
  rw[show j.held.take k1.i.held.length=k1.i.held from by rw[hjh];exact List.take_left];refine lZ 0 11 (l:=l1++(k1.b,L7 j k1.i.held)::l2) (l0:=l1++l2) (l1:=l1) (l2:=l2) (x:=(k1.b,L7 j k1.i.held)) rfl rfl (fun S7=>?_);refine Z5 ((R9.df _).df _) ((S7,D2),⟨k1.b,L7 j k1.i.held,f3,kv,n3⟩,lg3) hF [0,1] (hl:=?hl6)
  case hl6=>
   and_intros<;> (first|exact wk_|refine A6 ?_|skip)
   all_goals first|exact(show cV (C6 bd ⟨d.room,B4 (B4 d.files k1.i.nm kf) ki.nm f3,lg3⟩ D2) (C6 bd ⟨d.room,B4 d.files k1.i.nm f3,lg3⟩ D2)from by rw[hms];exact rfl)
def bare0 (m:U7):U7:=⟨m.cl,m.size,m.bk,[],m.sh,m.mp,m.ct⟩
theorem GM.bare0 {m:U7} (h:GM m):GM (bare0 m):=
 ⟨⟨h.ok.sh,h.ok.mp,h.ok.c,h.ok.s,h.ok.d,h.ok.b,aX.2 ⟨(aX.1 h.ok.t).1,fun i hi=>absurd hi (Nat.not_lt_zero _)⟩,h.ok.n,h.ok.k⟩,h.ct,h.sz,fun j=>by
  show L8 .u32 (L4 [] j).sum;rw[tU];exact⟨by decide,by decide⟩⟩
theorem I8.bare0 {f:O0} {i:Q9} {v:Nat→Option Bs} {N:Nat} (h:I8 f i v N):I8 f (kR i (bare0 i.m)) (fun _=>none) N:=by
 have hno:∀j:Nat,Y3 (L4 (Go.Proofs.YtgmeedgkjlfpeaaGreat.bare0 i.m).t j)≠true:=fun j e=>by
  have e:Y3 (L4 [] j)=true:=e;rw[tU]at e;exact absurd e (by decide)
 exact⟨h.gm.bare0,h.gk,h.gh,h.hl,h.sec,h.len,h.nb,h.head,h.seq,h.ls,fun k _=>by show(L4 [] k).kind=0;rw[tU];rfl,h.kr,h.hr,fun j hj=>absurd hj (hno j),h.gl,h.kn⟩
theorem B3g {kk:KK} {V:Type} {a b:kk.T} {x y:V} (hne:a≠b):∀{l:List (kk.T×V)},(H5 l a).isSome→(H5 l b).isSome→B4 (B4 l a x) b y=B4 (B4 l b y) a x:=by
 have hab:kk.eqb a b=false:=by cases hb:kk.eqb a b with|false=>rfl|true=>exact absurd (KK.eqb_iff.1 hb) hne
 have hba:kk.eqb b a=false:=by cases hb:kk.eqb b a with|false=>rfl|true=>exact absurd (KK.eqb_iff.1 hb).symm hne
 intro l
 induction l with
 |nil=>intro h _;cases h
 |cons p l ih=>
  intro h1 h2;simp only[H5]at h1 h2;cases ha:kk.eqb a p.1 with
  |true=>
   have e:=KK.eqb_iff.1 ha;have hb:kk.eqb b p.1=false:=by rw[←e];exact hba
   simp only[B4,ha,hb]
  |false=>
   cases hb:kk.eqb b p.1 with
   |true=>simp only[B4,ha,hb]
   |false=>
    rw[ha]at h1;rw[hb]at h2;simp only[B4,ha,hb,ih h1 h2]
theorem A3W {l N:Nat} (h:l≤2+64*N) (hN:N≤60):l≤4000:=by omega
structure Cmt (d:G4) (k k1:Lk) (r:List Lk) (k' k1':Lk) (lg:Nat):Prop where
 b1:k1'.b=k1.b
 s1:Sm k1.i k1'.i
 o1:I8 k1'.f k1'.i k1'.v k1'.n
 n1:k1'.n≤k1.n+17
 bb:k'.b=k.b
 sm:Sm k.i k'.i
 ok:I8 k'.f k'.i k'.v k'.n
 st:k'.n≤k.n+2
 lg:lg≤d.lg+64*19
 sec:∀q,K4 (k1'::r) q=K4 (k::k1::r) q
def A1q:E4:=⟨T,D6,A7,A9,59,[],none,.f⟩
theorem B8V:B3 Tryz.prog A1q:=⟨C0,A2,A4⟩
theorem bZ:F3 Tryz.prog A1q:=⟨tOk,B8V⟩
theorem C7B (bd:Nat) (l1 l2 l3:oN) (T:Nat→Prop) (d:G4) (S:Nat→Prop) (k k1:Lk) (r:List Lk) (hc:∀x∈k::k1::r,R7 d (l1++(k1.b,k1.i)::(l2++(k.b,k.i)::l3)) x) (hkn:k.i.nm≠k1.i.nm) (hnr:∀x∈r,x.i.nm≠k1.i.nm∧x.i.nm≠k.i.nm) (hh:k1.i.held=[]) (hs:k.i.m.size=k1.i.m.size) (hN:k1.n+17≤60) (hN2:k.n+2≤60) (hdr:∀g g':O0,g.now.length≤4000→g'.now.length≤4000→Y1 (B4 (B4 d.files k1.i.nm g) k.i.nm g')+70≤d.room) (hdf:∀p∈d.files,p.2.now.length≤4000) (hdc:d.files.length≤32) (hdm:d.room≤1048576) (hdl:d.lg+64*20≤900000000):C5 Tryz.prog 44 [lst .ptr ((k::k1::r).map fun k=>k.b)] [O8 (Y5 bd) (l1++(k1.b,k1.i)::(l2++(k.b,k.i)::l3)) T,C6 bd d S] (fun y:((Nat→Prop)×(Nat→Prop))×Lk×Lk×Nat=>Cmt d k k1 r y.2.1 y.2.2.1 y.2.2.2) (fun y=>int .i64 0) (fun y=>[O8 (Y5 bd) (l1++(y.2.2.1.b,y.2.2.1.i)::(l2++(y.2.1.b,y.2.1.i)::l3)) y.1.1,C6 bd ⟨d.room,B4 (B4 d.files k1.i.nm y.2.2.1.f) k.i.nm y.2.1.f,y.2.2.2⟩ y.1.2]):=by
 refine I4 (E:=A1q) Tryz.func44 (fun M0 W hM0=>?_);have hk:=hc k (by simp);have hk1:=hc k1 (by simp);have e1:∀a b:Q9,l1++(k1.b,a)::(l2++(k.b,b)::l3)=(l1++(k1.b,a)::l2)++(k.b,b)::l3:=fun a b=>by simp
 refine A3 bZ [false] (fun bs=>?_);refine U2 0 2 (e1 _ _) (fun S1 S2=>?_);refine A5 [2,1] (mR bd k.b k.i S2 d S k.f hk.f k.v k.n hk.ok) (fun u _=>?_);refine dR 0 2 (e1 _ _) (fun S3=>?_);refine A3 bZ [false] (fun bs=>?_);refine A5 [0] (C6y bd _ S3 d k k1 r hk hk1 (by rw[hs];exact Int.le_refl _)) (fun S4 _=>?_);refine A3 bZ [false] (fun bs=>?_);have hlk:=hk.ok.len;have hlk1:=hk1.ok.len;have hself:B4 (B4 d.files k1.i.nm k1.f) k.i.nm k.f=d.files:=by rw[gG hk1.f,gG hk.f]
 have hdo:DOk d:=⟨hdf,hdc,by have:=hdr k1.f k.f (by omega) (by omega);rwa [hself]at this,hdm,by omega⟩
 refine U2 0 2 (e1 _ _) (fun S5 S6=>?_);refine A5 [2,1] (iFl bd k.b k.i S6 d u.2 k.f hk.f k.v k.n hk.ok (by omega) hdo) (fun u1 hu1=>?_);obtain⟨⟨T1,D1⟩,j,f1,n1,lg1⟩:=u1;have hu1:C1n k.i k.v k.n k.f d.lg j f1 n1 lg1:=hu1;have hn1:=hu1.n;have hlg1:=hu1.lg;have hl1:=hu1.ok.len;have hjn:j.nm=k.i.nm:=hu1.sm.nm;refine lZ 0 2 (l:=l1++(k1.b,k1.i)::(l2++(k.b,j)::l3)) (l0:=(l1++(k1.b,k1.i)::l2)++l3) (l1:=l1++(k1.b,k1.i)::l2) (l2:=l3) (x:=(k.b,j)) (e1 _ _) rfl (fun S7=>?_);have hm1:∀g:O0,H5 (B4 d.files k.i.nm g) k1.i.nm=some k1.f:=fun g=>by rw[K7,if_neg (fun e=>hkn e.symm)];exact hk1.f
 have hm2:∀g:O0,H5 (B4 d.files k.i.nm g) k.i.nm=some g:=fun g=>by rw[K7,if_pos rfl]
 have hcm:∀g g':O0,B4 (B4 d.files k.i.nm g') k1.i.nm g=B4 (B4 d.files k1.i.nm g) k.i.nm g':=fun g g'=>B3g hkn (by rw[hk.f];rfl) (by rw[hk1.f];rfl)
 have hc2:∀x∈(⟨k.b,j,f1,k.v,n1⟩:Lk)::k1::r,R7 ⟨d.room,B4 d.files k.i.nm f1,lg1⟩ (l1++(k1.b,k1.i)::(l2++(k.b,j)::l3)) x:=by
  intro x hx;have ht:∀x:Lk,R7 d (l1++(k1.b,k1.i)::(l2++(k.b,k.i)::l3)) x→x.i.nm≠k.i.nm→R7 ⟨d.room,B4 d.files k.i.nm f1,lg1⟩ (l1++(k1.b,k1.i)::(l2++(k.b,j)::l3)) x:=fun x hx hne=>by
   rw[e1]at hx⊢;exact hx.turn hne j f1 lg1
  simp only[List.mem_cons]at hx;rcases hx with hx|hx|hx
  ·rw[hx];exact⟨by simp,by show H5 (B4 d.files k.i.nm f1) j.nm=some f1;rw[hjn];exact hm2 f1,hu1.ok⟩
  ·rw[hx];exact ht k1 hk1 (fun e=>hkn e.symm)
  ·exact ht x (hc x (by simp[hx])) (hnr x hx).2
 have hd1:fR ⟨d.room,B4 d.files k.i.nm f1,lg1⟩ k1.i.nm (k1.n+17) (64*17):=by
  refine⟨fun p hp=>?_,?_,fun f' hf'=>?_,hdm,?_⟩
  ·rcases eG hk.f hp with h1|h1
   ·exact hdf p h1
   ·rw[h1];omega
  ·show(B4 d.files k.i.nm f1).length≤32;rw[dT hk.f];exact hdc
  ·show Y1 (B4 (B4 d.files k.i.nm f1) k1.i.nm f')+70≤d.room;rw[hcm];exact hdr f' f1 (A3W hf' hN) (A3W hl1 (by omega))
  ·show lg1+64*17≤900000000;omega
 refine A3 bZ [false] (fun bs=>?_);refine A5 [0,1] (C7A bd l1 (l2++(k.b,j)::l3) S7 ⟨d.room,B4 d.files k.i.nm f1,lg1⟩ D1 ⟨k.b,j,f1,k.v,n1⟩ k1 r hc2 (by show j.nm≠_;rw[hjn];exact hkn) (fun x hx=>(hnr x hx).1) hh (by show j.m.size=_;rw[hu1.m];exact hs) hN hd1) (fun u2 hu2=>?_);obtain⟨⟨T2,D2⟩,⟨zb,zi,zf,zv,zn⟩,lg2⟩:=u2;have hu2:Dwf ⟨d.room,B4 d.files k.i.nm f1,lg1⟩ ⟨k.b,j,f1,k.v,n1⟩ k1 r ⟨zb,zi,zf,zv,zn⟩ lg2:=hu2;have hzb:zb=k1.b:=hu2.bb;subst hzb;have hlg2:lg2≤lg1+64*17:=hu2.lg;have hlz:zf.now.length≤2+64*zn:=hu2.ok.len;have hzn:zn≤k1.n+17:=hu2.st;have hfk:H5 (B4 (B4 d.files k.i.nm f1) k1.i.nm zf) j.nm=some f1:=by rw[hjn,K7,if_neg hkn];exact hm2 f1
 refine A3 bZ [false] (fun bs=>?_);refine U2 0 2 (e1 _ _) (fun S8 S9=>?_);refine A5 [2,1] (mR bd k.b j S9 ⟨d.room,B4 (B4 d.files k.i.nm f1) k1.i.nm zf,lg2⟩ D2 f1 hfk k.v n1 hu1.ok) (fun u3 _=>?_);refine A3 bZ [] (fun bs=>?_);refine aA [0,1,2,3] [(0,lst .ptr ((k::k1::r).map fun k=>k.b)),(7,.c (.ptr 3 ?bb 0))] [O8 (Y5 bd) (l1++(k1.b,zi)::l2++l3) S8,C6 bd ⟨d.room,B4 (B4 d.files k.i.nm f1) k1.i.nm zf,lg2⟩ u3.2,K2 bd k.b j u3.1,.blk ?bb 82 [.pv (i64 j.m.cl),.pv (i64 j.m.size),.pv (sv j.m.bk),.pv (.lst .tbl []),.pv (.lst .sht []),.pv (.lst .bms []),.pv (.lst (.ints .i64) (V8 (E3 j.m.t) f1.now.length))]] ?_ (h:=?wk)
 case wk=>
  and_intros<;> (first|exact wk_|refine A6 ?_|skip)
 refine Q6 bZ 4 [0,1,3,0,15,31] [] (fun bs=>?_);have hgj:GM (bare0 j.m):=hu1.ok.gm.bare0;refine A5 [2] (C2Z bd k.b j u3.1 hu1.ok.gm (bare0 j.m) hgj (V8 (E3 j.m.t) f1.now.length) (fun l hl=>by cases hl)) (fun T4 _=>?_) (hsim:=?hs2)
 case hs2=>
  have hsh:(bare0 j.m).sh=[]:=hgj.ok.sh;have hmp:(bare0 j.m).mp=[]:=hgj.ok.mp;rw[hsh,hmp]
  and_intros<;> (first|exact wk_|refine A6 ?_|skip)
 refine A3 bZ [true] (fun bs=>?_);have hot:I8 f1 (kR j (bare0 j.m)) (fun _=>none) n1:=hu1.ok.bare0;have hdo3:DOk ⟨d.room,B4 (B4 d.files k.i.nm f1) k1.i.nm zf,lg2⟩:=by
  refine⟨fun p hp=>?_,?_,?_,hdm,?_⟩
  ·rcases eG (hm1 f1) hp with h1|h1
   ·rcases eG hk.f h1 with h1|h1
    ·exact hdf p h1
    ·rw[h1];exact A3W hl1 (by omega)
   ·rw[h1];exact A3W hlz (by omega)
  ·show(B4 (B4 d.files k.i.nm f1) k1.i.nm zf).length≤32;rw[dT (hm1 f1),dT hk.f];exact hdc
  ·show Y1 (B4 (B4 d.files k.i.nm f1) k1.i.nm zf)+70≤d.room;rw[hcm];exact hdr zf f1 (A3W hlz (by omega)) (A3W hl1 (by omega))
  ·show lg2≤900000000;omega
 refine A5 [2,1] (A5E bd k.b (kR j (bare0 j.m)) T4 ⟨d.room,B4 (B4 d.files k.i.nm f1) k1.i.nm zf,lg2⟩ u3.2 f1 hfk (fun _=>none) n1 hot (by omega) hdo3 rfl) (fun u5 hu5=>?_);obtain⟨⟨T5,D5⟩,f5,s5,lg5⟩:=u5;obtain⟨h51,h52,h53⟩:=hu5;have h53:lg5≤lg2+60:=h53;refine A3 bZ [false] (fun bs=>?_);obtain⟨j5,hj5⟩:∃j5:Q9,j5=⟨j.nm,bare0 j.m,bare0 j.m,j.held,s5,false,j.k,j.gs⟩:=⟨_,rfl⟩
 have hms:B4 (B4 (B4 d.files k.i.nm f1) k1.i.nm zf) j.nm f5=B4 (B4 d.files k1.i.nm zf) k.i.nm f5:=by rw[hjn,hcm,W8]
 refine lZ 0 2 (l:=l1++(k1.b,zi)::(l2++(k.b,j5)::l3)) (l0:=(l1++(k1.b,zi)::l2)++l3) (l1:=l1++(k1.b,zi)::l2) (l2:=l3) (x:=(k.b,j5)) (e1 _ _) rfl (fun S10=>?_) (hm:=by rw[hj5];exact rfl);have hC:Cmt d k k1 r ⟨k.b,j5,f5,fun _=>none,n1+1⟩ ⟨k1.b,zi,zf,zv,zn⟩ lg5:=by
  refine⟨rfl,hu2.sm,hu2.ok,hzn,rfl,?_,by rw[hj5];exact h51,by show n1+1≤_;omega,by omega,fun q=>?_⟩
  ·rw[hj5];exact⟨hjn,hu1.sm.cl,hu1.sm.sz,hu1.sm.bk,hu1.sm.hd⟩
  ·rw[hu2.sec q];exact wZ (show j.m.size=k.i.m.size by rw[hu1.m]) (show j.m.cl=k.i.m.cl by rw[hu1.m]) rfl
 refine B6 bZ ((S10,D5),⟨k.b,j5,f5,fun _=>none,n1+1⟩,⟨k1.b,zi,zf,zv,zn⟩,lg5) hC [0,1] (hl:=?hl6)
 case hl6=>
  and_intros<;> (first|exact wk_|refine A6 ?_|skip)
  all_goals first|exact(show cV (C6 bd ⟨d.room,B4 (B4 (B4 d.files k.i.nm f1) k1.i.nm zf) j.nm f5,lg5⟩ D5) (C6 bd ⟨d.room,B4 (B4 d.files k1.i.nm zf) k.i.nm f5,lg5⟩ D5)from by rw[hms];exact rfl)
theorem C1p {α:Type} (g:α→Bs) {V:Type} (v:α→V) {c1 c2:List α} {k k':α} (hn:((c1++k::c2).map g).Nodup) (hg:g k'=g k):B4 (kk:= .str) ((c1++k::c2).map fun x=>(g x,v x)) (g k) (v k')=(c1++k'::c2).map fun x=>(g x,v x):=by
 induction c1 with
 |nil=>
  have e:KK.eqb (k:= .str) (g k) (g k)=true:=KK.eqb_iff.2 rfl;simp only[List.nil_append,List.map_cons,B4,e,hg]
 |cons x c1 ih=>
  simp only[List.cons_append,List.map_cons,List.nodup_cons]at hn;have e:KK.eqb (k:= .str) (g k) (g x)=false:=by
   cases hb:KK.eqb (k:= .str) (g k) (g x)with
   |false=>rfl
   |true=>exact absurd (List.mem_map.2 ⟨k,by simp,KK.eqb_iff.1 hb⟩) hn.1
  simp only[List.cons_append,List.map_cons,B4,e];rw[ih hn.2]
theorem B0y {α:Type} (g:α→Bs) {V:Type} (v:α→V) {c1 c2:List α} {k:α} (hn:((c1++k::c2).map g).Nodup):X8 (kk:= .str) ((c1++k::c2).map fun x=>(g x,v x)) (g k)=(c1++c2).map fun x=>(g x,v x):=by
 induction c1 with
 |nil=>
  have e:KK.eqb (k:= .str) (g k) (g k)=true:=KK.eqb_iff.2 rfl;simp only[List.nil_append,List.map_cons,X8,e]
 |cons x c1 ih=>
  simp only[List.cons_append,List.map_cons,List.nodup_cons]at hn;have e:KK.eqb (k:= .str) (g k) (g x)=false:=by
   cases hb:KK.eqb (k:= .str) (g k) (g x)with
   |false=>rfl
   |true=>exact absurd (List.mem_map.2 ⟨k,by simp,KK.eqb_iff.1 hb⟩) hn.1
  simp only[List.cons_append,List.map_cons,X8,e];rw[ih hn.2]
theorem eK (c1 c2:List Lk) (k:Lk):J5 (c1++k::c2)=J5 c1++(k.b,k.i)::J5 c2:=by simp[J5]
theorem F9.upd {d:G4} {c1 c2:List Lk} {k k':Lk} (h:F9 d (c1++k::c2)) (hn:k'.i.nm=k.i.nm) (ho:I8 k'.f k'.i k'.v k'.n) (hh:k'.i.held=[]) (lg:Nat):F9 ⟨d.room,B4 d.files k.i.nm k'.f,lg⟩ (c1++k'::c2):=by
 have hnm:bY (c1++k'::c2)=bY (c1++k::c2):=by simp[bY,hn]
 have hm:∀x∈c1++k'::c2,x=k'∨x∈c1++k::c2:=fun x hx=>by
  simp only[List.mem_append,List.mem_cons]at hx⊢;rcases hx with hx|hx|hx
  ·exact .inr (.inl hx)
  ·exact .inl hx
  ·exact .inr (.inr (.inr hx))
 refine⟨?_,by rw[hnm];exact h.nd,fun x hx=>?_,fun x hx=>?_,fun x hx=>?_,by have:=h.n;simp at this⊢;exact this⟩
 ·show B4 d.files k.i.nm k'.f=_;rw[h.fl];exact C1p (fun k:Lk=>k.i.nm) (fun k:Lk=>k.f) h.nd hn
 ·rcases hm x hx with rfl|hx;exact ho;exact h.ok x hx
 ·rcases hm x hx with rfl|hx;exact hh;exact h.hd x hx
 ·rcases hm x hx with rfl|hx
  ·rw[hn];exact h.ne k (by simp)
  ·exact h.ne x hx
theorem qX {c1 c2:List Lk} {k k':Lk} (hn:k'.i.nm=k.i.nm) (hb:k'.b=k.b):Z0 (c1++k'::c2)=Z0 (c1++k::c2):=by simp[Z0,hn,hb]
theorem F9.new {d:G4} {c:List Lk} {k:Lk} (h:F9 d c) (hn:∀x∈c,x.i.nm≠k.i.nm) (ho:I8 k.f k.i k.v k.n) (hh:k.i.held=[]) (he:k.i.nm≠[]) (h8:c.length≤7) (lg:Nat):F9 ⟨d.room,B4 d.files k.i.nm k.f,lg⟩ (c++[k]):=by
 refine⟨?_,?_,fun x hx=>?_,fun x hx=>?_,fun x hx=>?_,by simp;omega⟩
 ·show B4 d.files k.i.nm k.f=_;rw[dS (h.nf hn),h.fl];simp[flC]
 ·rw[bY,List.map_append,List.nodup_append];refine⟨h.nd,by simp,fun a ha b hb=>?_⟩;obtain⟨x,hx,rfl⟩:=List.mem_map.1 ha;rw[List.map_cons,List.map_nil,List.mem_singleton]at hb;rw[hb];exact hn x hx
 all_goals
  rcases List.mem_append.1 hx with hx|hx
  ·first|exact h.ok x hx|exact h.hd x hx|exact h.ne x hx
  ·rw[List.mem_singleton.1 hx];first|exact ho|exact hh|exact he
theorem B0z {c:List Lk} {k:Lk} (hn:∀x∈c,x.i.nm≠k.i.nm):B4 (Z0 c) k.i.nm (some k.b)=Z0 (c++[k]):=by
 rw[dS (A5O hn)];simp[Z0]
theorem F9.del {d:G4} {c1 c2:List Lk} {k:Lk} (h:F9 d (c1++k::c2)):F9 ⟨d.room,X8 d.files k.i.nm,d.lg⟩ (c1++c2):=by
 have hm:∀x∈c1++c2,x∈c1++k::c2:=fun x hx=>by
  simp only[List.mem_append,List.mem_cons]at hx⊢;rcases hx with hx|hx
  ·exact .inl hx
  ·exact .inr (.inr hx)
 refine⟨?_,?_,fun x hx=>h.ok x (hm x hx),fun x hx=>h.hd x (hm x hx),fun x hx=>h.ne x (hm x hx),by have:=h.n;simp at this⊢;omega⟩
 ·show X8 d.files k.i.nm=_;rw[h.fl];exact B0y (fun k:Lk=>k.i.nm) (fun k:Lk=>k.f) h.nd
 ·have:=h.nd;simp only[bY,List.map_append,List.map_cons]at this⊢;exact this.sublist (List.Sublist.append_left (List.sublist_cons_self _ _) _)
theorem B1A {d:G4} {c1 c2:List Lk} {k:Lk} (h:F9 d (c1++k::c2)):X8 (Z0 (c1++k::c2)) k.i.nm=Z0 (c1++c2):=B0y (fun k:Lk=>k.i.nm) (fun k:Lk=>(some k.b:VK.ptr.T)) h.nd
structure W4 (d:G4) (c:List Lk) (m N B:Nat):Prop where
 rm:d.room≤1048576
 sp:(m:Int)*B+70≤d.room
 cl:c.length≤m
 nb:∀k∈c,k.n≤N
 N60:N≤60
 B:2+64*N≤B∧B≤4000
 lg:d.lg≤100000000
theorem C1q {l:vC} {B:Nat} (h:∀p∈l,p.2.now.length≤B):Y1 l≤(l.length:Int)*B:=by
 induction l with
 |nil=>simp[Y1,szs]
 |cons p l ih=>
  have h1:=ih fun q hq=>h q (by simp[hq])
  have h2:=h p (by simp);have e:Y1 (p::l)=p.2.now.length+Y1 l:=by simp[Y1,szs]
  have e2:(((p::l).length:Nat):Int)*B=B+(l.length:Int)*B:=by simp[Int.add_mul];omega
  rw[e,e2];omega
theorem W4.le {d:G4} {c:List Lk} {m N B:Nat} (h:F9 d c) (hr:W4 d c m N B):∀p∈d.files,p.2.now.length≤B:=by
 intro p hp;rw[h.fl]at hp;obtain⟨k,hk,rfl⟩:=List.mem_map.1 hp;have h1:=(h.ok k hk).len;have h2:=hr.nb k hk;have h3:=hr.B;show k.f.now.length≤B;omega
theorem W4.sum {d:G4} {c:List Lk} {m N B:Nat} (hr:W4 d c m N B) {l:vC} (h:∀p∈l,p.2.now.length≤B) (hl:l.length≤m):Y1 l+70≤d.room:=by
 have h1:=C1q h;have h2:=hr.sp;have h3:(l.length:Int)*B≤(m:Int)*B:=Int.mul_le_mul_of_nonneg_right (by omega) (by omega);omega
theorem A1r {d:G4} {c:List Lk} (h:F9 d c):d.files.length=c.length:=by rw[h.fl];simp[flC]
theorem W4.dok {d:G4} {c:List Lk} {m N B:Nat} (h:F9 d c) (hr:W4 d c m N B):DOk d:=by
 have h1:=hr.le h;have h2:=A1r h;have h3:=h.n;exact⟨fun p hp=>Nat.le_trans (h1 p hp) hr.B.2,by omega,hr.sum h1 (by have:=hr.cl;omega),hr.rm,by have:=hr.lg;omega⟩
theorem W4.dk {d:G4} {c:List Lk} {m N B:Nat} (h:F9 d c) (hr:W4 d c m N B) {k:Lk} (hk:k∈c) {N' l:Nat} (hN:N'≤N) (hl:l≤1000000):fR d k.i.nm N' l:=by
 have h1:=hr.le h;have h2:=A1r h;have h3:=h.n;have hf:=(h.lk hk).f;have h4:=hr.B;refine⟨fun p hp=>Nat.le_trans (h1 p hp) hr.B.2,by omega,fun f' hf'=>hr.sum (fun p hp=>?_) (by rw[dT hf];have:=hr.cl;omega),hr.rm,by have:=hr.lg;omega⟩;rcases eG hf hp with h5|h5
 ·exact h1 p h5
 ·rw[h5];omega
abbrev kZ (kd:Int) (nm to:Bs) (at_ n m:Int) (b:Bs):A:= .g [.pv (i64 kd),.pv (sv nm),.pv (sv to),.pv (i64 at_),.pv (i64 n),.pv (i64 m),.pv (.lst .byt b)]
structure B8W (d:G4) (c0:UInt8) (cl sz:Int) (bk:Bs) (k:Lk) (lg:Nat):Prop where
 nm:k.i.nm=[c0]
 m:k.i.m=Q3 cl sz bk
 hd:k.i.held=[]
 ok:I8 k.f k.i k.v k.n
 v:∀j,k.v j=none
 n:k.n=1
 lg:lg≤d.lg+60
def uJ:E4:=⟨T,D6,A7,A9,118,[],none,.f⟩
theorem B3h:B3 Tryz.prog uJ:=⟨C0,A2,A4⟩
theorem N3:F3 Tryz.prog uJ:=⟨tOk,B3h⟩
theorem C5j (ba bd bm:Nat) (d:G4) (c:List Lk) (hc:F9 d c) (n:Int) (T S:Nat→Prop) (c0:UInt8) (hc0:97≤c0.toNat∧c0.toNat≤122) (hno:∀k∈c,k.i.nm≠[c0]) (cl sz:Int) (hok:MOk (Q3 cl sz [])) (hsz:sz≤16) (h7:c.length≤7) (hd:DOk d) (at_:Int) (b:Bs):C5 Tryz.prog 13 [.c (.ptr 0 ba 0),kZ 1 [c0] [] at_ cl sz b] (aF ba bd bm d c n T S) (fun y:((Nat→Prop)×(Nat→Prop))×Lk×Nat=>B8W d c0 cl sz [] y.2.1 y.2.2) (fun y=>int .i64 0) (fun y=>aF ba bd bm ⟨d.room,B4 d.files [c0] y.2.1.f,y.2.2⟩ (c++[y.2.1]) n y.1.1 y.1.2):=by
 refine I4 (E:=uJ) Tryz.func13 (fun M0 W hM0=>?_);have X7:=hok.c;have hs:=hok.s;have hdv:=hok.d;have hp:=P3 X7;have X7:0≤cl∧cl≤6:=X7;have hs:0≤sz∧sz≤4096:=hs;have hdv:sz%2 ^ cl.toNat=0:=hdv;have hp:1≤(2:Int) ^ cl.toNat∧(2:Int) ^ cl.toNat≤64:=hp;refine G0 N3 (fun _=>some false) [false,false,false,false,false] (fun bs=>?_) (fun bs=>?_)
 ·and_intros<;> first|exact trivial|exact rfl|omega|exact hc0.1|exact hc0.2|exact decide_eq_false (by omega)
 refine mL N3 5 [0,1,0,4,12,31,63,127] [] (fun bs=>?_) (fun bs=>?_)
 ·and_intros<;> first|exact trivial|exact rfl|omega|(show cl≤64;omega)|(simp;omega)
 refine G0 N3 (fun _=>some false) [false] (fun bs=>?_) (fun bs=>?_)
 ·and_intros<;> first|exact trivial|exact rfl|(show(!decide (sz%(1*2 ^ cl.toNat)=0))=false;rw[Int.one_mul,hdv];rfl)|omega|(rw[Int.one_mul];omega)
 have e0:P0 VK.ptr.dft (H5 (Z0 c) [c0])=none:=by rw[A5O hno];rfl
 refine Q6 N3 6 [0,1,3,7,0,16,63,127,255] [] (fun bs=>?_);refine A3 N3 [] (fun bs=>?_);refine hZ 41 e0 ?_;refine A3 N3 [false] (fun bs=>?_);have hml:(Z0 c).length=c.length:=by simp[Z0]
 refine G0 N3 (fun _=>none) [false] (fun bs=>?_) (fun bs=>?_)
 ·and_intros<;> first|exact trivial|exact rfl|exact decide_eq_false (by rw[hml];omega)
 refine C2K N3 (fun _=>some false) 10 [0,1,3,7,15,31,63,127,15,271,1023,2047,4095,8191] [] (fun bs=>?_);refine N0 N3 (fun _=>some false) [false] (fun bs=>?_);refine pH N3 8 [0,0,2,0,8,31,0,64,255,511] 5 [0,1,2,3] [4] (C4R ba bd bm d c hc n T S [c0] []) (fun y hy=>?_);have hw:∃p,Way y.2 p∧(p.getD 0 fS).nm=[c0]:=⟨_,A9o hc hy .nil (by simp[bY]) (Nat.zero_le _),rfl⟩
 refine G0 N3 (fun _=>none) [false,false] (fun bs=>?_) (fun bs=>?_)
 ·and_intros<;> first|exact trivial|exact rfl|exact hw
 refine aA [0,1,2,3,4] [(0,.c (.ptr 0 ba 0)),(3,.c (.ptr 4 ?bc 0)),(4,int .i64 0)] (aF ba bd bm d c n y.1.1 y.1.2++[.blk ?bc 34 [.pv (i64 1),.pv (sv [c0]),.pv (sv []),.pv (i64 at_),.pv (i64 cl),.pv (i64 sz),.pv (.lst .byt b)]]) ?_;refine pH N3 17 [0,1,3,7,0,16,0,64,0,256,0,1024,4095,8191,16383,16383,32767,131071] 12 [3] [0,4] (B0v bd d y.1.2 c0 hc0 cl sz [] hok hsz (hc.nf hno) hd (by rw[A1r hc];omega)) (fun z hz=>?_);refine A3 N3 [false,true] (fun bs=>?_);obtain⟨⟨T1,S1⟩,b1,f1,s1,lg1⟩:=z;obtain⟨hz1,hz2⟩:=hz;have hnew:=B0z (c:=c) (k:=⟨b1,⟨[c0],Q3 cl sz [],Q3 cl sz [],[],s1,false,0,[]⟩,f1,fun _=>none,1⟩) hno
 refine Q6 N3 7 [0,1,3,7,0,16,0,127] [] (fun bs=>?_);refine A3 N3 [] (fun bs=>?_);refine lZ 2 5 (l:=J5 (c++[(⟨b1,⟨[c0],Q3 cl sz [],Q3 cl sz [],[],s1,false,0,[]⟩,f1,fun _=>none,1⟩:Lk)])) (l0:=J5 c) (l1:=J5 c) (l2:=[]) (x:=(b1,⟨[c0],Q3 cl sz [],Q3 cl sz [],[],s1,false,0,[]⟩)) (by simp[J5]) (by simp) (fun T2=>?_);refine B6 N3 ((T2,S1),⟨b1,⟨[c0],Q3 cl sz [],Q3 cl sz [],[],s1,false,0,[]⟩,f1,fun _=>none,1⟩,lg1) ⟨rfl,rfl,rfl,hz1,fun _=>rfl,rfl,hz2⟩ [0,1,2,3] (hl:=?hl)
 case hl=>
  and_intros<;> (first|exact wk_|refine A6 ?_|skip)
  all_goals first|exact hnew|(rw[hnew];exact rfl)
theorem W4.upd {d:G4} {c1 c2:List Lk} {k k':Lk} {m N B:Nat} (h:W4 d (c1++k::c2) m N B) (hn:k'.n≤N) {fs:vC} {lg:Nat} (hl:lg≤100000000):W4 ⟨d.room,fs,lg⟩ (c1++k'::c2) m N B:=by
 refine⟨h.rm,h.sp,by have:=h.cl;simp at this⊢;exact this,fun x hx=>?_,h.N60,h.B,hl⟩;simp only[List.mem_append,List.mem_cons]at hx;rcases hx with hx|hx|hx
 ·exact h.nb x (by simp[hx])
 ·rw[hx];exact hn
 ·exact h.nb x (by simp[hx])
structure C4S (d:G4) (k:Lk) (c0:UInt8) (cl sz:Int) (k' K:Lk) (lg:Nat):Prop where
 b:k'.b=k.b
 sm:Sm k.i k'.i
 m:k'.i.m=k.i.m
 v:k'.v=k.v
 ok:I8 k'.f k'.i k'.v k'.n
 n:k'.n≤k.n+1
 new:B8W ⟨d.room,d.files,d.lg+60⟩ c0 cl sz k.i.nm K lg
def uK:E4:=⟨T,D6,A7,A9,118,[],none,.f⟩
theorem A3X:B3 Tryz.prog uK:=⟨C0,A2,A4⟩
theorem L1:F3 Tryz.prog uK:=⟨tOk,A3X⟩
theorem C5k (ba bd bm:Nat) (d:G4) (c1 c2:List Lk) (k:Lk) (hc:F9 d (c1++k::c2)) (n:Int) (T S:Nat→Prop) (c0:UInt8) (hc0:97≤c0.toNat∧c0.toNat≤122) (hno:∀x∈c1++k::c2,x.i.nm≠[c0]) (cl sz:Int) (hok:MOk (Q3 cl sz k.i.nm)) (hsz:sz≤16) (h7:(c1++k::c2).length≤7) (m N B:Nat) (hr:W4 d (c1++k::c2) m N B) (hkN:k.n+1≤N) (hlg:d.lg+60≤100000000) (p:List Lk) (hpt:eI (c1++k::c2) k.i.nm p) (hpl:p.length≤7) (at_:Int) (b:Bs):C5 Tryz.prog 13 [.c (.ptr 0 ba 0),kZ 1 [c0] k.i.nm at_ cl sz b] (aF ba bd bm d (c1++k::c2) n T S) (fun y:((Nat→Prop)×(Nat→Prop))×Lk×Lk×Nat=>C4S d k c0 cl sz y.2.1 y.2.2.1 y.2.2.2) (fun y=>int .i64 0) (fun y=>aF ba bd bm ⟨d.room,B4 (B4 d.files k.i.nm y.2.1.f) [c0] y.2.2.1.f,y.2.2.2⟩ ((c1++y.2.1::c2)++[y.2.2.1]) n y.1.1 y.1.2):=by
 refine I4 (E:=uK) Tryz.func13 (fun M0 W hM0=>?_);have hkm:k∈c1++k::c2:=by simp
 have hko:=hc.lk hkm;have hd:=hr.dok hc;have X7:=hok.c;have hs:=hok.s;have hdv:=hok.d;have hp:=P3 X7;have X7:0≤cl∧cl≤6:=X7;have hs:0≤sz∧sz≤4096:=hs;have hdv:sz%2 ^ cl.toNat=0:=hdv;have hp:1≤(2:Int) ^ cl.toNat∧(2:Int) ^ cl.toNat≤64:=hp;refine G0 L1 (fun _=>some false) [false,false,false,false,false] (fun bs=>?_) (fun bs=>?_)
 ·and_intros<;> first|exact trivial|exact rfl|omega|exact hc0.1|exact hc0.2|exact decide_eq_false (by omega)
 refine mL L1 5 [0,1,0,4,12,31,63,127] [] (fun bs=>?_) (fun bs=>?_)
 ·and_intros<;> first|exact trivial|exact rfl|omega|(show cl≤64;omega)|(simp;omega)
 refine G0 L1 (fun _=>some false) [false] (fun bs=>?_) (fun bs=>?_)
 ·and_intros<;> first|exact trivial|exact rfl|(show(!decide (sz%(1*2 ^ cl.toNat)=0))=false;rw[Int.one_mul,hdv];rfl)|omega|(rw[Int.one_mul];omega)
 have e0:P0 VK.ptr.dft (H5 (Z0 (c1++k::c2)) [c0])=none:=by rw[A5O hno];rfl
 refine Q6 L1 6 [0,1,3,7,0,16,63,127,255] [] (fun bs=>?_);refine A3 L1 [] (fun bs=>?_);refine hZ 41 e0 ?_;refine A3 L1 [false] (fun bs=>?_);have hml:(Z0 (c1++k::c2)).length=(c1++k::c2).length:=by simp[Z0]
 refine G0 L1 (fun _=>none) [false] (fun bs=>?_) (fun bs=>?_)
 ·and_intros<;> first|exact trivial|exact rfl|exact decide_eq_false (by rw[hml];omega)
 have hne:(!decide (k.i.nm=[]))=true:=by simp[hc.ne k hkm]
 have hne2:decide (k.i.nm=[])=false:=decide_eq_false (hc.ne k hkm);refine cI tOk A3X rfl (fun _=>some true) 10 [0,1,3,7,15,31,63,127,15,271,1023,2047,4095,8191] [] rfl (by decide+kernel) (fun bs=>rfl) (fun bs=>?_) (fun bs=>?_)
 ·and_intros<;> first|exact trivial|exact rfl|exact hne
 have e2:P0 VK.ptr.dft (H5 (Z0 (c1++k::c2)) k.i.nm)=some k.b:=by rw[hc.pt hkm];rfl
 refine G0 L1 (fun _=>some true) [] (fun bs=>?_) (fun bs=>?_)
 ·and_intros<;> first|exact trivial|exact rfl|exact hne
 refine Y0 61 20 e2 ?_;refine G0 L1 (fun _=>some true) [false] (fun bs=>?_) (fun bs=>?_)
 ·and_intros<;> first|exact trivial|exact rfl|exact hne|exact Bool.and_false _
 refine pH L1 8 [0,0,2,0,8,31,0,64,255,511] 5 [0,1,2,3] [4] (C4R ba bd bm d (c1++k::c2) hc n T S [c0] k.i.nm) (fun y hy=>?_);have hw:∃p,Way y.2 p∧(p.getD 0 fS).nm=[c0]:=⟨_,A9o hc hy hpt (fun h=>by obtain⟨x,hx,e⟩:=List.mem_map.1 h;exact hno x (hpt.mem x hx) e) hpl,rfl⟩
 refine G0 L1 (fun _=>none) [false,true] (fun bs=>?_) (fun bs=>?_)
 ·and_intros<;> first|exact trivial|exact rfl|exact hw|exact hne
 refine aA [0,1,2,3,4] [(0,.c (.ptr 0 ba 0)),(3,.c (.ptr 4 ?bc 0)),(4,int .i64 0)] (aF ba bd bm d (c1++k::c2) n y.1.1 y.1.2++[.blk ?bc 34 [.pv (i64 1),.pv (sv [c0]),.pv (sv k.i.nm),.pv (i64 at_),.pv (i64 cl),.pv (i64 sz),.pv (.lst .byt b)]]) ?_;refine Q6 L1 6 [0,1,3,7,0,16,63,127,255] [] (fun bs=>?_);refine A3 L1 [] (fun bs=>?_);refine Y0 85 20 e2 ?_;refine U2 2 20 (eK c1 c2 k) (fun S1 S2=>?_);refine A5 [20,3] (iFl bd k.b k.i S2 d y.1.2 k.f hko.f k.v k.n hko.ok (by have:=hr.N60;omega) hd) (fun u hu=>?_);obtain⟨⟨T1,D1⟩,j,f1,n1,lg1⟩:=u;have hu:C1n k.i k.v k.n k.f d.lg j f1 n1 lg1:=hu;have hjn:j.nm=k.i.nm:=hu.sm.nm
 have hc':F9 ⟨d.room,B4 d.files k.i.nm f1,lg1⟩ (c1++⟨k.b,j,f1,k.v,n1⟩::c2):=hc.upd (k':=⟨k.b,j,f1,k.v,n1⟩) hjn hu.ok (hu.sm.hd.trans (hc.hd k hkm)) lg1;have hmp':Z0 (c1++⟨k.b,j,f1,k.v,n1⟩::c2)=Z0 (c1++k::c2):=qX (k':=⟨k.b,j,f1,k.v,n1⟩) hjn rfl;have hn1:=hu.n;have hlg1:=hu.lg;have hr':W4 ⟨d.room,B4 d.files k.i.nm f1,lg1⟩ (c1++⟨k.b,j,f1,k.v,n1⟩::c2) m N B:=hr.upd (k':=⟨k.b,j,f1,k.v,n1⟩) (by show n1≤N;omega) (by omega);have hno':∀x∈c1++(⟨k.b,j,f1,k.v,n1⟩:Lk)::c2,x.i.nm≠[c0]:=fun x hx=>by
  simp only[List.mem_append,List.mem_cons]at hx;rcases hx with hx|hx|hx
  ·exact hno x (by simp[hx])
  ·rw[hx];show j.nm≠_;rw[hjn];exact hno k hkm
  ·exact hno x (by simp[hx])
 have h7':(c1++(⟨k.b,j,f1,k.v,n1⟩:Lk)::c2).length≤7:=by simp at h7⊢;exact h7
 refine lZ 2 20 (l:=J5 (c1++(⟨k.b,j,f1,k.v,n1⟩:Lk)::c2)) (l0:=J5 c1++J5 c2) (l1:=J5 c1) (l2:=J5 c2) (x:=(k.b,j)) (eK c1 c2 _) rfl (fun S3=>?_);refine A3 L1 [false] (fun bs=>?_);refine aA [0,1,2,3,4] [(0,.c (.ptr 0 ba 0)),(3,.c (.ptr 4 ?bc2 0)),(4,int .i64 0)] [.blk ba 49 [.ptr 3 bd 0,.mpt 1 bm,.pv (i64 n)],.mp bm .str .ptr (Z0 (c1++k::c2)),O8 (Y5 bd) (J5 (c1++(⟨k.b,j,f1,k.v,n1⟩:Lk)::c2)) S3,C6 bd ⟨d.room,B4 d.files k.i.nm f1,lg1⟩ D1,.blk ?bc2 34 [.pv (i64 1),.pv (sv [c0]),.pv (sv k.i.nm),.pv (i64 at_),.pv (i64 cl),.pv (i64 sz),.pv (.lst .byt b)]] ?_;refine pH L1 17 [0,1,3,7,0,16,0,64,0,256,0,1024,4095,8191,16383,16383,32767,131071] 12 [3] [0,4] (B0v bd ⟨d.room,B4 d.files k.i.nm f1,lg1⟩ D1 c0 hc0 cl sz k.i.nm hok hsz (hc'.nf hno') (hr'.dok hc') (by rw[A1r hc'];omega)) (fun z hz=>?_)
 refine A3 L1 [false,true] (fun bs=>?_);obtain⟨⟨T2,S2'⟩,b2,f2,s2,lg2⟩:=z;obtain⟨hz1,hz2⟩:=hz;have hz2:lg2≤lg1+60:=hz2;have hnew:B4 (Z0 (c1++k::c2)) [c0] (some b2)=Z0 ((c1++(⟨k.b,j,f1,k.v,n1⟩:Lk)::c2)++[⟨b2,⟨[c0],Q3 cl sz k.i.nm,Q3 cl sz k.i.nm,[],s2,false,0,[]⟩,f2,fun _=>none,1⟩]):=by rw[←hmp'];exact B0z (k:=⟨b2,⟨[c0],Q3 cl sz k.i.nm,Q3 cl sz k.i.nm,[],s2,false,0,[]⟩,f2,fun _=>none,1⟩) hno'
 refine Q6 L1 7 [0,1,3,7,0,16,0,127] [] (fun bs=>?_);refine A3 L1 [] (fun bs=>?_);refine lZ 2 5 (l:=J5 ((c1++(⟨k.b,j,f1,k.v,n1⟩:Lk)::c2)++[(⟨b2,⟨[c0],Q3 cl sz k.i.nm,Q3 cl sz k.i.nm,[],s2,false,0,[]⟩,f2,fun _=>none,1⟩:Lk)])) (l0:=J5 (c1++(⟨k.b,j,f1,k.v,n1⟩:Lk)::c2)) (l1:=J5 (c1++(⟨k.b,j,f1,k.v,n1⟩:Lk)::c2)) (l2:=[]) (x:=(b2,⟨[c0],Q3 cl sz k.i.nm,Q3 cl sz k.i.nm,[],s2,false,0,[]⟩)) (by simp[J5]) (by simp) (fun T3=>?_);refine B6 L1 ((T3,S2'),⟨k.b,j,f1,k.v,n1⟩,⟨b2,⟨[c0],Q3 cl sz k.i.nm,Q3 cl sz k.i.nm,[],s2,false,0,[]⟩,f2,fun _=>none,1⟩,lg2) ⟨rfl,hu.sm,hu.m,rfl,hu.ok,hn1.2,⟨rfl,rfl,rfl,hz1,fun _=>rfl,rfl,by show lg2≤d.lg+60+60;omega⟩⟩ [0,1,2,3] (hl:=?hl)
 case hl=>
  and_intros<;> (first|exact wk_|refine A6 ?_|skip)
  all_goals first|exact hnew|(rw[hnew];exact rfl)
theorem eI.hd {d:G4} {c:List Lk} (hc:F9 d c) {k:Lk} {r:List Lk} (hp:eI c k.i.nm (k::r)):∀x∈r,x.i.nm≠k.i.nm:=by
 intro x hx e;have:=hp.un hc;exact(List.nodup_cons.1 this).1 (List.mem_map.2 ⟨x,hx,e⟩)
theorem A9q {α:Type} [DecidableEq α] {l:List α}:∀{g:List α},l.Nodup→(∀a∈l,a∈g)→l.length≤g.length:=by
 induction l with
 |nil=>intro g _ _;exact Nat.zero_le _
 |cons a l ih=>
  intro g hn hs;have ha:=hs a (by simp);obtain⟨h1,h2⟩:=List.nodup_cons.1 hn;have h3:=ih (g:=g.erase a) h2 (fun b hb=>(List.mem_erase_of_ne (fun e:b=a=>h1 (by rw[←e];exact hb))).2 (hs b (by simp[hb])));rw[List.length_erase_of_mem ha]at h3;have:=List.length_pos_of_mem ha;simp only[List.length_cons];omega
theorem eI.len {d:G4} {c:List Lk} (hc:F9 d c) {nm:Bs} {p:List Lk} (hp:eI c nm p):p.length≤c.length:=by
 have h1:=hp.un hc;have h2:(bY p).length≤(bY c).length:=by
  refine A9q h1 fun x hx=>?_
  obtain⟨k,hk,rfl⟩:=List.mem_map.1 hx;exact List.mem_map.2 ⟨k,hp.mem k hk,rfl⟩
 simpa[bY]using h2
theorem B1B (bd:Nat) (c1 c2:List Lk) (k:Lk) (S:Nat→Prop):cV (O8 (Y5 bd) (J5 (c1++k::c2)) S) (O8 (Y5 bd) (J5 c1++(k.b,k.i)::J5 c2) S):=by rw[eK];exact rfl
theorem A7i (bd:Nat) (c1 c2:List Lk) (k:Lk) (S:Nat→Prop):cV (O8 (Y5 bd) (J5 c1++(k.b,k.i)::J5 c2) S) (O8 (Y5 bd) (J5 (c1++k::c2)) S):=by rw[eK];exact rfl
theorem B8X (bm:Nat) {c c':List Lk} (h:Z0 c=Z0 c'):cV (.mp bm .str .ptr (Z0 c)) (.mp bm .str .ptr (Z0 c')):=by rw[h];exact rfl
def A5U:E4:=⟨T,D6,A7,A9,88,[],none,.f⟩
theorem C1r:B3 Tryz.prog A5U:=⟨C0,A2,A4⟩
theorem oK:F3 Tryz.prog A5U:=⟨tOk,C1r⟩
theorem aWr (ba bd bm:Nat) (d:G4) (c1 c2:List Lk) (k:Lk) (r:List Lk) (hc:F9 d (c1++k::c2)) (n:Int) (T S:Nat→Prop) (hpt:eI (c1++k::c2) k.i.nm (k::r)) (hfr:∀x∈c1++k::c2,x.i.m.bk≠k.i.nm) (a nn:Nat) (hs:((a+nn:Nat):Int)≤k.i.m.size) (to b:Bs) (hb:b.length=16*nn) (m N B:Nat) (hr:W4 d (c1++k::c2) m N B) (hkN:k.n+nn≤N) (cN cM:Int):C5 Tryz.prog 18 [.c (.ptr 0 ba 0),kZ 4 k.i.nm to a cN cM b] (aF ba bd bm d (c1++k::c2) n T S) (fun y:((Nat→Prop)×(Nat→Prop))×Lk×Nat=>Wrt d k r a nn b y.2.1 y.2.2) (fun y=>int .i64 0) (fun y=>aF ba bd bm ⟨d.room,B4 d.files k.i.nm y.2.1.f,y.2.2⟩ (c1++y.2.1::c2) n y.1.1 y.1.2):=by
 refine I4 (E:=A5U) Tryz.func18 (fun M0 W hM0=>?_);have hkm:k∈c1++k::c2:=by simp
 have hko:=hc.lk hkm;have hz16:=hko.ok.gm.sz;have h8:=hpt.len hc;have hc8:=hc.n;have hN60:=hr.N60;refine A3 oK [] (fun bs=>?_);refine Q6 oK 6 [0,1,3,7,0,16,63,127] [] (fun bs=>?_);refine A3 oK [] (fun bs=>?_);refine A5 [0,1,2,3] (A5S ba bd bm d (c1++k::c2) hc n T S k.i.nm (k::r) hpt (by omega)) (fun y _=>?_);refine A3 oK [true,true] (fun bs=>?_);refine A5 [0,1,2,3] (C2c ba bd bm d (c1++k::c2) hc n y.1 y.2 k.i.nm hfr) (fun u _=>?_);refine A3 oK [false,true] (fun bs=>?_);refine A5 [2,3] (B8D bd (J5 c1) (J5 c2) u.1 d u.2 k r (fun x hx=>by rw[←eK];exact hc.lk (hpt.mem x hx)) (hpt.hd hc) (by rw[hc.hd k hkm];exact Nat.zero_le _) a nn hs b hb (by omega) (hr.dk hc hkm hkN (by omega))) (fun z hz=>?_) (hl:=?hl1)
 case hl1=>
  and_intros<;> (first|exact wk_|refine A6 ?_|skip)
  all_goals first|exact B1B _ _ _ _ _
 obtain⟨⟨T2,D2⟩,k',lg'⟩:=z;have hz:Wrt d k r a nn b k' lg':=hz;refine A3 oK [] (fun bs=>?_);refine B6 oK ((T2,D2),k',lg') hz [0,1,2,3] (hl:=?hl2)
 case hl2=>
  and_intros<;> (first|exact wk_|refine A6 ?_|skip)
  all_goals first|exact(qX hz.sm.nm hz.bb).symm|exact A7i _ _ _ _ _|exact B8X _ (qX hz.sm.nm hz.bb).symm
abbrev C5l (e:Int) (b:Bs):A:= .g [.pv (i64 e),.pv (.lst .byt b),.pv (.nil .str),.pv (.nil .spn),.pv (i64 0),.pv (i64 0)]
def A5V:E4:=⟨T,D6,A7,A9,145,[],none,.f⟩
theorem C1s:B3 Tryz.prog A5V:=⟨C0,A2,A4⟩
theorem O6:F3 Tryz.prog A5V:=⟨tOk,C1s⟩
theorem aRd (ba bd bm:Nat) (d:G4) (c:List Lk) (hc:F9 d c) (n:Int) (T S:Nat→Prop) (k:Lk) (r:List Lk) (hpt:eI c k.i.nm (k::r)) (a nn:Nat) (hs:((a+nn:Nat):Int)≤k.i.m.size) (to b:Bs) (cM:Int):C5 Tryz.prog 16 [.c (.ptr 0 ba 0),kZ 3 k.i.nm to a nn cM b] (aF ba bd bm d c n T S) (fun _=>True) (fun _:(Nat→Prop)×(Nat→Prop)=>C5l 0 (W5 (k::r) a nn)) (fun y=>aF ba bd bm d c n y.1 y.2):=by
 refine I4 (E:=A5V) Tryz.func16 (fun M0 W hM0=>?_);have hkm:k∈c:=hpt.mem k (by simp);have hko:=hc.lk hkm;have h8:=hpt.len hc;have hc8:=hc.n;obtain⟨l1,l2,hL⟩:=List.append_of_mem hko.mem;have e0:P0 VK.ptr.dft (H5 (Z0 c) k.i.nm)=some k.b:=by rw[hc.pt hkm];rfl
 refine A3 O6 [] (fun bs=>?_);refine Q6 O6 6 [0,1,3,7,0,16,63,127] [] (fun bs=>?_);refine A3 O6 [] (fun bs=>?_);refine Y0 22 20 e0 ?_;refine U2 2 20 hL (fun S1 S2=>?_);refine A5 [20,3] (mR bd k.b k.i S2 d S k.f hko.f k.v k.n hko.ok) (fun u _=>?_);refine dR 2 20 hL (fun S3=>?_);refine A3 O6 [true] (fun bs=>?_);refine aA [0,1,2,3,4,5,22] [(0,.c (.ptr 0 ba 0)),(3,.c (.ptr 4 ?bc 0)),(4,.c (.ptr 5 ?br 0)),(7,.c (.ptr 6 ?b7 0))] (aF ba bd bm d c n S3 u.2++[.blk ?bc 34 [.pv (i64 3),.pv (sv k.i.nm),.pv (sv to),.pv (i64 a),.pv (i64 nn),.pv (i64 cM),.pv (.lst .byt b)],.blk ?br 31 [.pv (i64 0),.pv (.nil .byt),.pv (.nil .str),.pv (.nil .spn),.pv (i64 0),.pv (i64 0)],.blk ?b7 31 [.pv (i64 0),.pv (.nil .byt),.pv (.nil .str),.pv (.nil .spn),.pv (i64 0),.pv (i64 0)]]) ?_
 refine yO 16 ?_;refine aQ 0 ?_;refine C3 1 O6 ?_;refine C3 4 O6 ?_;refine C3 6 O6 ?_;refine E1 2 O6 ?_;refine tR (X:=(Nat→Prop)×(Nat→Prop)) (fun _=>True) 8 [0,1,2,3,4,5,6,7] (fun y=>[(4,.c (.ptr 5 ?br 0)),(7,.c (.ptr 6 ?b7 0)),(63,lst .ptr ((k::r).map fun k=>k.b)),(65,int .i64 a),(67,int .i64 nn)]) (fun y=>aF ba bd bm d c n y.1 y.2++[.blk ?bc 34 [.pv (i64 3),.pv (sv k.i.nm),.pv (sv to),.pv (i64 a),.pv (i64 nn),.pv (i64 cM),.pv (.lst .byt b)],.blk ?br 31 [.pv (i64 0),.pv (.nil .byt),.pv (.nil .str),.pv (.nil .spn),.pv (i64 0),.pv (i64 0)],.blk ?b7 31 [.pv (i64 0),.pv (.nil .byt),.pv (.nil .str),.pv (.nil .spn),.pv (i64 0),.pv (i64 0)]]) ?_ (fun fin=>?_)
 rotate_left
 refine B5 [3,5,7] rfl (by simp) ⟨F1 [0,1,2,3] (fun n=>n) (A5S ba bd bm d c hc n S3 u.2 k.i.nm (k::r) hpt (by omega)) rfl rfl trivial rfl rfl rfl rfl (by decide) rfl rfl (fun x=>rfl) (fun y _=>?_),A8 5 O6 (fun _=>?_),A8 7 O6 (fun _=>?_),trivial⟩
 ·refine E1 5 O6 ?_;refine E1 7 O6 ?_;exact G2 [0,1,2,3,4,5,6] _ _ _ (fin y trivial)
 ·refine B5 [3,7] rfl (by simp) ⟨F1 [0,1,2,3] (fun n=>n) (A5S ba bd bm d c hc n S3 u.2 k.i.nm (k::r) hpt (by omega)) rfl rfl trivial rfl rfl rfl rfl (by decide) rfl rfl (fun x=>rfl) (fun y _=>?_),A8 7 O6 (fun _=>?_),trivial⟩
  ·refine E1 7 O6 ?_;exact G2 [0,1,2,3,4,5,6] _ _ _ (fin y trivial)
  ·refine E8 3 rfl (F1 [0,1,2,3] (fun n=>n) (A5S ba bd bm d c hc n S3 u.2 k.i.nm (k::r) hpt (by omega)) rfl rfl trivial rfl rfl rfl rfl (by decide) rfl rfl (fun x=>rfl) (fun y _=>?_));exact G2 [0,1,2,3,4,5,6] _ _ _ (fin y trivial)
 ·refine B5 [3,5] rfl (by simp) ⟨F1 [0,1,2,3] (fun n=>n) (A5S ba bd bm d c hc n S3 u.2 k.i.nm (k::r) hpt (by omega)) rfl rfl trivial rfl rfl rfl rfl (by decide) rfl rfl (fun x=>rfl) (fun y _=>?_),A8 5 O6 (fun _=>?_),trivial⟩
  ·refine E1 5 O6 ?_;exact G2 [0,1,2,3,4,5,6] _ _ _ (fin y trivial)
  ·refine E8 3 rfl (F1 [0,1,2,3] (fun n=>n) (A5S ba bd bm d c hc n S3 u.2 k.i.nm (k::r) hpt (by omega)) rfl rfl trivial rfl rfl rfl rfl (by decide) rfl rfl (fun x=>rfl) (fun y _=>?_));exact G2 [0,1,2,3,4,5,6] _ _ _ (fin y trivial)
 intro y _;refine E8 8 rfl ?_;refine F1 [2,3] (fun n=>n-2) (B7y bd (J5 c) d (k::r) (fun x hx=>hc.lk (hpt.mem x hx)) y.1 y.2 a nn (fun k' r' e=>by cases e;exact hs) (by simp)) rfl rfl trivial rfl rfl rfl rfl (by decide) rfl rfl (fun x=>rfl) (fun z _=>?_);refine aQ 9 ?_;refine kO 10 ?_;refine kO 11 ?_;refine C3 12 O6 ?_;refine G1 13 O6 (fun _=>?_);refine C3 14 O6 ?_;refine G1 15 O6 (fun _=>?_);refine jW ?_;refine A3 O6 [] (fun bs=>?_);refine N8 5 1 7 rfl rfl rfl ?_;exact B6 O6 z.1 trivial [0,1,2,3]
def A1s:E4:=⟨T,D6,A7,A9,65,[],none,.f⟩
theorem B8Y:B3 Tryz.prog A1s:=⟨C0,A2,A4⟩
theorem cZ:F3 Tryz.prog A1s:=⟨tOk,B8Y⟩
theorem C7C (ba bd bm:Nat) (d:G4) (c1 c2:List Lk) (k:Lk) (r:List Lk) (hc:F9 d (c1++k::c2)) (n:Int) (T S:Nat→Prop) (hpt:eI (c1++k::c2) k.i.nm (k::r)) (hot:∀x∈c1++k::c2,x.i.nm≠k.i.nm→∃p,eI (c1++k::c2) x.i.nm p∧k.i.nm∉bY p) (w:Nat) (hw:w=2 ^ k.i.m.cl.toNat) (m N B:Nat) (hr:W4 d (c1++k::c2) m N B) (hkN:k.n+O9 k.i.m+1≤N):C5 Tryz.prog 42 [.c (.ptr 0 ba 0),str k.i.nm,str []] (aF ba bd bm d (c1++k::c2) n T S) (fun y:((Nat→Prop)×(Nat→Prop))×Lk×Nat=>Rbs d k r w y.2.1 y.2.2) (fun y=>int .i64 0) (fun y=>aF ba bd bm ⟨d.room,B4 d.files k.i.nm y.2.1.f,y.2.2⟩ (c1++y.2.1::c2) n y.1.1 y.1.2):=by
 refine I4 (E:=A1s) Tryz.func42 (fun M0 W hM0=>?_);have hkm:k∈c1++k::c2:=by simp
 have hko:=hc.lk hkm;have h8:=hpt.len hc;have hc8:=hc.n;have hN60:=hr.N60;have hn16:=hko.ok.gm.n.2.1;refine N0 cZ (fun _=>some false) [false] (fun bs=>?_);refine A5 [0,1,2,3] (C4R ba bd bm d (c1++k::c2) hc n T S k.i.nm []) (fun y hy=>?_);have hw0:∃p,Way y.2 p∧(p.getD 0 fS).nm=k.i.nm:=⟨_,A9o hc hy .nil (by simp[bY]) (Nat.zero_le _),rfl⟩
 have hwx:∀x∈y.2,∃p,Way y.2 p∧(p.getD 0 fS).nm=x.nm:=fun x hx=>by
  rcases(hy.mem x).1 hx with rfl|⟨q,hq,h1,rfl⟩
  ·exact hw0
  ·obtain⟨p,hp,hn⟩:=hot q hq h1;have hpl:=hp.len hc;refine⟨_,C4N hc hy hp (fun e=>?_) hn (by omega),hp.links.2⟩;subst e;have h0:=hc.ne q hq;generalize hg:q.i.nm=g at hp h0;cases hp with
   |nil=>exact h0 rfl
 have hyn:=hy.n;refine G0 cZ (fun _=>none) [false] (fun bs=>?_) (fun bs=>?_)
 ·and_intros<;> first|exact trivial|exact rfl|exact hw0|omega
 obtain⟨⟨T1,S1⟩,l⟩:=y;simp only at hwx hyn;refine V3 (fun i:Nat=>[(0,.c (.ptr 0 ba 0)),(1,str k.i.nm),(2,str []),(7,lst .lnk l),(33,lst .lnk l),(34,int .i64 l.length),(35,int .i64 i)]) (fun _=>aF ba bd bm d (c1++k::c2) n T1 S1) (fun i=>i≤l.length) (fun i=>l.length-i) [0,1,2,3] 0 (Nat.zero_le _) (fun i hi=>?_);refine A3 cZ [] (fun bs=>?_);refine I6 rfl rfl (fun hk2=>?_) (fun hk2=>?_)
 ·have hk2:(i:Int)<(l.length:Nat):=hk2;have hil:i<l.length:=by omega
  have hwi:∃p,Way l p∧(p.getD 0 fS).nm=(l.getD i fS).nm:=hwx _ (by rw[List.getD_eq_getElem?_getD,gE_ hil];exact List.getElem_mem hil);refine G0 cZ (fun _=>none) [false] (fun bs=>?_) (fun bs=>?_)
  ·and_intros<;> first|exact trivial|exact rfl|exact hwi|omega
  refine H3 [0,1,2,3] (i+1) ⟨hil,by omega⟩
 ·refine A3 cZ [false] (fun bs=>?_);refine A5 [0,1,2,3] (A5S ba bd bm d (c1++k::c2) hc n T1 S1 k.i.nm (k::r) hpt (by omega)) (fun u _=>?_);refine A3 cZ [] (fun bs=>?_);refine A5 [0,1,2,3] (A5S ba bd bm d (c1++k::c2) hc n u.1 u.2 [] [] .nil (by simp)) (fun v _=>?_);refine A3 cZ [] (fun bs=>?_);refine A5 [2,3] (C6w bd (J5 c1) (J5 c2) v.1 d v.2 k r (fun x hx=>by rw[←eK];exact hc.lk (hpt.mem x hx)) (hpt.hd hc) (by rw[hc.hd k hkm];exact Nat.zero_le _) w hw (by omega) (hr.dk hc hkm hkN (by omega))) (fun z hz=>?_) (hl:=?hl1)
  case hl1=>
   and_intros<;> (first|exact wk_|refine A6 ?_|skip)
   all_goals first|exact B1B _ _ _ _ _
  obtain⟨⟨T2,D2⟩,k',lg'⟩:=z;have hz:Rbs d k r w k' lg':=hz;refine A3 cZ [] (fun bs=>?_);refine B6 cZ ((T2,D2),k',lg') hz [0,1,2,3] (hl:=?hl2)
  case hl2=>
   and_intros<;> (first|exact wk_|refine A6 ?_|skip)
   all_goals first|exact(qX hz.nm hz.bb).symm|exact A7i _ _ _ _ _|exact B8X _ (qX hz.nm hz.bb).symm
def A1t:E4:=⟨T,D6,A7,A9,82,[],none,.f⟩
theorem B8Z:B3 Tryz.prog A1t:=⟨C0,A2,A4⟩
theorem qY:F3 Tryz.prog A1t:=⟨tOk,B8Z⟩
theorem C7D (ba bd bm:Nat) (d:G4) (c1 c2:List Lk) (k:Lk) (r:List Lk) (hc:F9 d (c1++k::c2)) (n:Int) (T S:Nat→Prop) (hpt:eI (c1++k::c2) k.i.nm (k::r)) (hot:∀x∈c1++k::c2,x.i.nm≠k.i.nm→∃p,eI (c1++k::c2) x.i.nm p∧k.i.nm∉bY p) (w:Nat) (hw:w=2 ^ k.i.m.cl.toNat) (m N B:Nat) (hr:W4 d (c1++k::c2) m N B) (hkN:k.n+O9 k.i.m+1≤N) (to b:Bs) (cA cN cM:Int):C5 Tryz.prog 17 [.c (.ptr 0 ba 0),kZ 21 k.i.nm to cA cN cM b] (aF ba bd bm d (c1++k::c2) n T S) (fun y:((Nat→Prop)×(Nat→Prop))×Lk×Nat=>Rbs d k r w y.2.1 y.2.2) (fun y=>int .i64 0) (fun y=>aF ba bd bm ⟨d.room,B4 d.files k.i.nm y.2.1.f,y.2.2⟩ (c1++y.2.1::c2) n y.1.1 y.1.2):=by
 refine I4 (E:=A1t) Tryz.func17 (fun M0 W hM0=>?_);refine A3 qY [] (fun bs=>?_);refine Q6 qY 6 [0,1,3,7,0,16,63,127] [] (fun bs=>?_);refine A3 qY [false,false,false,true] (fun bs=>?_);refine A5 [0,1,2,3] (C7C ba bd bm d c1 c2 k r hc n T S hpt hot w hw m N B hr hkN) (fun y hy=>?_);refine A3 qY [] (fun bs=>?_);exact B6 qY y hy [0,1,2,3]
def A1u:E4:=⟨T,D6,A7,A9,82,[],none,.f⟩
theorem B8a:B3 Tryz.prog A1u:=⟨C0,A2,A4⟩
theorem dA:F3 Tryz.prog A1u:=⟨tOk,B8a⟩
theorem C7E (ba bd bm:Nat) (d:G4) (c1 c2:List Lk) (k:Lk) (hc:F9 d (c1++k::c2)) (n:Int) (T S:Nat→Prop) (hfr:∀x∈c1++k::c2,x.i.m.bk≠k.i.nm) (hg:d.lg≤100000000) (to b:Bs) (cA cN cM:Int):C5 Tryz.prog 17 [.c (.ptr 0 ba 0),kZ 2 k.i.nm to cA cN cM b] (aF ba bd bm d (c1++k::c2) n T S) (fun _=>True) (fun _:(Nat→Prop)×(Nat→Prop)=>int .i64 0) (fun y=>aF ba bd bm ⟨d.room,X8 d.files k.i.nm,d.lg⟩ (c1++c2) n y.1 y.2):=by
 refine I4 (E:=A1u) Tryz.func17 (fun M0 W hM0=>?_);have hkm:k∈c1++k::c2:=by simp
 have hko:=hc.lk hkm;refine A3 dA [] (fun bs=>?_);refine Q6 dA 6 [0,1,3,7,0,16,63,127] [] (fun bs=>?_);refine A3 dA [true] (fun bs=>?_);refine A5 [0,1,2,3] (C2c ba bd bm d (c1++k::c2) hc n T S k.i.nm hfr) (fun u _=>?_);refine A3 dA [false] (fun bs=>?_);refine Q6 dA 6 [0,1,3,7,0,16,63,127] [] (fun bs=>?_);refine A5 [3] (C0C bd d u.2 k.i.nm k.f hko.f (by omega)) (fun S1 _=>?_);refine A3 dA [true] (fun bs=>?_);refine Q6 dA 6 [0,1,3,7,0,16,63] [] (fun bs=>?_);refine A3 dA [] (fun bs=>?_);refine U2 2 20 (eK c1 c2 k) (fun S2 S3=>?_);refine B6 dA (S2,S1) trivial [0,1,2,3] (hl:=?hl)
 case hl=>
  and_intros<;> (first|exact wk_|refine A6 ?_|skip)
  all_goals first|exact B1A hc|exact C4d (B1A hc)|(show cV (O8 (Y5 bd) (J5 c1++J5 c2) S2) (O8 (Y5 bd) (J5 (c1++c2)) S2);rw[show J5 (c1++c2)=J5 c1++J5 c2 by simp[J5]];exact rfl)
theorem A1v (c1 c2 c3:List Lk) (k1 k:Lk):J5 (c1++k1::(c2++k::c3))=J5 c1++(k1.b,k1.i)::(J5 c2++(k.b,k.i)::J5 c3):=by simp[J5]
theorem B1C {c1 c2 c3:List Lk} {k1 k k1' k':Lk} (h1:k1'.i.nm=k1.i.nm) (h2:k1'.b=k1.b) (h3:k'.i.nm=k.i.nm) (h4:k'.b=k.b):Z0 (c1++k1'::(c2++k'::c3))=Z0 (c1++k1::(c2++k::c3)):=by simp[Z0,h1,h2,h3,h4]
def A1w:E4:=⟨T,D6,A7,A9,82,[],none,.f⟩
theorem B8b:B3 Tryz.prog A1w:=⟨C0,A2,A4⟩
theorem dB:F3 Tryz.prog A1w:=⟨tOk,B8b⟩
theorem C7F (ba bd bm:Nat) (d:G4) (c1 c2 c3:List Lk) (k1 k:Lk) (r:List Lk) (hc:F9 d (c1++k1::(c2++k::c3))) (n:Int) (T S:Nat→Prop) (hpt:eI (c1++k1::(c2++k::c3)) k.i.nm (k::k1::r)) (hfr:∀x∈c1++k1::(c2++k::c3),x.i.m.bk≠k.i.nm) (hbk:k.i.m.bk=k1.i.nm) (hab:abv (c1++k1::(c2++k::c3)) k1.i.nm (List.range (c1++k1::(c2++k::c3)).length)≤1) (hs:k.i.m.size=k1.i.m.size) (m N:Nat) (hr:W4 d (c1++k1::(c2++k::c3)) m N 4000) (hkN:k1.n+17≤N) (hkN2:k.n+2≤N) (hlg:d.lg≤90000000) (to b:Bs) (cA cN cM:Int):C5 Tryz.prog 17 [.c (.ptr 0 ba 0),kZ 19 k.i.nm to cA cN cM b] (aF ba bd bm d (c1++k1::(c2++k::c3)) n T S) (fun y:((Nat→Prop)×(Nat→Prop))×Lk×Lk×Nat=>Cmt d k k1 r y.2.1 y.2.2.1 y.2.2.2) (fun y=>int .i64 0) (fun y=>aF ba bd bm ⟨d.room,B4 (B4 d.files k1.i.nm y.2.2.1.f) k.i.nm y.2.1.f,y.2.2.2⟩ (c1++y.2.2.1::(c2++y.2.1::c3)) n y.1.1 y.1.2):=by
 refine I4 (E:=A1w) Tryz.func17 (fun M0 W hM0=>?_);obtain⟨c,hcc⟩:∃c,c=c1++k1::(c2++k::c3):=⟨_,rfl⟩
 have hkm:k∈c:=by rw[hcc];simp
 have hkm1:k1∈c:=by rw[hcc];simp
 rw[←hcc]at hc hpt hfr hab hr⊢;have hko:=hc.lk hkm;have h8:=hpt.len hc;have hc8:=hc.n;have hN60:=hr.N60;have hne:decide (k.i.m.bk=[])=false:=decide_eq_false (by rw[hbk];exact hc.ne k1 hkm1);have e0:P0 VK.ptr.dft (H5 (Z0 c) k.i.nm)=some k.b:=by rw[hc.pt hkm];rfl
 obtain⟨l1,l2,hL⟩:=List.append_of_mem hko.mem;refine A3 dB [] (fun bs=>?_);refine Q6 dB 6 [0,1,3,7,0,16,63,127] [] (fun bs=>?_);refine A3 dB [false,false,false,false] (fun bs=>?_);refine Y0 61 20 e0 ?_;refine U2 2 20 hL (fun S1 S2=>?_);refine A5 [20,3] (mR bd k.b k.i S2 d S k.f hko.f k.v k.n hko.ok) (fun u _=>?_);refine dR 2 20 hL (fun S3=>?_);refine G0 dB (fun _=>none) [false] (fun bs=>?_) (fun bs=>?_)
 ·and_intros<;> first|exact trivial|exact rfl|exact hne
 refine A5 [0,1,2,3] (C4P ba bd bm d c hc n S3 u.2 k.i.nm) (fun u1 _=>?_);rw[B8N hfr];refine A3 dB [false] (fun bs=>?_);refine A5 [0,1,2,3] (C4P ba bd bm d c hc n u1.1 u1.2 k1.i.nm) (fun u2 _=>?_) (hsim:=?hs1)
 case hs1=>
  and_intros<;> (first|exact wk_|refine A6 ?_|skip)
  all_goals first|(show rF (str k.i.m.bk) (str k1.i.nm);rw[hbk];exact rfl)
 refine G0 dB (fun _=>none) [false] (fun bs=>?_) (fun bs=>?_)
 ·and_intros<;> first|exact trivial|exact rfl|exact decide_eq_false (by omega)
 refine A5 [0,1,2,3] (A5S ba bd bm d c hc n u2.1 u2.2 k.i.nm (k::k1::r) hpt (by omega)) (fun u3 _=>?_);refine A3 dB [] (fun bs=>?_);have hun:=hpt.un hc;have hnk1:k.i.nm≠k1.i.nm:=fun e=>(List.nodup_cons.1 hun).1 (List.mem_map.2 ⟨k1,by simp,e.symm⟩)
 have hnr:∀x∈r,x.i.nm≠k1.i.nm∧x.i.nm≠k.i.nm:=fun x hx=>⟨fun e=>(List.nodup_cons.1 (List.nodup_cons.1 hun).2).1 (List.mem_map.2 ⟨x,hx,e⟩),fun e=>(List.nodup_cons.1 hun).1 (List.mem_map.2 ⟨x,by simp[hx],e⟩)⟩
 have hle:=hr.le hc;have hfl:=A1r hc;have hk1f:=(hc.lk hkm1).f;have hm2:∀g:O0,H5 (B4 d.files k1.i.nm g) k.i.nm=some k.f:=fun g=>by rw[K7,if_neg hnk1];exact hko.f
 refine A5 [2,3] (C7B bd (J5 c1) (J5 c2) (J5 c3) u3.1 d u3.2 k k1 r (fun x hx=>by rw[←A1v,←hcc];exact hc.lk (hpt.mem x hx)) hnk1 hnr (hc.hd k1 hkm1) hs (by omega) (by omega) (fun g g' hg hg'=>hr.sum (fun p hp=>by
  rcases eG (hm2 g) hp with h1|h1
  ·rcases eG hk1f h1 with h1|h1
   ·exact hle p h1
   ·rw[h1];exact hg
  ·rw[h1];exact hg') (by rw[dT (hm2 g),dT hk1f];have:=hr.cl;omega)) hle (by omega) hr.rm (by omega)) (fun z hz=>?_) (hl:=?hl1)
 case hl1=>
  and_intros<;> (first|exact wk_|refine A6 ?_|skip)
  all_goals first|(show cV (O8 (Y5 bd) (J5 c) u3.1) (O8 (Y5 bd) (J5 c1++(k1.b,k1.i)::(J5 c2++(k.b,k.i)::J5 c3)) u3.1);rw[hcc,A1v];exact rfl)
 obtain⟨⟨T2,D2⟩,k',k1',lg'⟩:=z;have hz:Cmt d k k1 r k' k1' lg':=hz;refine A3 dB [] (fun bs=>?_);refine B6 dB ((T2,D2),k',k1',lg') hz [0,1,2,3] (hl:=?hl2)
 case hl2=>
  and_intros<;> (first|exact wk_|refine A6 ?_|skip)
  all_goals first|(rw[hcc];exact(B1C hz.s1.nm hz.b1 hz.sm.nm hz.bb).symm)|(show cV (O8 (Y5 bd) (J5 c1++(k1'.b,k1'.i)::(J5 c2++(k'.b,k'.i)::J5 c3)) T2) (O8 (Y5 bd) (J5 (c1++k1'::(c2++k'::c3))) T2);rw[A1v];exact rfl)|(rw[hcc];exact C4d (B1C hz.s1.nm hz.b1 hz.sm.nm hz.bb).symm)
abbrev A5W (e:Int):A:= .g [.pv (i64 e),.pv (.nil .byt),.pv (.nil .str),.pv (.nil .spn),.pv (i64 0),.pv (i64 0)]
def A1x:E4:=⟨T,D6,A7,A9,5,[],none,.f⟩
theorem B8c:B3 Tryz.prog A1x:=⟨C0,A2,A4⟩
theorem B1D:F3 Tryz.prog A1x:=⟨tOk,B8c⟩
theorem B3i (e:Int):C5 Tryz.prog 10 [int .i64 e] [] (fun _=>True) (fun _:Unit=>A5W e) (fun _=>[]):=by
 refine I4 (E:=A1x) Tryz.func10 (fun M0 W hM0=>?_);refine A3 B1D [] (fun bs=>?_);exact B6 B1D () trivial []
def A5X:E4:=⟨T,D6,A7,A9,84,[],none,.f⟩
theorem C1t:B3 Tryz.prog A5X:=⟨C0,A2,A4⟩
theorem iU:F3 Tryz.prog A5X:=⟨tOk,C1t⟩
theorem oWr (ba bd bm:Nat) (d:G4) (c1 c2:List Lk) (k:Lk) (r:List Lk) (hc:F9 d (c1++k::c2)) (n:Int) (T S:Nat→Prop) (hpt:eI (c1++k::c2) k.i.nm (k::r)) (hfr:∀x∈c1++k::c2,x.i.m.bk≠k.i.nm) (a nn:Nat) (hs:((a+nn:Nat):Int)≤k.i.m.size) (to b:Bs) (hb:b.length=16*nn) (m N B:Nat) (hr:W4 d (c1++k::c2) m N B) (hkN:k.n+nn≤N) (cN cM:Int):C5 Tryz.prog 8 [.c (.ptr 0 ba 0),kZ 4 k.i.nm to a cN cM b] (aF ba bd bm d (c1++k::c2) n T S) (fun y:((Nat→Prop)×(Nat→Prop))×Lk×Nat×Int=>Wrt d k r a nn b y.2.1 y.2.2.1) (fun y=>A5W 0) (fun y=>aF ba bd bm ⟨d.room,B4 d.files k.i.nm y.2.1.f,y.2.2.1⟩ (c1++y.2.1::c2) y.2.2.2 y.1.1 y.1.2):=by
 refine I4 (E:=A5X) Tryz.func8 (fun M0 W hM0=>?_);refine A3 iU [false] (fun bs=>?_);refine A5 [3] (A5Q bd d S (hc.nf hc.ne)) (fun S1 _=>?_);refine A3 iU [false] (fun bs=>?_);refine A5 [0,1,2,3] (vZ ba 49 2 [.ptr 3 bd 0,.mpt 1 bm,.pv (i64 n)] [.mp bm .str .ptr (Z0 (c1++k::c2)),O8 (Y5 bd) (J5 (c1++k::c2)) T,C6 bd d S1] n 1 rfl) (fun n2 _=>?_);refine A3 iU [false,false,false,false] (fun bs=>?_);have e0:P0 VK.ptr.dft (H5 (Z0 (c1++k::c2)) k.i.nm)=some k.b:=by rw[hc.pt (by simp)];rfl
 refine Q6 iU 6 [0,1,3,7,0,16,63,127,255] [] (fun bs=>?_);refine A3 iU [] (fun bs=>?_);refine Y0 56 20 e0 ?_;refine A3 iU [false,false,false,false,false,false,false,false,false,false,false] (fun bs=>?_);refine A5 [0,1,2,3] (aWr ba bd bm d c1 c2 k r hc n2 T S1 hpt hfr a nn hs to b hb m N B hr hkN cN cM) (fun y hy=>?_);refine A3 iU [] (fun bs=>?_);refine A5 [] (B3i 0) (fun _ _=>?_);refine A3 iU [] (fun bs=>?_);exact B6 iU (y.1,y.2.1,y.2.2,n2) hy [0,1,2,3]
def A5Y:E4:=⟨T,D6,A7,A9,84,[],none,.f⟩
theorem C1u:B3 Tryz.prog A5Y:=⟨C0,A2,A4⟩
theorem lA:F3 Tryz.prog A5Y:=⟨tOk,C1u⟩
theorem oRd (ba bd bm:Nat) (d:G4) (c:List Lk) (hc:F9 d c) (n:Int) (T S:Nat→Prop) (k:Lk) (r:List Lk) (hpt:eI c k.i.nm (k::r)) (a nn:Nat) (hs:((a+nn:Nat):Int)≤k.i.m.size) (to b:Bs) (cM:Int):C5 Tryz.prog 8 [.c (.ptr 0 ba 0),kZ 3 k.i.nm to a nn cM b] (aF ba bd bm d c n T S) (fun _=>True) (fun _:((Nat→Prop)×(Nat→Prop))×Int=>C5l 0 (W5 (k::r) a nn)) (fun y=>aF ba bd bm d c y.2 y.1.1 y.1.2):=by
 refine I4 (E:=A5Y) Tryz.func8 (fun M0 W hM0=>?_);refine A3 lA [false] (fun bs=>?_);refine A5 [3] (A5Q bd d S (hc.nf hc.ne)) (fun S1 _=>?_);refine A3 lA [false] (fun bs=>?_);refine A5 [0,1,2,3] (vZ ba 49 2 [.ptr 3 bd 0,.mpt 1 bm,.pv (i64 n)] [.mp bm .str .ptr (Z0 c),O8 (Y5 bd) (J5 c) T,C6 bd d S1] n 1 rfl) (fun n2 _=>?_);refine A3 lA [false,false,false,false] (fun bs=>?_);have e0:P0 VK.ptr.dft (H5 (Z0 c) k.i.nm)=some k.b:=by rw[hc.pt (hpt.mem k (by simp))];rfl
 refine Q6 lA 6 [0,1,3,7,0,16,63,127,255] [] (fun bs=>?_);refine A3 lA [] (fun bs=>?_);refine Y0 56 20 e0 ?_;refine A3 lA [false,true,true] (fun bs=>?_);refine A5 [0,1,2,3] (aRd ba bd bm d c hc n2 T S1 k r hpt a nn hs to b cM) (fun y _=>?_);refine A3 lA [] (fun bs=>?_);exact B6 lA (y,n2) trivial [0,1,2,3]
def A1y:E4:=⟨T,D6,A7,A9,84,[],none,.f⟩
theorem B8d:B3 Tryz.prog A1y:=⟨C0,A2,A4⟩
theorem dC:F3 Tryz.prog A1y:=⟨tOk,B8d⟩
theorem C7G (ba bd bm:Nat) (d:G4) (c1 c2:List Lk) (k:Lk) (r:List Lk) (hc:F9 d (c1++k::c2)) (n:Int) (T S:Nat→Prop) (hpt:eI (c1++k::c2) k.i.nm (k::r)) (hot:∀x∈c1++k::c2,x.i.nm≠k.i.nm→∃p,eI (c1++k::c2) x.i.nm p∧k.i.nm∉bY p) (w:Nat) (hw:w=2 ^ k.i.m.cl.toNat) (m N B:Nat) (hr:W4 d (c1++k::c2) m N B) (hkN:k.n+O9 k.i.m+1≤N) (to b:Bs) (cA cN cM:Int):C5 Tryz.prog 8 [.c (.ptr 0 ba 0),kZ 21 k.i.nm to cA cN cM b] (aF ba bd bm d (c1++k::c2) n T S) (fun y:((Nat→Prop)×(Nat→Prop))×Lk×Nat×Int=>Rbs d k r w y.2.1 y.2.2.1) (fun y=>A5W 0) (fun y=>aF ba bd bm ⟨d.room,B4 d.files k.i.nm y.2.1.f,y.2.2.1⟩ (c1++y.2.1::c2) y.2.2.2 y.1.1 y.1.2):=by
 refine I4 (E:=A1y) Tryz.func8 (fun M0 W hM0=>?_);refine A3 dC [false] (fun bs=>?_);refine A5 [3] (A5Q bd d S (hc.nf hc.ne)) (fun S1 _=>?_);refine A3 dC [false] (fun bs=>?_);refine A5 [0,1,2,3] (vZ ba 49 2 [.ptr 3 bd 0,.mpt 1 bm,.pv (i64 n)] [.mp bm .str .ptr (Z0 (c1++k::c2)),O8 (Y5 bd) (J5 (c1++k::c2)) T,C6 bd d S1] n 1 rfl) (fun n2 _=>?_);refine A3 dC [false,false,false,false] (fun bs=>?_);have e0:P0 VK.ptr.dft (H5 (Z0 (c1++k::c2)) k.i.nm)=some k.b:=by rw[hc.pt (by simp)];rfl
 refine Q6 dC 6 [0,1,3,7,0,16,63,127,255] [] (fun bs=>?_);refine A3 dC [] (fun bs=>?_);refine Y0 56 20 e0 ?_;refine A3 dC [false,false,false,false,false,false,false,false,false,false,true] (fun bs=>?_);refine A5 [0,1,2,3] (C7D ba bd bm d c1 c2 k r hc n2 T S1 hpt hot w hw m N B hr hkN to b cA cN cM) (fun y hy=>?_);refine A3 dC [] (fun bs=>?_);refine A5 [] (B3i 0) (fun _ _=>?_);refine A3 dC [] (fun bs=>?_);exact B6 dC (y.1,y.2.1,y.2.2,n2) hy [0,1,2,3]
def A1z:E4:=⟨T,D6,A7,A9,84,[],none,.f⟩
theorem B8e:B3 Tryz.prog A1z:=⟨C0,A2,A4⟩
theorem dD:F3 Tryz.prog A1z:=⟨tOk,B8e⟩
theorem C5m (ba bd bm:Nat) (d:G4) (c1 c2:List Lk) (k:Lk) (hc:F9 d (c1++k::c2)) (n:Int) (T S:Nat→Prop) (hfr:∀x∈c1++k::c2,x.i.m.bk≠k.i.nm) (hg:d.lg≤100000000) (to b:Bs) (cA cN cM:Int):C5 Tryz.prog 8 [.c (.ptr 0 ba 0),kZ 2 k.i.nm to cA cN cM b] (aF ba bd bm d (c1++k::c2) n T S) (fun _=>True) (fun _:((Nat→Prop)×(Nat→Prop))×Int=>A5W 0) (fun y=>aF ba bd bm ⟨d.room,X8 d.files k.i.nm,d.lg⟩ (c1++c2) y.2 y.1.1 y.1.2):=by
 refine I4 (E:=A1z) Tryz.func8 (fun M0 W hM0=>?_);refine A3 dD [false] (fun bs=>?_);refine A5 [3] (A5Q bd d S (hc.nf hc.ne)) (fun S1 _=>?_);refine A3 dD [false] (fun bs=>?_);refine A5 [0,1,2,3] (vZ ba 49 2 [.ptr 3 bd 0,.mpt 1 bm,.pv (i64 n)] [.mp bm .str .ptr (Z0 (c1++k::c2)),O8 (Y5 bd) (J5 (c1++k::c2)) T,C6 bd d S1] n 1 rfl) (fun n2 _=>?_);refine A3 dD [false,false,false,false] (fun bs=>?_);have e0:P0 VK.ptr.dft (H5 (Z0 (c1++k::c2)) k.i.nm)=some k.b:=by rw[hc.pt (by simp)];rfl
 refine Q6 dD 6 [0,1,3,7,0,16,63,127,255] [] (fun bs=>?_);refine A3 dD [] (fun bs=>?_);refine Y0 56 20 e0 ?_;refine A3 dD [false,false,false,false,false,false,true,true] (fun bs=>?_);refine A5 [0,1,2,3] (C7E ba bd bm d c1 c2 k hc n2 T S1 hfr hg to b cA cN cM) (fun y _=>?_);refine A3 dD [] (fun bs=>?_);refine A5 [] (B3i 0) (fun _ _=>?_);refine A3 dD [] (fun bs=>?_);exact B6 dD (y,n2) trivial [0,1,2,3]
def A2A:E4:=⟨T,D6,A7,A9,84,[],none,.f⟩
theorem B8f:B3 Tryz.prog A2A:=⟨C0,A2,A4⟩
theorem dE:F3 Tryz.prog A2A:=⟨tOk,B8f⟩
theorem C7H (ba bd bm:Nat) (d:G4) (c1 c2 c3:List Lk) (k1 k:Lk) (r:List Lk) (hc:F9 d (c1++k1::(c2++k::c3))) (n:Int) (T S:Nat→Prop) (hpt:eI (c1++k1::(c2++k::c3)) k.i.nm (k::k1::r)) (hfr:∀x∈c1++k1::(c2++k::c3),x.i.m.bk≠k.i.nm) (hbk:k.i.m.bk=k1.i.nm) (hab:abv (c1++k1::(c2++k::c3)) k1.i.nm (List.range (c1++k1::(c2++k::c3)).length)≤1) (hs:k.i.m.size=k1.i.m.size) (m N:Nat) (hr:W4 d (c1++k1::(c2++k::c3)) m N 4000) (hkN:k1.n+17≤N) (hkN2:k.n+2≤N) (hlg:d.lg≤90000000) (to b:Bs) (cA cN cM:Int):C5 Tryz.prog 8 [.c (.ptr 0 ba 0),kZ 19 k.i.nm to cA cN cM b] (aF ba bd bm d (c1++k1::(c2++k::c3)) n T S) (fun y:((Nat→Prop)×(Nat→Prop))×Lk×Lk×Nat×Int=>Cmt d k k1 r y.2.1 y.2.2.1 y.2.2.2.1) (fun y=>A5W 0) (fun y=>aF ba bd bm ⟨d.room,B4 (B4 d.files k1.i.nm y.2.2.1.f) k.i.nm y.2.1.f,y.2.2.2.1⟩ (c1++y.2.2.1::(c2++y.2.1::c3)) y.2.2.2.2 y.1.1 y.1.2):=by
 refine I4 (E:=A2A) Tryz.func8 (fun M0 W hM0=>?_);refine A3 dE [false] (fun bs=>?_);refine A5 [3] (A5Q bd d S (hc.nf hc.ne)) (fun S1 _=>?_);refine A3 dE [false] (fun bs=>?_);refine A5 [0,1,2,3] (vZ ba 49 2 [.ptr 3 bd 0,.mpt 1 bm,.pv (i64 n)] [.mp bm .str .ptr (Z0 (c1++k1::(c2++k::c3))),O8 (Y5 bd) (J5 (c1++k1::(c2++k::c3))) T,C6 bd d S1] n 1 rfl) (fun n2 _=>?_);refine A3 dE [false,false,false,false] (fun bs=>?_);have e0:P0 VK.ptr.dft (H5 (Z0 (c1++k1::(c2++k::c3))) k.i.nm)=some k.b:=by rw[hc.pt (by simp)];rfl
 refine Q6 dE 6 [0,1,3,7,0,16,63,127,255] [] (fun bs=>?_);refine A3 dE [] (fun bs=>?_);refine Y0 56 20 e0 ?_;refine A3 dE [false,false,false,false,false,false,false,false,true,true] (fun bs=>?_);refine A5 [0,1,2,3] (C7F ba bd bm d c1 c2 c3 k1 k r hc n2 T S1 hpt hfr hbk hab hs m N hr hkN hkN2 hlg to b cA cN cM) (fun y hy=>?_);refine A3 dE [] (fun bs=>?_);refine A5 [] (B3i 0) (fun _ _=>?_);refine A3 dE [] (fun bs=>?_);exact B6 dE (y.1,y.2.1,y.2.2.1,y.2.2.2,n2) hy [0,1,2,3]
def A2B:E4:=⟨T,D6,A7,A9,84,[],none,.f⟩
theorem B8g:B3 Tryz.prog A2B:=⟨C0,A2,A4⟩
theorem lS:F3 Tryz.prog A2B:=⟨tOk,B8g⟩
theorem C5n (ba bd bm:Nat) (d:G4) (c:List Lk) (hc:F9 d c) (n:Int) (T S:Nat→Prop) (c0:UInt8) (hc0:97≤c0.toNat∧c0.toNat≤122) (hno:∀k∈c,k.i.nm≠[c0]) (cl sz:Int) (hok:MOk (Q3 cl sz [])) (hsz:sz≤16) (h7:c.length≤7) (hd:DOk d) (at_:Int) (b:Bs):C5 Tryz.prog 8 [.c (.ptr 0 ba 0),kZ 1 [c0] [] at_ cl sz b] (aF ba bd bm d c n T S) (fun y:((Nat→Prop)×(Nat→Prop))×Lk×Nat×Int=>B8W d c0 cl sz [] y.2.1 y.2.2.1) (fun y=>A5W 0) (fun y=>aF ba bd bm ⟨d.room,B4 d.files [c0] y.2.1.f,y.2.2.1⟩ (c++[y.2.1]) y.2.2.2 y.1.1 y.1.2):=by
 refine I4 (E:=A2B) Tryz.func8 (fun M0 W hM0=>?_);refine A3 lS [false] (fun bs=>?_);refine A5 [3] (A5Q bd d S (hc.nf hc.ne)) (fun S1 _=>?_);refine A3 lS [false] (fun bs=>?_);refine A5 [0,1,2,3] (vZ ba 49 2 [.ptr 3 bd 0,.mpt 1 bm,.pv (i64 n)] [.mp bm .str .ptr (Z0 c),O8 (Y5 bd) (J5 c) T,C6 bd d S1] n 1 rfl) (fun n2 _=>?_);refine A3 lS [false,false,true] (fun bs=>?_);refine A5 [0,1,2,3] (C5j ba bd bm d c hc n2 T S1 c0 hc0 hno cl sz hok hsz h7 hd at_ b) (fun y hy=>?_);refine A3 lS [] (fun bs=>?_);refine A5 [] (B3i 0) (fun _ _=>?_);refine A3 lS [] (fun bs=>?_);exact B6 lS (y.1,y.2.1,y.2.2,n2) hy [0,1,2,3]
def A2C:E4:=⟨T,D6,A7,A9,84,[],none,.f⟩
theorem B8h:B3 Tryz.prog A2C:=⟨C0,A2,A4⟩
theorem lT:F3 Tryz.prog A2C:=⟨tOk,B8h⟩
theorem C7I (ba bd bm:Nat) (d:G4) (c1 c2:List Lk) (k:Lk) (hc:F9 d (c1++k::c2)) (n:Int) (T S:Nat→Prop) (c0:UInt8) (hc0:97≤c0.toNat∧c0.toNat≤122) (hno:∀x∈c1++k::c2,x.i.nm≠[c0]) (cl sz:Int) (hok:MOk (Q3 cl sz k.i.nm)) (hsz:sz≤16) (h7:(c1++k::c2).length≤7) (m N B:Nat) (hr:W4 d (c1++k::c2) m N B) (hkN:k.n+1≤N) (hlg:d.lg+60≤100000000) (p:List Lk) (hpt:eI (c1++k::c2) k.i.nm p) (hpl:p.length≤7) (at_:Int) (b:Bs):C5 Tryz.prog 8 [.c (.ptr 0 ba 0),kZ 1 [c0] k.i.nm at_ cl sz b] (aF ba bd bm d (c1++k::c2) n T S) (fun y:((Nat→Prop)×(Nat→Prop))×Lk×Lk×Nat×Int=>C4S d k c0 cl sz y.2.1 y.2.2.1 y.2.2.2.1) (fun y=>A5W 0) (fun y=>aF ba bd bm ⟨d.room,B4 (B4 d.files k.i.nm y.2.1.f) [c0] y.2.2.1.f,y.2.2.2.1⟩ ((c1++y.2.1::c2)++[y.2.2.1]) y.2.2.2.2 y.1.1 y.1.2):=by
 refine I4 (E:=A2C) Tryz.func8 (fun M0 W hM0=>?_);refine A3 lT [false] (fun bs=>?_);refine A5 [3] (A5Q bd d S (hc.nf hc.ne)) (fun S1 _=>?_);refine A3 lT [false] (fun bs=>?_);refine A5 [0,1,2,3] (vZ ba 49 2 [.ptr 3 bd 0,.mpt 1 bm,.pv (i64 n)] [.mp bm .str .ptr (Z0 (c1++k::c2)),O8 (Y5 bd) (J5 (c1++k::c2)) T,C6 bd d S1] n 1 rfl) (fun n2 _=>?_);refine A3 lT [false,false,true] (fun bs=>?_);refine A5 [0,1,2,3] (C5k ba bd bm d c1 c2 k hc n2 T S1 c0 hc0 hno cl sz hok hsz h7 m N B hr hkN hlg p hpt hpl at_ b) (fun y hy=>?_);refine A3 lT [] (fun bs=>?_);refine A5 [] (B3i 0) (fun _ _=>?_);refine A3 lT [] (fun bs=>?_)
 exact B6 lT (y.1,y.2.1,y.2.2.1,y.2.2.2,n2) hy [0,1,2,3]
def fL (c:List Lk):Bs:=match c.getLast? with
 |none=>[]
 |some k=>k.i.nm
theorem U0 (c:List Lk) (k:Lk):fL (c++[k])=k.i.nm:=by simp[fL]
def Twr (c:List Lk):Prop:=∀c1 k c2,c=c1++k::c2→k.i.m.bk=fL c1
theorem B1E {α:Type} {p:List α→Prop} (h0:p []) (h1:∀l x,p l→p (l++[x])) (l:List α):p l:=by
 have key:∀m:List α,p m.reverse:=by
  intro m
  induction m with
  |nil=>exact h0
  |cons x m ih=>rw[List.reverse_cons];exact h1 _ _ ih
 have:=key l.reverse
 rwa [List.reverse_reverse]at this
theorem Twr.pth {c:List Lk} (h:Twr c):∀c1 c2,c=c1++c2→eI c (fL c1) c1.reverse:=by
 intro c1;refine B1E (p:=fun c1=>∀c2,c=c1++c2→eI c (fL c1) c1.reverse) (fun _ _=> .nil) (fun l x ih c2 e=>?_) c1;rw[U0,List.reverse_append,List.reverse_cons,List.reverse_nil,List.nil_append,List.singleton_append];have e2:c=l++x::c2:=by rw[e];simp
 refine .cons (by rw[e2];simp) ?_;rw[h l x c2 e2];exact ih _ e2
theorem Twr.app {c:List Lk} (h:Twr c) {k:Lk} (hk:k.i.m.bk=fL c):Twr (c++[k]):=by
 intro c1 x c2 e;rcases List.eq_nil_or_concat c2 with rfl|⟨c3,y,rfl⟩
 ·obtain⟨rfl,h2⟩:=List.append_inj' e rfl;cases h2;exact hk
 ·have e:c++[k]=(c1++x::c3)++[y]:=by rw[e];simp
  obtain⟨e1,_⟩:=List.append_inj' e rfl;exact h c1 x c3 e1
theorem Twr.pre {c1 c2:List Lk} (h:Twr (c1++c2)):Twr c1:=fun a k b e=>h a k (b++c2) (by rw[e];simp)
def gO (i:Nat):Bs:=[UInt8.ofNat (97+i)]
theorem xD {i j:Nat} (hi:i<16) (hj:j<16) (h:gO i=gO j):i=j:=by
 have:=congrArg (fun l:Bs=>(l.getD 0 0).toNat) h;simp only[gO,List.getD_cons_zero,UInt8.toNat_ofNat']at this;omega
def hB (cs:Bs) (i:Nat):Bs:=List.replicate 16 (cs.getD (i%cs.length) 0)
structure xE (d:G4) (c:List Lk):Prop where
 ok:F9 d c
 tw:Twr c
 nm:bY c=(List.range c.length).map gO
 sz:∀k∈c,k.i.m.size=16
 rm:d.room=1048576
theorem xE.roomy {d:G4} {c:List Lk} (h:xE d c) (hn:∀k∈c,k.n≤60) (hl:d.lg≤100000000):W4 d c 8 60 4000:=
 ⟨by rw[h.rm];exact Int.le_refl _,by rw[h.rm];decide,h.ok.n,hn,Nat.le_refl _,⟨by decide,by decide⟩,hl⟩
theorem iV (c:List Lk) (k:Lk):bY (c++[k])=bY c++[k.i.nm]:=by simp[bY]
theorem xE.last {d:G4} {c:List Lk} {k:Lk} (h:xE d (c++[k])):bY c=(List.range c.length).map gO∧k.i.nm=gO c.length:=by
 have:=h.nm;rw[iV,List.length_append,List.length_cons,List.length_nil,Nat.zero_add,List.range_succ,List.map_append]at this;obtain⟨h1,h2⟩:=List.append_inj' this rfl;exact⟨h1,by simpa using h2⟩
theorem xE.no {d:G4} {c:List Lk} (h:xE d c) {i:Nat} (h1:c.length≤i) (h2:i<16):∀k∈c,k.i.nm≠gO i:=by
 intro k hk e;have hm:k.i.nm∈bY c:=List.mem_map.2 ⟨k,hk,rfl⟩;rw[h.nm]at hm;obtain⟨j,hj,e2⟩:=List.mem_map.1 hm;have hj:=List.mem_range.1 hj;have:=xD (by omega) h2 (e2.trans e);omega
theorem xE.pth {d:G4} {c:List Lk} {k:Lk} (h:xE d (c++[k])):eI (c++[k]) k.i.nm (k::c.reverse):=by
 have:=h.tw.pth (c++[k]) [] (by simp)
 rwa [U0,List.reverse_append,List.reverse_cons,List.reverse_nil,List.nil_append,List.singleton_append]at this
theorem B8i {c c':List Lk} {n:Nat} (h:∀q,q<n→K4 c q=K4 c' q):W5 c 0 n=W5 c' 0 n:=by
 induction n with
 |zero=>rfl
 |succ n ih=>rw[W5,W5,ih fun q hq=>h q (by omega),Nat.zero_add,h n (by omega)]
theorem Rbs.sec {d:G4} {L:oN} {k k':Lk} {r:List Lk} {w lg:Nat} (h:Rbs d k r w k' lg) (hk:I8 k.f k.i k.v k.n) (hr:∀x∈r,R7 d L x) (hw:w=2 ^ k.i.m.cl.toNat) (q:Nat) (hq:(q:Int)<k.i.m.size):K4 [k'] q=K4 (k::r) q:=by
 have hw0:0<w:=by rw[hw];exact Nat.pow_pos (by omega)
 have hn:=hk.gm.n.2.2;rw[show(2 ^ k.i.m.cl.toNat:Int)=(w:Int) by rw[hw];push_cast;rfl]at hn;obtain⟨p,hp⟩:∃p,p=q / w:=⟨_,rfl⟩
 have hm:=Nat.mod_add_div q w;have hml:=Nat.mod_lt q hw0;rw[←hp,Nat.mul_comm]at hm;have hpn:p<O9 k.i.m:=by
  rw[hp,Nat.div_lt_iff_lt_mul hw0];have:(q:Int)<((O9 k.i.m*w:Nat):Int):=by push_cast;omega
  omega
 have hv:=h.vw p hpn;rw[xB (k:=k') (r:=[]) (by rw[h.cl];exact hw) hw0 (p:=p) (by omega) (by omega) (by rw[h.sz];exact hq),xB (k:=k) (r:=r) hw hw0 (p:=p) (by omega) (by omega) hq,hv];unfold A9n;cases hx:k.v p with
 |some x=>rfl
 |none=>
  simp only;have hat:=A9j hr (p*w) w (q%w) hml;rw[show p*w+q%w=q by omega]at hat;by_cases hz:W5 r (p*w) w=zr w
  ·rw[if_pos hz];simp only;rw[hz]at hat;rw[←hat];show iB=_;rw[zr,List.drop_replicate,List.take_replicate];rw[show min 16 (16*w-16*(q%w))=16 by omega]
  ·rw[if_neg hz];simp only;rw[←hat,show q-p*w=q%w by omega]
theorem C1v {c:List Lk} {nm:Bs} (h:∀i j:Nat,(c.map fun k:Lk=>k.i.m.bk)[i]? =some nm→(c.map fun k:Lk=>k.i.m.bk)[j]? =some nm→i=j):abv c nm (List.range c.length)≤1:=by
 unfold abv;have hnd:=(List.nodup_range (n:=c.length)).filter fun j=>decide ((c.map fun k=>k.i.m.bk)[j]? =some nm)
 have hall:∀x∈(List.range c.length).filter fun j=>decide ((c.map fun k=>k.i.m.bk)[j]? =some nm),(c.map fun k=>k.i.m.bk)[x]? =some nm:=fun x hx=>by
  have:=(List.mem_filter.1 hx).2;exact of_decide_eq_true this
 generalize hL:((List.range c.length).filter fun j=>decide ((c.map fun k=>k.i.m.bk)[j]? =some nm))=L at hnd hall⊢
 match L,hnd,hall with
 |[],_,_=>exact Nat.zero_le _
 |[_],_,_=>exact Nat.le_refl _
 |a::b::l,hnd,hall=>
  exfalso;have:=h a b (hall a (by simp)) (hall b (by simp));subst this;simp at hnd
structure Hs2 (cs:Bs) (m:Nat) (d:G4) (c:List Lk):Prop where
 h:xE d c
 sec:∀q,q<16→K4 c.reverse q=if q<m then hB cs q else iB
 n:∀k∈c,k.n≤3
 top:∀c0 k,c=c0++[k]→k.n≤2
 lg:d.lg≤1000*c.length
theorem A7j {K:Lk} {r:List Lk} (hs:K.i.m.size=16) (hv:∀j,K.v j=none) {q:Nat} (hq:q<16):K4 (K::r) q=K4 r q:=by
 have:K4 (K::r) q=if(q:Int)<K.i.m.size then(match K.v (q / 2 ^ K.i.m.cl.toNat)with
  |some x=>(x.drop (16*(q%2 ^ K.i.m.cl.toNat))).take 16
  |none=>K4 r q)else iB:=rfl
 rw[this,hs,if_pos (by omega),hv]
theorem Z1 (c:List Lk) (k:Lk):(c++[k]).reverse=k::c.reverse:=by simp
theorem xE.add {d:G4} {c:List Lk} (h:xE d c) {K:Lk} {lg:Nat} (hnm:K.i.nm=gO c.length) (hsz:K.i.m.size=16) (hbk:K.i.m.bk=fL c) (ho:I8 K.f K.i K.v K.n) (hh:K.i.held=[]) (h7:c.length≤7):xE ⟨d.room,B4 d.files K.i.nm K.f,lg⟩ (c++[K]):=
 ⟨h.ok.new (fun x hx=>by rw[hnm];exact h.no (Nat.le_refl _) (by omega) x hx) ho hh (by rw[hnm];simp[gO]) h7 lg,h.tw.app hbk,by rw[iV,h.nm,hnm,List.length_append,List.length_cons,List.length_nil,Nat.zero_add,List.range_succ,List.map_append];rfl,fun x hx=>by
  rcases List.mem_append.1 hx with hx|hx
  ·exact h.sz x hx
  ·rw[List.mem_singleton.1 hx];exact hsz,h.rm⟩
theorem xE.turn {d:G4} {c:List Lk} {k k':Lk} (h:xE d (c++[k])) {lg:Nat} (hs:Sm k.i k'.i) (ho:I8 k'.f k'.i k'.v k'.n):xE ⟨d.room,B4 d.files k.i.nm k'.f,lg⟩ (c++[k']):=by
 have hkm:k∈c++[k]:=by simp
 refine⟨h.ok.upd (c2:=[]) hs.nm ho (hs.hd.trans (h.ok.hd k hkm)) lg,h.tw.pre.app (hs.bk.trans (h.tw c k [] rfl)),?_,fun x hx=>?_,h.rm⟩
 ·have:=h.nm;rw[iV]at this⊢;rw[hs.nm,this];simp
 ·rcases List.mem_append.1 hx with hx|hx
  ·exact h.sz x (by simp[hx])
  ·rw[List.mem_singleton.1 hx,hs.sz];exact h.sz k hkm
theorem Hs2.new0 {cs:Bs} {d:G4} (h:Hs2 cs 0 d []) {K:Lk} {lg:Nat} {c0:UInt8} {cl:Int} (hz:B8W d c0 cl 16 [] K lg) (hc:[c0]=gO 0):Hs2 cs 0 ⟨d.room,B4 d.files [c0] K.f,lg⟩ ([]++[K]):=by
 have hsz:K.i.m.size=16:=by rw[hz.m];rfl
 have hlg:=hz.lg;have hl0:=h.lg;refine⟨?_,fun q hq=>?_,fun k hk=>?_,fun a k e=>?_,?_⟩
 ·rw[←hz.nm];exact h.h.add (hz.nm.trans hc) hsz (by rw[hz.m];rfl) hz.ok hz.hd (Nat.zero_le _)
 ·rw[Z1,A7j hsz hz.v hq];exact h.sec q hq
 ·simp at hk;rw[hk,hz.n];decide
 ·have:=(List.append_inj' e rfl).2;cases this;rw[hz.n];decide
 ·simp at hl0⊢;omega
theorem Hs2.new1 {cs:Bs} {m:Nat} {d:G4} {c:List Lk} {k k' K:Lk} (h:Hs2 cs m d (c++[k])) {lg:Nat} {c0:UInt8} {cl:Int} (hz:C4S d k c0 cl 16 k' K lg) (hc:[c0]=gO (c++[k]).length) (h7:(c++[k]).length≤7):Hs2 cs m ⟨d.room,B4 (B4 d.files k.i.nm k'.f) [c0] K.f,lg⟩ ((c++[k'])++[K]):=by
 have hsz:K.i.m.size=16:=by rw[hz.new.m];rfl
 have hlg:=hz.new.lg;have hl0:=h.lg;have ht:=h.top c k rfl;have hn:=hz.n;have h1:xE ⟨d.room,B4 d.files k.i.nm k'.f,lg⟩ (c++[k']):=h.h.turn hz.sm hz.ok;refine⟨?_,fun q hq=>?_,fun x hx=>?_,fun a x e=>?_,?_⟩
 ·rw[←hz.new.nm];exact h1.add (lg:=lg) (hz.new.nm.trans (by rw[hc];simp)) hsz (by rw[hz.new.m,U0,hz.sm.nm];rfl) hz.new.ok hz.new.hd (by simpa using h7)
 ·rw[Z1,A7j hsz hz.new.v hq,Z1];have:=h.sec q hq;rw[Z1]at this;rw[←this];exact wZ (by rw[hz.m]) (by rw[hz.m]) (by rw[hz.v])
 ·simp only[List.mem_append,List.mem_singleton]at hx;rcases hx with(hx|hx)|hx
  ·exact h.n x (by simp[hx])
  ·rw[hx];omega
  ·rw[hx,hz.new.n];decide
 ·have:=(List.append_inj' e rfl).2;cases this;rw[hz.new.n];decide
 ·simp at hl0 hlg⊢;omega
theorem Hs2.write {cs:Bs} {m:Nat} {d:G4} {c:List Lk} {k k':Lk} (h:Hs2 cs m d (c++[k])) (hk:k.n=1) (hm:m<16) {lg:Nat} (hl:d.lg≤1000*c.length+200) (hz:Wrt d k c.reverse m 1 (hB cs m) k' lg):Hs2 cs (m+1) ⟨d.room,B4 d.files k.i.nm k'.f,lg⟩ (c++[k']):=by
 have hlg:=hz.lg;have hst:=hz.st;refine⟨h.h.turn hz.sm hz.ok,fun q hq=>?_,fun x hx=>?_,fun a x e=>?_,?_⟩
 ·rw[Z1,hz.sec q];have:=h.sec q hq;rw[Z1]at this;by_cases h1:m≤q∧q<m+1
  ·have:q=m:=by omega
   subst this;rw[if_pos h1,if_pos (by omega),Nat.sub_self,Nat.mul_zero,List.drop_zero,List.take_of_length_le (by simp[hB])]
  ·rw[if_neg h1,this];by_cases h2:q<m
   ·rw[if_pos h2,if_pos (by omega)]
   ·rw[if_neg h2,if_neg (by omega)]
 ·simp only[List.mem_append,List.mem_singleton]at hx;rcases hx with hx|hx
  ·exact h.n x (by simp[hx])
  ·rw[hx];omega
 ·have:=(List.append_inj' e rfl).2;cases this;omega
 ·simp;omega
section
open Go.Shelf
def A3Y:Go.Shelf.Ren:=⟨fun|7=>15|10=>31|n=>n,fun|23=>42|26=>9|3=>56|28=>54|0=>0|27=>53|33=>67|4=>4|n=>n,fun|n=>n⟩
theorem C5o:Go.Proofs.SlLaysZ.n7 Tryz.prog A3Y:={
 mixed:=by kernel_rfl
 f7:=⟨Tryz.f15.name,by decide,Tryz.func15.trans (congrArg some (by kernel_rfl))⟩
 f10:=⟨Tryz.f31.name,by decide,Tryz.func31.trans (congrArg some (by kernel_rfl))⟩
 t0:=Tryz.underlying0
 a0:=Tryz.isAgg0
 z0:=Tryz.sizeOf0
 v0:=Tryz.zeroValue0
 t4:=Tryz.underlying4
 a4:=Tryz.isAgg4
 z4:=Tryz.sizeOf4
 v4:=Tryz.zeroValue4
 t23:=Tryz.underlying42
 a23:=Tryz.isAgg42
 z23:=Tryz.sizeOf42
 v23:=Tryz.zeroValue42
 t26:=Tryz.underlying9
 a26:=Tryz.isAgg9
 z26:=Tryz.sizeOf9
 v26:=Tryz.zeroValue9
 t27:=Tryz.underlying53
 a27:=Tryz.isAgg53
 z27:=Tryz.sizeOf53
 v27:=Tryz.zeroValue53
 t28:=Tryz.underlying54
 a28:=Tryz.isAgg54
 z28:=Tryz.sizeOf54
 v28:=Tryz.zeroValue54
 t33:=Tryz.underlying67
 a33:=Tryz.isAgg67
 z33:=Tryz.sizeOf67
 v33:=Tryz.zeroValue67}
def A3Z:Go.Shelf.Ren:=⟨fun|7=>197|10=>244|n=>n,fun|23=>109|26=>9|3=>118|28=>54|0=>0|27=>53|33=>67|4=>4|n=>n,fun|n=>n⟩
theorem C5p:Go.Proofs.SlLaysZ.n7 Tryz.prog A3Z:={
 mixed:=by kernel_rfl
 f7:=⟨Tryz.f197.name,by decide,Tryz.func197.trans (congrArg some (by kernel_rfl))⟩
 f10:=⟨Tryz.f244.name,by decide,Tryz.func244.trans (congrArg some (by kernel_rfl))⟩
 t0:=Tryz.underlying0
 a0:=Tryz.isAgg0
 z0:=Tryz.sizeOf0
 v0:=Tryz.zeroValue0
 t4:=Tryz.underlying4
 a4:=Tryz.isAgg4
 z4:=Tryz.sizeOf4
 v4:=Tryz.zeroValue4
 t23:=Tryz.underlying109
 a23:=Tryz.isAgg109
 z23:=Tryz.sizeOf109
 v23:=Tryz.zeroValue109
 t26:=Tryz.underlying9
 a26:=Tryz.isAgg9
 z26:=Tryz.sizeOf9
 v26:=Tryz.zeroValue9
 t27:=Tryz.underlying53
 a27:=Tryz.isAgg53
 z27:=Tryz.sizeOf53
 v27:=Tryz.zeroValue53
 t28:=Tryz.underlying54
 a28:=Tryz.isAgg54
 z28:=Tryz.sizeOf54
 v28:=Tryz.zeroValue54
 t33:=Tryz.underlying67
 a33:=Tryz.isAgg67
 z33:=Tryz.sizeOf67
 v33:=Tryz.zeroValue67}
def A3a:Go.Shelf.Ren:=⟨fun|6=>14|8=>29|9=>30|11=>64|13=>66|12=>65|23=>146|24=>147|14=>137|15=>138|16=>139|17=>140|18=>141|19=>142|20=>143|21=>144|22=>145|25=>215|26=>216|27=>217|28=>218|29=>219|30=>220|31=>256|n=>n,fun|26=>9|28=>54|24=>28|0=>0|3=>3|37=>149|48=>133|50=>252|4=>4|40=>244|39=>243|45=>188|5=>5|9=>9|51=>329|55=>333|57=>384|58=>385|33=>67|n=>n,fun|n=>n⟩
theorem C5q:Go.Proofs.SlLaysZ.n6 Tryz.prog A3a:={
 mixed:=by kernel_rfl
 f6:=⟨Tryz.f14.name,by decide,Tryz.func14.trans (congrArg some (by kernel_rfl))⟩
 f8:=⟨Tryz.f29.name,by decide,Tryz.func29.trans (congrArg some (by kernel_rfl))⟩
 f11:=⟨Tryz.f64.name,by decide,Tryz.func64.trans (congrArg some (by kernel_rfl))⟩
 t0:=Tryz.underlying0
 a0:=Tryz.isAgg0
 z0:=Tryz.sizeOf0
 v0:=Tryz.zeroValue0
 t24:=Tryz.underlying28
 a24:=Tryz.isAgg28
 z24:=Tryz.sizeOf28
 v24:=Tryz.zeroValue28
 t26:=Tryz.underlying9
 a26:=Tryz.isAgg9
 z26:=Tryz.sizeOf9
 v26:=Tryz.zeroValue9
 t28:=Tryz.underlying54
 a28:=Tryz.isAgg54
 z28:=Tryz.sizeOf54
 v28:=Tryz.zeroValue54
 i26:=by kernel_rfl}
def B3j:Go.Shelf.Ren:=⟨fun|6=>30|8=>66|9=>65|19=>146|20=>147|21=>137|22=>138|23=>139|24=>140|25=>141|26=>142|27=>143|28=>144|29=>145|36=>215|31=>216|32=>217|37=>218|38=>219|39=>220|41=>256|n=>n,fun|27=>28|29=>9|3=>3|32=>149|26=>28|0=>0|44=>133|46=>252|4=>4|36=>244|35=>243|41=>188|5=>5|9=>9|53=>329|57=>333|63=>384|64=>385|n=>n,fun|n=>n⟩
theorem C2d:Go.Proofs.SlLaysM.n6 Tryz.prog B3j:={
 mixed:=by kernel_rfl
 f6:=⟨Tryz.f30.name,by decide,Tryz.func30.trans (congrArg some (by kernel_rfl))⟩
 f8:=Tryz.func66.trans (congrArg some (by kernel_rfl))
 f9:=⟨Tryz.f65.name,by decide,Tryz.func65.trans (congrArg some (by kernel_rfl))⟩
 f19:=Tryz.func146.trans (congrArg some (by kernel_rfl))
 f20:=Tryz.func147.trans (congrArg some (by kernel_rfl))
 f21:=⟨Tryz.f137.name,by decide,Tryz.func137.trans (congrArg some (by kernel_rfl))⟩
 f22:=⟨Tryz.f138.name,by decide,Tryz.func138.trans (congrArg some (by kernel_rfl))⟩
 f23:=⟨Tryz.f139.name,by decide,Tryz.func139.trans (congrArg some (by kernel_rfl))⟩
 f24:=⟨Tryz.f140.name,by decide,Tryz.func140.trans (congrArg some (by kernel_rfl))⟩
 f25:=⟨Tryz.f141.name,by decide,Tryz.func141.trans (congrArg some (by kernel_rfl))⟩
 f26:=⟨Tryz.f142.name,by decide,Tryz.func142.trans (congrArg some (by kernel_rfl))⟩
 f27:=⟨Tryz.f143.name,by decide,Tryz.func143.trans (congrArg some (by kernel_rfl))⟩
 f28:=⟨Tryz.f144.name,by decide,Tryz.func144.trans (congrArg some (by kernel_rfl))⟩
 f29:=⟨Tryz.f145.name,by decide,Tryz.func145.trans (congrArg some (by kernel_rfl))⟩
 f31:=Tryz.func216.trans (congrArg some (by kernel_rfl))
 f32:=Tryz.func217.trans (congrArg some (by kernel_rfl))
 f36:=⟨Tryz.f215.name,by decide,Tryz.func215.trans (congrArg some (by kernel_rfl))⟩
 f37:=⟨Tryz.f218.name,by decide,Tryz.func218.trans (congrArg some (by kernel_rfl))⟩
 f38:=⟨Tryz.f219.name,by decide,Tryz.func219.trans (congrArg some (by kernel_rfl))⟩
 f39:=⟨Tryz.f220.name,by decide,Tryz.func220.trans (congrArg some (by kernel_rfl))⟩
 f41:=⟨Tryz.f256.name,by decide,Tryz.func256.trans (congrArg some (by kernel_rfl))⟩
 t0:=Tryz.underlying0
 a0:=Tryz.isAgg0
 z0:=Tryz.sizeOf0
 v0:=Tryz.zeroValue0
 t3:=Tryz.underlying3
 a3:=Tryz.isAgg3
 z3:=Tryz.sizeOf3
 v3:=Tryz.zeroValue3
 t4:=Tryz.underlying4
 a4:=Tryz.isAgg4
 z4:=Tryz.sizeOf4
 v4:=Tryz.zeroValue4
 t5:=Tryz.underlying5
 a5:=Tryz.isAgg5
 z5:=Tryz.sizeOf5
 v5:=Tryz.zeroValue5
 t9:=Tryz.underlying9
 a9:=Tryz.isAgg9
 z9:=Tryz.sizeOf9
 v9:=Tryz.zeroValue9
 t26:=Tryz.underlying28
 a26:=Tryz.isAgg28
 z26:=Tryz.sizeOf28
 v26:=Tryz.zeroValue28
 t27:=Tryz.underlying28
 a27:=Tryz.isAgg28
 z27:=Tryz.sizeOf28
 v27:=Tryz.zeroValue28
 t29:=Tryz.underlying9
 a29:=Tryz.isAgg9
 z29:=Tryz.sizeOf9
 v29:=Tryz.zeroValue9
 t32:=Tryz.underlying149
 a32:=Tryz.isAgg149
 z32:=Tryz.sizeOf149
 v32:=Tryz.zeroValue149
 t35:=Tryz.underlying243
 a35:=Tryz.isAgg243
 z35:=Tryz.sizeOf243
 v35:=Tryz.zeroValue243
 t36:=Tryz.underlying244
 a36:=Tryz.isAgg244
 z36:=Tryz.sizeOf244
 v36:=Tryz.zeroValue244
 t41:=Tryz.underlying188
 a41:=Tryz.isAgg188
 z41:=Tryz.sizeOf188
 v41:=Tryz.zeroValue188
 t44:=Tryz.underlying133
 a44:=Tryz.isAgg133
 z44:=Tryz.sizeOf133
 v44:=Tryz.zeroValue133
 t46:=Tryz.underlying252
 a46:=Tryz.isAgg252
 z46:=Tryz.sizeOf252
 v46:=Tryz.zeroValue252
 t53:=Tryz.underlying329
 a53:=Tryz.isAgg329
 z53:=Tryz.sizeOf329
 v53:=Tryz.zeroValue329
 t57:=Tryz.underlying333
 a57:=Tryz.isAgg333
 z57:=Tryz.sizeOf333
 v57:=Tryz.zeroValue333
 t63:=Tryz.underlying384
 a63:=Tryz.isAgg384
 z63:=Tryz.sizeOf384
 v63:=Tryz.zeroValue384
 t64:=Tryz.underlying385
 a64:=Tryz.isAgg385
 z64:=Tryz.sizeOf385
 v64:=Tryz.zeroValue385}
theorem C4T (m:Nat):AnyZ.SortsIn Tryz.prog A3a Fence.wide m:=
 ⟨fun blk off cap ss W hH hblk hsz=>callsIn_wide.2 (AnyM.slices_Sort_string C2d blk off cap ss W hH hblk hsz),
  fun p cap W=>callsIn_wide.2 (AnyM.slices_Sort_string_none C2d p cap W)⟩
abbrev uL:=List (KK.str.T×VK.ptr.T)
theorem C1w {l:uL} (hl:l.length≤1) (hk:∀p∈l,p.1.length≤1000) {w:World} {b:Nat} {es:Array MapEntry} {clock:Nat} (hb:w.heap[b]? =some (.map es clock)) (hm:aG .str .ptr l es clock):
 ∃D0:DataW Unit,w.ownsMap Tryz.prog 9 (fun _=>some (.nil,[])) b 1 D0∧strKeys D0=l.map (fun p=>p.1)∧Go.Maps.size D0≤1:=by
 obtain⟨es⟩:=es
 match l,es,hm,hl,hk with
 |[],[],hm,_,_=>
  exact⟨.map [],⟨⟨[]⟩,clock,hb,⟨by decide,⟨fun x hx=>(by cases hx),List.nodup_nil,List.nodup_nil⟩,fun x hx=>(by cases hx)⟩,Nat.zero_le _,rfl⟩,rfl,Nat.zero_le _⟩
 |[],e::es,hm,_,_=>have:=hm.all;simp at this
 |[p],[],hm,_,_=>have:=hm.all;simp at this
 |[p],[e],hm,_,hk=>
  have h1:=hm.all;simp only[List.map_cons,List.map_nil,List.cons.injEq,Prod.mk.injEq,and_true]at h1;have h2:=hk p (by simp);have h3:keyOf Tryz.prog 9 e.key=some (.string p.1):=by
   rw[h1.1];exact Go.WideMaps.keyOf_string_mk Tryz.underlying9 (s:=⟨p.1.toArray⟩) (by show p.1.toArray.size≤maxLen;rw[List.size_toArray];exact Nat.le_trans h2 (by decide))
  have h4:Go.WideElems.rd (H:=Unit) Tryz.prog 9 (fun _=>some (.nil,[])) e=some (.string p.1,.nil):=by
   unfold Go.WideElems.rd;rw[h3];rfl
  have h5:Go.WideElems.rg (H:=Unit) Tryz.prog 9 (fun _=>some (.nil,[])) e=(.string p.1,.nil):=by unfold Go.WideElems.rg;rw[h4];rfl
  refine⟨.map [(.string p.1,.nil)],⟨⟨[e]⟩,clock,hb,⟨by show 1≤maxLen;decide,⟨fun x hx=>?_,by simp,by simp⟩,fun x hx=>?_⟩,Nat.le_refl _,?_⟩,rfl,Nat.le_refl _⟩
  ·rw[List.mem_singleton.1 hx];exact hm.lt 0 e rfl
  ·rw[List.mem_singleton.1 hx];exact⟨_,h4⟩
  ·show _=DataW.map (DataW.insert (Go.WideElems.rg Tryz.prog 9 _ e) []);rw[h5];rfl
 |[p],e::e2::es,hm,_,_=>have:=hm.all;simp at this
 |p::q::l,_,_,hl,_=>simp at hl
theorem C5r {g ty:Nat} (eg:∀args w,(callFunc g args).run Tryz.prog w= .ok (.enter g args) w)
 (hgive:∀(Bm b nn:Nat) (D0:DataW Unit) (w:World),Bm<w.heap.size→w.cell? ⟨Bm,0,none⟩=some (.map (some b))→w.ownsMap Tryz.prog 9 (fun _=>some (.nil,[])) b nn D0→SeqGives Fence.wide 2 Tryz.prog g #[.pointer (some ⟨Bm,0,none⟩)] encStr (fun ss=>ss.Perm (strKeys D0)) (Go.Maps.size D0) w)
 (bm bc:Nat) (l:uL) (hl:l.length≤1) (hk:∀p∈l,p.1.length≤1000):C5 (X:=Unit) Tryz.prog 14 [.c (.clo g [.ptr 1 bc 0])] [.mp bm .str .ptr l,.blk bc ty [.mpt 0 bm]] (fun _=>True) (fun _=>lst .str (l.map fun p=>p.1)) (fun _=>[.mp bm .str .ptr l]):=by
 refine⟨⟨_,Tryz.func14,rfl,by decide⟩,fun M w vs hS hra=>?_⟩;obtain⟨_,_,es,clock,hb,hm⟩:=hS.ok 0 _ rfl;obtain⟨_,_,us,q3,q4⟩:=hS.ok 1 _ rfl;obtain⟨D0,ho,hkeys,hsz⟩:=C1w hl hk hb hm;have hvs:vs= #[.func (.func g) #[] #[.pointer (some ⟨bc,0,none⟩)]]:=by
  obtain⟨h1,h2⟩:=hra;obtain⟨vs⟩:=vs
  match vs,h1,h2 with
  |[v],_,h2=>
   have:=h2 0 _ v rfl rfl;cases this with|c h=>
   cases h with
   | @clo _ _ us2 hs hh=>
    obtain⟨us2⟩:=us2
    match us2,hs,hh with
    |[u],_,hh=>
     have:=hh 0 _ u rfl rfl;cases this;rfl
 subst hvs;have hbc:bc<w.heap.size:=(Array.getElem?_eq_some_iff.1 q3).1;have hcell:w.cell? ⟨bc,0,none⟩=some (.map (some bm)):=by
  obtain⟨us⟩:=us
  match us,q4 with
  |[u],q4=>
   have:=q4.2 0 _ u rfl rfl;cases this;simp[World.cell?,q3]
 have cS:=AnyZ.sorted_in C5q Fence.wide 5 trivial trivial trivial trivial rfl (by omega) (C4T _) (enters_of Tryz.func30 (by kernel_rfl) rfl) g #[.pointer (some ⟨bc,0,none⟩)] trivial eg _ _ (Nat.le_trans hsz (by decide)) (by omega) _ (hgive bc bm 1 D0 w hbc hcell ho);refine((callsIn_wide (n:=5)).1 cS).mono ?_
 rintro e w' ⟨v,ss,rfl,hp,hrow,hnil,hbel⟩
 have hss:ss=l.map fun p=>p.1:=by
  rw[hkeys]at hp
  match l,hl,hp with
  |[],_,hp=>exact hp.eq_nil
  |[p],_,hp=>exact List.perm_singleton.1 hp
 have hsort:ss.mergeSort (fun x y=>decide (x≤y))=ss:=by
  rw[hss]
  match l,hl with
  |[],_=>simp
  |[p],_=>simp
 rw[hsort]at hrow
 let F:B8:=fun k=>if k<w.heap.size then none else w'.heap[k]?
 have hF:jM F w.heap.size w':=by
  intro k o hk;simp only[F]at hk;split at hk
  ·cases hk
  ·exact⟨by omega,hk⟩
 have hS':=hS.call hbel hF;refine⟨v,M.or F,(),rfl,B8.ext_or hS.mem hS.base hF,trivial,?_,hS'.below,hS'.base,hS'.mem,fun n x hx=>?_,fun n n' x x' b hnn h1 h2=>?_⟩
 ·rw[←hss];refine .c (.pv ?_);rcases hrow.2 with⟨rfl,hz⟩|⟨gb,cap,cur,rfl,hbase,hgb,r1,r2,r3,r4⟩
  ·have:ss=[]:=List.eq_nil_of_length_eq_zero hz;subst this;exact R.lst_nil _ _
  ·refine R.lst_mk rfl r1 r2 (fun _=>rfl) (fun h=>by cases h) (fun i x j y e1 e2=>?_) (b:=gb) (o:=0);have hj:j=0:=by
    have:=(gS_.1 e2).1;simp[LK.enc]at this;exact this
   subst hj;simp[LK.enc]at e2;subst e2;refine⟨encStr x,?_,.val rfl⟩;have hi:=(gS_.1 e1).1;have hMg:(M.or F) gb=some (.cells cur 9 (0,0)):=by
    have hMn:M gb=none:=B8.none_of_size hS.mem hbase;unfold B8.or;simp only[F,if_neg (Nat.not_lt.2 hbase),hgb];rfl
   unfold B8.cell;rw[hMg];simp only[LK.sz,Nat.mul_one,Nat.zero_add,Nat.add_zero];have h6:(cur.toList.take (ss.length*1))[i]? =some (encStr x):=by rw[r4,List.getElem?_map,e1];rfl
   rw[Nat.mul_one,List.getElem?_take,if_pos hi]at h6;rw[←Array.getElem?_toList];exact h6
 ·match n,hx with
  |0,hx=>exact hS'.ok 0 x hx
 ·match n,n',hnn,h1,h2 with
  |0,0,hnn,_,_=>exact absurd rfl hnn
def uM:E4:=⟨T,D6,A7,A9,4,[],none,.f⟩
theorem B3k:B3 Tryz.prog uM:=⟨C0,A2,A4⟩
theorem A7k:F3 Tryz.prog uM:=⟨tOk,B3k⟩
theorem C5s (bm:Nat) (l:uL):C5 Tryz.prog 15 [.c (.mpt 0 bm)] [.mp bm .str .ptr l] (fun _=>True) (fun bc:Nat=> .c (.clo 31 [.ptr 1 bc 0])) (fun bc=>[.mp bm .str .ptr l,.blk bc 42 [.mpt 0 bm]]):=by
 refine I4 (E:=uM) Tryz.func15 (fun M0 W hM0=>?_);refine A3 A7k [] (fun bs=>?_);exact B6 A7k _ trivial [0,1]
def uN:E4:=⟨T,D6,A7,A9,4,[],none,.f⟩
theorem B3l:B3 Tryz.prog uN:=⟨C0,A2,A4⟩
theorem A7l:F3 Tryz.prog uN:=⟨tOk,B3l⟩
theorem C5t (bm:Nat) (l:uL):C5 Tryz.prog 197 [.c (.mpt 0 bm)] [.mp bm .str .ptr l] (fun _=>True) (fun bc:Nat=> .c (.clo 244 [.ptr 1 bc 0])) (fun bc=>[.mp bm .str .ptr l,.blk bc 109 [.mpt 0 bm]]):=by
 refine I4 (E:=uN) Tryz.func197 (fun M0 W hM0=>?_);refine A3 A7l [] (fun bs=>?_);exact B6 A7l _ trivial [0,1]
theorem C5u (bm bc:Nat) (l:uL) (hl:l.length≤1) (hk:∀p∈l,p.1.length≤1000):C5 (X:=Unit) Tryz.prog 14 [.c (.clo 31 [.ptr 1 bc 0])] [.mp bm .str .ptr l,.blk bc 42 [.mpt 0 bm]] (fun _=>True) (fun _=>lst .str (l.map fun p=>p.1)) (fun _=>[.mp bm .str .ptr l]):=
 C5r (enters_of Tryz.func31 (by kernel_rfl) rfl) (fun Bm b nn D0 w h1 h2 h3=>AnyZ.keys_gives (ρ:=A3Y) {C5o with} Fence.wide 2 trivial rfl (by omega) Bm b nn D0 w h1 h2 h3) bm bc l hl hk
theorem C5v (bm bc:Nat) (l:uL) (hl:l.length≤1) (hk:∀p∈l,p.1.length≤1000):C5 (X:=Unit) Tryz.prog 14 [.c (.clo 244 [.ptr 1 bc 0])] [.mp bm .str .ptr l,.blk bc 109 [.mpt 0 bm]] (fun _=>True) (fun _=>lst .str (l.map fun p=>p.1)) (fun _=>[.mp bm .str .ptr l]):=
 C5r (enters_of Tryz.func244 (by kernel_rfl) rfl) (fun Bm b nn D0 w h1 h2 h3=>AnyZ.keys_gives (ρ:=A3Z) {C5p with} Fence.wide 2 trivial rfl (by omega) Bm b nn D0 w h1 h2 h3) bm bc l hl hk
end
def A2D:E4:=⟨T,D6,A7,A9,11,[],none,.f⟩
theorem B8j:B3 Tryz.prog A2D:=⟨C0,A2,A4⟩
theorem xF:F3 Tryz.prog A2D:=⟨tOk,B8j⟩
theorem C7J (b:Nat) (d:G4) (S:Nat→Prop) (hf:d.files=[]):C5 Tryz.prog 112 [.c (.ptr 0 b 0)] [C6 b d S] (fun _=>True) (fun _:Nat→Prop=>lst .str []) (fun S=>[C6 b d S]):=by
 refine I4 (E:=A2D) Tryz.func112 (fun M0 W hM0=>?_);have hp:Z6 d.files=[]:=by rw[hf];rfl
 refine N1 0 (fun x hx=>?_);refine A3 xF [false] (fun bs=>?_);refine A5 [1] (C5t x.bm (Z6 d.files)) (fun bc _=>?_);refine A3 xF [] (fun bs=>?_);refine A5 [1,4] (C5v x.bm bc (Z6 d.files) (by rw[hp];exact Nat.zero_le _) (fun p h=>by rw[hp]at h;cases h)) (fun _ _=>?_);rw[show((Z6 d.files).map fun p=>p.1)=[]from by rw[hp];rfl];refine A3 xF [] (fun bs=>?_);refine J7 0 (jG b d) [0,1,2,3] x hx (fun S'=>?_);exact B6 xF S' trivial [0]
def A2E:E4:=⟨T,D6,A7,A9,23,[],none,.f⟩
theorem B8k:B3 Tryz.prog A2E:=⟨C0,A2,A4⟩
theorem A5Z:F3 Tryz.prog A2E:=⟨tOk,B8k⟩
theorem C5w:C5 Tryz.prog 53 [lst .lnk []] [] (fun _=>True) (fun _:Unit=>lst .lnk []) (fun _=>[]):=by
 refine I4 (E:=A2E) Tryz.func53 (fun M0 W hM0=>?_);refine A3 A5Z [] (fun bs=>?_);refine V3 (fun _:Unit=>[(3,lst .lnk []),(7,int .i64 0),(8,int .i64 0)]) (fun _=>[]) (fun _=>True) (fun _=>0) [] () trivial (fun _ _=>?_);refine A3 A5Z [false] (fun bs=>?_);exact B6 A5Z () trivial []
def A2F:E4:=⟨T,D6,A7,A9,38,[],none,.f⟩
theorem B8l:B3 Tryz.prog A2F:=⟨C0,A2,A4⟩
theorem qZ:F3 Tryz.prog A2F:=⟨tOk,B8l⟩
theorem C7K (b:Nat) (d:G4) (S:Nat→Prop) (hf:d.files=[]):C5 Tryz.prog 52 [.c (.ptr 0 b 0)] [C6 b d S] (fun _=>True) (fun _:Nat→Prop=>lst .lnk []) (fun S=>[C6 b d S]):=by
 refine I4 (E:=A2F) Tryz.func52 (fun M0 W hM0=>?_);refine A3 qZ [] (fun bs=>?_);refine A5 [0] (C7J b d S hf) (fun S1 _=>?_);refine A3 qZ [] (fun bs=>?_);refine V3 (fun _:Unit=>[(3,lst .lnk []),(11,int .i64 0),(12,int .i64 0)]) (fun _=>[C6 b d S1]) (fun _=>True) (fun _=>0) [0] () trivial (fun _ _=>?_);refine A3 qZ [false] (fun bs=>?_);refine A5 [] C5w (fun _ _=>?_);refine A3 qZ [] (fun bs=>?_);exact B6 qZ S1 trivial [0]
def A2G:E4:=⟨T,D6,A7,A9,54,[],none,.f⟩
theorem B8m:B3 Tryz.prog A2G:=⟨C0,A2,A4⟩
theorem lU:F3 Tryz.prog A2G:=⟨tOk,B8m⟩
theorem C7L (b:Nat) (d:G4) (S:Nat→Prop) (hf:d.files=[]):C5 Tryz.prog 21 [.c (.ptr 0 b 0)] [C6 b d S] (fun _=>True) (fun y:(Nat×Nat×Int)×((Nat→Prop)×(Nat→Prop))=> .t [.c (.ptr 0 y.1.1 0),int .i64 0]) (fun y=>aF y.1.1 b y.1.2.1 d [] y.1.2.2 y.2.1 y.2.2):=by
 refine I4 (E:=A2G) Tryz.func21 (fun M0 W hM0=>?_);refine A3 lU [false] (fun bs=>?_);refine A5 [0] (A5Q b d S (by rw[hf];rfl)) (fun S1 _=>?_);refine A3 lU [false] (fun bs=>?_);refine A5 [0] (C7K b d S1 hf) (fun S2 _=>?_);refine A3 lU [] (fun bs=>?_);refine A5 [] C5w (fun _ _=>?_);refine A3 lU [] (fun bs=>?_);refine A3z 3 (Y5 b) ?_;refine V3 (fun q:Nat×Nat=>[(6,.c (.ptr 0 q.1 0)),(30,int .i64 0),(31,int .i64 0)]) (fun q=>aF q.1 b q.2 d [] 0 (fun _=>False) S2) (fun _=>True) (fun _=>0) [2,1,3,0] (?ba,?bm) trivial (fun q _=>?_);refine A3 lU [false] (fun bs=>?_);exact B6 lU ((q.1,q.2,0),(fun _=>False,S2)) trivial [0,1,2,3]
def A2H:E4:=⟨T,D6,A7,A9,4,[],none,.f⟩
theorem B8n:B3 Tryz.prog A2H:=⟨C0,A2,A4⟩
theorem B1F:F3 Tryz.prog A2H:=⟨tOk,B8n⟩
theorem C5x (e:Int):C5 Tryz.prog 20 [int .i64 e] [] (fun _=>True) (fun _:Unit=>int .i64 e) (fun _=>[]):=by
 refine I4 (E:=A2H) Tryz.func20 (fun M0 W hM0=>?_);refine A3 B1F [] (fun bs=>?_);exact B6 B1F () trivial []
def A2I:E4:=⟨T,D6,A7,A9,30,[],none,.f⟩
theorem B8o:B3 Tryz.prog A2I:=⟨C0,A2,A4⟩
theorem lV:F3 Tryz.prog A2I:=⟨tOk,B8o⟩
theorem C5y (n:Int) (h1:1≤n) (h2:n≤1048576):C5 Tryz.prog 9 [int .i64 n] [] (fun _=>True) (fun y:(Nat×Nat×Nat×Int)×((Nat→Prop)×(Nat→Prop))=> .t [.c (.ptr 3 y.1.2.1 0),.c (.ptr 0 y.1.1 0)]) (fun y=>aF y.1.1 y.1.2.1 y.1.2.2.1 ⟨n,[],0⟩ [] y.1.2.2.2 y.2.1 y.2.2):=by
 refine I4 (E:=A2I) Tryz.func9 (fun M0 W hM0=>?_);refine A3 lV [] (fun bs=>?_);refine A5 [] (C6Q n h1 h2) (fun p _=>?_);refine A3 lV [] (fun bs=>?_);refine A5 [] (C5x 0) (fun _ _=>?_);refine N0 lV (fun _=>some false) [false] (fun bs=>?_);refine A5 [0] (C7L p.1 ⟨n,[],0⟩ p.2 rfl) (fun y _=>?_);refine A3 lV [] (fun bs=>?_);refine A5 [] (C5x 0) (fun _ _=>?_);refine A3 lV [false] (fun bs=>?_);exact B6 lV ((y.1.1,p.1,y.1.2.1,y.1.2.2),y.2) trivial [0,1,2,3]
end
end Go.Proofs.YtgmeedgkjlfpeaaGreat
