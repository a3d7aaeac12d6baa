/-
  The program library and the walks of this claim, part 5 of 6.
-/
import Derived.Test.YtgmeedgkjlfpeaaGreatQ4
import Derived.Shelf.SlIter.Nil
import Derived.Shelf.SortM.Plain
import Derived.Shelf.SortM.SortNone
set_option linter.unusedSimpArgs false
set_option linter.unusedVariables false
set_option maxHeartbeats 4000000
namespace Go.Proofs.YtgmeedgkjlfpeaaGreat
open Go.Mt
noncomputable section
def C6s (bd:Nat) (i:X1) (y:ImX):List C:=[.pv (.val (.pointer (some ⟨bd,0,none⟩))),.pv (sv i.nm),.pv (i64 i.m.cl),.pv (i64 i.m.size),.pv (sv i.m.bk),.pv (.lst .tbl i.m.t),.pv (.lst .sht i.m.sh),.pv (.lst .bms i.m.mp),.pv (.lst (.ints .i64) i.m.ct),.pv (i64 i.kept.cl),.pv (i64 i.kept.size),.pv (sv i.kept.bk),.pv (.lst .tbl i.kept.t),.pv (.lst .sht i.kept.sh),.pv (.lst .bms i.kept.mp),.pv (.lst (.ints .i64) i.kept.ct),.own 1 y.v,.pv (i64 i.last.seq),.pv (i64 i.last.start),.pv (i64 i.last.count),.pv (.val (.int .u32 i.last.sum)),.pv (bv i.ch),.ptr 2 y.bk 0,.ptr 3 y.br 0,.pv (i64 y.n)]
def tK:D9:=⟨T,O6,A7,A9,95,[],none,.f⟩
theorem B3U:B1 Tryz.prog tK:=⟨J6,A2,A4⟩
theorem K6:F0 Tryz.prog tK:=⟨tOk,B3U⟩
theorem C5c (bd b:Nat) (i:X1) (T:Nat→Prop) (d:H8) (S:Nat→Prop) (f:P7) (hf:H9 d.files i.nm=some f) (v:Nat→Option Bs) (N:Nat) (h:P8 f i v N) (hN:N+1≤60) (hd:DOk d) (x:Bs) (hx:x.length=16*2 ^ i.m.cl.toNat):C5 Tryz.prog 265 [.c (.ptr 0 b 0),lst .byt x] [L5 bd b i T,D3 bd d S] (fun y:((Nat→Prop)×(Nat→Prop))×B0×P7×Nat=>C5b f i v N d x y.2.1 y.2.2.1 y.2.2.2) (fun y=> .t [A9Q y.2.1,int .i64 0]) (fun y=>[L5 bd b (A3K i y.2.1) y.1.1,D3 bd ⟨d.room,C1 d.files i.nm y.2.2.1,y.2.2.2⟩ y.1.2]):=by
 refine I6 (E:=tK) Tryz.func265 (fun M0 W hM0=>?_);have hc:=h.gm.ok.c;have hp:=P5 hc;have hl6:=h.l6;have hxb:x.length≤1024:=by
  rw[hx];have:((2 ^ i.m.cl.toNat:Nat):Int)≤64:=by push_cast;exact hp.2
  omega
 refine A3 K6 [] (fun bs=>?_);refine N0 0 (fun y hy=>?_);refine mC K6 10 [0,1,3,7,15,31,0,64,255,0,1023] [] (fun bs=>?_) (fun bs=>?_)
 ·and_intros<;> first|exact trivial|exact rfl|omega|(show i.m.cl≤64;omega)
 refine A3 K6 [] (fun bs=>?_);refine A5 [] (C5F x (by omega)) (fun p hp=>?_);refine A3 K6 [] (fun bs=>?_);refine A2g (fun q:Int×Int×Int×Bs×Nat×Nat=>[(0,.c (.ptr 0 b 0)),(1,lst .byt x),(4,.c (.ptr 5 q.2.2.2.2.1 0)),(6,.c (.ptr 6 q.2.2.2.2.2 0)),(7,lst .byt q.2.2.2.1)]) (fun q=>(O1 bd b i).f y++[D3 bd d S,.blk q.2.2.2.2.1 185 [.pv (i64 0),.pv (i64 0),.pv (i64 0),.pv (i64 0),.pv (.val (.int .u32 0))],.blk q.2.2.2.2.2 185 [.pv (i64 q.1),.pv (i64 0),.pv (i64 q.2.1),.pv (i64 q.2.2.1),.pv (.val (.int .u32 (H4 wd 0 x)))]]) (fun q=>Wh i.m.cl x q.1 q.2.1 q.2.2.1 q.2.2.2.1) rfl ?_ (fun q hq=>?_)
 ·refine C6 rfl rfl (fun hb=>?_) (fun hb=>?_)
  ·obtain⟨ha,hb⟩:=Bool.and_eq_true_iff.1 hb;have ha:0<(p.2.length:Int):=of_decide_eq_true ha;have hb:((p.2.length:Nat)+16-1:Int) / 16<1*2 ^ i.m.cl.toNat:=of_decide_eq_true hb;rw[Int.one_mul]at hb;have hp2:=hp.2;refine A3 K6 [] (fun bs=>?_);refine G1 17 [7,54] rfl ⟨rfl,rfl,trivial⟩ ?_;have e15:((p.2.length:Nat)+16-1:Int)=(p.2.length:Int)+15:=by omega
   have hw:Wh i.m.cl x 3 (((p.2.length:Nat)+16-1:Int) / 16) p.2.length (p.2++List.replicate (((p.2.length:Nat)+16-1:Int) / 16*16-(p.2.length:Nat):Int).toNat 0):=by
    rw[e15];rw[e15]at hb;exact Wh.packed hc hp.1 (by omega) hb (by omega)
   refine G3 [0,3,4,5,1,2,15] (_,_,_,_,?r2,?c2) hw ?wk2
   case wk2=>and_intros<;> (first|exact wk_|refine A6 ?_|skip)
  ·refine A3 K6 [] (fun bs=>?_);refine G3 [0,3,4,5,1,2,15] (2,2 ^ i.m.cl.toNat,0,x,?r1,?c1) (Wh.raw hc hx) ?wk1
   case wk1=>
    and_intros<;> (first|exact wk_|refine A6 ?_|skip)
    all_goals first|exact Int.one_mul _
 obtain⟨k,ct,z,wt,r,c⟩:=q;have hq:Wh i.m.cl x k ct z wt:=hq;refine A3 K6 [] (fun bs=>?_);refine A5 [0,1,2,3] (A2J b 139 24 (C6s bd i y) [.own y.v 82 .mta i.held,iJ y.bk i.k y.S1,B2s y.br y.pgs y.S2] y.n 1 rfl) (fun s _=>?_);refine J8 0 (O1 bd b i) [0,1,2,3] {y with n:=s} hy (fun T1=>?_);refine A3 K6 [] (fun bs=>?_);refine X3 [0,4,5,6] [(0,.c (.ptr 0 b 0)),(1,lst .byt x),(4,.c (.ptr 2 r 0)),(6,.c (.ptr 3 c 0)),(7,lst .byt wt)] [L5 bd b i T1,D3 bd d S,.blk r 185 [.pv (i64 0),.pv (i64 0),.pv (i64 0),.pv (i64 0),.pv (.val (.int .u32 0))],.blk c 185 [.pv (i64 k),.pv (i64 0),.pv (i64 ct),.pv (i64 z),.pv (.val (.int .u32 (H4 wd 0 x)))]] ?_
 refine vR 10 ?_;refine X4 0 ?_;refine C0 2 K6 ?_;refine nS (X:=((Nat→Prop)×(Nat→Prop))×Value×List Int) (fun y=>y.2.2.length=f.now.length∧∀k,k<f.now.length→I5 (F3 i.m.t) k≠0→y.2.2.getD k 0≠0) 6 [0,1,2,3] (fun y=>[(0,.c (.ptr 0 b 0)),(1,lst .byt x),(4,.c (.ptr 2 r 0)),(6,.c (.ptr 3 c 0)),(7,lst .byt wt),(61,.c (.own 4 y.2.1)),(63,int .i64 ct)]) (fun y=>[L5 bd b i y.1.1,D3 bd d y.1.2,.blk r 185 [.pv (i64 0),.pv (i64 0),.pv (i64 0),.pv (i64 0),.pv (.val (.int .u32 0))],.blk c 185 [.pv (i64 k),.pv (i64 0),.pv (i64 ct),.pv (i64 z),.pv (.val (.int .u32 (H4 wd 0 x)))],.own y.2.1 3 (.ints .i64) y.2.2]) ?_ (fun fin=>?_)
 rotate_left
 refine B2 [1,3] rfl (by simp) ⟨?_,A8 3 K6 (fun bs=>?_),trivial⟩
 ·refine E7 [0,1] id (C2f bd b i T1 d S f hf v N h) rfl rfl trivial rfl rfl rfl rfl (by decide) rfl rfl (fun x=>rfl) (fun y hy=>?_);refine F7 3 K6 (fun _=>?_);exact F5 [0,1,2,3,4] _ _ _ (fin y hy)
 ·refine E4 1 rfl ?_;refine E7 [0,1] id (C2f bd b i T1 d S f hf v N h) rfl rfl trivial rfl rfl rfl rfl (by decide) rfl rfl (fun x=>rfl) (fun y hy=>?_);exact F5 [0,1,2,3,4] _ _ _ (fin y hy)
 intro u hu;obtain⟨⟨T2,S2⟩,uv,ul⟩:=u;have hul:ul.length=f.now.length:=hu.1;have hu2:∀k,k<f.now.length→I5 (F3 i.m.t) k≠0→ul.getD k 0≠0:=hu.2;have hfr:=A0O (u:=ul) (n:=ct.toNat) (fr:=2) (by have:=hq.c1;omega);obtain⟨C,hC⟩:=Int.eq_ofNat_of_zero_le (show 0≤ct by have:=hq.c1;omega);subst hC;rw[Int.toNat_natCast]at hfr;have hc1:=hq.c1;have hc2:=hq.c2;refine M9 4 [61] rfl ⟨rfl,trivial⟩ ?_;refine E4 4 rfl ?_;refine E7 [] id (C2b ul C 2 65536 (by omega) (by omega) (by omega) (by omega) (by omega)) rfl rfl trivial rfl rfl rfl rfl (by decide) rfl rfl (fun x=>rfl) (fun _ _=>?_);refine X4 5 ?_;refine gG 6 ?_
 refine gG 7 ?_;refine F7 8 K6 (fun _=>?_);refine F7 9 K6 (fun _=>?_);refine iV ?_;refine A3 K6 [false] (fun bs=>?_);obtain⟨a,ha⟩:∃a,a=eW ul C 2:=⟨_,rfl⟩
 rw[←ha]at hfr;obtain⟨g1,g2,g3,_⟩:=hfr;have hmx:max 2 ul.length=max 2 f.now.length:=by rw[hul]
 rw[hmx]at g2;have hrm:=hd.room;have hlaid:=C1a h hN hx hq g1 g2 (fun q h1 h2 h3=>by
  rw[Int.toNat_natCast]at h2;apply Decidable.byContradiction;intro hne;exact hu2 q h3 hne (g3 q h1 h2)) d (lg:=d.lg+C) (by omega)
 rw[Int.toNat_natCast]at hlaid;have hwl:=hq.len;rw[Int.toNat_natCast]at hwl;refine X3 [0,1,2,3] [(0,.c (.ptr 0 b 0)),(1,lst .byt x),(4,.c (.ptr 2 r 0)),(6,.c (.ptr 3 c 0)),(7,lst .byt wt),(9,int .i64 a)] [L5 bd b i T2,D3 bd d S2,.blk r 185 [.pv (i64 0),.pv (i64 0),.pv (i64 0),.pv (i64 0),.pv (.val (.int .u32 0))],.blk c 185 [.pv (i64 k),.pv (i64 a),.pv (i64 (C:Nat)),.pv (i64 z),.pv (.val (.int .u32 (H4 wd 0 x)))]] ?_ (h:=?wk6)
 case wk6=>
  rw[ha]
  and_intros<;> (first|exact wk_|refine A6 ?_|skip)
 refine N0 0 (fun y hy=>?_);have hfl:=hd.fl;refine R3 K6 10 [0,1,3,7,0,16,48,112,0,0,1023,2047] [] (fun bs=>?_);refine A5 [1] (A8P bd d S2 i.nm f hf a C wt hwl (by omega) (by omega) (fun p hp=>by have:=hfl p hp;omega) hd.fc (by omega) (by omega) hd.rm (by have:=hd.lg;omega)) (fun S3 _=>?_);refine A3 K6 [false] (fun bs=>?_);refine R3 K6 6 [0,1,3,7,0,0,63] [] (fun bs=>?_);refine A5 [5] (C6l y.bk i.k y.S1 x ⟨k,a,(C:Nat),z,H4 wd 0 x⟩ (by omega) (by have:=h.kn;omega)) (fun S4 _=>?_);refine A3 K6 [] (fun bs=>?_);refine J8 0 (O1 bd b (A3K i ⟨k,a,(C:Nat),z,H4 wd 0 x⟩)) [0,4,5,6] {y with S1:=S4} ⟨hy.1,fun p hp=>List.mem_cons_of_mem _ (hy.2 p hp)⟩ (fun T5=>?_)
 exact B3 K6 ((T5,S3),⟨k,a,(C:Nat),z,H4 wd 0 x⟩,⟨f.b,fK f.now a wt C⟩,d.lg+C) hlaid [0,1]
theorem P8.mono {f:P7} {i:X1} {v:Nat→Option Bs} {N:Nat} (h:P8 f i v N) (hN:N+1≤60):P8 f i v (N+1):=
 ⟨h.gm,h.gk,h.gh,h.hl,h.sec,by have:=h.len;omega,hN,h.head,⟨h.seq.1,by have:=h.seq.2;omega⟩,h.ls,h.vw,h.kr,h.hr,h.gs,by have:=h.gl;omega,by have:=h.kn;omega⟩
theorem P8.set {f:P7} {i:X1} {v:Nat→Option Bs} {N:Nat} (h:P8 f i v N) {k:Nat} (hk:k<eG i.m) {e:B0} {o:Option Bs} (he:W9 i.m.cl e=true) (hu:L1 .u32 e.sum) (hc:kN f.now i.m.cl e o) (hg:Z7 e=true→e.start∈i.gs):
 P8 f (C1M i k e) (fun q=>if q=k then o else v q) N:=by
 have hn:=h.gm.n;have hat:=A8i h.gm.r4 he (i:=k) (by omega);refine⟨h.gm.set hk he hu,h.gk,h.gh,h.hl,h.sec,h.len,h.nb,h.head,h.seq,h.ls,fun q hq=>?_,h.kr,h.hr,fun j hj=>?_,h.gl,h.kn⟩
 ·show kN f.now i.m.cl (L2 (bT i.m.t k e) q) (if q=k then o else v q);rw[hat];by_cases hqk:q=k
  ·rw[if_pos hqk,if_pos hqk];exact hc
  ·rw[if_neg hqk,if_neg hqk];exact h.vw q hq
 ·have hj:Z7 (L2 (bT i.m.t k e) j)=true:=hj;show(L2 (bT i.m.t k e) j).start∈i.gs;rw[hat]at hj⊢;by_cases hjk:j=k
  ·rw[if_pos hjk]at hj⊢;exact hg hj
  ·rw[if_neg hjk]at hj⊢;exact h.gs j hj
def B0s (i:X1) (k:Nat) (gs:List Int):X1:=⟨i.nm,i.m,i.kept,i.held,i.last,i.ch,k,gs⟩
structure Ens (f:P7) (i:X1) (v:Nat→Option Bs) (N:Nat) (d:H8) (x:Bs) (e:B0) (k:Nat) (gs:List Int) (f':P7) (lg:Nat):Prop where
 may:W9 i.m.cl e=true
 u:L1 .u32 e.sum
 cell:kN f'.now i.m.cl e (some x)
 gi:Z7 e=true→e.start∈gs
 ok:P8 f' (B0s i k gs) v (N+1)
 b:f'.b=f.b
 lg:lg≤d.lg+64
theorem A1D {d:H8} {nm:Bs} {f:P7} (hf:H9 d.files nm=some f):(⟨d.room,C1 d.files nm f,d.lg⟩:H8)=d:=by rw[rL hf]
theorem A9d {x:Bs} {cl:Int} (hx:x.length=16*2 ^ cl.toNat) (h:∀c∈x,c=0):x=iK cl:=by
 have h1:x=List.replicate x.length 0:=List.eq_replicate_iff.2 ⟨rfl,h⟩;have h2:=dS cl;rw[h1,hx,←h2];unfold iK;rw[List.length_replicate]
def nY:D9:=⟨T,O6,A7,A9,52,[],none,.f⟩
theorem A9e:B1 Tryz.prog nY:=⟨J6,A2,A4⟩
theorem I3:F0 Tryz.prog nY:=⟨tOk,A9e⟩
theorem C4Q (bd b:Nat) (i:X1) (T:Nat→Prop) (d:H8) (S:Nat→Prop) (f:P7) (hf:H9 d.files i.nm=some f) (v:Nat→Option Bs) (N:Nat) (h:P8 f i v N) (hN:N+1≤60) (hd:DOk d) (x:Bs) (hx:x.length=16*2 ^ i.m.cl.toNat):C5 Tryz.prog 229 [.c (.ptr 0 b 0),lst .byt x] [L5 bd b i T,D3 bd d S] (fun y:((Nat→Prop)×(Nat→Prop))×B0×Nat×List Int×P7×Nat=>Ens f i v N d x y.2.1 y.2.2.1 y.2.2.2.1 y.2.2.2.2.1 y.2.2.2.2.2) (fun y=> .t [A9Q y.2.1,int .i64 0]) (fun y=>[L5 bd b (B0s i y.2.2.1 y.2.2.2.1) y.1.1,D3 bd ⟨d.room,C1 d.files i.nm y.2.2.2.2.1,y.2.2.2.2.2⟩ y.1.2]):=by
 refine I6 (E:=nY) Tryz.func229 (fun M0 W hM0=>?_);have hc:=h.gm.ok.c;have hp:=P5 hc;have hl6:=h.l6;have hxb:x.length≤1024:=by
  rw[hx];have:((2 ^ i.m.cl.toNat:Nat):Int)≤64:=by push_cast;exact hp.2
  omega
 have hsame:=A1D hf;refine A3 I3 [] (fun bs=>?_);refine A5 [] (C6r x (by omega)) (fun r hr=>?_);refine A3 I3 [] (fun bs=>?_);refine C6 rfl rfl (fun hb=>?_) (fun hb=>?_)
 ·refine A3 I3 [] (fun bs=>?_);have hz:x=iK i.m.cl:=by
   rcases hr with⟨h1,h2⟩|⟨h1,_⟩
   ·exact A9d hx h2
   ·subst h1;cases hb
  have hmay:W9 i.m.cl ⟨1,0,0,0,0⟩=true:=by
   show U6 1 0 0 0 0 i.m.cl=true;unfold U6;rw[if_neg (by omega),if_pos (by omega)];rfl
  have hE:Ens f i v N d x ⟨1,0,0,0,0⟩ i.k i.gs f d.lg:=⟨hmay,⟨by decide,by decide⟩,.inl ⟨rfl,hz⟩,fun hs=>absurd hs (by decide),h.mono hN,rfl,by omega⟩
  refine B3 I3 ((T,S),⟨1,0,0,0,0⟩,i.k,i.gs,f,d.lg) hE [0,1] (hl:=?hl)
  case hl=>exact⟨rfl,(show jB (D3 bd d S) (D3 bd ⟨d.room,C1 d.files i.nm f,d.lg⟩ S)from by rw[hsame];exact rfl),trivial⟩
 refine A3 I3 [] (fun bs=>?_);refine A5 [0] (C5Z bd b i T h.gm) (fun u _=>?_);refine N0 0 (fun y hy=>?_);refine A3 I3 [] (fun bs=>?_);refine A5 [5] (C5Q y.bk i.k y.S1 x (by omega) (by have:=h.kn;omega)) (fun z hz=>?_);refine J8 0 (O1 bd b i) [0,4,5,6] {y with S1:=z.1} hy (fun T1=>?_);obtain⟨Z,zv,L⟩:=z;have hz:L.length≤i.k:=hz;have hkn:=h.kn;refine A3 I3 [] (fun bs=>?_);refine K3 (fun q:((Nat→Prop)×(Nat→Prop))×Nat×Nat=>[(0,.c (.ptr 0 b 0)),(1,lst .byt x),(4,.c (.ptr 2 q.2.2 0)),(6,.c (.mpt 3 u.2)),(22,.c (.own 4 zv)),(23,int .i64 L.length),(24,int .i64 q.2.1)]) (fun q=>[L5 bd b i q.1.1,D3 bd d q.1.2,.blk q.2.2 185 [.pv (i64 0),.pv (i64 0),.pv (i64 0),.pv (i64 0),.pv (.val (.int .u32 0))],.mp u.2 .ent .int (cmp (F3 i.m.t)),.own zv 185 .ent L]) (fun q=>q.2.1≤L.length) (fun q=>L.length-q.2.1) [0,1,2,3,7] ((T1,S),0,?rr) (Nat.zero_le _) ?wk1 (fun q hq=>?_)
 case wk1=>and_intros<;> (first|exact wk_|refine A6 ?_|skip)
 obtain⟨⟨T2,S2⟩,q,r2⟩:=q;simp only at hq;refine A3 I3 [] (fun bs=>?_);refine I4 rfl rfl (fun hk=>?_) (fun hk=>?_)
 ·have hk:(q:Int)<(L.length:Nat):=hk;have hq2:q<L.length:=by omega
  refine A3 I3 [] (fun bs=>?_);refine C6 (b:=decide (T0 (cmp (F3 i.m.t)) (L.getD q LK.ent.dft)=0)) rfl rfl (fun hz0=>?_) (fun hz0=>?_)
  ·refine A3 I3 [] (fun bs=>?_);exact I0 [0,1,2,3,4] ((T2,S2),q+1,r2) ⟨hq2,by simp only;omega⟩
  ·have hne:T0 (cmp (F3 i.m.t)) (L.getD q LK.ent.dft)≠0:=of_decide_eq_false hz0;obtain⟨l,hl,hle⟩:=(C1X (F3 i.m.t) _).2.1 hne;obtain⟨j,hj1,hj2⟩:=A4p hl;rw[hj1]at hle;have hgood:=bC (gC h.gm.rt j) hj2;have hjn:=kM h.gm.rt hgood.2.2;have hcell:=h.vw j (by omega);have hgj:=h.gs j hj2;have hmayj:=gC h.gm.rt j;have huj:=h.gm.u j;rw[hle]at hcell hgj hj2 hmayj huj;obtain⟨yb,hyb⟩:∃yb,v j=some yb:=by
    cases hv:v j with
    |none=>
     rw[hv]at hcell;have hcell:(L.getD q LK.ent.dft).kind=0:=hcell;have:(L.getD q LK.ent.dft).kind=2∨(L.getD q LK.ent.dft).kind=3:=by simpa[Z7]using hj2
     omega
    |some yb=>exact⟨yb,rfl⟩
   rw[hyb]at hcell;have hyl:yb.length≤1024:=by
    have h64:((2 ^ i.m.cl.toNat:Nat):Int)≤64:=by push_cast;exact hp.2
    rcases hcell with⟨_,h2⟩|h2
    ·rw[h2,dS];omega
    ·rw[h2.xl];omega
   refine A3 I3 [] (fun bs=>?_);refine A5 [0,1] (C5X bd b i T2 d S2 f hf (by omega) h.sec (L.getD q LK.ent.dft) (some yb) hcell hc (fun _=>hgj) (by have:=h.gl;have:=h.nb;omega)) (fun w _=>?_);refine L7 I3 (fun _=>some true) [] (fun bs=>?_);refine A5 [] (bEq (bOf i.m.cl (some yb)) x (by show yb.length≤1000000;omega) (by omega)) (fun re hre=>?_) (hg:=by exact⟨_,rfl,rfl⟩);refine L7 I3 (fun _=>some true) [] (fun bs=>?_);refine C6 rfl rfl (fun hb2=>?_) (fun hb2=>?_)
   ·have hyx:yb=x:=hre.1 hb2;rw[hyx]at hcell;refine A3 I3 [] (fun bs=>?_);refine B3 I3 (w,L.getD q LK.ent.dft,i.k,i.gs,f,d.lg) ⟨hmayj,huj,hcell,fun _=>hgj,h.mono hN,rfl,by dsimp only;omega⟩ [0,1] (hl:=?hl2)
    case hl2=>exact⟨rfl,(show jB (D3 bd d w.2) (D3 bd ⟨d.room,C1 d.files i.nm f,d.lg⟩ w.2)from by rw[hsame];exact rfl),trivial⟩
   ·refine A3 I3 [] (fun bs=>?_);exact I0 [0,1,2,3,4] (w,q+1,r2) ⟨hq2,by simp only;omega⟩
 ·refine A3 I3 [] (fun bs=>?_);refine A5 [0,1] (C5c bd b i T2 d S2 f hf v N h hN hd x hx) (fun w hw=>?_);refine A3 I3 [] (fun bs=>?_);exact B3 I3 (w.1,w.2.1,i.k+1,w.2.1.start::i.gs,w.2.2.1,w.2.2.2) ⟨hw.ent.may,hw.ent.u,.inr hw.ent,fun _=>List.mem_cons_self,hw.ok,hw.b,hw.lg⟩ [0,1]
structure Sm (i j:X1):Prop where
 nm:j.nm=i.nm
 cl:j.m.cl=i.m.cl
 sz:j.m.size=i.m.size
 bk:j.m.bk=i.m.bk
 hd:j.held=i.held
theorem Sm.trans {i j k:X1} (h:Sm i j) (g:Sm j k):Sm i k:=⟨g.nm.trans h.nm,g.cl.trans h.cl,g.sz.trans h.sz,g.bk.trans h.bk,g.hd.trans h.hd⟩
def A4v (v:Nat→Option Bs) (k:Nat) (o:Option Bs):Nat→Option Bs:=fun q=>if q=k then o else v q
structure Put (f:P7) (i:X1) (v:Nat→Option Bs) (N:Nat) (d:H8) (x:Bs) (k:Nat) (j:X1) (f':P7) (lg:Nat):Prop where
 ok:P8 f' j (A4v v k (some x)) (N+1)
 sm:Sm i j
 ch:j.ch=true
 b:f'.b=f.b
 lg:lg≤d.lg+64
def tL:D9:=⟨T,O6,A7,A9,60,[],none,.f⟩
theorem B3V:B1 Tryz.prog tL:=⟨J6,A2,A4⟩
theorem gI:F0 Tryz.prog tL:=⟨tOk,B3V⟩
theorem C5d (bd b:Nat) (i:X1) (T:Nat→Prop) (d:H8) (S:Nat→Prop) (f:P7) (hf:H9 d.files i.nm=some f) (v:Nat→Option Bs) (N:Nat) (h:P8 f i v N) (hN:N+1≤60) (hd:DOk d) (k:Nat) (hk:k<eG i.m) (x:Bs) (hx:x.length=16*2 ^ i.m.cl.toNat):C5 Tryz.prog 166 [.c (.ptr 0 b 0),str [],int .i64 k,lst .byt x] [L5 bd b i T,D3 bd d S] (fun y:((Nat→Prop)×(Nat→Prop))×X1×P7×Nat=>Put f i v N d x k y.2.1 y.2.2.1 y.2.2.2) (fun y=>int .i64 0) (fun y=>[L5 bd b y.2.1 y.1.1,D3 bd ⟨d.room,C1 d.files i.nm y.2.2.1,y.2.2.2⟩ y.1.2]):=by
 refine I6 (E:=tL) Tryz.func166 (fun M0 W hM0=>?_);have hl6:=h.l6;have hok:=h.gm.ok;have hc:=hok.c;have hp:=P5 hc;have hn:=h.gm.n.1;have h16:=h.gm.n.2.1;have hxl:(x.length:Int)=16*2 ^ i.m.cl.toNat:=by rw[hx];push_cast;rfl
 refine A3 gI [] (fun bs=>?_);refine A5 [0,1] (iUp bd b d S i T f hf (by omega)) (fun u _=>?_);refine A3 gI [false] (fun bs=>?_);refine A5 [0] (C4H bd b i u.1 hok.c hok.s) (fun w _=>?_);refine N0 0 (fun y hy=>?_);refine J3 gI (fun _=>none) [false,false,false,false] (fun bs=>?_) (fun bs=>?_)
 ·and_intros<;> first|exact trivial|omega|exact rfl|(show i.m.cl≤64;omega)|exact decide_eq_false (by omega)|(simp;omega)
 refine J8 0 (O1 bd b i) [0,2,3,4] y hy (fun T1=>?_);refine A5 [0,1] (C4Q bd b i T1 d u.2 f hf v N h hN hd x hx) (fun z hz=>?_);refine A3 gI [false] (fun bs=>?_);obtain⟨q,e,k',gs',f',lg⟩:=z;have hz:Ens f i v N d x e k' gs' f' lg:=hz;refine A5 [0] (C6o bd b (B0s i k' gs') q.1 k e h.gm.plain) (fun T2 _=>?_);refine A3 gI [] (fun bs=>?_);exact B3 gI ((T2,q.2),C1M (B0s i k' gs') k e,f',lg) ⟨hz.ok.set hk hz.may hz.u hz.cell hz.gi,⟨rfl,rfl,rfl,rfl,rfl⟩,rfl,hz.b,hz.lg⟩ [0,1]
def A1E:D9:=⟨T,O6,A7,A9,18,[],none,.f⟩
theorem B7k:B1 Tryz.prog A1E:=⟨J6,A2,A4⟩
theorem wS:F0 Tryz.prog A1E:=⟨tOk,B7k⟩
theorem C4R (bd b:Nat) (i:X1) (T:Nat→Prop) (d:H8) (S:Nat→Prop) (f:P7) (hf:H9 d.files i.nm=some f) (v:Nat→Option Bs) (N:Nat) (h:P8 f i v N) (hN:N+1≤60) (hd:DOk d) (k:Nat) (hk:k<eG i.m) (x:Bs) (hx:x.length=16*2 ^ i.m.cl.toNat):C5 Tryz.prog 89 [.c (.ptr 0 b 0),int .i64 k,lst .byt x] [L5 bd b i T,D3 bd d S] (fun y:((Nat→Prop)×(Nat→Prop))×X1×P7×Nat=>Put f i v N d x k y.2.1 y.2.2.1 y.2.2.2) (fun y=>int .i64 0) (fun y=>[L5 bd b y.2.1 y.1.1,D3 bd ⟨d.room,C1 d.files i.nm y.2.2.1,y.2.2.2⟩ y.1.2]):=by
 refine I6 (E:=A1E) Tryz.func89 (fun M0 W hM0=>?_);have h16:=h.gm.n.2.1;refine A3 wS [] (fun bs=>?_);refine A5 [0,1] (C5d bd b i T d S f hf v N h hN hd k hk x hx) (fun y hy=>?_);refine A3 wS [true] (fun bs=>?_);refine A5 [0] (C4I bd b y.2.1 y.1.1 k hy.ok.gm.plain (by omega)) (fun T2 _=>?_);refine A3 wS [] (fun bs=>?_);exact B3 wS ((T2,y.1.2),y.2) hy [0,1]
section
abbrev HlX:=(Nat→Prop)×Nat×(Nat→Prop)×Nat×Nat×Nat
def iX (m:X7):List C:=[.pv (i64 m.cl),.pv (i64 m.size),.pv (sv m.bk),.pv (.lst .tbl m.t),.pv (.lst .sht []),.pv (.lst .bms []),.pv (.lst (.ints .i64) [])]
def C5e:List C:=[.pv (i64 0),.pv (i64 0),.pv (sv []),.pv (.nil .tbl),.pv (.nil .sht),.pv (.nil .bms),.pv (.nil (.ints .i64))]
def dV:D9:=⟨T,O6,A7,A9,39,[],none,.f⟩
theorem A0:F0 Tryz.prog dV:=⟨tOk,⟨J6,A2,A4⟩⟩
abbrev xa (c:Nat):Nat×A:=(1,.c (.ptr 4 c 0))
abbrev xb (i:X1):Nat×A:=(12,A2N i.m)
abbrev xc (b:Nat):Nat×A:=(16,.c (.ptr 0 b 21))
abbrev xd (b:Nat):Nat×A:=(20,.c (.ptr 0 b 22))
abbrev xe (x:ImX):Nat×A:=(21,.c (.ptr 2 x.bk 0))
abbrev xf (i:X1):Nat×A:=(13,.g (iX i.m))
abbrev xg (i:X1):Nat×A:=(17,bool i.ch)
abbrev xh (n:Nat) (q:HlX):Nat×A:=(3,.c (.ptr n q.2.2.2.1 0))
abbrev xi (n:Nat) (q:HlX):Nat×A:=(4,.c (.ptr n q.2.2.2.2.1 0))
abbrev xj (n:Nat) (q:HlX):Nat×A:=(5,.c (.ptr n q.2.2.2.2.2 0))
abbrev xk (n:Nat) (q:HlX):Nat×A:=(22,.c (.ptr n q.2.1 0))
abbrev ya (c b:Nat):HB:= .blk c 56 [.ptr 0 b 0]
abbrev yb (q:HlX):HB:= .blk q.2.2.2.2.2 136 [.pv (.val (.pointer none))]
abbrev yc (q:HlX) (i:X1):HB:=iJ q.2.1 i.k q.2.2.1
abbrev yd (q:HlX):HB:= .blk q.2.2.2.1 82 C5e
abbrev ye (q:HlX):HB:= .blk q.2.2.2.2.1 4 [.pv (bv false)]
abbrev yf (bd b:Nat) (i:X1) (x:ImX) (q:HlX):List HB:=(O1 bd b i).f {x with S1:=q.1}
abbrev za (q:HlX) (n:Nat):HlX:=(q.1,q.2.1,q.2.2.1,n,q.2.2.2.2)
abbrev zb (q:HlX) (n:Nat):HlX:=(q.1,q.2.1,q.2.2.1,q.2.2.2.1,n,q.2.2.2.2.2)
abbrev zc (q:HlX) (n:Nat):HlX:=(q.1,q.2.1,q.2.2.1,q.2.2.2.1,q.2.2.2.2.1,n)
variable {B : Nat → Prop} {W : World} {M0 : B5} {Q : Exit → Act → World → Prop} {k : List X8} {ops : List Oper} {r : Nat} {l : List Nat} {st : St}
theorem hj (bd b:Nat) (i:X1) (x:ImX) (r':Nat) (l':List Nat) (fs:HlX→List (Nat×A)) (hs:HlX→List HB) (hf:∀q,GA Tryz.prog dV B W M0 Q k ops r' l' (mk (fs q) (yf bd b i x q++hs q))) (hk:(∀q,GA Tryz.prog dV B W M0 Q k ops r' l' (mk (fs q) (yf bd b i x q++hs q)))→GA Tryz.prog dV B W M0 Q k ops r l st):GA Tryz.prog dV B W M0 Q k ops r l st:=hk hf
abbrev r5:List Nat:=[0,1,2,3,4]
abbrev r6:List Nat:=[0,1,2,3,4,5]
abbrev r7:List Nat:=[0,1,2,3,4,5,6]
abbrev r8:List Nat:=[0,1,2,3,4,5,6,7]
abbrev r9:List Nat:=[0,1,2,3,4,5,6,7,8]
abbrev r10:List Nat:=[0,1,2,3,4,5,6,7,8,9]
abbrev r11:List Nat:=[0,1,2,3,4,5,6,7,8,9,10]
abbrev r12:List Nat:=[0,1,2,3,4,5,6,7,8,9,10,11]
abbrev r13:List Nat:=[0,1,2,3,4,5,6,7,8,9,10,11,12]
abbrev r14:List Nat:=[0,1,2,3,4,5,6,7,8,9,10,11,12,13]
abbrev r15:List Nat:=[0,1,2,3,4,5,6,7,8,9,10,11,12,13,14]
abbrev r16:List Nat:=[0,1,2,3,4,5,6,7,8,9,10,11,12,13,14,15]
abbrev r17:List Nat:=[0,1,2,3,4,5,6,7,8,9,10,11,12,13,14,15,16]
abbrev r18:List Nat:=[0,1,2,3,4,5,6,7,8,9,10,11,12,13,14,15,16,17]
abbrev r19:List Nat:=[0,1,2,3,4,5,6,7,8,9,10,11,12,13,14,15,16,17,18]
theorem C5f {bd b c:Nat} {i:X1} {x:ImX} (hsh:i.m.sh=[]) (hmp:i.m.mp=[]) (htl:i.m.t.length≤512) (htf:∀j,(leaf i.m.t j).length≤1000000000) (hk:i.k≤1000) {B:Nat→Prop} {W:World} {M0:B5} {Q:Exit→Act→World→Prop} {k:List X8}
 (s122:∀q:HlX,True→GA Tryz.prog dV B W M0 Q k (H6 (lft (jQ (jQ (N8 Tryz.f99))))) 1 r19 (mk [xa c,xb i,xc b,xg i,xd b,xe x,xf i,xk 5 q,xh 6 q,xi 7 q,xj 8 q] (yf bd b i x q++[ya c b,yc q i,.blk q.2.2.2.1 82 (iX i.m),.blk q.2.2.2.2.1 4 [.pv (bv i.ch)],yb q]))) (q:HlX):
 GA Tryz.prog dV B W M0 Q k (H6 (lft (jQ (jQ (N8 Tryz.f99))))) 16 [0,1,2,3] (mk [xa c,xb i] (yf bd b i x q++[ya c b])):=by
 have s122:=fun q=>s122 q trivial
 refine hj bd b i x 2 r18 (fun q=>[xa c,xb i,xc b,xg i,xd b,xe x,xf i,xk 5 q,xh 6 q,xi 7 q,xj 8 q]) (fun q=>[ya c b,yc q i,.blk q.2.2.2.1 82 (iX i.m),ye q,yb q]) (fun q=>?_) (fun s121=>?_)
 ·refine E4 18 rfl (A8 18 A0 (fun bs=>?_));exact A1 r9 _ _ _ (s122 q)
 refine hj bd b i x 3 [0,1,2,3,4,5,6,7,9,10,11,12,13,14,15,16,17] (fun q=>[xa c,xb i,xc b,xd b,xe x,xf i,xk 5 q,xh 6 q,xi 7 q,xj 8 q]) (fun q=>[ya c b,yc q i,.blk q.2.2.2.1 82 (iX i.m),ye q,yb q]) (fun q=>?_) (fun s104=>?_)
 ·refine E4 8 rfl (A8 8 A0 (fun bs=>?_));exact A1 r9 _ _ _ (s121 q)
 refine hj bd b i x 3 r17 (fun q=>[xa c,xb i,xc b,xg i,xd b,xe x,xf i,xk 5 q,xh 6 q,xi 7 q,xj 8 q]) (fun q=>[ya c b,yc q i,yd q,ye q,yb q]) (fun q=>?_) (fun s120=>?_)
 ·refine E4 17 rfl (A8 17 A0 (fun bs=>?_));exact A1 r9 _ _ _ (s121 q)
 refine hj bd b i x 4 [0,1,2,3,4,5,6,7,9,10,11,12,13,14,15,16] (fun q=>[xa c,xb i,xc b,xd b,xe x,xf i,xk 5 q,xh 6 q,xi 7 q,xj 8 q]) (fun q=>[ya c b,yc q i,yd q,ye q,yb q]) (fun q=>?_) (fun s103=>?_)
 ·refine B2 [8,17] rfl (by simp) ⟨A8 8 A0 (fun bs=>?_),A8 17 A0 (fun bs=>?_),trivial⟩
  ·exact A1 r9 _ _ _ (s120 q)
  ·exact A1 r9 _ _ _ (s104 q)
 refine hj bd b i x 4 [0,1,2,3,4,5,6,7,8,9,10,11,12,14,15,16] (fun q=>[xa c,xb i,xc b,xg i,xd b,xe x,xf i,xh 5 q,xi 6 q,xj 7 q]) (fun q=>[ya c b,yd q,ye q,yb q]) (fun q=>?_) (fun s112=>?_)
 ·refine E4 13 rfl ?_;refine E7 [2] (fun n=>n-2) (U4 x.bk i.k q.1 (by omega)) rfl rfl trivial rfl rfl rfl rfl (by decide) rfl rfl (fun x=>rfl) (fun z _=>?_);exact A1 [0,1,2,3,4,8,5,6,7] _ _ _ (s120 (z.1,z.2.1,z.2.2,q.2.2.2))
 refine hj bd b i x 4 [0,1,2,3,4,5,6,7,8,9,10,11,12,13,15,16] (fun q=>[xa c,xb i,xc b,xg i,xd b,xe x,xf i,xk 5 q,xi 6 q,xj 7 q]) (fun q=>[ya c b,yc q i,ye q,yb q]) (fun q=>?_) (fun s116=>?_)
 ·refine E4 14 rfl (A8 14 A0 (fun bs=>?_));exact A1 [0,1,2,3,4,5,8,6,7] _ _ _ (s120 (za q bs.bn))
 refine hj bd b i x 4 [0,1,2,3,4,5,6,7,8,9,10,11,12,13,14,16] (fun q=>[xa c,xb i,xc b,xg i,xd b,xe x,xf i,xk 5 q,xh 6 q,xj 7 q]) (fun q=>[ya c b,yc q i,yd q,yb q]) (fun q=>?_) (fun s118=>?_)
 ·refine E4 15 rfl (A8 15 A0 (fun bs=>?_));exact A1 [0,1,2,3,4,5,6,8,7] _ _ _ (s120 (zb q bs.bn))
 refine hj bd b i x 4 r16 (fun q=>[xa c,xb i,xc b,xg i,xd b,xe x,xf i,xk 5 q,xh 6 q,xi 7 q]) (fun q=>[ya c b,yc q i,yd q,ye q]) (fun q=>?_) (fun s119=>?_)
 ·refine E4 16 rfl (A8 16 A0 (fun bs=>?_));exact A1 r9 _ _ _ (s120 (zc q bs.bn))
 refine hj bd b i x 5 [0,1,2,3,5,6,7,8,9,10,11,12,14,15,16] (fun q=>[xa c,xb i,xc b,xg i,xd b,xe x,xh 5 q,xi 6 q,xj 7 q]) (fun q=>[ya c b,yd q,ye q,yb q]) (fun q=>?_) (fun s70=>?_)
 ·refine E4 4 rfl (A8 4 A0 (fun bs=>?_) (hob:=fun _=>U8));exact A1 r8 _ _ _ (s112 q)
 refine hj bd b i x 5 [0,1,2,3,4,5,6,7,9,10,11,12,14,15,16] (fun q=>[xa c,xb i,xc b,xd b,xe x,xf i,xh 5 q,xi 6 q,xj 7 q]) (fun q=>[ya c b,yd q,ye q,yb q]) (fun q=>?_) (fun s95=>?_)
 ·refine B2 [8,13] rfl (by simp) ⟨A8 8 A0 (fun bs=>?_),?_,trivial⟩
  ·exact A1 r8 _ _ _ (s112 q)
  ·refine E7 [2] (fun n=>n-2) (U4 x.bk i.k q.1 (by omega)) rfl rfl trivial rfl rfl rfl rfl (by decide) rfl rfl (fun x=>rfl) (fun z _=>?_);exact A1 [0,1,2,3,4,8,5,6,7] _ _ _ (s103 (z.1,z.2.1,z.2.2,q.2.2.2))
 refine hj bd b i x 5 [0,1,2,3,4,5,6,7,9,10,11,12,13,15,16] (fun q=>[xa c,xb i,xc b,xd b,xe x,xf i,xk 5 q,xi 6 q,xj 7 q]) (fun q=>[ya c b,yc q i,ye q,yb q]) (fun q=>?_) (fun s99=>?_)
 ·refine B2 [8,14] rfl (by simp) ⟨A8 8 A0 (fun bs=>?_),A8 14 A0 (fun bs=>?_),trivial⟩
  ·exact A1 r8 _ _ _ (s116 q)
  ·exact A1 [0,1,2,3,4,5,8,6,7] _ _ _ (s103 (za q bs.bn))
 refine hj bd b i x 5 [0,1,2,3,4,5,6,7,9,10,11,12,13,14,16] (fun q=>[xa c,xb i,xc b,xd b,xe x,xf i,xk 5 q,xh 6 q,xj 7 q]) (fun q=>[ya c b,yc q i,yd q,yb q]) (fun q=>?_) (fun s101=>?_)
 ·refine B2 [8,15] rfl (by simp) ⟨A8 8 A0 (fun bs=>?_),A8 15 A0 (fun bs=>?_),trivial⟩
  ·exact A1 r8 _ _ _ (s118 q)
  ·exact A1 [0,1,2,3,4,5,6,8,7] _ _ _ (s103 (zb q bs.bn))
 refine hj bd b i x 5 [0,1,2,3,4,5,6,7,9,10,11,12,13,14,15] (fun q=>[xa c,xb i,xc b,xd b,xe x,xf i,xk 5 q,xh 6 q,xi 7 q]) (fun q=>[ya c b,yc q i,yd q,ye q]) (fun q=>?_) (fun s102=>?_)
 ·refine B2 [8,16] rfl (by simp) ⟨A8 8 A0 (fun bs=>?_),A8 16 A0 (fun bs=>?_),trivial⟩
  ·exact A1 r8 _ _ _ (s119 q)
  ·exact A1 r9 _ _ _ (s103 (zc q bs.bn))
 refine hj bd b i x 5 [0,1,2,3,4,5,6,7,8,9,10,11,12,15,16] (fun q=>[xa c,xb i,xc b,xg i,xd b,xe x,xf i,xi 5 q,xj 6 q]) (fun q=>[ya c b,ye q,yb q]) (fun q=>?_) (fun s108=>?_)
 ·refine B2 [13,14] rfl (by simp) ⟨?_,A8 14 A0 (fun bs=>?_),trivial⟩
  ·refine E7 [2] (fun n=>n-2) (U4 x.bk i.k q.1 (by omega)) rfl rfl trivial rfl rfl rfl rfl (by decide) rfl rfl (fun x=>rfl) (fun z _=>?_);exact A1 [0,1,2,3,4,7,5,6] _ _ _ (s116 (z.1,z.2.1,z.2.2,q.2.2.2))
  ·exact A1 [0,1,2,3,4,7,5,6] _ _ _ (s112 (za q bs.bn))
 refine hj bd b i x 5 [0,1,2,3,4,5,6,7,8,9,10,11,12,14,16] (fun q=>[xa c,xb i,xc b,xg i,xd b,xe x,xf i,xh 5 q,xj 6 q]) (fun q=>[ya c b,yd q,yb q]) (fun q=>?_) (fun s110=>?_)
 ·refine B2 [13,15] rfl (by simp) ⟨?_,A8 15 A0 (fun bs=>?_),trivial⟩
  ·refine E7 [2] (fun n=>n-2) (U4 x.bk i.k q.1 (by omega)) rfl rfl trivial rfl rfl rfl rfl (by decide) rfl rfl (fun x=>rfl) (fun z _=>?_);exact A1 [0,1,2,3,4,7,5,6] _ _ _ (s118 (z.1,z.2.1,z.2.2,q.2.2.2))
  ·exact A1 [0,1,2,3,4,5,7,6] _ _ _ (s112 (zb q bs.bn))
 refine hj bd b i x 5 [0,1,2,3,4,5,6,7,8,9,10,11,12,14,15] (fun q=>[xa c,xb i,xc b,xg i,xd b,xe x,xf i,xh 5 q,xi 6 q]) (fun q=>[ya c b,yd q,ye q]) (fun q=>?_) (fun s111=>?_)
 ·refine B2 [13,16] rfl (by simp) ⟨?_,A8 16 A0 (fun bs=>?_),trivial⟩
  ·refine E7 [2] (fun n=>n-2) (U4 x.bk i.k q.1 (by omega)) rfl rfl trivial rfl rfl rfl rfl (by decide) rfl rfl (fun x=>rfl) (fun z _=>?_);exact A1 [0,1,2,3,4,7,5,6] _ _ _ (s119 (z.1,z.2.1,z.2.2,q.2.2.2))
  ·exact A1 r8 _ _ _ (s112 (zc q bs.bn))
 refine hj bd b i x 5 [0,1,2,3,4,5,6,7,8,9,10,11,12,13,16] (fun q=>[xa c,xb i,xc b,xg i,xd b,xe x,xf i,xk 5 q,xj 6 q]) (fun q=>[ya c b,yc q i,yb q]) (fun q=>?_) (fun s114=>?_)
 ·refine B2 [14,15] rfl (by simp) ⟨A8 14 A0 (fun bs=>?_),A8 15 A0 (fun bs=>?_),trivial⟩
  ·exact A1 [0,1,2,3,4,5,7,6] _ _ _ (s118 (za q bs.bn))
  ·exact A1 [0,1,2,3,4,5,7,6] _ _ _ (s116 (zb q bs.bn))
 refine hj bd b i x 5 [0,1,2,3,4,5,6,7,8,9,10,11,12,13,15] (fun q=>[xa c,xb i,xc b,xg i,xd b,xe x,xf i,xk 5 q,xi 6 q]) (fun q=>[ya c b,yc q i,ye q]) (fun q=>?_) (fun s115=>?_)
 ·refine B2 [14,16] rfl (by simp) ⟨A8 14 A0 (fun bs=>?_),A8 16 A0 (fun bs=>?_),trivial⟩
  ·exact A1 [0,1,2,3,4,5,7,6] _ _ _ (s119 (za q bs.bn))
  ·exact A1 r8 _ _ _ (s116 (zc q bs.bn))
 refine hj bd b i x 5 r15 (fun q=>[xa c,xb i,xc b,xg i,xd b,xe x,xf i,xk 5 q,xh 6 q]) (fun q=>[ya c b,yc q i,yd q]) (fun q=>?_) (fun s117=>?_)
 ·refine B2 [15,16] rfl (by simp) ⟨A8 15 A0 (fun bs=>?_),A8 16 A0 (fun bs=>?_),trivial⟩
  ·exact A1 r8 _ _ _ (s119 (zb q bs.bn))
  ·exact A1 r8 _ _ _ (s118 (zc q bs.bn))
 refine hj bd b i x 6 [0,1,2,3,5,6,7,9,10,11,12,14,15,16] (fun q=>[xa c,xb i,xc b,xd b,xe x,xh 5 q,xi 6 q,xj 7 q]) (fun q=>[ya c b,yd q,ye q,yb q]) (fun q=>?_) (fun s46=>?_)
 ·refine B2 [4,8] rfl (by simp) ⟨A8 4 A0 (fun bs=>?_) (hob:=fun _=>U8),A8 8 A0 (fun bs=>?_),trivial⟩
  ·exact A1 r8 _ _ _ (s95 q)
  ·exact A1 r8 _ _ _ (s70 q)
 refine hj bd b i x 6 [0,1,2,3,5,6,7,8,9,10,11,14,15,16] (fun q=>[xa c,xb i,xc b,xg i,xd b,xh 5 q,xi 6 q,xj 7 q]) (fun q=>[ya c b,yd q,ye q,yb q]) (fun q=>?_) (fun s62=>?_)
 ·refine B2 [4,12] rfl (by simp) ⟨A8 4 A0 (fun bs=>?_) (hob:=fun _=>U8),A8 12 A0 (fun bs=>?_),trivial⟩
  ·refine D8 12 A0 ?_;exact A1 r8 _ _ _ (s112 q)
  ·exact A1 r8 _ _ _ (s70 q)
 refine hj bd b i x 6 [0,1,2,3,5,6,7,8,9,10,11,12,15,16] (fun q=>[xa c,xb i,xc b,xg i,xd b,xe x,xi 5 q,xj 6 q]) (fun q=>[ya c b,ye q,yb q]) (fun q=>?_) (fun s66=>?_)
 ·refine B2 [4,14] rfl (by simp) ⟨A8 4 A0 (fun bs=>?_) (hob:=fun _=>U8),A8 14 A0 (fun bs=>?_),trivial⟩
  ·exact A1 r7 _ _ _ (s108 q)
  ·exact A1 [0,1,2,3,4,7,5,6] _ _ _ (s70 (za q bs.bn))
 refine hj bd b i x 6 [0,1,2,3,5,6,7,8,9,10,11,12,14,16] (fun q=>[xa c,xb i,xc b,xg i,xd b,xe x,xh 5 q,xj 6 q]) (fun q=>[ya c b,yd q,yb q]) (fun q=>?_) (fun s68=>?_)
 ·refine B2 [4,15] rfl (by simp) ⟨A8 4 A0 (fun bs=>?_) (hob:=fun _=>U8),A8 15 A0 (fun bs=>?_),trivial⟩
  ·exact A1 r7 _ _ _ (s110 q)
  ·exact A1 [0,1,2,3,4,5,7,6] _ _ _ (s70 (zb q bs.bn))
 refine hj bd b i x 6 [0,1,2,3,5,6,7,8,9,10,11,12,14,15] (fun q=>[xa c,xb i,xc b,xg i,xd b,xe x,xh 5 q,xi 6 q]) (fun q=>[ya c b,yd q,ye q]) (fun q=>?_) (fun s69=>?_)
 ·refine B2 [4,16] rfl (by simp) ⟨A8 4 A0 (fun bs=>?_) (hob:=fun _=>U8),A8 16 A0 (fun bs=>?_),trivial⟩
  ·exact A1 r7 _ _ _ (s111 q)
  ·exact A1 r8 _ _ _ (s70 (zc q bs.bn))
 refine hj bd b i x 6 [0,1,2,3,4,9,10,11,12,13,14,15,16,17] (fun q=>[xa c,xb i,xd b,xe x,xf i,xk 5 q,xh 6 q,xi 7 q,xj 8 q]) (fun q=>[ya c b,yc q i,.blk q.2.2.2.1 82 (iX i.m),ye q,yb q]) (fun q=>?_) (fun s87=>?_)
 ·refine E4 5 rfl (A8 5 A0 (fun bs=>?_));refine C2 6 ?_;refine C0 7 A0 ?_;exact A1 r9 _ _ _ (s104 q)
 refine hj bd b i x 6 [0,1,2,3,4,5,6,7,9,10,11,12,15,16] (fun q=>[xa c,xb i,xc b,xd b,xe x,xf i,xi 5 q,xj 6 q]) (fun q=>[ya c b,ye q,yb q]) (fun q=>?_) (fun s91=>?_)
 ·refine B2 [8,13,14] rfl (by simp) ⟨A8 8 A0 (fun bs=>?_),?_,A8 14 A0 (fun bs=>?_),trivial⟩
  ·exact A1 r7 _ _ _ (s108 q)
  ·refine E7 [2] (fun n=>n-2) (U4 x.bk i.k q.1 (by omega)) rfl rfl trivial rfl rfl rfl rfl (by decide) rfl rfl (fun x=>rfl) (fun z _=>?_);exact A1 [0,1,2,3,4,7,5,6] _ _ _ (s99 (z.1,z.2.1,z.2.2,q.2.2.2))
  ·exact A1 [0,1,2,3,4,7,5,6] _ _ _ (s95 (za q bs.bn))
 refine hj bd b i x 6 [0,1,2,3,4,5,6,7,9,10,11,12,14,16] (fun q=>[xa c,xb i,xc b,xd b,xe x,xf i,xh 5 q,xj 6 q]) (fun q=>[ya c b,yd q,yb q]) (fun q=>?_) (fun s93=>?_)
 ·refine B2 [8,13,15] rfl (by simp) ⟨A8 8 A0 (fun bs=>?_),?_,A8 15 A0 (fun bs=>?_),trivial⟩
  ·exact A1 r7 _ _ _ (s110 q)
  ·refine E7 [2] (fun n=>n-2) (U4 x.bk i.k q.1 (by omega)) rfl rfl trivial rfl rfl rfl rfl (by decide) rfl rfl (fun x=>rfl) (fun z _=>?_);exact A1 [0,1,2,3,4,7,5,6] _ _ _ (s101 (z.1,z.2.1,z.2.2,q.2.2.2))
  ·exact A1 [0,1,2,3,4,5,7,6] _ _ _ (s95 (zb q bs.bn))
 refine hj bd b i x 6 [0,1,2,3,4,5,6,7,9,10,11,12,14,15] (fun q=>[xa c,xb i,xc b,xd b,xe x,xf i,xh 5 q,xi 6 q]) (fun q=>[ya c b,yd q,ye q]) (fun q=>?_) (fun s94=>?_)
 ·refine B2 [8,13,16] rfl (by simp) ⟨A8 8 A0 (fun bs=>?_),?_,A8 16 A0 (fun bs=>?_),trivial⟩
  ·exact A1 r7 _ _ _ (s111 q)
  ·refine E7 [2] (fun n=>n-2) (U4 x.bk i.k q.1 (by omega)) rfl rfl trivial rfl rfl rfl rfl (by decide) rfl rfl (fun x=>rfl) (fun z _=>?_);exact A1 [0,1,2,3,4,7,5,6] _ _ _ (s102 (z.1,z.2.1,z.2.2,q.2.2.2))
  ·exact A1 r8 _ _ _ (s95 (zc q bs.bn))
 refine hj bd b i x 6 [0,1,2,3,4,5,6,7,9,10,11,12,13,16] (fun q=>[xa c,xb i,xc b,xd b,xe x,xf i,xk 5 q,xj 6 q]) (fun q=>[ya c b,yc q i,yb q]) (fun q=>?_) (fun s97=>?_)
 ·refine B2 [8,14,15] rfl (by simp) ⟨A8 8 A0 (fun bs=>?_),A8 14 A0 (fun bs=>?_),A8 15 A0 (fun bs=>?_),trivial⟩
  ·exact A1 r7 _ _ _ (s114 q)
  ·exact A1 [0,1,2,3,4,5,7,6] _ _ _ (s101 (za q bs.bn))
  ·exact A1 [0,1,2,3,4,5,7,6] _ _ _ (s99 (zb q bs.bn))
 refine hj bd b i x 6 [0,1,2,3,4,5,6,7,9,10,11,12,13,15] (fun q=>[xa c,xb i,xc b,xd b,xe x,xf i,xk 5 q,xi 6 q]) (fun q=>[ya c b,yc q i,ye q]) (fun q=>?_) (fun s98=>?_)
 ·refine B2 [8,14,16] rfl (by simp) ⟨A8 8 A0 (fun bs=>?_),A8 14 A0 (fun bs=>?_),A8 16 A0 (fun bs=>?_),trivial⟩
  ·exact A1 r7 _ _ _ (s115 q)
  ·exact A1 [0,1,2,3,4,5,7,6] _ _ _ (s102 (za q bs.bn))
  ·exact A1 r8 _ _ _ (s99 (zc q bs.bn))
 refine hj bd b i x 6 [0,1,2,3,4,5,6,7,9,10,11,12,13,14] (fun q=>[xa c,xb i,xc b,xd b,xe x,xf i,xk 5 q,xh 6 q]) (fun q=>[ya c b,yc q i,yd q]) (fun q=>?_) (fun s100=>?_)
 ·refine B2 [8,15,16] rfl (by simp) ⟨A8 8 A0 (fun bs=>?_),A8 15 A0 (fun bs=>?_),A8 16 A0 (fun bs=>?_),trivial⟩
  ·exact A1 r7 _ _ _ (s117 q)
  ·exact A1 r8 _ _ _ (s102 (zb q bs.bn))
  ·exact A1 r8 _ _ _ (s101 (zc q bs.bn))
 refine hj bd b i x 6 [0,1,2,3,4,5,6,7,8,9,10,11,12,16] (fun q=>[xa c,xb i,xc b,xg i,xd b,xe x,xf i,xj 5 q]) (fun q=>[ya c b,yb q]) (fun q=>?_) (fun s106=>?_)
 ·refine B2 [13,14,15] rfl (by simp) ⟨?_,A8 14 A0 (fun bs=>?_),A8 15 A0 (fun bs=>?_),trivial⟩
  ·refine E7 [2] (fun n=>n-2) (U4 x.bk i.k q.1 (by omega)) rfl rfl trivial rfl rfl rfl rfl (by decide) rfl rfl (fun x=>rfl) (fun z _=>?_);exact A1 [0,1,2,3,4,6,5] _ _ _ (s114 (z.1,z.2.1,z.2.2,q.2.2.2))
  ·exact A1 [0,1,2,3,4,6,5] _ _ _ (s110 (za q bs.bn))
  ·exact A1 [0,1,2,3,4,6,5] _ _ _ (s108 (zb q bs.bn))
 refine hj bd b i x 6 [0,1,2,3,4,5,6,7,8,9,10,11,12,15] (fun q=>[xa c,xb i,xc b,xg i,xd b,xe x,xf i,xi 5 q]) (fun q=>[ya c b,ye q]) (fun q=>?_) (fun s107=>?_)
 ·refine B2 [13,14,16] rfl (by simp) ⟨?_,A8 14 A0 (fun bs=>?_),A8 16 A0 (fun bs=>?_),trivial⟩
  ·refine E7 [2] (fun n=>n-2) (U4 x.bk i.k q.1 (by omega)) rfl rfl trivial rfl rfl rfl rfl (by decide) rfl rfl (fun x=>rfl) (fun z _=>?_);exact A1 [0,1,2,3,4,6,5] _ _ _ (s115 (z.1,z.2.1,z.2.2,q.2.2.2))
  ·exact A1 [0,1,2,3,4,6,5] _ _ _ (s111 (za q bs.bn))
  ·exact A1 r7 _ _ _ (s108 (zc q bs.bn))
 refine hj bd b i x 6 [0,1,2,3,4,5,6,7,8,9,10,11,12,14] (fun q=>[xa c,xb i,xc b,xg i,xd b,xe x,xf i,xh 5 q]) (fun q=>[ya c b,yd q]) (fun q=>?_) (fun s109=>?_)
 ·refine B2 [13,15,16] rfl (by simp) ⟨?_,A8 15 A0 (fun bs=>?_),A8 16 A0 (fun bs=>?_),trivial⟩
  ·refine E7 [2] (fun n=>n-2) (U4 x.bk i.k q.1 (by omega)) rfl rfl trivial rfl rfl rfl rfl (by decide) rfl rfl (fun x=>rfl) (fun z _=>?_);exact A1 [0,1,2,3,4,6,5] _ _ _ (s117 (z.1,z.2.1,z.2.2,q.2.2.2))
  ·exact A1 r7 _ _ _ (s111 (zb q bs.bn))
  ·exact A1 r7 _ _ _ (s110 (zc q bs.bn))
 refine hj bd b i x 6 r14 (fun q=>[xa c,xb i,xc b,xg i,xd b,xe x,xf i,xk 5 q]) (fun q=>[ya c b,yc q i]) (fun q=>?_) (fun s113=>?_)
 ·refine B2 [14,15,16] rfl (by simp) ⟨A8 14 A0 (fun bs=>?_),A8 15 A0 (fun bs=>?_),A8 16 A0 (fun bs=>?_),trivial⟩
  ·exact A1 r7 _ _ _ (s117 (za q bs.bn))
  ·exact A1 r7 _ _ _ (s115 (zb q bs.bn))
  ·exact A1 r7 _ _ _ (s114 (zc q bs.bn))
 refine hj bd b i x 7 [0,1,2,3,5,6,7,9,10,11,14,15,16] (fun q=>[xa c,xb i,xc b,xd b,xh 5 q,xi 6 q,xj 7 q]) (fun q=>[ya c b,yd q,ye q,yb q]) (fun q=>?_) (fun s38=>?_)
 ·refine B2 [4,8,12] rfl (by simp) ⟨A8 4 A0 (fun bs=>?_) (hob:=fun _=>U8),A8 8 A0 (fun bs=>?_),A8 12 A0 (fun bs=>?_),trivial⟩
  ·refine D8 12 A0 ?_;exact A1 r8 _ _ _ (s95 q)
  ·exact A1 r8 _ _ _ (s62 q)
  ·exact A1 r8 _ _ _ (s46 q)
 refine hj bd b i x 7 [0,1,2,3,5,6,7,9,10,11,12,15,16] (fun q=>[xa c,xb i,xc b,xd b,xe x,xi 5 q,xj 6 q]) (fun q=>[ya c b,ye q,yb q]) (fun q=>?_) (fun s42=>?_)
 ·refine B2 [4,8,14] rfl (by simp) ⟨A8 4 A0 (fun bs=>?_) (hob:=fun _=>U8),A8 8 A0 (fun bs=>?_),A8 14 A0 (fun bs=>?_),trivial⟩
  ·exact A1 r7 _ _ _ (s91 q)
  ·exact A1 r7 _ _ _ (s66 q)
  ·exact A1 [0,1,2,3,4,7,5,6] _ _ _ (s46 (za q bs.bn))
 refine hj bd b i x 7 [0,1,2,3,5,6,7,9,10,11,12,14,16] (fun q=>[xa c,xb i,xc b,xd b,xe x,xh 5 q,xj 6 q]) (fun q=>[ya c b,yd q,yb q]) (fun q=>?_) (fun s44=>?_)
 ·refine B2 [4,8,15] rfl (by simp) ⟨A8 4 A0 (fun bs=>?_) (hob:=fun _=>U8),A8 8 A0 (fun bs=>?_),A8 15 A0 (fun bs=>?_),trivial⟩
  ·exact A1 r7 _ _ _ (s93 q)
  ·exact A1 r7 _ _ _ (s68 q)
  ·exact A1 [0,1,2,3,4,5,7,6] _ _ _ (s46 (zb q bs.bn))
 refine hj bd b i x 7 [0,1,2,3,5,6,7,9,10,11,12,14,15] (fun q=>[xa c,xb i,xc b,xd b,xe x,xh 5 q,xi 6 q]) (fun q=>[ya c b,yd q,ye q]) (fun q=>?_) (fun s45=>?_)
 ·refine B2 [4,8,16] rfl (by simp) ⟨A8 4 A0 (fun bs=>?_) (hob:=fun _=>U8),A8 8 A0 (fun bs=>?_),A8 16 A0 (fun bs=>?_),trivial⟩
  ·exact A1 r7 _ _ _ (s94 q)
  ·exact A1 r7 _ _ _ (s69 q)
  ·exact A1 r8 _ _ _ (s46 (zc q bs.bn))
 refine hj bd b i x 7 [0,1,2,3,5,6,7,8,9,10,11,15,16] (fun q=>[xa c,xb i,xc b,xg i,xd b,xi 5 q,xj 6 q]) (fun q=>[ya c b,ye q,yb q]) (fun q=>?_) (fun s58=>?_)
 ·refine B2 [4,12,14] rfl (by simp) ⟨A8 4 A0 (fun bs=>?_) (hob:=fun _=>U8),A8 12 A0 (fun bs=>?_),A8 14 A0 (fun bs=>?_),trivial⟩
  ·refine D8 12 A0 ?_;exact A1 r7 _ _ _ (s108 q)
  ·exact A1 r7 _ _ _ (s66 q)
  ·exact A1 [0,1,2,3,4,7,5,6] _ _ _ (s62 (za q bs.bn))
 refine hj bd b i x 7 [0,1,2,3,5,6,7,8,9,10,11,14,16] (fun q=>[xa c,xb i,xc b,xg i,xd b,xh 5 q,xj 6 q]) (fun q=>[ya c b,yd q,yb q]) (fun q=>?_) (fun s60=>?_)
 ·refine B2 [4,12,15] rfl (by simp) ⟨A8 4 A0 (fun bs=>?_) (hob:=fun _=>U8),A8 12 A0 (fun bs=>?_),A8 15 A0 (fun bs=>?_),trivial⟩
  ·refine D8 12 A0 ?_;exact A1 r7 _ _ _ (s110 q)
  ·exact A1 r7 _ _ _ (s68 q)
  ·exact A1 [0,1,2,3,4,5,7,6] _ _ _ (s62 (zb q bs.bn))
 refine hj bd b i x 7 [0,1,2,3,5,6,7,8,9,10,11,14,15] (fun q=>[xa c,xb i,xc b,xg i,xd b,xh 5 q,xi 6 q]) (fun q=>[ya c b,yd q,ye q]) (fun q=>?_) (fun s61=>?_)
 ·refine B2 [4,12,16] rfl (by simp) ⟨A8 4 A0 (fun bs=>?_) (hob:=fun _=>U8),A8 12 A0 (fun bs=>?_),A8 16 A0 (fun bs=>?_),trivial⟩
  ·refine D8 12 A0 ?_;exact A1 r7 _ _ _ (s111 q)
  ·exact A1 r7 _ _ _ (s69 q)
  ·exact A1 r8 _ _ _ (s62 (zc q bs.bn))
 refine hj bd b i x 7 [0,1,2,3,5,6,7,8,9,10,11,12,16] (fun q=>[xa c,xb i,xc b,xg i,xd b,xe x,xj 5 q]) (fun q=>[ya c b,yb q]) (fun q=>?_) (fun s64=>?_)
 ·refine B2 [4,14,15] rfl (by simp) ⟨A8 4 A0 (fun bs=>?_) (hob:=fun _=>U8),A8 14 A0 (fun bs=>?_),A8 15 A0 (fun bs=>?_),trivial⟩
  ·exact A1 r6 _ _ _ (s106 q)
  ·exact A1 [0,1,2,3,4,6,5] _ _ _ (s68 (za q bs.bn))
  ·exact A1 [0,1,2,3,4,6,5] _ _ _ (s66 (zb q bs.bn))
 refine hj bd b i x 7 [0,1,2,3,5,6,7,8,9,10,11,12,15] (fun q=>[xa c,xb i,xc b,xg i,xd b,xe x,xi 5 q]) (fun q=>[ya c b,ye q]) (fun q=>?_) (fun s65=>?_)
 ·refine B2 [4,14,16] rfl (by simp) ⟨A8 4 A0 (fun bs=>?_) (hob:=fun _=>U8),A8 14 A0 (fun bs=>?_),A8 16 A0 (fun bs=>?_),trivial⟩
  ·exact A1 r6 _ _ _ (s107 q)
  ·exact A1 [0,1,2,3,4,6,5] _ _ _ (s69 (za q bs.bn))
  ·exact A1 r7 _ _ _ (s66 (zc q bs.bn))
 refine hj bd b i x 7 [0,1,2,3,5,6,7,8,9,10,11,12,14] (fun q=>[xa c,xb i,xc b,xg i,xd b,xe x,xh 5 q]) (fun q=>[ya c b,yd q]) (fun q=>?_) (fun s67=>?_)
 ·refine B2 [4,15,16] rfl (by simp) ⟨A8 4 A0 (fun bs=>?_) (hob:=fun _=>U8),A8 15 A0 (fun bs=>?_),A8 16 A0 (fun bs=>?_),trivial⟩
  ·exact A1 r6 _ _ _ (s109 q)
  ·exact A1 r7 _ _ _ (s69 (zb q bs.bn))
  ·exact A1 r7 _ _ _ (s68 (zc q bs.bn))
 refine hj bd b i x 7 [0,1,2,3,4,9,10,11,12,13,14,15,16] (fun q=>[xa c,xb i,xd b,xe x,xf i,xk 5 q,xh 6 q,xi 7 q,xj 8 q]) (fun q=>[ya c b,yc q i,yd q,ye q,yb q]) (fun q=>?_) (fun s86=>?_)
 ·refine B2 [5,17] rfl (by simp) ⟨A8 5 A0 (fun bs=>?_),A8 17 A0 (fun bs=>?_),trivial⟩
  ·refine C2 6 ?_;refine C0 7 A0 ?_;exact A1 r9 _ _ _ (s103 q)
  ·exact A1 r9 _ _ _ (s87 q)
 refine hj bd b i x 7 [0,1,2,3,4,5,6,7,9,10,11,12,16] (fun q=>[xa c,xb i,xc b,xd b,xe x,xf i,xj 5 q]) (fun q=>[ya c b,yb q]) (fun q=>?_) (fun s89=>?_)
 ·refine B2 [8,13,14,15] rfl (by simp) ⟨A8 8 A0 (fun bs=>?_),?_,A8 14 A0 (fun bs=>?_),A8 15 A0 (fun bs=>?_),trivial⟩
  ·exact A1 r6 _ _ _ (s106 q)
  ·refine E7 [2] (fun n=>n-2) (U4 x.bk i.k q.1 (by omega)) rfl rfl trivial rfl rfl rfl rfl (by decide) rfl rfl (fun x=>rfl) (fun z _=>?_);exact A1 [0,1,2,3,4,6,5] _ _ _ (s97 (z.1,z.2.1,z.2.2,q.2.2.2))
  ·exact A1 [0,1,2,3,4,6,5] _ _ _ (s93 (za q bs.bn))
  ·exact A1 [0,1,2,3,4,6,5] _ _ _ (s91 (zb q bs.bn))
 refine hj bd b i x 7 [0,1,2,3,4,5,6,7,9,10,11,12,15] (fun q=>[xa c,xb i,xc b,xd b,xe x,xf i,xi 5 q]) (fun q=>[ya c b,ye q]) (fun q=>?_) (fun s90=>?_)
 ·refine B2 [8,13,14,16] rfl (by simp) ⟨A8 8 A0 (fun bs=>?_),?_,A8 14 A0 (fun bs=>?_),A8 16 A0 (fun bs=>?_),trivial⟩
  ·exact A1 r6 _ _ _ (s107 q)
  ·refine E7 [2] (fun n=>n-2) (U4 x.bk i.k q.1 (by omega)) rfl rfl trivial rfl rfl rfl rfl (by decide) rfl rfl (fun x=>rfl) (fun z _=>?_);exact A1 [0,1,2,3,4,6,5] _ _ _ (s98 (z.1,z.2.1,z.2.2,q.2.2.2))
  ·exact A1 [0,1,2,3,4,6,5] _ _ _ (s94 (za q bs.bn))
  ·exact A1 r7 _ _ _ (s91 (zc q bs.bn))
 refine hj bd b i x 7 [0,1,2,3,4,5,6,7,9,10,11,12,14] (fun q=>[xa c,xb i,xc b,xd b,xe x,xf i,xh 5 q]) (fun q=>[ya c b,yd q]) (fun q=>?_) (fun s92=>?_)
 ·refine B2 [8,13,15,16] rfl (by simp) ⟨A8 8 A0 (fun bs=>?_),?_,A8 15 A0 (fun bs=>?_),A8 16 A0 (fun bs=>?_),trivial⟩
  ·exact A1 r6 _ _ _ (s109 q)
  ·refine E7 [2] (fun n=>n-2) (U4 x.bk i.k q.1 (by omega)) rfl rfl trivial rfl rfl rfl rfl (by decide) rfl rfl (fun x=>rfl) (fun z _=>?_);exact A1 [0,1,2,3,4,6,5] _ _ _ (s100 (z.1,z.2.1,z.2.2,q.2.2.2))
  ·exact A1 r7 _ _ _ (s94 (zb q bs.bn))
  ·exact A1 r7 _ _ _ (s93 (zc q bs.bn))
 refine hj bd b i x 7 [0,1,2,3,4,5,6,7,9,10,11,12,13] (fun q=>[xa c,xb i,xc b,xd b,xe x,xf i,xk 5 q]) (fun q=>[ya c b,yc q i]) (fun q=>?_) (fun s96=>?_)
 ·refine B2 [8,14,15,16] rfl (by simp) ⟨A8 8 A0 (fun bs=>?_),A8 14 A0 (fun bs=>?_),A8 15 A0 (fun bs=>?_),A8 16 A0 (fun bs=>?_),trivial⟩
  ·exact A1 r6 _ _ _ (s113 q)
  ·exact A1 r7 _ _ _ (s100 (za q bs.bn))
  ·exact A1 r7 _ _ _ (s98 (zb q bs.bn))
  ·exact A1 r7 _ _ _ (s97 (zc q bs.bn))
 refine hj bd b i x 7 r13 (fun q=>[xa c,xb i,xc b,xg i,xd b,xe x,xf i]) (fun q=>[ya c b]) (fun q=>?_) (fun s105=>?_)
 ·refine B2 [13,14,15,16] rfl (by simp) ⟨?_,A8 14 A0 (fun bs=>?_),A8 15 A0 (fun bs=>?_),A8 16 A0 (fun bs=>?_),trivial⟩
  ·refine E7 [2] (fun n=>n-2) (U4 x.bk i.k q.1 (by omega)) rfl rfl trivial rfl rfl rfl rfl (by decide) rfl rfl (fun x=>rfl) (fun z _=>?_);exact A1 r6 _ _ _ (s113 (z.1,z.2.1,z.2.2,q.2.2.2))
  ·exact A1 r6 _ _ _ (s109 (za q bs.bn))
  ·exact A1 r6 _ _ _ (s107 (zb q bs.bn))
  ·exact A1 r6 _ _ _ (s106 (zc q bs.bn))
 refine hj bd b i x 8 [0,1,2,3,5,6,7,9,10,11,15,16] (fun q=>[xa c,xb i,xc b,xd b,xi 5 q,xj 6 q]) (fun q=>[ya c b,ye q,yb q]) (fun q=>?_) (fun s34=>?_)
 ·refine B2 [4,8,12,14] rfl (by simp) ⟨A8 4 A0 (fun bs=>?_) (hob:=fun _=>U8),A8 8 A0 (fun bs=>?_),A8 12 A0 (fun bs=>?_),A8 14 A0 (fun bs=>?_),trivial⟩
  ·refine D8 12 A0 ?_;exact A1 r7 _ _ _ (s91 q)
  ·exact A1 r7 _ _ _ (s58 q)
  ·exact A1 r7 _ _ _ (s42 q)
  ·exact A1 [0,1,2,3,4,7,5,6] _ _ _ (s38 (za q bs.bn))
 refine hj bd b i x 8 [0,1,2,3,5,6,7,9,10,11,14,16] (fun q=>[xa c,xb i,xc b,xd b,xh 5 q,xj 6 q]) (fun q=>[ya c b,yd q,yb q]) (fun q=>?_) (fun s36=>?_)
 ·refine B2 [4,8,12,15] rfl (by simp) ⟨A8 4 A0 (fun bs=>?_) (hob:=fun _=>U8),A8 8 A0 (fun bs=>?_),A8 12 A0 (fun bs=>?_),A8 15 A0 (fun bs=>?_),trivial⟩
  ·refine D8 12 A0 ?_;exact A1 r7 _ _ _ (s93 q)
  ·exact A1 r7 _ _ _ (s60 q)
  ·exact A1 r7 _ _ _ (s44 q)
  ·exact A1 [0,1,2,3,4,5,7,6] _ _ _ (s38 (zb q bs.bn))
 refine hj bd b i x 8 [0,1,2,3,5,6,7,9,10,11,14,15] (fun q=>[xa c,xb i,xc b,xd b,xh 5 q,xi 6 q]) (fun q=>[ya c b,yd q,ye q]) (fun q=>?_) (fun s37=>?_)
 ·refine B2 [4,8,12,16] rfl (by simp) ⟨A8 4 A0 (fun bs=>?_) (hob:=fun _=>U8),A8 8 A0 (fun bs=>?_),A8 12 A0 (fun bs=>?_),A8 16 A0 (fun bs=>?_),trivial⟩
  ·refine D8 12 A0 ?_;exact A1 r7 _ _ _ (s94 q)
  ·exact A1 r7 _ _ _ (s61 q)
  ·exact A1 r7 _ _ _ (s45 q)
  ·exact A1 r8 _ _ _ (s38 (zc q bs.bn))
 refine hj bd b i x 8 [0,1,2,3,5,6,7,9,10,11,12,16] (fun q=>[xa c,xb i,xc b,xd b,xe x,xj 5 q]) (fun q=>[ya c b,yb q]) (fun q=>?_) (fun s40=>?_)
 ·refine B2 [4,8,14,15] rfl (by simp) ⟨A8 4 A0 (fun bs=>?_) (hob:=fun _=>U8),A8 8 A0 (fun bs=>?_),A8 14 A0 (fun bs=>?_),A8 15 A0 (fun bs=>?_),trivial⟩
  ·exact A1 r6 _ _ _ (s89 q)
  ·exact A1 r6 _ _ _ (s64 q)
  ·exact A1 [0,1,2,3,4,6,5] _ _ _ (s44 (za q bs.bn))
  ·exact A1 [0,1,2,3,4,6,5] _ _ _ (s42 (zb q bs.bn))
 refine hj bd b i x 8 [0,1,2,3,5,6,7,9,10,11,12,15] (fun q=>[xa c,xb i,xc b,xd b,xe x,xi 5 q]) (fun q=>[ya c b,ye q]) (fun q=>?_) (fun s41=>?_)
 ·refine B2 [4,8,14,16] rfl (by simp) ⟨A8 4 A0 (fun bs=>?_) (hob:=fun _=>U8),A8 8 A0 (fun bs=>?_),A8 14 A0 (fun bs=>?_),A8 16 A0 (fun bs=>?_),trivial⟩
  ·exact A1 r6 _ _ _ (s90 q)
  ·exact A1 r6 _ _ _ (s65 q)
  ·exact A1 [0,1,2,3,4,6,5] _ _ _ (s45 (za q bs.bn))
  ·exact A1 r7 _ _ _ (s42 (zc q bs.bn))
 refine hj bd b i x 8 [0,1,2,3,5,6,7,9,10,11,12,14] (fun q=>[xa c,xb i,xc b,xd b,xe x,xh 5 q]) (fun q=>[ya c b,yd q]) (fun q=>?_) (fun s43=>?_)
 ·refine B2 [4,8,15,16] rfl (by simp) ⟨A8 4 A0 (fun bs=>?_) (hob:=fun _=>U8),A8 8 A0 (fun bs=>?_),A8 15 A0 (fun bs=>?_),A8 16 A0 (fun bs=>?_),trivial⟩
  ·exact A1 r6 _ _ _ (s92 q)
  ·exact A1 r6 _ _ _ (s67 q)
  ·exact A1 r7 _ _ _ (s45 (zb q bs.bn))
  ·exact A1 r7 _ _ _ (s44 (zc q bs.bn))
 refine hj bd b i x 8 [0,1,2,3,5,6,7,8,9,10,11,16] (fun q=>[xa c,xb i,xc b,xg i,xd b,xj 5 q]) (fun q=>[ya c b,yb q]) (fun q=>?_) (fun s56=>?_)
 ·refine B2 [4,12,14,15] rfl (by simp) ⟨A8 4 A0 (fun bs=>?_) (hob:=fun _=>U8),A8 12 A0 (fun bs=>?_),A8 14 A0 (fun bs=>?_),A8 15 A0 (fun bs=>?_),trivial⟩
  ·refine D8 12 A0 ?_;exact A1 r6 _ _ _ (s106 q)
  ·exact A1 r6 _ _ _ (s64 q)
  ·exact A1 [0,1,2,3,4,6,5] _ _ _ (s60 (za q bs.bn))
  ·exact A1 [0,1,2,3,4,6,5] _ _ _ (s58 (zb q bs.bn))
 refine hj bd b i x 8 [0,1,2,3,5,6,7,8,9,10,11,15] (fun q=>[xa c,xb i,xc b,xg i,xd b,xi 5 q]) (fun q=>[ya c b,ye q]) (fun q=>?_) (fun s57=>?_)
 ·refine B2 [4,12,14,16] rfl (by simp) ⟨A8 4 A0 (fun bs=>?_) (hob:=fun _=>U8),A8 12 A0 (fun bs=>?_),A8 14 A0 (fun bs=>?_),A8 16 A0 (fun bs=>?_),trivial⟩
  ·refine D8 12 A0 ?_;exact A1 r6 _ _ _ (s107 q)
  ·exact A1 r6 _ _ _ (s65 q)
  ·exact A1 [0,1,2,3,4,6,5] _ _ _ (s61 (za q bs.bn))
  ·exact A1 r7 _ _ _ (s58 (zc q bs.bn))
 refine hj bd b i x 8 [0,1,2,3,5,6,7,8,9,10,11,14] (fun q=>[xa c,xb i,xc b,xg i,xd b,xh 5 q]) (fun q=>[ya c b,yd q]) (fun q=>?_) (fun s59=>?_)
 ·refine B2 [4,12,15,16] rfl (by simp) ⟨A8 4 A0 (fun bs=>?_) (hob:=fun _=>U8),A8 12 A0 (fun bs=>?_),A8 15 A0 (fun bs=>?_),A8 16 A0 (fun bs=>?_),trivial⟩
  ·refine D8 12 A0 ?_;exact A1 r6 _ _ _ (s109 q)
  ·exact A1 r6 _ _ _ (s67 q)
  ·exact A1 r7 _ _ _ (s61 (zb q bs.bn))
  ·exact A1 r7 _ _ _ (s60 (zc q bs.bn))
 refine hj bd b i x 8 [0,1,2,3,5,6,7,8,9,10,11,12] (fun q=>[xa c,xb i,xc b,xg i,xd b,xe x]) (fun q=>[ya c b]) (fun q=>?_) (fun s63=>?_)
 ·refine B2 [4,14,15,16] rfl (by simp) ⟨A8 4 A0 (fun bs=>?_) (hob:=fun _=>U8),A8 14 A0 (fun bs=>?_),A8 15 A0 (fun bs=>?_),A8 16 A0 (fun bs=>?_),trivial⟩
  ·exact A1 r5 _ _ _ (s105 q)
  ·exact A1 r6 _ _ _ (s67 (za q bs.bn))
  ·exact A1 r6 _ _ _ (s65 (zb q bs.bn))
  ·exact A1 r6 _ _ _ (s64 (zc q bs.bn))
 refine hj bd b i x 8 [0,1,2,3,4,9,10,11,12,14,15,16] (fun q=>[xa c,xb i,xd b,xe x,xf i,xh 5 q,xi 6 q,xj 7 q]) (fun q=>[ya c b,yd q,ye q,yb q]) (fun q=>?_) (fun s78=>?_)
 ·refine B2 [5,13] rfl (by simp) ⟨A8 5 A0 (fun bs=>?_),?_,trivial⟩
  ·refine C2 6 ?_;refine C0 7 A0 ?_;exact A1 r8 _ _ _ (s95 q)
  ·refine E7 [2] (fun n=>n-2) (U4 x.bk i.k q.1 (by omega)) rfl rfl trivial rfl rfl rfl rfl (by decide) rfl rfl (fun x=>rfl) (fun z _=>?_);exact A1 [0,1,2,3,4,8,5,6,7] _ _ _ (s86 (z.1,z.2.1,z.2.2,q.2.2.2))
 refine hj bd b i x 8 [0,1,2,3,4,9,10,11,12,13,15,16] (fun q=>[xa c,xb i,xd b,xe x,xf i,xk 5 q,xi 6 q,xj 7 q]) (fun q=>[ya c b,yc q i,ye q,yb q]) (fun q=>?_) (fun s82=>?_)
 ·refine B2 [5,14] rfl (by simp) ⟨A8 5 A0 (fun bs=>?_),A8 14 A0 (fun bs=>?_),trivial⟩
  ·refine C2 6 ?_;refine C0 7 A0 ?_;exact A1 r8 _ _ _ (s99 q)
  ·exact A1 [0,1,2,3,4,5,8,6,7] _ _ _ (s86 (za q bs.bn))
 refine hj bd b i x 8 [0,1,2,3,4,9,10,11,12,13,14,16] (fun q=>[xa c,xb i,xd b,xe x,xf i,xk 5 q,xh 6 q,xj 7 q]) (fun q=>[ya c b,yc q i,yd q,yb q]) (fun q=>?_) (fun s84=>?_)
 ·refine B2 [5,15] rfl (by simp) ⟨A8 5 A0 (fun bs=>?_),A8 15 A0 (fun bs=>?_),trivial⟩
  ·refine C2 6 ?_;refine C0 7 A0 ?_;exact A1 r8 _ _ _ (s101 q)
  ·exact A1 [0,1,2,3,4,5,6,8,7] _ _ _ (s86 (zb q bs.bn))
 refine hj bd b i x 8 [0,1,2,3,4,9,10,11,12,13,14,15] (fun q=>[xa c,xb i,xd b,xe x,xf i,xk 5 q,xh 6 q,xi 7 q]) (fun q=>[ya c b,yc q i,yd q,ye q]) (fun q=>?_) (fun s85=>?_)
 ·refine B2 [5,16] rfl (by simp) ⟨A8 5 A0 (fun bs=>?_),A8 16 A0 (fun bs=>?_),trivial⟩
  ·refine C2 6 ?_;refine C0 7 A0 ?_;exact A1 r8 _ _ _ (s102 q)
  ·exact A1 r9 _ _ _ (s86 (zc q bs.bn))
 refine hj bd b i x 8 [0,1,2,3,4,5,6,7,9,10,11,12] (fun q=>[xa c,xb i,xc b,xd b,xe x,xf i]) (fun q=>[ya c b]) (fun q=>?_) (fun s88=>?_)
 ·refine B2 [8,13,14,15,16] rfl (by simp) ⟨A8 8 A0 (fun bs=>?_),?_,A8 14 A0 (fun bs=>?_),A8 15 A0 (fun bs=>?_),A8 16 A0 (fun bs=>?_),trivial⟩
  ·exact A1 r5 _ _ _ (s105 q)
  ·refine E7 [2] (fun n=>n-2) (U4 x.bk i.k q.1 (by omega)) rfl rfl trivial rfl rfl rfl rfl (by decide) rfl rfl (fun x=>rfl) (fun z _=>?_);exact A1 r6 _ _ _ (s96 (z.1,z.2.1,z.2.2,q.2.2.2))
  ·exact A1 r6 _ _ _ (s92 (za q bs.bn))
  ·exact A1 r6 _ _ _ (s90 (zb q bs.bn))
  ·exact A1 r6 _ _ _ (s89 (zc q bs.bn))
 refine hj bd b i x 9 [0,1,2,3,9,10,11,12,14,15,16] (fun q=>[xa c,xb i,xd b,xe x,xh 5 q,xi 6 q,xj 7 q]) (fun q=>[ya c b,yd q,ye q,yb q]) (fun q=>?_) (fun s22=>?_)
 ·refine B2 [4,5] rfl (by simp) ⟨A8 4 A0 (fun bs=>?_) (hob:=fun _=>U8),A8 5 A0 (fun bs=>?_),trivial⟩
  ·exact A1 r8 _ _ _ (s78 q)
  ·refine C2 6 ?_;refine C0 7 A0 ?_;exact A1 r8 _ _ _ (s46 q)
 refine hj bd b i x 9 [0,1,2,3,5,6,7,9,10,11,16] (fun q=>[xa c,xb i,xc b,xd b,xj 5 q]) (fun q=>[ya c b,yb q]) (fun q=>?_) (fun s32=>?_)
 ·refine B2 [4,8,12,14,15] rfl (by simp) ⟨A8 4 A0 (fun bs=>?_) (hob:=fun _=>U8),A8 8 A0 (fun bs=>?_),A8 12 A0 (fun bs=>?_),A8 14 A0 (fun bs=>?_),A8 15 A0 (fun bs=>?_),trivial⟩
  ·refine D8 12 A0 ?_;exact A1 r6 _ _ _ (s89 q)
  ·exact A1 r6 _ _ _ (s56 q)
  ·exact A1 r6 _ _ _ (s40 q)
  ·exact A1 [0,1,2,3,4,6,5] _ _ _ (s36 (za q bs.bn))
  ·exact A1 [0,1,2,3,4,6,5] _ _ _ (s34 (zb q bs.bn))
 refine hj bd b i x 9 [0,1,2,3,5,6,7,9,10,11,15] (fun q=>[xa c,xb i,xc b,xd b,xi 5 q]) (fun q=>[ya c b,ye q]) (fun q=>?_) (fun s33=>?_)
 ·refine B2 [4,8,12,14,16] rfl (by simp) ⟨A8 4 A0 (fun bs=>?_) (hob:=fun _=>U8),A8 8 A0 (fun bs=>?_),A8 12 A0 (fun bs=>?_),A8 14 A0 (fun bs=>?_),A8 16 A0 (fun bs=>?_),trivial⟩
  ·refine D8 12 A0 ?_;exact A1 r6 _ _ _ (s90 q)
  ·exact A1 r6 _ _ _ (s57 q)
  ·exact A1 r6 _ _ _ (s41 q)
  ·exact A1 [0,1,2,3,4,6,5] _ _ _ (s37 (za q bs.bn))
  ·exact A1 r7 _ _ _ (s34 (zc q bs.bn))
 refine hj bd b i x 9 [0,1,2,3,5,6,7,9,10,11,14] (fun q=>[xa c,xb i,xc b,xd b,xh 5 q]) (fun q=>[ya c b,yd q]) (fun q=>?_) (fun s35=>?_)
 ·refine B2 [4,8,12,15,16] rfl (by simp) ⟨A8 4 A0 (fun bs=>?_) (hob:=fun _=>U8),A8 8 A0 (fun bs=>?_),A8 12 A0 (fun bs=>?_),A8 15 A0 (fun bs=>?_),A8 16 A0 (fun bs=>?_),trivial⟩
  ·refine D8 12 A0 ?_;exact A1 r6 _ _ _ (s92 q)
  ·exact A1 r6 _ _ _ (s59 q)
  ·exact A1 r6 _ _ _ (s43 q)
  ·exact A1 r7 _ _ _ (s37 (zb q bs.bn))
  ·exact A1 r7 _ _ _ (s36 (zc q bs.bn))
 refine hj bd b i x 9 [0,1,2,3,5,6,7,9,10,11,12] (fun q=>[xa c,xb i,xc b,xd b,xe x]) (fun q=>[ya c b]) (fun q=>?_) (fun s39=>?_)
 ·refine B2 [4,8,14,15,16] rfl (by simp) ⟨A8 4 A0 (fun bs=>?_) (hob:=fun _=>U8),A8 8 A0 (fun bs=>?_),A8 14 A0 (fun bs=>?_),A8 15 A0 (fun bs=>?_),A8 16 A0 (fun bs=>?_),trivial⟩
  ·exact A1 r5 _ _ _ (s88 q)
  ·exact A1 r5 _ _ _ (s63 q)
  ·exact A1 r6 _ _ _ (s43 (za q bs.bn))
  ·exact A1 r6 _ _ _ (s41 (zb q bs.bn))
  ·exact A1 r6 _ _ _ (s40 (zc q bs.bn))
 refine hj bd b i x 9 [0,1,2,3,5,6,7,8,14,15,16] (fun q=>[xa c,xb i,xc b,xg i,xh 5 q,xi 6 q,xj 7 q]) (fun q=>[ya c b,yd q,ye q,yb q]) (fun q=>?_) (fun s54=>?_)
 ·refine B2 [4,9] rfl (by simp) ⟨A8 4 A0 (fun bs=>?_) (hob:=fun _=>U8),A8 9 A0 (fun bs=>?_),trivial⟩
  ·refine D8 9 A0 ?_;refine C2 10 ?_;refine C0 11 A0 ?_;refine D8 12 A0 ?_;exact A1 r8 _ _ _ (s112 q)
  ·refine C2 10 ?_;refine C0 11 A0 ?_;exact A1 r8 _ _ _ (s62 q)
 refine hj bd b i x 9 [0,1,2,3,5,6,7,8,9,10,11] (fun q=>[xa c,xb i,xc b,xg i,xd b]) (fun q=>[ya c b]) (fun q=>?_) (fun s55=>?_)
 ·refine B2 [4,12,14,15,16] rfl (by simp) ⟨A8 4 A0 (fun bs=>?_) (hob:=fun _=>U8),A8 12 A0 (fun bs=>?_),A8 14 A0 (fun bs=>?_),A8 15 A0 (fun bs=>?_),A8 16 A0 (fun bs=>?_),trivial⟩
  ·refine D8 12 A0 ?_;exact A1 r5 _ _ _ (s105 q)
  ·exact A1 r5 _ _ _ (s63 q)
  ·exact A1 r6 _ _ _ (s59 (za q bs.bn))
  ·exact A1 r6 _ _ _ (s57 (zb q bs.bn))
  ·exact A1 r6 _ _ _ (s56 (zc q bs.bn))
 refine hj bd b i x 9 [0,1,2,3,4,9,10,11,12,15,16] (fun q=>[xa c,xb i,xd b,xe x,xf i,xi 5 q,xj 6 q]) (fun q=>[ya c b,ye q,yb q]) (fun q=>?_) (fun s74=>?_)
 ·refine B2 [5,13,14] rfl (by simp) ⟨A8 5 A0 (fun bs=>?_),?_,A8 14 A0 (fun bs=>?_),trivial⟩
  ·refine C2 6 ?_;refine C0 7 A0 ?_;exact A1 r7 _ _ _ (s91 q)
  ·refine E7 [2] (fun n=>n-2) (U4 x.bk i.k q.1 (by omega)) rfl rfl trivial rfl rfl rfl rfl (by decide) rfl rfl (fun x=>rfl) (fun z _=>?_);exact A1 [0,1,2,3,4,7,5,6] _ _ _ (s82 (z.1,z.2.1,z.2.2,q.2.2.2))
  ·exact A1 [0,1,2,3,4,7,5,6] _ _ _ (s78 (za q bs.bn))
 refine hj bd b i x 9 [0,1,2,3,4,9,10,11,12,14,16] (fun q=>[xa c,xb i,xd b,xe x,xf i,xh 5 q,xj 6 q]) (fun q=>[ya c b,yd q,yb q]) (fun q=>?_) (fun s76=>?_)
 ·refine B2 [5,13,15] rfl (by simp) ⟨A8 5 A0 (fun bs=>?_),?_,A8 15 A0 (fun bs=>?_),trivial⟩
  ·refine C2 6 ?_;refine C0 7 A0 ?_;exact A1 r7 _ _ _ (s93 q)
  ·refine E7 [2] (fun n=>n-2) (U4 x.bk i.k q.1 (by omega)) rfl rfl trivial rfl rfl rfl rfl (by decide) rfl rfl (fun x=>rfl) (fun z _=>?_);exact A1 [0,1,2,3,4,7,5,6] _ _ _ (s84 (z.1,z.2.1,z.2.2,q.2.2.2))
  ·exact A1 [0,1,2,3,4,5,7,6] _ _ _ (s78 (zb q bs.bn))
 refine hj bd b i x 9 [0,1,2,3,4,9,10,11,12,14,15] (fun q=>[xa c,xb i,xd b,xe x,xf i,xh 5 q,xi 6 q]) (fun q=>[ya c b,yd q,ye q]) (fun q=>?_) (fun s77=>?_)
 ·refine B2 [5,13,16] rfl (by simp) ⟨A8 5 A0 (fun bs=>?_),?_,A8 16 A0 (fun bs=>?_),trivial⟩
  ·refine C2 6 ?_;refine C0 7 A0 ?_;exact A1 r7 _ _ _ (s94 q)
  ·refine E7 [2] (fun n=>n-2) (U4 x.bk i.k q.1 (by omega)) rfl rfl trivial rfl rfl rfl rfl (by decide) rfl rfl (fun x=>rfl) (fun z _=>?_);exact A1 [0,1,2,3,4,7,5,6] _ _ _ (s85 (z.1,z.2.1,z.2.2,q.2.2.2))
  ·exact A1 r8 _ _ _ (s78 (zc q bs.bn))
 refine hj bd b i x 9 [0,1,2,3,4,9,10,11,12,13,16] (fun q=>[xa c,xb i,xd b,xe x,xf i,xk 5 q,xj 6 q]) (fun q=>[ya c b,yc q i,yb q]) (fun q=>?_) (fun s80=>?_)
 ·refine B2 [5,14,15] rfl (by simp) ⟨A8 5 A0 (fun bs=>?_),A8 14 A0 (fun bs=>?_),A8 15 A0 (fun bs=>?_),trivial⟩
  ·refine C2 6 ?_;refine C0 7 A0 ?_;exact A1 r7 _ _ _ (s97 q)
  ·exact A1 [0,1,2,3,4,5,7,6] _ _ _ (s84 (za q bs.bn))
  ·exact A1 [0,1,2,3,4,5,7,6] _ _ _ (s82 (zb q bs.bn))
 refine hj bd b i x 9 [0,1,2,3,4,9,10,11,12,13,15] (fun q=>[xa c,xb i,xd b,xe x,xf i,xk 5 q,xi 6 q]) (fun q=>[ya c b,yc q i,ye q]) (fun q=>?_) (fun s81=>?_)
 ·refine B2 [5,14,16] rfl (by simp) ⟨A8 5 A0 (fun bs=>?_),A8 14 A0 (fun bs=>?_),A8 16 A0 (fun bs=>?_),trivial⟩
  ·refine C2 6 ?_;refine C0 7 A0 ?_;exact A1 r7 _ _ _ (s98 q)
  ·exact A1 [0,1,2,3,4,5,7,6] _ _ _ (s85 (za q bs.bn))
  ·exact A1 r8 _ _ _ (s82 (zc q bs.bn))
 refine hj bd b i x 9 [0,1,2,3,4,9,10,11,12,13,14] (fun q=>[xa c,xb i,xd b,xe x,xf i,xk 5 q,xh 6 q]) (fun q=>[ya c b,yc q i,yd q]) (fun q=>?_) (fun s83=>?_)
 ·refine B2 [5,15,16] rfl (by simp) ⟨A8 5 A0 (fun bs=>?_),A8 15 A0 (fun bs=>?_),A8 16 A0 (fun bs=>?_),trivial⟩
  ·refine C2 6 ?_;refine C0 7 A0 ?_;exact A1 r7 _ _ _ (s100 q)
  ·exact A1 r8 _ _ _ (s85 (zb q bs.bn))
  ·exact A1 r8 _ _ _ (s84 (zc q bs.bn))
 refine hj bd b i x 10 [0,1,2,3,9,10,11,14,15,16] (fun q=>[xa c,xb i,xd b,xh 5 q,xi 6 q,xj 7 q]) (fun q=>[ya c b,yd q,ye q,yb q]) (fun q=>?_) (fun s14=>?_)
 ·refine B2 [4,5,12] rfl (by simp) ⟨A8 4 A0 (fun bs=>?_) (hob:=fun _=>U8),A8 5 A0 (fun bs=>?_),A8 12 A0 (fun bs=>?_),trivial⟩
  ·refine D8 12 A0 ?_;exact A1 r8 _ _ _ (s78 q)
  ·refine C2 6 ?_;refine C0 7 A0 ?_;exact A1 r8 _ _ _ (s38 q)
  ·exact A1 r8 _ _ _ (s22 q)
 refine hj bd b i x 10 [0,1,2,3,9,10,11,12,15,16] (fun q=>[xa c,xb i,xd b,xe x,xi 5 q,xj 6 q]) (fun q=>[ya c b,ye q,yb q]) (fun q=>?_) (fun s18=>?_)
 ·refine B2 [4,5,14] rfl (by simp) ⟨A8 4 A0 (fun bs=>?_) (hob:=fun _=>U8),A8 5 A0 (fun bs=>?_),A8 14 A0 (fun bs=>?_),trivial⟩
  ·exact A1 r7 _ _ _ (s74 q)
  ·refine C2 6 ?_;refine C0 7 A0 ?_;exact A1 r7 _ _ _ (s42 q)
  ·exact A1 [0,1,2,3,4,7,5,6] _ _ _ (s22 (za q bs.bn))
 refine hj bd b i x 10 [0,1,2,3,9,10,11,12,14,16] (fun q=>[xa c,xb i,xd b,xe x,xh 5 q,xj 6 q]) (fun q=>[ya c b,yd q,yb q]) (fun q=>?_) (fun s20=>?_)
 ·refine B2 [4,5,15] rfl (by simp) ⟨A8 4 A0 (fun bs=>?_) (hob:=fun _=>U8),A8 5 A0 (fun bs=>?_),A8 15 A0 (fun bs=>?_),trivial⟩
  ·exact A1 r7 _ _ _ (s76 q)
  ·refine C2 6 ?_;refine C0 7 A0 ?_;exact A1 r7 _ _ _ (s44 q)
  ·exact A1 [0,1,2,3,4,5,7,6] _ _ _ (s22 (zb q bs.bn))
 refine hj bd b i x 10 [0,1,2,3,9,10,11,12,14,15] (fun q=>[xa c,xb i,xd b,xe x,xh 5 q,xi 6 q]) (fun q=>[ya c b,yd q,ye q]) (fun q=>?_) (fun s21=>?_)
 ·refine B2 [4,5,16] rfl (by simp) ⟨A8 4 A0 (fun bs=>?_) (hob:=fun _=>U8),A8 5 A0 (fun bs=>?_),A8 16 A0 (fun bs=>?_),trivial⟩
  ·exact A1 r7 _ _ _ (s77 q)
  ·refine C2 6 ?_;refine C0 7 A0 ?_;exact A1 r7 _ _ _ (s45 q)
  ·exact A1 r8 _ _ _ (s22 (zc q bs.bn))
 refine hj bd b i x 10 [0,1,2,3,5,6,7,14,15,16] (fun q=>[xa c,xb i,xc b,xh 5 q,xi 6 q,xj 7 q]) (fun q=>[ya c b,yd q,ye q,yb q]) (fun q=>?_) (fun s30=>?_)
 ·refine B2 [4,8,9] rfl (by simp) ⟨A8 4 A0 (fun bs=>?_) (hob:=fun _=>U8),A8 8 A0 (fun bs=>?_),A8 9 A0 (fun bs=>?_),trivial⟩
  ·refine D8 9 A0 ?_;refine C2 10 ?_;refine C0 11 A0 ?_;refine D8 12 A0 ?_;exact A1 r8 _ _ _ (s95 q)
  ·exact A1 r8 _ _ _ (s54 q)
  ·refine C2 10 ?_;refine C0 11 A0 ?_;exact A1 r8 _ _ _ (s38 q)
 refine hj bd b i x 10 [0,1,2,3,5,6,7,9,10,11] (fun q=>[xa c,xb i,xc b,xd b]) (fun q=>[ya c b]) (fun q=>?_) (fun s31=>?_)
 ·refine B2 [4,8,12,14,15,16] rfl (by simp) ⟨A8 4 A0 (fun bs=>?_) (hob:=fun _=>U8),A8 8 A0 (fun bs=>?_),A8 12 A0 (fun bs=>?_),A8 14 A0 (fun bs=>?_),A8 15 A0 (fun bs=>?_),A8 16 A0 (fun bs=>?_),trivial⟩
  ·refine D8 12 A0 ?_;exact A1 r5 _ _ _ (s88 q)
  ·exact A1 r5 _ _ _ (s55 q)
  ·exact A1 r5 _ _ _ (s39 q)
  ·exact A1 r6 _ _ _ (s35 (za q bs.bn))
  ·exact A1 r6 _ _ _ (s33 (zb q bs.bn))
  ·exact A1 r6 _ _ _ (s32 (zc q bs.bn))
 refine hj bd b i x 10 [0,1,2,3,5,6,7,8,15,16] (fun q=>[xa c,xb i,xc b,xg i,xi 5 q,xj 6 q]) (fun q=>[ya c b,ye q,yb q]) (fun q=>?_) (fun s50=>?_)
 ·refine B2 [4,9,14] rfl (by simp) ⟨A8 4 A0 (fun bs=>?_) (hob:=fun _=>U8),A8 9 A0 (fun bs=>?_),A8 14 A0 (fun bs=>?_),trivial⟩
  ·refine D8 9 A0 ?_;refine C2 10 ?_;refine C0 11 A0 ?_;refine D8 12 A0 ?_;exact A1 r7 _ _ _ (s108 q)
  ·refine C2 10 ?_;refine C0 11 A0 ?_;exact A1 r7 _ _ _ (s58 q)
  ·exact A1 [0,1,2,3,4,7,5,6] _ _ _ (s54 (za q bs.bn))
 refine hj bd b i x 10 [0,1,2,3,5,6,7,8,14,16] (fun q=>[xa c,xb i,xc b,xg i,xh 5 q,xj 6 q]) (fun q=>[ya c b,yd q,yb q]) (fun q=>?_) (fun s52=>?_)
 ·refine B2 [4,9,15] rfl (by simp) ⟨A8 4 A0 (fun bs=>?_) (hob:=fun _=>U8),A8 9 A0 (fun bs=>?_),A8 15 A0 (fun bs=>?_),trivial⟩
  ·refine D8 9 A0 ?_;refine C2 10 ?_;refine C0 11 A0 ?_;refine D8 12 A0 ?_;exact A1 r7 _ _ _ (s110 q)
  ·refine C2 10 ?_;refine C0 11 A0 ?_;exact A1 r7 _ _ _ (s60 q)
  ·exact A1 [0,1,2,3,4,5,7,6] _ _ _ (s54 (zb q bs.bn))
 refine hj bd b i x 10 [0,1,2,3,5,6,7,8,14,15] (fun q=>[xa c,xb i,xc b,xg i,xh 5 q,xi 6 q]) (fun q=>[ya c b,yd q,ye q]) (fun q=>?_) (fun s53=>?_)
 ·refine B2 [4,9,16] rfl (by simp) ⟨A8 4 A0 (fun bs=>?_) (hob:=fun _=>U8),A8 9 A0 (fun bs=>?_),A8 16 A0 (fun bs=>?_),trivial⟩
  ·refine D8 9 A0 ?_;refine C2 10 ?_;refine C0 11 A0 ?_;refine D8 12 A0 ?_;exact A1 r7 _ _ _ (s111 q)
  ·refine C2 10 ?_;refine C0 11 A0 ?_;exact A1 r7 _ _ _ (s61 q)
  ·exact A1 r8 _ _ _ (s54 (zc q bs.bn))
 refine hj bd b i x 10 [0,1,2,3,4,9,10,11,12,16] (fun q=>[xa c,xb i,xd b,xe x,xf i,xj 5 q]) (fun q=>[ya c b,yb q]) (fun q=>?_) (fun s72=>?_)
 ·refine B2 [5,13,14,15] rfl (by simp) ⟨A8 5 A0 (fun bs=>?_),?_,A8 14 A0 (fun bs=>?_),A8 15 A0 (fun bs=>?_),trivial⟩
  ·refine C2 6 ?_;refine C0 7 A0 ?_;exact A1 r6 _ _ _ (s89 q)
  ·refine E7 [2] (fun n=>n-2) (U4 x.bk i.k q.1 (by omega)) rfl rfl trivial rfl rfl rfl rfl (by decide) rfl rfl (fun x=>rfl) (fun z _=>?_);exact A1 [0,1,2,3,4,6,5] _ _ _ (s80 (z.1,z.2.1,z.2.2,q.2.2.2))
  ·exact A1 [0,1,2,3,4,6,5] _ _ _ (s76 (za q bs.bn))
  ·exact A1 [0,1,2,3,4,6,5] _ _ _ (s74 (zb q bs.bn))
 refine hj bd b i x 10 [0,1,2,3,4,9,10,11,12,15] (fun q=>[xa c,xb i,xd b,xe x,xf i,xi 5 q]) (fun q=>[ya c b,ye q]) (fun q=>?_) (fun s73=>?_)
 ·refine B2 [5,13,14,16] rfl (by simp) ⟨A8 5 A0 (fun bs=>?_),?_,A8 14 A0 (fun bs=>?_),A8 16 A0 (fun bs=>?_),trivial⟩
  ·refine C2 6 ?_;refine C0 7 A0 ?_;exact A1 r6 _ _ _ (s90 q)
  ·refine E7 [2] (fun n=>n-2) (U4 x.bk i.k q.1 (by omega)) rfl rfl trivial rfl rfl rfl rfl (by decide) rfl rfl (fun x=>rfl) (fun z _=>?_);exact A1 [0,1,2,3,4,6,5] _ _ _ (s81 (z.1,z.2.1,z.2.2,q.2.2.2))
  ·exact A1 [0,1,2,3,4,6,5] _ _ _ (s77 (za q bs.bn))
  ·exact A1 r7 _ _ _ (s74 (zc q bs.bn))
 refine hj bd b i x 10 [0,1,2,3,4,9,10,11,12,14] (fun q=>[xa c,xb i,xd b,xe x,xf i,xh 5 q]) (fun q=>[ya c b,yd q]) (fun q=>?_) (fun s75=>?_)
 ·refine B2 [5,13,15,16] rfl (by simp) ⟨A8 5 A0 (fun bs=>?_),?_,A8 15 A0 (fun bs=>?_),A8 16 A0 (fun bs=>?_),trivial⟩
  ·refine C2 6 ?_;refine C0 7 A0 ?_;exact A1 r6 _ _ _ (s92 q)
  ·refine E7 [2] (fun n=>n-2) (U4 x.bk i.k q.1 (by omega)) rfl rfl trivial rfl rfl rfl rfl (by decide) rfl rfl (fun x=>rfl) (fun z _=>?_);exact A1 [0,1,2,3,4,6,5] _ _ _ (s83 (z.1,z.2.1,z.2.2,q.2.2.2))
  ·exact A1 r7 _ _ _ (s77 (zb q bs.bn))
  ·exact A1 r7 _ _ _ (s76 (zc q bs.bn))
 refine hj bd b i x 10 [0,1,2,3,4,9,10,11,12,13] (fun q=>[xa c,xb i,xd b,xe x,xf i,xk 5 q]) (fun q=>[ya c b,yc q i]) (fun q=>?_) (fun s79=>?_)
 ·refine B2 [5,14,15,16] rfl (by simp) ⟨A8 5 A0 (fun bs=>?_),A8 14 A0 (fun bs=>?_),A8 15 A0 (fun bs=>?_),A8 16 A0 (fun bs=>?_),trivial⟩
  ·refine C2 6 ?_;refine C0 7 A0 ?_;exact A1 r6 _ _ _ (s96 q)
  ·exact A1 r7 _ _ _ (s83 (za q bs.bn))
  ·exact A1 r7 _ _ _ (s81 (zb q bs.bn))
  ·exact A1 r7 _ _ _ (s80 (zc q bs.bn))
 refine hj bd b i x 11 [0,1,2,3,9,10,11,15,16] (fun q=>[xa c,xb i,xd b,xi 5 q,xj 6 q]) (fun q=>[ya c b,ye q,yb q]) (fun q=>?_) (fun s10=>?_)
 ·refine B2 [4,5,12,14] rfl (by simp) ⟨A8 4 A0 (fun bs=>?_) (hob:=fun _=>U8),A8 5 A0 (fun bs=>?_),A8 12 A0 (fun bs=>?_),A8 14 A0 (fun bs=>?_),trivial⟩
  ·refine D8 12 A0 ?_;exact A1 r7 _ _ _ (s74 q)
  ·refine C2 6 ?_;refine C0 7 A0 ?_;exact A1 r7 _ _ _ (s34 q)
  ·exact A1 r7 _ _ _ (s18 q)
  ·exact A1 [0,1,2,3,4,7,5,6] _ _ _ (s14 (za q bs.bn))
 refine hj bd b i x 11 [0,1,2,3,9,10,11,14,16] (fun q=>[xa c,xb i,xd b,xh 5 q,xj 6 q]) (fun q=>[ya c b,yd q,yb q]) (fun q=>?_) (fun s12=>?_)
 ·refine B2 [4,5,12,15] rfl (by simp) ⟨A8 4 A0 (fun bs=>?_) (hob:=fun _=>U8),A8 5 A0 (fun bs=>?_),A8 12 A0 (fun bs=>?_),A8 15 A0 (fun bs=>?_),trivial⟩
  ·refine D8 12 A0 ?_;exact A1 r7 _ _ _ (s76 q)
  ·refine C2 6 ?_;refine C0 7 A0 ?_;exact A1 r7 _ _ _ (s36 q)
  ·exact A1 r7 _ _ _ (s20 q)
  ·exact A1 [0,1,2,3,4,5,7,6] _ _ _ (s14 (zb q bs.bn))
 refine hj bd b i x 11 [0,1,2,3,9,10,11,14,15] (fun q=>[xa c,xb i,xd b,xh 5 q,xi 6 q]) (fun q=>[ya c b,yd q,ye q]) (fun q=>?_) (fun s13=>?_)
 ·refine B2 [4,5,12,16] rfl (by simp) ⟨A8 4 A0 (fun bs=>?_) (hob:=fun _=>U8),A8 5 A0 (fun bs=>?_),A8 12 A0 (fun bs=>?_),A8 16 A0 (fun bs=>?_),trivial⟩
  ·refine D8 12 A0 ?_;exact A1 r7 _ _ _ (s77 q)
  ·refine C2 6 ?_;refine C0 7 A0 ?_;exact A1 r7 _ _ _ (s37 q)
  ·exact A1 r7 _ _ _ (s21 q)
  ·exact A1 r8 _ _ _ (s14 (zc q bs.bn))
 refine hj bd b i x 11 [0,1,2,3,9,10,11,12,16] (fun q=>[xa c,xb i,xd b,xe x,xj 5 q]) (fun q=>[ya c b,yb q]) (fun q=>?_) (fun s16=>?_)
 ·refine B2 [4,5,14,15] rfl (by simp) ⟨A8 4 A0 (fun bs=>?_) (hob:=fun _=>U8),A8 5 A0 (fun bs=>?_),A8 14 A0 (fun bs=>?_),A8 15 A0 (fun bs=>?_),trivial⟩
  ·exact A1 r6 _ _ _ (s72 q)
  ·refine C2 6 ?_;refine C0 7 A0 ?_;exact A1 r6 _ _ _ (s40 q)
  ·exact A1 [0,1,2,3,4,6,5] _ _ _ (s20 (za q bs.bn))
  ·exact A1 [0,1,2,3,4,6,5] _ _ _ (s18 (zb q bs.bn))
 refine hj bd b i x 11 [0,1,2,3,9,10,11,12,15] (fun q=>[xa c,xb i,xd b,xe x,xi 5 q]) (fun q=>[ya c b,ye q]) (fun q=>?_) (fun s17=>?_)
 ·refine B2 [4,5,14,16] rfl (by simp) ⟨A8 4 A0 (fun bs=>?_) (hob:=fun _=>U8),A8 5 A0 (fun bs=>?_),A8 14 A0 (fun bs=>?_),A8 16 A0 (fun bs=>?_),trivial⟩
  ·exact A1 r6 _ _ _ (s73 q)
  ·refine C2 6 ?_;refine C0 7 A0 ?_;exact A1 r6 _ _ _ (s41 q)
  ·exact A1 [0,1,2,3,4,6,5] _ _ _ (s21 (za q bs.bn))
  ·exact A1 r7 _ _ _ (s18 (zc q bs.bn))
 refine hj bd b i x 11 [0,1,2,3,9,10,11,12,14] (fun q=>[xa c,xb i,xd b,xe x,xh 5 q]) (fun q=>[ya c b,yd q]) (fun q=>?_) (fun s19=>?_)
 ·refine B2 [4,5,15,16] rfl (by simp) ⟨A8 4 A0 (fun bs=>?_) (hob:=fun _=>U8),A8 5 A0 (fun bs=>?_),A8 15 A0 (fun bs=>?_),A8 16 A0 (fun bs=>?_),trivial⟩
  ·exact A1 r6 _ _ _ (s75 q)
  ·refine C2 6 ?_;refine C0 7 A0 ?_;exact A1 r6 _ _ _ (s43 q)
  ·exact A1 r7 _ _ _ (s21 (zb q bs.bn))
  ·exact A1 r7 _ _ _ (s20 (zc q bs.bn))
 refine hj bd b i x 11 [0,1,2,3,5,6,7,15,16] (fun q=>[xa c,xb i,xc b,xi 5 q,xj 6 q]) (fun q=>[ya c b,ye q,yb q]) (fun q=>?_) (fun s26=>?_)
 ·refine B2 [4,8,9,14] rfl (by simp) ⟨A8 4 A0 (fun bs=>?_) (hob:=fun _=>U8),A8 8 A0 (fun bs=>?_),A8 9 A0 (fun bs=>?_),A8 14 A0 (fun bs=>?_),trivial⟩
  ·refine D8 9 A0 ?_;refine C2 10 ?_;refine C0 11 A0 ?_;refine D8 12 A0 ?_;exact A1 r7 _ _ _ (s91 q)
  ·exact A1 r7 _ _ _ (s50 q)
  ·refine C2 10 ?_;refine C0 11 A0 ?_;exact A1 r7 _ _ _ (s34 q)
  ·exact A1 [0,1,2,3,4,7,5,6] _ _ _ (s30 (za q bs.bn))
 refine hj bd b i x 11 [0,1,2,3,5,6,7,14,16] (fun q=>[xa c,xb i,xc b,xh 5 q,xj 6 q]) (fun q=>[ya c b,yd q,yb q]) (fun q=>?_) (fun s28=>?_)
 ·refine B2 [4,8,9,15] rfl (by simp) ⟨A8 4 A0 (fun bs=>?_) (hob:=fun _=>U8),A8 8 A0 (fun bs=>?_),A8 9 A0 (fun bs=>?_),A8 15 A0 (fun bs=>?_),trivial⟩
  ·refine D8 9 A0 ?_;refine C2 10 ?_;refine C0 11 A0 ?_;refine D8 12 A0 ?_;exact A1 r7 _ _ _ (s93 q)
  ·exact A1 r7 _ _ _ (s52 q)
  ·refine C2 10 ?_;refine C0 11 A0 ?_;exact A1 r7 _ _ _ (s36 q)
  ·exact A1 [0,1,2,3,4,5,7,6] _ _ _ (s30 (zb q bs.bn))
 refine hj bd b i x 11 [0,1,2,3,5,6,7,14,15] (fun q=>[xa c,xb i,xc b,xh 5 q,xi 6 q]) (fun q=>[ya c b,yd q,ye q]) (fun q=>?_) (fun s29=>?_)
 ·refine B2 [4,8,9,16] rfl (by simp) ⟨A8 4 A0 (fun bs=>?_) (hob:=fun _=>U8),A8 8 A0 (fun bs=>?_),A8 9 A0 (fun bs=>?_),A8 16 A0 (fun bs=>?_),trivial⟩
  ·refine D8 9 A0 ?_;refine C2 10 ?_;refine C0 11 A0 ?_;refine D8 12 A0 ?_;exact A1 r7 _ _ _ (s94 q)
  ·exact A1 r7 _ _ _ (s53 q)
  ·refine C2 10 ?_;refine C0 11 A0 ?_;exact A1 r7 _ _ _ (s37 q)
  ·exact A1 r8 _ _ _ (s30 (zc q bs.bn))
 refine hj bd b i x 11 [0,1,2,3,5,6,7,8,16] (fun q=>[xa c,xb i,xc b,xg i,xj 5 q]) (fun q=>[ya c b,yb q]) (fun q=>?_) (fun s48=>?_)
 ·refine B2 [4,9,14,15] rfl (by simp) ⟨A8 4 A0 (fun bs=>?_) (hob:=fun _=>U8),A8 9 A0 (fun bs=>?_),A8 14 A0 (fun bs=>?_),A8 15 A0 (fun bs=>?_),trivial⟩
  ·refine D8 9 A0 ?_;refine C2 10 ?_;refine C0 11 A0 ?_;refine D8 12 A0 ?_;exact A1 r6 _ _ _ (s106 q)
  ·refine C2 10 ?_;refine C0 11 A0 ?_;exact A1 r6 _ _ _ (s56 q)
  ·exact A1 [0,1,2,3,4,6,5] _ _ _ (s52 (za q bs.bn))
  ·exact A1 [0,1,2,3,4,6,5] _ _ _ (s50 (zb q bs.bn))
 refine hj bd b i x 11 [0,1,2,3,5,6,7,8,15] (fun q=>[xa c,xb i,xc b,xg i,xi 5 q]) (fun q=>[ya c b,ye q]) (fun q=>?_) (fun s49=>?_)
 ·refine B2 [4,9,14,16] rfl (by simp) ⟨A8 4 A0 (fun bs=>?_) (hob:=fun _=>U8),A8 9 A0 (fun bs=>?_),A8 14 A0 (fun bs=>?_),A8 16 A0 (fun bs=>?_),trivial⟩
  ·refine D8 9 A0 ?_;refine C2 10 ?_;refine C0 11 A0 ?_;refine D8 12 A0 ?_;exact A1 r6 _ _ _ (s107 q)
  ·refine C2 10 ?_;refine C0 11 A0 ?_;exact A1 r6 _ _ _ (s57 q)
  ·exact A1 [0,1,2,3,4,6,5] _ _ _ (s53 (za q bs.bn))
  ·exact A1 r7 _ _ _ (s50 (zc q bs.bn))
 refine hj bd b i x 11 [0,1,2,3,5,6,7,8,14] (fun q=>[xa c,xb i,xc b,xg i,xh 5 q]) (fun q=>[ya c b,yd q]) (fun q=>?_) (fun s51=>?_)
 ·refine B2 [4,9,15,16] rfl (by simp) ⟨A8 4 A0 (fun bs=>?_) (hob:=fun _=>U8),A8 9 A0 (fun bs=>?_),A8 15 A0 (fun bs=>?_),A8 16 A0 (fun bs=>?_),trivial⟩
  ·refine D8 9 A0 ?_;refine C2 10 ?_;refine C0 11 A0 ?_;refine D8 12 A0 ?_;exact A1 r6 _ _ _ (s109 q)
  ·refine C2 10 ?_;refine C0 11 A0 ?_;exact A1 r6 _ _ _ (s59 q)
  ·exact A1 r7 _ _ _ (s53 (zb q bs.bn))
  ·exact A1 r7 _ _ _ (s52 (zc q bs.bn))
 refine hj bd b i x 11 [0,1,2,3,4,9,10,11,12] (fun q=>[xa c,xb i,xd b,xe x,xf i]) (fun q=>[ya c b]) (fun q=>?_) (fun s71=>?_)
 ·refine B2 [5,13,14,15,16] rfl (by simp) ⟨A8 5 A0 (fun bs=>?_),?_,A8 14 A0 (fun bs=>?_),A8 15 A0 (fun bs=>?_),A8 16 A0 (fun bs=>?_),trivial⟩
  ·refine C2 6 ?_;refine C0 7 A0 ?_;exact A1 r5 _ _ _ (s88 q)
  ·refine E7 [2] (fun n=>n-2) (U4 x.bk i.k q.1 (by omega)) rfl rfl trivial rfl rfl rfl rfl (by decide) rfl rfl (fun x=>rfl) (fun z _=>?_);exact A1 r6 _ _ _ (s79 (z.1,z.2.1,z.2.2,q.2.2.2))
  ·exact A1 r6 _ _ _ (s75 (za q bs.bn))
  ·exact A1 r6 _ _ _ (s73 (zb q bs.bn))
  ·exact A1 r6 _ _ _ (s72 (zc q bs.bn))
 refine hj bd b i x 12 [0,1,2,3,9,10,11,16] (fun q=>[xa c,xb i,xd b,xj 5 q]) (fun q=>[ya c b,yb q]) (fun q=>?_) (fun s8=>?_)
 ·refine B2 [4,5,12,14,15] rfl (by simp) ⟨A8 4 A0 (fun bs=>?_) (hob:=fun _=>U8),A8 5 A0 (fun bs=>?_),A8 12 A0 (fun bs=>?_),A8 14 A0 (fun bs=>?_),A8 15 A0 (fun bs=>?_),trivial⟩
  ·refine D8 12 A0 ?_;exact A1 r6 _ _ _ (s72 q)
  ·refine C2 6 ?_;refine C0 7 A0 ?_;exact A1 r6 _ _ _ (s32 q)
  ·exact A1 r6 _ _ _ (s16 q)
  ·exact A1 [0,1,2,3,4,6,5] _ _ _ (s12 (za q bs.bn))
  ·exact A1 [0,1,2,3,4,6,5] _ _ _ (s10 (zb q bs.bn))
 refine hj bd b i x 12 [0,1,2,3,9,10,11,15] (fun q=>[xa c,xb i,xd b,xi 5 q]) (fun q=>[ya c b,ye q]) (fun q=>?_) (fun s9=>?_)
 ·refine B2 [4,5,12,14,16] rfl (by simp) ⟨A8 4 A0 (fun bs=>?_) (hob:=fun _=>U8),A8 5 A0 (fun bs=>?_),A8 12 A0 (fun bs=>?_),A8 14 A0 (fun bs=>?_),A8 16 A0 (fun bs=>?_),trivial⟩
  ·refine D8 12 A0 ?_;exact A1 r6 _ _ _ (s73 q)
  ·refine C2 6 ?_;refine C0 7 A0 ?_;exact A1 r6 _ _ _ (s33 q)
  ·exact A1 r6 _ _ _ (s17 q)
  ·exact A1 [0,1,2,3,4,6,5] _ _ _ (s13 (za q bs.bn))
  ·exact A1 r7 _ _ _ (s10 (zc q bs.bn))
 refine hj bd b i x 12 [0,1,2,3,9,10,11,14] (fun q=>[xa c,xb i,xd b,xh 5 q]) (fun q=>[ya c b,yd q]) (fun q=>?_) (fun s11=>?_)
 ·refine B2 [4,5,12,15,16] rfl (by simp) ⟨A8 4 A0 (fun bs=>?_) (hob:=fun _=>U8),A8 5 A0 (fun bs=>?_),A8 12 A0 (fun bs=>?_),A8 15 A0 (fun bs=>?_),A8 16 A0 (fun bs=>?_),trivial⟩
  ·refine D8 12 A0 ?_;exact A1 r6 _ _ _ (s75 q)
  ·refine C2 6 ?_;refine C0 7 A0 ?_;exact A1 r6 _ _ _ (s35 q)
  ·exact A1 r6 _ _ _ (s19 q)
  ·exact A1 r7 _ _ _ (s13 (zb q bs.bn))
  ·exact A1 r7 _ _ _ (s12 (zc q bs.bn))
 refine hj bd b i x 12 [0,1,2,3,9,10,11,12] (fun q=>[xa c,xb i,xd b,xe x]) (fun q=>[ya c b]) (fun q=>?_) (fun s15=>?_)
 ·refine B2 [4,5,14,15,16] rfl (by simp) ⟨A8 4 A0 (fun bs=>?_) (hob:=fun _=>U8),A8 5 A0 (fun bs=>?_),A8 14 A0 (fun bs=>?_),A8 15 A0 (fun bs=>?_),A8 16 A0 (fun bs=>?_),trivial⟩
  ·exact A1 r5 _ _ _ (s71 q)
  ·refine C2 6 ?_;refine C0 7 A0 ?_;exact A1 r5 _ _ _ (s39 q)
  ·exact A1 r6 _ _ _ (s19 (za q bs.bn))
  ·exact A1 r6 _ _ _ (s17 (zb q bs.bn))
  ·exact A1 r6 _ _ _ (s16 (zc q bs.bn))
 refine hj bd b i x 12 [0,1,2,3,5,6,7,16] (fun q=>[xa c,xb i,xc b,xj 5 q]) (fun q=>[ya c b,yb q]) (fun q=>?_) (fun s24=>?_)
 ·refine B2 [4,8,9,14,15] rfl (by simp) ⟨A8 4 A0 (fun bs=>?_) (hob:=fun _=>U8),A8 8 A0 (fun bs=>?_),A8 9 A0 (fun bs=>?_),A8 14 A0 (fun bs=>?_),A8 15 A0 (fun bs=>?_),trivial⟩
  ·refine D8 9 A0 ?_;refine C2 10 ?_;refine C0 11 A0 ?_;refine D8 12 A0 ?_;exact A1 r6 _ _ _ (s89 q)
  ·exact A1 r6 _ _ _ (s48 q)
  ·refine C2 10 ?_;refine C0 11 A0 ?_;exact A1 r6 _ _ _ (s32 q)
  ·exact A1 [0,1,2,3,4,6,5] _ _ _ (s28 (za q bs.bn))
  ·exact A1 [0,1,2,3,4,6,5] _ _ _ (s26 (zb q bs.bn))
 refine hj bd b i x 12 [0,1,2,3,5,6,7,15] (fun q=>[xa c,xb i,xc b,xi 5 q]) (fun q=>[ya c b,ye q]) (fun q=>?_) (fun s25=>?_)
 ·refine B2 [4,8,9,14,16] rfl (by simp) ⟨A8 4 A0 (fun bs=>?_) (hob:=fun _=>U8),A8 8 A0 (fun bs=>?_),A8 9 A0 (fun bs=>?_),A8 14 A0 (fun bs=>?_),A8 16 A0 (fun bs=>?_),trivial⟩
  ·refine D8 9 A0 ?_;refine C2 10 ?_;refine C0 11 A0 ?_;refine D8 12 A0 ?_;exact A1 r6 _ _ _ (s90 q)
  ·exact A1 r6 _ _ _ (s49 q)
  ·refine C2 10 ?_;refine C0 11 A0 ?_;exact A1 r6 _ _ _ (s33 q)
  ·exact A1 [0,1,2,3,4,6,5] _ _ _ (s29 (za q bs.bn))
  ·exact A1 r7 _ _ _ (s26 (zc q bs.bn))
 refine hj bd b i x 12 [0,1,2,3,5,6,7,14] (fun q=>[xa c,xb i,xc b,xh 5 q]) (fun q=>[ya c b,yd q]) (fun q=>?_) (fun s27=>?_)
 ·refine B2 [4,8,9,15,16] rfl (by simp) ⟨A8 4 A0 (fun bs=>?_) (hob:=fun _=>U8),A8 8 A0 (fun bs=>?_),A8 9 A0 (fun bs=>?_),A8 15 A0 (fun bs=>?_),A8 16 A0 (fun bs=>?_),trivial⟩
  ·refine D8 9 A0 ?_;refine C2 10 ?_;refine C0 11 A0 ?_;refine D8 12 A0 ?_;exact A1 r6 _ _ _ (s92 q)
  ·exact A1 r6 _ _ _ (s51 q)
  ·refine C2 10 ?_;refine C0 11 A0 ?_;exact A1 r6 _ _ _ (s35 q)
  ·exact A1 r7 _ _ _ (s29 (zb q bs.bn))
  ·exact A1 r7 _ _ _ (s28 (zc q bs.bn))
 refine hj bd b i x 12 [0,1,2,3,5,6,7,8] (fun q=>[xa c,xb i,xc b,xg i]) (fun q=>[ya c b]) (fun q=>?_) (fun s47=>?_)
 ·refine B2 [4,9,14,15,16] rfl (by simp) ⟨A8 4 A0 (fun bs=>?_) (hob:=fun _=>U8),A8 9 A0 (fun bs=>?_),A8 14 A0 (fun bs=>?_),A8 15 A0 (fun bs=>?_),A8 16 A0 (fun bs=>?_),trivial⟩
  ·refine D8 9 A0 ?_;refine C2 10 ?_;refine C0 11 A0 ?_;refine D8 12 A0 ?_;exact A1 r5 _ _ _ (s105 q)
  ·refine C2 10 ?_;refine C0 11 A0 ?_;exact A1 r5 _ _ _ (s55 q)
  ·exact A1 r6 _ _ _ (s51 (za q bs.bn))
  ·exact A1 r6 _ _ _ (s49 (zb q bs.bn))
  ·exact A1 r6 _ _ _ (s48 (zc q bs.bn))
 refine hj bd b i x 13 [0,1,2,3,14,15,16] (fun q=>[xa c,xb i,xh 5 q,xi 6 q,xj 7 q]) (fun q=>[ya c b,yd q,ye q,yb q]) (fun q=>?_) (fun s6=>?_)
 ·refine B2 [4,5,9] rfl (by simp) ⟨A8 4 A0 (fun bs=>?_) (hob:=fun _=>U8),A8 5 A0 (fun bs=>?_),A8 9 A0 (fun bs=>?_),trivial⟩
  ·refine D8 9 A0 ?_;refine C2 10 ?_;refine C0 11 A0 ?_;refine D8 12 A0 ?_;exact A1 r8 _ _ _ (s78 q)
  ·refine C2 6 ?_;refine C0 7 A0 ?_;exact A1 r8 _ _ _ (s30 q)
  ·refine C2 10 ?_;refine C0 11 A0 ?_;exact A1 r8 _ _ _ (s14 q)
 refine hj bd b i x 13 [0,1,2,3,9,10,11] (fun q=>[xa c,xb i,xd b]) (fun q=>[ya c b]) (fun q=>?_) (fun s7=>?_)
 ·refine B2 [4,5,12,14,15,16] rfl (by simp) ⟨A8 4 A0 (fun bs=>?_) (hob:=fun _=>U8),A8 5 A0 (fun bs=>?_),A8 12 A0 (fun bs=>?_),A8 14 A0 (fun bs=>?_),A8 15 A0 (fun bs=>?_),A8 16 A0 (fun bs=>?_),trivial⟩
  ·refine D8 12 A0 ?_;exact A1 r5 _ _ _ (s71 q)
  ·refine C2 6 ?_;refine C0 7 A0 ?_;exact A1 r5 _ _ _ (s31 q)
  ·exact A1 r5 _ _ _ (s15 q)
  ·exact A1 r6 _ _ _ (s11 (za q bs.bn))
  ·exact A1 r6 _ _ _ (s9 (zb q bs.bn))
  ·exact A1 r6 _ _ _ (s8 (zc q bs.bn))
 refine hj bd b i x 13 [0,1,2,3,5,6,7] (fun q=>[xa c,xb i,xc b]) (fun q=>[ya c b]) (fun q=>?_) (fun s23=>?_)
 ·refine B2 [4,8,9,14,15,16] rfl (by simp) ⟨A8 4 A0 (fun bs=>?_) (hob:=fun _=>U8),A8 8 A0 (fun bs=>?_),A8 9 A0 (fun bs=>?_),A8 14 A0 (fun bs=>?_),A8 15 A0 (fun bs=>?_),A8 16 A0 (fun bs=>?_),trivial⟩
  ·refine D8 9 A0 ?_;refine C2 10 ?_;refine C0 11 A0 ?_;refine D8 12 A0 ?_;exact A1 r5 _ _ _ (s88 q)
  ·exact A1 r5 _ _ _ (s47 q)
  ·refine C2 10 ?_;refine C0 11 A0 ?_;exact A1 r5 _ _ _ (s31 q)
  ·exact A1 r6 _ _ _ (s27 (za q bs.bn))
  ·exact A1 r6 _ _ _ (s25 (zb q bs.bn))
  ·exact A1 r6 _ _ _ (s24 (zc q bs.bn))
 refine hj bd b i x 14 [0,1,2,3,15,16] (fun q=>[xa c,xb i,xi 5 q,xj 6 q]) (fun q=>[ya c b,ye q,yb q]) (fun q=>?_) (fun s2=>?_)
 ·refine B2 [4,5,9,14] rfl (by simp) ⟨A8 4 A0 (fun bs=>?_) (hob:=fun _=>U8),A8 5 A0 (fun bs=>?_),A8 9 A0 (fun bs=>?_),A8 14 A0 (fun bs=>?_),trivial⟩
  ·refine D8 9 A0 ?_;refine C2 10 ?_;refine C0 11 A0 ?_;refine D8 12 A0 ?_;exact A1 r7 _ _ _ (s74 q)
  ·refine C2 6 ?_;refine C0 7 A0 ?_;exact A1 r7 _ _ _ (s26 q)
  ·refine C2 10 ?_;refine C0 11 A0 ?_;exact A1 r7 _ _ _ (s10 q)
  ·exact A1 [0,1,2,3,4,7,5,6] _ _ _ (s6 (za q bs.bn))
 refine hj bd b i x 14 [0,1,2,3,14,16] (fun q=>[xa c,xb i,xh 5 q,xj 6 q]) (fun q=>[ya c b,yd q,yb q]) (fun q=>?_) (fun s4=>?_)
 ·refine B2 [4,5,9,15] rfl (by simp) ⟨A8 4 A0 (fun bs=>?_) (hob:=fun _=>U8),A8 5 A0 (fun bs=>?_),A8 9 A0 (fun bs=>?_),A8 15 A0 (fun bs=>?_),trivial⟩
  ·refine D8 9 A0 ?_;refine C2 10 ?_;refine C0 11 A0 ?_;refine D8 12 A0 ?_;exact A1 r7 _ _ _ (s76 q)
  ·refine C2 6 ?_;refine C0 7 A0 ?_;exact A1 r7 _ _ _ (s28 q)
  ·refine C2 10 ?_;refine C0 11 A0 ?_;exact A1 r7 _ _ _ (s12 q)
  ·exact A1 [0,1,2,3,4,5,7,6] _ _ _ (s6 (zb q bs.bn))
 refine hj bd b i x 14 [0,1,2,3,14,15] (fun q=>[xa c,xb i,xh 5 q,xi 6 q]) (fun q=>[ya c b,yd q,ye q]) (fun q=>?_) (fun s5=>?_)
 ·refine B2 [4,5,9,16] rfl (by simp) ⟨A8 4 A0 (fun bs=>?_) (hob:=fun _=>U8),A8 5 A0 (fun bs=>?_),A8 9 A0 (fun bs=>?_),A8 16 A0 (fun bs=>?_),trivial⟩
  ·refine D8 9 A0 ?_;refine C2 10 ?_;refine C0 11 A0 ?_;refine D8 12 A0 ?_;exact A1 r7 _ _ _ (s77 q)
  ·refine C2 6 ?_;refine C0 7 A0 ?_;exact A1 r7 _ _ _ (s29 q)
  ·refine C2 10 ?_;refine C0 11 A0 ?_;exact A1 r7 _ _ _ (s13 q)
  ·exact A1 r8 _ _ _ (s6 (zc q bs.bn))
 refine hj bd b i x 15 [0,1,2,3,16] (fun q=>[xa c,xb i,xj 5 q]) (fun q=>[ya c b,yb q]) (fun q=>?_) (fun s0=>?_)
 ·refine B2 [4,5,9,14,15] rfl (by simp) ⟨A8 4 A0 (fun bs=>?_) (hob:=fun _=>U8),A8 5 A0 (fun bs=>?_),A8 9 A0 (fun bs=>?_),A8 14 A0 (fun bs=>?_),A8 15 A0 (fun bs=>?_),trivial⟩
  ·refine D8 9 A0 ?_;refine C2 10 ?_;refine C0 11 A0 ?_;refine D8 12 A0 ?_;exact A1 r6 _ _ _ (s72 q)
  ·refine C2 6 ?_;refine C0 7 A0 ?_;exact A1 r6 _ _ _ (s24 q)
  ·refine C2 10 ?_;refine C0 11 A0 ?_;exact A1 r6 _ _ _ (s8 q)
  ·exact A1 [0,1,2,3,4,6,5] _ _ _ (s4 (za q bs.bn))
  ·exact A1 [0,1,2,3,4,6,5] _ _ _ (s2 (zb q bs.bn))
 refine hj bd b i x 15 [0,1,2,3,15] (fun q=>[xa c,xb i,xi 5 q]) (fun q=>[ya c b,ye q]) (fun q=>?_) (fun s1=>?_)
 ·refine B2 [4,5,9,14,16] rfl (by simp) ⟨A8 4 A0 (fun bs=>?_) (hob:=fun _=>U8),A8 5 A0 (fun bs=>?_),A8 9 A0 (fun bs=>?_),A8 14 A0 (fun bs=>?_),A8 16 A0 (fun bs=>?_),trivial⟩
  ·refine D8 9 A0 ?_;refine C2 10 ?_;refine C0 11 A0 ?_;refine D8 12 A0 ?_;exact A1 r6 _ _ _ (s73 q)
  ·refine C2 6 ?_;refine C0 7 A0 ?_;exact A1 r6 _ _ _ (s25 q)
  ·refine C2 10 ?_;refine C0 11 A0 ?_;exact A1 r6 _ _ _ (s9 q)
  ·exact A1 [0,1,2,3,4,6,5] _ _ _ (s5 (za q bs.bn))
  ·exact A1 r7 _ _ _ (s2 (zc q bs.bn))
 refine hj bd b i x 15 [0,1,2,3,14] (fun q=>[xa c,xb i,xh 5 q]) (fun q=>[ya c b,yd q]) (fun q=>?_) (fun s3=>?_)
 ·refine B2 [4,5,9,15,16] rfl (by simp) ⟨A8 4 A0 (fun bs=>?_) (hob:=fun _=>U8),A8 5 A0 (fun bs=>?_),A8 9 A0 (fun bs=>?_),A8 15 A0 (fun bs=>?_),A8 16 A0 (fun bs=>?_),trivial⟩
  ·refine D8 9 A0 ?_;refine C2 10 ?_;refine C0 11 A0 ?_;refine D8 12 A0 ?_;exact A1 r6 _ _ _ (s75 q)
  ·refine C2 6 ?_;refine C0 7 A0 ?_;exact A1 r6 _ _ _ (s27 q)
  ·refine C2 10 ?_;refine C0 11 A0 ?_;exact A1 r6 _ _ _ (s11 q)
  ·exact A1 r7 _ _ _ (s5 (zb q bs.bn))
  ·exact A1 r7 _ _ _ (s4 (zc q bs.bn))
 refine B2 [4,5,9,14,15,16] rfl (by simp) ⟨A8 4 A0 (fun bs=>?_) (hob:=fun _=>U8),A8 5 A0 (fun bs=>?_),A8 9 A0 (fun bs=>?_),A8 14 A0 (fun bs=>?_),A8 15 A0 (fun bs=>?_),A8 16 A0 (fun bs=>?_),trivial⟩
 ·refine D8 9 A0 ?_;refine C2 10 ?_;refine C0 11 A0 ?_;refine D8 12 A0 ?_;exact A1 r5 _ _ _ (s71 q)
 ·refine C2 6 ?_;refine C0 7 A0 ?_;exact A1 r5 _ _ _ (s23 q)
 ·refine C2 10 ?_;refine C0 11 A0 ?_;exact A1 r5 _ _ _ (s7 q)
 ·exact A1 r6 _ _ _ (s3 (za q bs.bn))
 ·exact A1 r6 _ _ _ (s1 (zb q bs.bn))
 ·exact A1 r6 _ _ _ (s0 (zc q bs.bn))
end
def U5 (i:X1) (l:List X7):X1:=⟨i.nm,i.m,i.kept,l,i.last,i.ch,i.k,i.gs⟩
structure HdX where
 T:Nat→Prop
 m:Nat
 h:Nat
 kp:Nat
 c:Nat
 n:Nat
 bk:Nat
 S:Nat→Prop
def B7l (bd b:Nat) (i:X1) (m0:X7) (ch0:Bool) (k0:Nat) (len:Int) (y:HdX):List HB:=
 [L5 bd b i y.T,.blk y.m 82 (iX m0),.blk y.h 4 [.pv (bv ch0)],.blk y.kp 136 [.ptr 6 y.bk 0],.blk y.c 56 [.ptr 0 b 0],.blk y.n 3 [.pv (i64 len)],iJ y.bk k0 y.S]
abbrev C5g (y:HdX):A:= .c (.clo 183 [.ptr 1 y.m 0,.ptr 2 y.h 0,.ptr 3 y.kp 0,.ptr 4 y.c 0,.ptr 5 y.n 0])
def tM:D9:=⟨T,O6,A7,A9,39,[],none,.f⟩
theorem B3W:B1 Tryz.prog tM:=⟨J6,A2,A4⟩
theorem G9:F0 Tryz.prog tM:=⟨tOk,B3W⟩
theorem C2g (bd b:Nat) (i:X1) (T:Nat→Prop) (h:GM i.m) (hk:i.k≤1000) (hl:i.held.length≤1000):C5 Tryz.prog 99 [.c (.ptr 0 b 0)] [L5 bd b i T] (fun _=>True) (fun y:HdX=>C5g y) (fun y=>B7l bd b (U5 i (i.held++[i.m])) i.m i.ch i.k (i.held++[i.m]).length y):=by
 refine I6 (E:=tM) Tryz.func99 (fun M0 W hM0=>?_);have hpl:=h.plain;have hsh:=h.ok.sh;have hmp:=h.ok.mp;have htl:=hpl.tl;have htf:=hpl.hf;refine A3 G9 [false] (fun bs=>?_);refine N0 0 (fun x hx=>?_);refine yA (ns:=[0,2,3,4,1]) (fs:=fun c=>[(1,.c (.ptr 4 c 0))]) (hs:=fun c=>(O1 bd b i).f x++[.blk c 56 [.ptr 0 b 0]]) ?cc rfl ?wk0 (fun c=>?_)
 case wk0=>and_intros<;> (first|exact wk_|refine A6 ?_|skip)
 refine vR 20 ?_;refine D8 0 G9 ?_;refine C2 1 ?_;refine C0 2 G9 ?_;refine D8 3 G9 ?_;refine A1 [0,1,2,3,4] _ _ _ (C5f hsh hmp htl htf hk (fun q _=>?_) (x.S1,0,x.S1,0,0,0));obtain⟨S1,bk,S2,b3,b4,b5⟩:=q;refine F7 19 G9 (fun _=>?_);refine iV ?_;refine A3 G9 [] (fun bs=>?_);refine jD 9 rfl ?_;refine vR 11 ?_;refine D8 1 G9 ?_;refine C2 2 ?_;refine C0 3 G9 ?_;refine D8 4 G9 ?_;refine D8 5 G9 ?_;refine nS (X:=Value) (fun _=>True) 0 [0,1,2,3,4,5,6,7,8,9,10] (fun z=>[(1,.c (.ptr 4 c 0)),(3,.c (.ptr 6 b3 0)),(4,.c (.ptr 7 b4 0)),(5,.c (.ptr 8 b5 0))]) (fun z=>(O1 bd b (U5 i (i.held++[i.m]))).f {x with v:=z,S1:=S1}++[.blk c 56 [.ptr 0 b 0],iJ bk i.k S2,.blk b3 82 (iX i.m),.blk b4 4 [.pv (bv i.ch)],.blk b5 136 [.ptr 5 bk 0]]) ?_ (fun fin=>?_)
 rotate_left
 refine B2 [0,6] rfl (by simp) ⟨A8 0 G9 (fun _=>?_),A8 6 G9 (fun _=>?_),trivial⟩
 ·refine F7 6 G9 (fun _=>?_);refine F7 7 G9 (fun u=>?_);refine C2 8 ?_;refine C0 9 G9 ?_;refine F7 10 G9 (fun _=>?_);refine F5 [0,10,2,3,4,5,6,7,8] _ _ _ (fin u trivial) (h:=?wk1)
  case wk1=>
   and_intros<;> (first|exact wk_|refine A6 ?_|skip)
   all_goals exact congrArg (fun m=>i.held++[m]) h.bare
 ·refine B2 [0,7] rfl (by simp) ⟨A8 0 G9 (fun _=>?_),A8 7 G9 (fun u=>?_),trivial⟩
  ·refine F7 7 G9 (fun u=>?_);refine C2 8 ?_;refine C0 9 G9 ?_;refine F7 10 G9 (fun _=>?_);refine F5 [0,10,2,3,4,5,6,7,8] _ _ _ (fin u trivial) (h:=?wk2)
   case wk2=>
    and_intros<;> (first|exact wk_|refine A6 ?_|skip)
    all_goals exact congrArg (fun m=>i.held++[m]) h.bare
  ·refine F7 0 G9 (fun _=>?_);refine C2 8 ?_;refine C0 9 G9 ?_;refine F7 10 G9 (fun _=>?_);refine F5 [0,10,2,3,4,5,6,7,8] _ _ _ (fin u trivial) (h:=?wk3)
   case wk3=>
    and_intros<;> (first|exact wk_|refine A6 ?_|skip)
    all_goals exact congrArg (fun m=>i.held++[m]) h.bare
 intro z _;refine iV ?_;refine A3 G9 [] (fun bs=>?_);refine J8 0 (O1 bd b (U5 i (i.held++[i.m]))) [0,1,2,3] {x with v:=z,S1:=S1} hx (fun T1=>?_);exact B3 G9 ⟨T1,b3,b4,b5,c,?nn,bk,S2⟩ trivial [0,6,7,8,4,9,5]
def A1F:D9:=⟨T,O6,A7,A9,31,[],none,.f⟩
theorem B7m:B1 Tryz.prog A1F:=⟨J6,A2,A4⟩
theorem B6:F0 Tryz.prog A1F:=⟨tOk,B7m⟩
theorem C5h (bd b:Nat) (i:X1) (m0:X7) (ch0:Bool) (k0:Nat) (y:HdX) (n:Nat) (hn:i.held.length=n+1) (hb:n≤1000):C5 Tryz.prog 183 [bool false,.c (.ptr 1 y.m 0),.c (.ptr 2 y.h 0),.c (.ptr 3 y.kp 0),.c (.ptr 4 y.c 0),.c (.ptr 5 y.n 0)] (B7l bd b i m0 ch0 k0 i.held.length y) (fun _=>True) (fun _:Nat→Prop=> .t []) (fun T=>[L5 bd b (U5 i (i.held.take n)) T]):=by
 refine I6 (E:=A1F) Tryz.func183 (fun M0 W hM0=>?_);have hmv:((i.held.length:Nat):Int)-1=(n:Nat):=by omega
 refine A3 B6 [false] (fun bs=>?_);refine N0 0 (fun x hx=>?_);refine vR 11 ?_;refine D8 5 B6 ?_;refine nS (X:=Value) (fun _=>True) 0 [0,1,2,3,4,5,6,7,8,9,10] (fun z=>[]) (fun z=>(O1 bd b (U5 i (i.held.take n))).f {x with v:=z}) ?_ (fun fin=>?_)
 rotate_left
 refine B2 [0,1,6] rfl (by simp) ⟨A8 0 B6 (fun _=>?_),A8 1 B6 (fun _=>?_),A8 6 B6 (fun _=>?_),trivial⟩
 ·refine B2 [1,6] rfl (by simp) ⟨A8 1 B6 (fun _=>?_),A8 6 B6 (fun _=>?_),trivial⟩
  ·refine C2 2 ?_;refine C0 3 B6 ?_;refine B2 [4,6] rfl (by simp) ⟨A8 4 B6 (fun _=>?_),A8 6 B6 (fun _=>?_),trivial⟩
   ·refine E4 6 rfl (A8 6 B6 (fun _=>?_));refine E4 7 rfl (dT 7 B6 (lk:= .mta) (L:=i.held) hmv (by omega) (fun v=>?_));refine C2 8 ?_;refine C0 9 B6 ?_;refine F7 10 B6 (fun _=>?_);exact F5 [0,7,8,9] _ _ _ (fin v trivial)
   ·refine E4 4 rfl (A8 4 B6 (fun _=>?_));refine E4 7 rfl (dT 7 B6 (lk:= .mta) (L:=i.held) hmv (by omega) (fun v=>?_));refine C2 8 ?_;refine C0 9 B6 ?_;refine F7 10 B6 (fun _=>?_);exact F5 [0,7,8,9] _ _ _ (fin v trivial)
  ·refine E4 1 rfl (A8 1 B6 (fun _=>?_));refine C2 2 ?_;refine C0 3 B6 ?_;refine E4 4 rfl (A8 4 B6 (fun _=>?_));refine E4 7 rfl (dT 7 B6 (lk:= .mta) (L:=i.held) hmv (by omega) (fun v=>?_));refine C2 8 ?_;refine C0 9 B6 ?_;refine F7 10 B6 (fun _=>?_);exact F5 [0,7,8,9] _ _ _ (fin v trivial)
 ·refine C2 2 ?_;refine C0 3 B6 ?_;refine B2 [0,4,6] rfl (by simp) ⟨A8 0 B6 (fun _=>?_),A8 4 B6 (fun _=>?_),A8 6 B6 (fun _=>?_),trivial⟩
  ·refine B2 [4,6] rfl (by simp) ⟨A8 4 B6 (fun _=>?_),A8 6 B6 (fun _=>?_),trivial⟩
   ·refine E4 6 rfl (A8 6 B6 (fun _=>?_));refine E4 7 rfl (dT 7 B6 (lk:= .mta) (L:=i.held) hmv (by omega) (fun v=>?_));refine C2 8 ?_;refine C0 9 B6 ?_;refine F7 10 B6 (fun _=>?_);exact F5 [0,7,8,9] _ _ _ (fin v trivial)
   ·refine E4 4 rfl (A8 4 B6 (fun _=>?_));refine E4 7 rfl (dT 7 B6 (lk:= .mta) (L:=i.held) hmv (by omega) (fun v=>?_));refine C2 8 ?_;refine C0 9 B6 ?_;refine F7 10 B6 (fun _=>?_);exact F5 [0,7,8,9] _ _ _ (fin v trivial)
  ·refine B2 [0,6] rfl (by simp) ⟨A8 0 B6 (fun _=>?_),A8 6 B6 (fun _=>?_),trivial⟩
   ·refine E4 6 rfl (A8 6 B6 (fun _=>?_));refine E4 7 rfl (dT 7 B6 (lk:= .mta) (L:=i.held) hmv (by omega) (fun v=>?_));refine C2 8 ?_;refine C0 9 B6 ?_;refine F7 10 B6 (fun _=>?_);exact F5 [0,7,8,9] _ _ _ (fin v trivial)
   ·refine B2 [0,7] rfl (by simp) ⟨A8 0 B6 (fun _=>?_),dT 7 B6 (lk:= .mta) (L:=i.held) hmv (by omega) (fun v=>?_),trivial⟩
    ·refine E4 7 rfl (dT 7 B6 (lk:= .mta) (L:=i.held) hmv (by omega) (fun v=>?_));refine C2 8 ?_;refine C0 9 B6 ?_;refine F7 10 B6 (fun _=>?_);exact F5 [0,7,8,9] _ _ _ (fin v trivial)
    ·refine E4 0 rfl (A8 0 B6 (fun _=>?_));refine C2 8 ?_;refine C0 9 B6 ?_;refine F7 10 B6 (fun _=>?_);exact F5 [0,7,8,9] _ _ _ (fin v trivial)
  ·refine B2 [0,4] rfl (by simp) ⟨A8 0 B6 (fun _=>?_),A8 4 B6 (fun _=>?_),trivial⟩
   ·refine E4 4 rfl (A8 4 B6 (fun _=>?_));refine E4 7 rfl (dT 7 B6 (lk:= .mta) (L:=i.held) hmv (by omega) (fun v=>?_));refine C2 8 ?_;refine C0 9 B6 ?_;refine F7 10 B6 (fun _=>?_);exact F5 [0,7,8,9] _ _ _ (fin v trivial)
   ·refine B2 [0,7] rfl (by simp) ⟨A8 0 B6 (fun _=>?_),dT 7 B6 (lk:= .mta) (L:=i.held) hmv (by omega) (fun v=>?_),trivial⟩
    ·refine E4 7 rfl (dT 7 B6 (lk:= .mta) (L:=i.held) hmv (by omega) (fun v=>?_));refine C2 8 ?_;refine C0 9 B6 ?_;refine F7 10 B6 (fun _=>?_);exact F5 [0,7,8,9] _ _ _ (fin v trivial)
    ·refine E4 0 rfl (A8 0 B6 (fun _=>?_));refine C2 8 ?_;refine C0 9 B6 ?_;refine F7 10 B6 (fun _=>?_);exact F5 [0,7,8,9] _ _ _ (fin v trivial)
 ·refine B2 [0,1] rfl (by simp) ⟨A8 0 B6 (fun _=>?_),A8 1 B6 (fun _=>?_),trivial⟩
  ·refine E4 1 rfl (A8 1 B6 (fun _=>?_));refine C2 2 ?_;refine C0 3 B6 ?_;refine E4 4 rfl (A8 4 B6 (fun _=>?_));refine E4 7 rfl (dT 7 B6 (lk:= .mta) (L:=i.held) hmv (by omega) (fun v=>?_));refine C2 8 ?_;refine C0 9 B6 ?_;refine F7 10 B6 (fun _=>?_);exact F5 [0,7,8,9] _ _ _ (fin v trivial)
  ·refine C2 2 ?_;refine C0 3 B6 ?_;refine B2 [0,4] rfl (by simp) ⟨A8 0 B6 (fun _=>?_),A8 4 B6 (fun _=>?_),trivial⟩
   ·refine E4 4 rfl (A8 4 B6 (fun _=>?_));refine E4 7 rfl (dT 7 B6 (lk:= .mta) (L:=i.held) hmv (by omega) (fun v=>?_));refine C2 8 ?_;refine C0 9 B6 ?_;refine F7 10 B6 (fun _=>?_);exact F5 [0,7,8,9] _ _ _ (fin v trivial)
   ·refine B2 [0,7] rfl (by simp) ⟨A8 0 B6 (fun _=>?_),dT 7 B6 (lk:= .mta) (L:=i.held) hmv (by omega) (fun v=>?_),trivial⟩
    ·refine E4 7 rfl (dT 7 B6 (lk:= .mta) (L:=i.held) hmv (by omega) (fun v=>?_));refine C2 8 ?_;refine C0 9 B6 ?_;refine F7 10 B6 (fun _=>?_);exact F5 [0,7,8,9] _ _ _ (fin v trivial)
    ·refine E4 0 rfl (A8 0 B6 (fun _=>?_));refine C2 8 ?_;refine C0 9 B6 ?_;refine F7 10 B6 (fun _=>?_);exact F5 [0,7,8,9] _ _ _ (fin v trivial)
 intro z _;refine iV ?_;refine A3 B6 [] (fun bs=>?_);refine J8 0 (O1 bd b (U5 i (i.held.take n))) [0,1,2,3] {x with v:=z} hx (fun T1=>?_);exact Y6 B6 T1 trivial [0]
def pcX (w at_ n:Int):A5U:=⟨at_ / w,at_%w,min n (w-at_%w)⟩
def P4 (w:Int):Nat→Int→Int→List A5U
 |0,_,_=>[]
 |k+1,a,n=>match decide (n > 0)with
  |true=>pcX w a n::P4 w k (a+min n (w-a%w)) (n-min n (w-a%w))
  |false=>[]
def A1G (a n c:Int):Int:=if c<0∨6<c∨a<0∨n<0∨4096<a∨4096<n then 1 else 0
def A2R (a n c:Int):List A5U:=if A1G a n c=0 then P4 (2 ^ c.toNat) n.toNat a n else[]
theorem V8 (w:Int) (k:Nat) (a n:Int) (h:n≤0):P4 w k a n=[]:=by
 cases k with
 |zero=>rfl
 |succ k=>simp only[P4,decide_eq_false (show¬n > 0 by omega)]
theorem V9 (w:Int) (k:Nat) (a n:Int) (h:0<n):P4 w (k+1) a n=pcX w a n::P4 w k (a+min n (w-a%w)) (n-min n (w-a%w)):=by
 simp only[P4,decide_eq_true h]
theorem kQ {w:Int} (hw:0<w):∀(k k':Nat) (a n:Int),n≤k→n≤k'→P4 w k a n=P4 w k' a n:=by
 intro k
 induction k with
 |zero=>intro k' a n h1 h2;rw[V8 w 0 a n h1,V8 w k' a n h1]
 |succ k ih=>
  intro k' a n h1 h2;by_cases hn:0<n
  ·obtain⟨j,rfl⟩:∃j,k'=j+1:=⟨k'-1,by omega⟩
   have hm:=Int.emod_lt_of_pos a hw;rw[V9 w k a n hn,V9 w j a n hn,ih j _ _ (by omega) (by omega)]
  ·rw[V8 w _ a n (by omega),V8 w _ a n (by omega)]
theorem A1H {w:Int} (hw:0<w):∀(k:Nat) (a n:Int),(P4 w k a n).length≤k:=by
 intro k
 induction k with
 |zero=>intro a n;simp[P4]
 |succ k ih=>
  intro a n;simp only[P4];split
  ·simp only[List.length_cons];have:=ih (a+min n (w-a%w)) (n-min n (w-a%w));omega
  ·simp
def nZ:D9:=⟨T,O6,A7,A9,66,[],none,.t⟩
theorem A1I:B1 Tryz.prog nZ:=⟨J6,A2,A4⟩
theorem bF:F0 Tryz.prog nZ:=⟨tOk,A1I⟩
theorem B3X (a:Int) (n:Int) (c:Int):aA Tryz.prog 68 false [int .i64 a,int .i64 n,int .i64 c] (.ot 156 .pcs (A2R a n c) [.c (i64 (A1G a n c))]):=by
 refine cJ (E:=nZ) Tryz.func68 (fun M0 W hM0=>?_);refine C8 bF 60 (fun _=>none) (fun bs=>?_);refine C6 rfl rfl (fun h=>?_) (fun h=>?_)
 ·refine C8 bF 60 (fun _=>none) (fun bs=>?_);have he:A1G a n c=1:=by simp at h;unfold A1G;rw[if_pos (by omega)]
  exact D5 tOk hM0 rfl rfl ⟨trivial,trivial,trivial⟩ ⟨(show A2R a n c=[] by simp[A2R,he]),⟨rfl,he.symm⟩,trivial⟩
 have hc:0≤c∧c≤6:=by simp at h;omega
 have ha:0≤a∧a≤4096:=by simp at h;omega
 have hn:0≤n∧n≤4096:=by simp at h;omega
 clear h;have he:A1G a n c=0:=by unfold A1G;rw[if_neg (by omega)]
 have hp:=P5 hc;have hu:A2R a n c=P4 (2 ^ c.toNat) n.toNat a n:=by unfold A2R;rw[if_pos he]
 rw[hu,he];obtain⟨w,hw⟩:∃w:Int,2 ^ c.toNat=w:=⟨_,rfl⟩
 rw[hw]at hp⊢;have hw0:0<w:=by omega
 have hw1:(1:Int)*2 ^ c.toNat=w:=by rw[hw];omega
 refine G8 tOk A1I 60 (fun _=>none) (fun bs=>rfl) (fun bs=>?_) (fun bs=>?_)
 ·simp only[hw1]
  and_intros<;> (intros;first|exact U0|omega|skip)
 refine lZ 8 156 rfl ?_;refine P1 (fun x:Int×Value×List A5U=>[(0,int .i64 x.1),(8,.c (.own 0 x.2.1)),(9,int .i64 w),(10,int .i64 (a+n))]) (fun x=>[.own x.2.1 156 .pcs x.2.2])
  (fun x=>0≤x.1∧x.1≤a+n∧x.2.2.length≤8192-(a+n-x.1).toNat∧x.2.2++P4 w (a+n-x.1).toNat x.1 (a+n-x.1)=P4 w n.toNat a n) (fun x=>(a+n-x.1).toNat) rfl [0] (a,?v0,[]) ⟨ha.1,by simp only;omega,by simp,?ini⟩ ?wk (fun x hx=>?_)
 case ini=>simp only[List.nil_append];rw[show a+n-a=n by omega]
 case wk=>
  and_intros<;> (first|exact wk_|refine A6 ?_|skip)
  all_goals simp only[hw1]
 obtain⟨p,v,out⟩:=x;obtain⟨h1,h2,h3,h4⟩:=hx;dsimp only at h1 h2 h3 h4;refine C8 bF 60 (fun _=>none) (fun bs=>?_);refine I4 rfl rfl (fun hk=>?_) (fun hk=>?_)
 ·have hk':p<a+n:=hk;have m0:=Int.emod_nonneg p (show w≠0 by omega);have m1:=Int.emod_lt_of_pos p hw0;have m2:0≤p / w:=Int.ediv_nonneg h1 (by omega);have m3:p / w≤p:=Int.ediv_le_self _ h1;obtain⟨N,hN⟩:∃N,(a+n-p).toNat=N+1:=⟨(a+n-p).toNat-1,by omega⟩
  rw[hN,V9 w N p _ (by omega)]at h4;obtain⟨k,hkk⟩:∃k:Int,min (w-p%w) (a+n-p)=k:=⟨_,rfl⟩
  have hkk2:min (a+n-p) (w-p%w)=k:=by rw[Int.min_comm];exact hkk
  have hk1:1≤k∧k≤a+n-p:=by omega
  refine C8 bF 60 (fun _=>none) (fun bs=>?_);refine C2P bF (fun _=>none) 10 [0,0,0,6,0,0,48,0,254,510,1023,2047] [] (fun bs=>?_);refine C8 bF 60 (fun _=>none) (fun bs=>?_);refine G3 [11] (p+k,?v1,out++[pcX w p (a+n-p)]) ?ok1 ?wk1
  case ok1=>
   refine⟨⟨by simp only;omega,by simp only;omega,by simp;omega,?_⟩,by simp only;omega⟩;simp only;rw[←h4,List.append_assoc,hkk2];simp only[List.singleton_append];rw[show a+n-p-k=a+n-(p+k) by omega];rw[kQ hw0 (a+n-(p+k)).toNat N _ _ (by omega) (by omega)]
  case wk1=>
   and_intros<;> (first|exact wk_|refine A6 ?_|skip)
   all_goals(simp only[pcX,hkk,hkk2])
 ·have hk':p=a+n:=by have:¬p<a+n:=hk;omega
  subst hk';refine C8 bF 60 (fun _=>none) (fun bs=>?_);refine D5 tOk hM0 rfl rfl ⟨trivial,trivial,trivial⟩ ⟨⟨rfl,rfl,rfl,A6 ?_⟩,⟨rfl,rfl⟩,trivial⟩;rw[←h4,V8 w _ _ _ (by omega),List.append_nil]
def A1J:C3
 |[.c (.pv (.val (.int .i64 a))),.c (.pv (.val (.int .i64 n))),.c (.pv (.val (.int .i64 c)))]=>some (True,false,.ot 156 .pcs (A2R a n c) [.c (i64 (A1G a n c))])
 |_=>none
theorem A7R:E9 Tryz.prog 68 A1J:=by
 intro args pre sh rv h hp;unfold A1J at h;split at h
 ·cases h;exact B3X _ _ _
 ·cases h
def J4:FuncId→Option C3:=D6 68 A1J O6
theorem G7:G4 Tryz.prog J4:=B8 A7R J6
abbrev vK:=List (Nat×X1)
def cT (bd:Nat) (p:Nat×X1) (S:Nat→Prop):HB:=L5 bd p.1 p.2 S
structure Lk where
 b:Nat
 i:X1
 f:P7
 v:Nat→Option Bs
 n:Nat
structure aS (d:H8) (L:vK) (k:Lk):Prop where
 mem:(k.b,k.i)∈L
 f:H9 d.files k.i.nm=some k.f
 ok:P8 k.f k.i k.v k.n
def Z9:List Lk→Nat→Bs
 |[],_=>jV
 |k::r,j=>if(j:Int)<k.i.m.size then(match k.v (j / 2 ^ k.i.m.cl.toNat)with
  |some x=>(x.drop (16*(j%2 ^ k.i.m.cl.toNat))).take 16
  |none=>Z9 r j)else jV
def O2 (c:List Lk) (a:Nat):Nat→Bs
 |0=>[]
 |n+1=>O2 c a n++Z9 c (a+n)
def B7n (bd:Nat) (L:vK) (d:H8) (c:List Lk):Prop:=∀(T S:Nat→Prop) (a m:Nat),(∀k r,c=k::r→((a+m:Nat):Int)≤k.i.m.size)→c≠[]→
 C5 Tryz.prog 33 [lst .ptr (c.map fun k=>k.b),str [],int .i64 a,int .i64 m] [U2 (cT bd) L T,D3 bd d S] (fun _=>True) (fun y:((Nat→Prop)×(Nat→Prop))×Value=> .t [.c (.own 2 y.2),int .i64 0]) (fun y=>[U2 (cT bd) L y.1.1,D3 bd d y.1.2,.own y.2 5 .byt (O2 c a m)])
theorem A1K {d:H8} {L:vK}:∀{c:List Lk},(∀k∈c,aS d L k)→∀j,(Z9 c j).length=16:=by
 intro c
 induction c with
 |nil=>intro _ j;rfl
 |cons k r ih=>
  intro h j;unfold Z9;split
  ·rename_i hj;have hk:=(h k (by simp)).ok;have hc:=hk.gm.ok.c;obtain⟨w,hw⟩:∃w:Nat,w=2 ^ k.i.m.cl.toNat:=⟨_,rfl⟩
   have hw0:0<w:=by rw[hw];exact Nat.pow_pos (by omega)
   have hn:=hk.gm.n.2.2;rw[show(2 ^ k.i.m.cl.toNat:Int)=(w:Int) by rw[hw];push_cast;rfl]at hn;have hjw:j / w<eG k.i.m:=by
    rw[Nat.div_lt_iff_lt_mul hw0];have:(j:Int)<((eG k.i.m*w:Nat):Int):=by push_cast;omega
    omega
   have hv:=hk.vw _ hjw;rw[←hw];cases hvv:k.v (j / w)with
   |none=>exact ih (fun x hx=>h x (by simp[hx])) j
   |some x=>
    rw[hvv]at hv;have hx:x.length=16*w:=by
     rcases hv with⟨_,h2⟩|h2
     ·rw[h2,dS,hw]
     ·rw[h2.xl,hw]
    have:=Nat.mod_lt j hw0;simp only[List.length_take,List.length_drop,hx];have:16*(j%w)+16≤16*w:=by omega
    omega
  ·rfl
theorem R5 {d:H8} {L:vK} {c:List Lk} (h:∀k∈c,aS d L k) (a:Nat):∀n,(O2 c a n).length=16*n:=by
 intro n
 induction n with
 |zero=>rfl
 |succ n ih=>rw[O2,List.length_append,ih,A1K h];omega
theorem qG (c:List Lk) (a m:Nat):∀n,O2 c a (m+n)=O2 c a m++O2 c (a+m) n:=by
 intro n
 induction n with
 |zero=>simp[O2]
 |succ n ih=>rw[←Nat.add_assoc,O2,ih,O2,List.append_assoc,Nat.add_assoc]
theorem qH {c:List Lk} {a:Nat}:∀n,(∀j,j<n→Z9 c (a+j)=jV)→O2 c a n=List.replicate (16*n) 0:=by
 intro n
 induction n with
 |zero=>intro _;rfl
 |succ n ih=>
  intro h;rw[O2,ih (fun j hj=>h j (by omega)),h n (by omega),show 16*(n+1)=16*n+16 by omega,←List.replicate_append_replicate]
theorem C4S {d:H8} {L:vK} {k:Lk} {r:List Lk} (h:∀x∈k::r,aS d L x) {a n s:Nat} (hs:k.i.m.size=(s:Nat)):
 O2 (k::r) a n=O2 (k::r) (min a s) (min n (s-a))++List.replicate (16*n-16*min n (s-a)) 0:=by
 have hz:∀j,s≤j→Z9 (k::r) j=jV:=fun j hj=>by unfold Z9;rw[if_neg (by omega)]
 by_cases ha:s≤a
 ·rw[show s-a=0 by omega,Nat.min_zero];rw[qH n (fun j _=>hz _ (by omega))];simp[O2]
 ·rw[show min a s=a by omega];obtain⟨m,hm⟩:∃m,m=min n (s-a):=⟨_,rfl⟩
  rw[←hm];have:n=m+(n-m):=by omega
  rw[this,qG]
  congr 1
  by_cases hnm:n≤m
  ·rw[show n-m=0 by omega];simp[O2]
  ·rw[qH _ (fun j _=>hz _ (by omega))]
   congr 1
   omega
def A1L:D9:=⟨T,J4,A7,A9,48,[],none,.f⟩
theorem B7o:B1 Tryz.prog A1L:=⟨G7,A2,A4⟩
theorem lL:F0 Tryz.prog A1L:=⟨tOk,B7o⟩
theorem C6t (bd:Nat) (L:vK) (T:Nat→Prop) (d:H8) (S:Nat→Prop) (c:List Lk) (hc:∀k∈c,aS d L k) (ih:B7n bd L d c) (a n:Nat) (hn:n≤4096) (ha:a≤4096):C5 Tryz.prog 70 [lst .ptr (c.map fun k=>k.b),int .i64 a,int .i64 n] [U2 (cT bd) L T,D3 bd d S] (fun _=>True) (fun y:((Nat→Prop)×(Nat→Prop))×Value=> .t [.c (.own 2 y.2),int .i64 0]) (fun y=>[U2 (cT bd) L y.1.1,D3 bd d y.1.2,.own y.2 5 .byt (O2 c a n)]):=by
 refine I6 (E:=A1L) Tryz.func70 (fun M0 W hM0=>?_);cases c with
 |nil=>
  refine A3 lL [true] (fun bs=>?_);refine B3 lL ((T,S),?v) trivial [0,1,2] (hl:=?hl)
  case hl=>
   and_intros<;> (first|exact wk_|refine A6 ?_|skip)
   all_goals
    rw[show((n:Nat)*16:Int).toNat=16*n by omega];exact(qH n (fun _ _=>rfl)).symm
 |cons k r=>
  have hk:=hc k (by simp);obtain⟨l1,l2,hL⟩:=List.append_of_mem hk.mem;have hsz:=hk.ok.gm.ok.s;obtain⟨s,hs⟩:=Int.eq_ofNat_of_zero_le hsz.1;refine A3 lL [false] (fun bs=>?_);refine aJ 0 3 hL (fun S1 S2=>?_);refine A5 [3] (nX bd k.b k.i S2 hk.ok.gm) (fun S3 _=>?_);refine gU 0 3 hL (fun S4=>?_);refine A3 lL [] (fun bs=>?_);refine A5 [0,1] (ih S4 S (min a s) (min n (s-a)) (fun k' r' e=>by cases e;omega) (by simp)) (fun y _=>?_);refine A3 lL [] (fun bs=>?_);refine B3 lL (y.1,?v2) trivial [0,1,2] (hl:=?hl2)
  case hl2=>
   and_intros<;> (first|exact wk_|refine A6 ?_|skip)
   all_goals
    refine Eq.trans ?_ (C4S hc hs).symm;rw[List.length_replicate,show((n:Nat)*16:Int).toNat=16*n by omega,R5 hc,List.take_of_length_le (by rw[R5 hc];omega),List.drop_replicate];rfl
theorem B7p (x:Bs) (p:Nat):∀n,((x.drop (16*p)).take (16*n))=(List.range n).flatMap fun j=>(x.drop (16*(p+j))).take 16:=by
 intro n
 induction n with
 |zero=>simp
 |succ n ih=>
  rw[List.range_succ,List.flatMap_append,←ih,show 16*(n+1)=16*n+16 by omega,List.take_add,List.drop_drop];simp only[List.flatMap_cons,List.flatMap_nil,List.append_nil];rw[show 16*p+16*n=16*(p+n) by omega]
theorem A7S (c:List Lk) (a:Nat):∀n,O2 c a n=(List.range n).flatMap fun j=>Z9 c (a+j):=by
 intro n
 induction n with
 |zero=>rfl
 |succ n ih=>rw[O2,ih,List.range_succ,List.flatMap_append];simp
theorem B7q {d:H8} {L:vK} {k:Lk} {r:List Lk} (hk:aS d L k) {w a n:Nat} (hw:w=2 ^ k.i.m.cl.toNat) (hn:a%w+n≤w) (hs:((a+n:Nat):Int)≤k.i.m.size):
 O2 (k::r) a n=match k.v (a / w)with
  |some x=>(x.drop (16*(a%w))).take (16*n)
  |none=>O2 r a n:=by
 have hw0:0<w:=by rw[hw];exact Nat.pow_pos (by omega)
 have hj:∀j,j<n→Z9 (k::r) (a+j)=match k.v (a / w)with
  |some x=>(x.drop (16*(a%w+j))).take 16
  |none=>Z9 r (a+j):=by
  intro j hj;have hm:=Nat.mod_add_div a w;have h1:(a+j) / w=a / w:=by
   rw[Nat.div_eq_iff (by omega)];have:w*(a / w)=a / w*w:=Nat.mul_comm _ _;omega
  have h2:(a+j)%w=a%w+j:=by
   have:=Nat.mod_add_div (a+j) w;rw[h1]at this;omega
  have hs1:Z9 (k::r) (a+j)=if((a+j:Nat):Int)<k.i.m.size then(match k.v ((a+j) / 2 ^ k.i.m.cl.toNat)with
   |some x=>(x.drop (16*((a+j)%2 ^ k.i.m.cl.toNat))).take 16
   |none=>Z9 r (a+j))else jV:=rfl
  rw[hs1,if_pos (by omega),←hw,h1,h2]
 rw[A7S];cases hv:k.v (a / w)with
 |some x=>
  simp only;rw[B7p];refine congrArg List.flatten (List.map_congr_left fun j hj'=>?_);rw[hj j (List.mem_range.1 hj'),hv]
 |none=>
  simp only;rw[A7S];refine congrArg List.flatten (List.map_congr_left fun j hj'=>?_);rw[hj j (List.mem_range.1 hj'),hv]
def A4w:D9:=⟨T,J4,A7,A9,113,[],none,.f⟩
theorem C1e:B1 Tryz.prog A4w:=⟨G7,A2,A4⟩
theorem dW:F0 Tryz.prog A4w:=⟨tOk,C1e⟩
theorem cRd (bd:Nat) (L:vK) (T:Nat→Prop) (d:H8) (S:Nat→Prop) (k:Lk) (r:List Lk) (hc:∀x∈k::r,aS d L x) (ih:B7n bd L d r) (a n:Nat) (hs:((a+n:Nat):Int)≤k.i.m.size):C5 Tryz.prog 33 [lst .ptr ((k::r).map fun k=>k.b),str [],int .i64 a,int .i64 n] [U2 (cT bd) L T,D3 bd d S] (fun _=>True) (fun y:((Nat→Prop)×(Nat→Prop))×Value=> .t [.c (.own 2 y.2),int .i64 0]) (fun y=>[U2 (cT bd) L y.1.1,D3 bd d y.1.2,.own y.2 5 .byt (O2 (k::r) a n)]):=by
 refine I6 (E:=A4w) Tryz.func33 (fun M0 W hM0=>?_);have hk:=hc k (by simp);obtain⟨l1,l2,hL⟩:=List.append_of_mem hk.mem;have hok:=hk.ok.gm.ok;have hsz:=hok.s;have hz16:=hk.ok.gm.sz;have hcl:=hok.c;have hp:=P5 hcl;obtain⟨w,hw⟩:∃w:Nat,w=2 ^ k.i.m.cl.toNat:=⟨_,rfl⟩
 have hwi:(2 ^ k.i.m.cl.toNat:Int)=(w:Int):=by rw[hw];push_cast;rfl
 rw[hwi]at hp;have hw0:0<w:=by omega
 refine A3 dW [false] (fun bs=>?_);refine aJ 0 2 hL (fun S1 S2=>?_);refine A5 [2] (nX bd k.b k.i S2 hk.ok.gm) (fun S3 _=>?_);refine gU 0 2 hL (fun S4=>?_);refine J3 dW (fun _=>none) [false,false,false,false,false] (fun bs=>?_) (fun bs=>?_)
 ·and_intros<;> first|exact trivial|omega|exact rfl|exact decide_eq_false (by omega)|(simp;omega)
 refine lZ 15 5 rfl ?_;have hE:A1G a n k.i.m.cl=0:=by unfold A1G;rw[if_neg (by omega)]
 obtain⟨P,hP⟩:∃P,P=A2R a n k.i.m.cl:=⟨_,rfl⟩
 have hP2:P=P4 w n a n:=by rw[hP,A2R,if_pos hE,hwi,Int.toNat_natCast]
 have hPl:P.length≤n:=by rw[hP2];exact A1H (by omega) _ _ _
 refine K3 (fun q:((Nat→Prop)×(Nat→Prop))×Nat×Nat×Value×Value=>[(0,lst .ptr ((k::r).map fun k=>k.b)),(1,str []),(11,int .i64 k.i.m.cl),(15,.c (.own 3 q.2.2.2.1)),(57,.c (.own 2 q.2.2.2.2)),(58,int .i64 P.length),(59,int .i64 q.2.2.1)]) (fun q=>[U2 (cT bd) L q.1.1,D3 bd d q.1.2,.own q.2.2.2.2 156 .pcs P,.own q.2.2.2.1 5 .byt (O2 (k::r) a (q.2.1-a))])
  (fun q=>q.2.2.1≤P.length∧a≤q.2.1∧q.2.1≤a+n∧P.drop q.2.2.1=P4 w (a+n-q.2.1) q.2.1 ((a+n-q.2.1:Nat):Int)) (fun q=>P.length-q.2.2.1) [0,1,3,4] ((S4,S),a,0,?ov,?pv) ⟨Nat.zero_le _,Nat.le_refl _,by simp only;omega,by simp only[List.drop_zero];rw[hP2,show a+n-a=n by omega]⟩ ?wk1 (fun q hq=>?_)
 case wk1=>
  rw[hP]
  and_intros<;> (first|exact wk_|refine A6 ?_|skip)
  all_goals(simp only[Nat.sub_self];rfl)
 obtain⟨⟨T1,D1⟩,p,q,ov,pv⟩:=q;obtain⟨hq1,hq2,hq3,hq4⟩:=hq;simp only at hq1 hq2 hq3 hq4;refine A3 dW [] (fun bs=>?_);refine I4 rfl rfl (fun hk2=>?_) (fun hk2=>?_)
 ·have hk2:(q:Int)<(P.length:Nat):=hk2;have hqP:q<P.length:=by omega
  obtain⟨N,hN⟩:∃N,a+n-p=N+1:=by
   refine⟨a+n-p-1,?_⟩;apply Decidable.byContradiction;intro hne;rw[V8 _ _ _ _ (by omega)]at hq4;have:=congrArg List.length hq4;rw[List.length_drop]at this;simp at this;omega
  have hq5:=hq4;rw[hN,V9 _ _ _ _ (by omega)]at hq5;obtain⟨cnt,hcnt⟩:∃cnt,cnt=min (a+n-p) (w-p%w):=⟨_,rfl⟩
  have hpm:=Nat.mod_lt p hw0;have hPq:P.getD q LK.pcs.dft=⟨((p / w:Nat):Int),((p%w:Nat):Int),(cnt:Nat)⟩:=by
   have h1:P.getD q LK.pcs.dft=(P.drop q).getD 0 LK.pcs.dft:=by simp[List.getD]
   rw[h1,hq5];show pcX (w:Int) (p:Int) _=_;unfold pcX;rw[←Int.natCast_ediv,←Int.natCast_emod]
   congr 1
   omega
  have hpw:p / w<eG k.i.m:=by
   have hn:=hk.ok.gm.n.2.2;rw[hwi]at hn;rw[Nat.div_lt_iff_lt_mul hw0];have:(p:Int)<((eG k.i.m*w:Nat):Int):=by push_cast;omega
   omega
  have hcell:=hk.ok.vw _ hpw;have hkd:=hcell.kd;have hbl:(bOf k.i.m.cl (k.v (p / w))).length=16*w:=by
   cases hv:k.v (p / w)with
   |none=>show(iK k.i.m.cl).length=_;rw[dS,hw]
   |some x=>
    rw[hv]at hcell;show x.length=_;rcases hcell with⟨_,h2⟩|h2
    ·rw[h2,dS,hw]
    ·rw[h2.xl,hw]
  have hmul2:((p / w:Nat):Int)*2 ^ k.i.m.cl.toNat+((p%w:Nat):Int)=p:=by
   rw[hwi];have h2:((w*(p / w)+p%w:Nat):Int)=p:=by rw[Nat.div_add_mod]
   rw[Int.mul_comm]
   push_cast at h2⊢
   exact h2
  have hmul3:0≤((p / w:Nat):Int)*2 ^ k.i.m.cl.toNat:=by rw[hwi];exact Int.mul_nonneg (Int.natCast_nonneg _) (Int.natCast_nonneg _)
  have hrl:(O2 (k::r) a (p-a)).length=16*(p-a):=R5 hc _ _;have hpc:=B7q (r:=r) hk hw (a:=p) (n:=cnt) (by omega) (by omega);have hout:O2 (k::r) a (p+cnt-a)=O2 (k::r) a (p-a)++O2 (k::r) p cnt:=by
   rw[show p+cnt-a=(p-a)+cnt by omega,qG,show a+(p-a)=p by omega]
  have hdrop:P.drop (q+1)=P4 w (a+n-(p+cnt)) ((p+cnt:Nat):Int) ((a+n-(p+cnt):Nat):Int):=by
   have h1:P.drop (q+1)=(P.drop q).tail:=by rw[List.tail_drop]
   rw[h1,hq5,List.tail_cons];have e1:(p:Int)+min ((N+1:Nat):Int) ((w:Int)-(p:Int)%w)=((p+cnt:Nat):Int):=by
    rw[←Int.natCast_emod];omega
   have e2:((N+1:Nat):Int)-min ((N+1:Nat):Int) ((w:Int)-(p:Int)%w)=((a+n-(p+cnt):Nat):Int):=by
    rw[←Int.natCast_emod];omega
   rw[e1,e2];exact kQ (by omega) _ _ _ _ (by omega) (by omega)
  refine A3 dW [] (fun bs=>?_);refine aJ 0 5 hL (fun S1 S2=>?_);refine yA (ns:=[0,1,2,3,4,5]) (fs:=fun c=>[(0,lst .ptr ((k::r).map fun k=>k.b)),(1,str []),(11,int .i64 k.i.m.cl),(15,.c (.own 3 ov)),(17,.c (.ptr 4 c 0)),(57,.c (.own 2 pv)),(58,int .i64 P.length),(59,int .i64 q)]) (hs:=fun c=>[U2 (cT bd) (l1++l2) S1,D3 bd d D1,.own pv 156 .pcs P,.own ov 5 .byt (O2 (k::r) a (p-a)),.blk c 156 [.pv (i64 ((p / w:Nat):Int)),.pv (i64 ((p%w:Nat):Int)),.pv (i64 (cnt:Nat))],L5 bd k.b k.i S2]) ?cc rfl ?wk2 (fun c=>?_)
  case wk2=>
   and_intros<;> (first|exact wk_|refine A6 ?_|skip)
   all_goals(dsimp only;rw[Int.toNat_natCast,hPq])
  refine rD dW 13 [0,1,3,0,0,16,63,127,255,255,255,511,3071,8191] 6 [5,1] [2,3,4] (C6p bd k.b k.i S2 d D1 k.f hk.f k.v k.n hk.ok (p / w) hpw) (fun y _=>?_);refine gU 0 5 hL (fun S5=>?_);refine J3 dW (fun _=>none) [false] (fun bs=>?_) (fun bs=>?_)
  ·and_intros<;> first|exact trivial|exact rfl|omega|(simp only[hbl];omega)
  refine C6 (b:=decide ((L2 k.i.m.t ((p / w:Nat):Int)).kind=0)) rfl rfl (fun hb=>?_) (fun hb=>?_)
  ·have hb:(L2 k.i.m.t ((p / w:Nat):Int)).kind=0:=of_decide_eq_true hb;have hx:=hkd.2 hb;rw[hx]at hpc;refine rD dW 16 [0,1,0,4,0,28,0,64,252,0,512,2047,4095,8191,8191,16383,65535] 11 [0,1] [2,3,4] (C6t bd L S5 d y.2 r (fun x hx=>hc x (by simp[hx])) ih p cnt (by omega) (by omega)) (fun z _=>?_) (hsim:=?hs3) (hp0:=?hp3)
   case hs3=>
    and_intros<;> (first|exact wk_|refine A6 ?_|skip)
    all_goals first|exact hmul2|(rw[List.take_of_length_le (by simp)];exact rfl)|(rw[List.take_of_length_le (by simp)];exact⟨rfl,rfl⟩)
   case hp3=>and_intros<;> first|exact trivial|exact rfl|omega|(show k.i.m.cl≤64;omega)|(simp;omega)
   refine G1 6 [21] rfl ⟨rfl,trivial⟩ ?_;refine J3 dW (fun _=>none) [false] (fun bs=>?_) (fun bs=>?_)
   ·and_intros<;> first|exact trivial|exact rfl|omega|(simp only[R5 (fun x hx=>hc x (List.mem_cons_of_mem _ hx)),hrl];omega)
   refine G3 [0,1,2,7] (z.1,p+cnt,q+1,?ov3,pv) ⟨⟨by simp only;omega,by simp only;omega,by simp only;omega,hdrop⟩,by simp only;omega⟩ ?wk4
   case wk4=>
    and_intros<;> (first|exact wk_|refine A6 ?_|skip)
    all_goals
     have hpc:O2 (k::r) p cnt=O2 r p cnt:=hpc;show _=O2 (k::r) a (p+cnt-a);rw[hout,hpc]
  ·have hb:(L2 k.i.m.t ((p / w:Nat):Int)).kind≠0:=of_decide_eq_false hb;obtain⟨x,hx⟩:∃x,k.v (p / w)=some x:=by
    cases hv:k.v (p / w)with
    |none=>exact absurd (hkd.1 hv) hb
    |some x=>exact⟨x,rfl⟩
   rw[hx]at hpc;refine J3 dW (fun _=>none) [false] (fun bs=>?_) (fun bs=>?_)
   ·and_intros<;> first|exact trivial|exact rfl|omega|(simp only[List.length_drop,List.length_take,hbl,hrl];omega)
   refine G3 [0,1,2,6] ((S5,y.2),p+cnt,q+1,?ov2,pv) ⟨⟨by simp only;omega,by simp only;omega,by simp only;omega,hdrop⟩,by simp only;omega⟩ ?wk3
   case wk3=>
    and_intros<;> (first|exact wk_|refine A6 ?_|skip)
    all_goals
     have hpc:O2 (k::r) p cnt=(x.drop (16*(p%w))).take (16*cnt):=hpc;show _=O2 (k::r) a (p+cnt-a);rw[hout,hpc,hx];show _++List.drop (((p%w:Nat):Int)*16).toNat (List.take ((((p%w:Nat):Int)+(cnt:Nat))*16).toNat x)=_;rw[show(((p%w:Nat):Int)*16).toNat=16*(p%w) by omega,show((((p%w:Nat):Int)+(cnt:Nat))*16).toNat=16*(p%w)+16*cnt by omega,List.drop_take,Nat.add_sub_cancel_left]
 ·refine A3 dW [] (fun bs=>?_);have hk2:¬((q:Int)<(P.length:Nat)):=hk2;have hpe:p=a+n:=by
   rw[List.drop_eq_nil_of_le (by omega)]at hq4;apply Decidable.byContradiction;intro hne;obtain⟨N,hN⟩:∃N,a+n-p=N+1:=⟨a+n-p-1,by omega⟩
   rw[hN,V9 _ _ _ _ (by omega)]at hq4;cases hq4
  subst hpe;exact B3 dW ((T1,D1),ov) trivial [0,1,3] (hl:=by
   and_intros<;> (first|exact wk_|refine A6 ?_|skip)
   all_goals(simp only[Nat.add_sub_cancel_left]))
theorem B7r (bd:Nat) (L:vK) (d:H8):∀c:List Lk,(∀x∈c,aS d L x)→B7n bd L d c:=by
 intro c
 induction c with
 |nil=>intro _ T S a m _ hne;exact absurd rfl hne
 |cons k r ih=>intro hc T S a m h _;exact cRd bd L T d S k r hc (ih fun x hx=>hc x (by simp[hx])) a m (h k r rfl)
end
end Go.Proofs.YtgmeedgkjlfpeaaGreat
namespace Go.Mt
open Go.RowKit
noncomputable section
section
variable {P : Program} {E : D9} {B : Nat → Prop} {W : World} {M0 : B5} {Q : Exit → Act → World → Prop} {k : List X8} {st : St}
theorem C2h (hE:F0 P E) {all:List Oper} {i:Nat} {o:Oper} {d s:Operand} {td ts e:TypeId} {n lo hi s1 s2 s3 s4:Nat} {z z':List C} {v:Value} {ty:TypeId} {l m:List UInt8} {x:A} {ob:Prop} {f':Nat→Option Ent}
 (hm0:0<m.length) (hlo:lo+m.length≤l.length) (hhi:hi=l.length)
 (hk:G P E B W M0 Q (.ops all (i+1)::k) ⟨f',D4 st.H n (some (.own v ty .byt (l.take lo++m++l.drop (lo+m.length)))),st.nx⟩)
 (hd:Q6 i all=o::Q6 (i+1) all:=by exact rfl) (hg:o.guard=none:=by exact rfl) (ho:o.op= .call ⟨.builtin .copy,⟨[d,s]⟩,⟨[td,ts]⟩⟩:=by exact rfl)
 (h1:U7 st.f [] d=some (.c (.osl n v lo hi 1)):=by exact rfl) (h2:U7 st.f [] s=some x:=by exact rfl) (h3:oE st.H x=some ⟨.byt,m,ob⟩:=by exact rfl) (hob:ob:=by first|exact trivial|exact rfl)
 (ht:E.T td=some ⟨.slc e .byt,s1,s2,z⟩:=by exact rfl) (hte:E.T e=some ⟨.int .u8,s3,s4,z'⟩:=by exact rfl) (hn:st.H n=some (.own v ty .byt l):=by exact rfl)
 (hf:O5 E.N i (C7 all all) st.f o.dst (some (.u (int .i64 (m.length:Nat))))=some f':=by exact rfl):G P E B W M0 Q (.ops all i::k) st:=by
 subst hhi;intro M a w hS;show wA E.ro P all.toArray (after E.ro P Q k) (Q6 i all) a w;rw[hd];refine N1 fun K hK=>?_
 have hw:Region.wanted o (yielded all.toArray a.tmps)=true:=by unfold Region.wanted;rw[hg]
 rw[if_pos hw];obtain⟨dst,op,tyo,pos,aft,guard⟩:=o;simp only at ho hg hf;subst ho hg;have hr:=I9 hS (Γ:=[]) (by simp);have v1:a.eval d=osV v lo l.length 1:=by
  exact(hr _ _ h1).osl_inv
 obtain⟨hu,_⟩:=cO hE.T ht;obtain⟨inf,zv,i1,i2,i3,i4,i5,i6⟩:=(hE.T _ _ hte).info;obtain⟨hu2,inf2,i1',hsz⟩:=cO hE.T ht;rw[i1]at i1';cases i1';have h1sz:(P.info? e).map (·.size)=some 1:=by rw[i1];simp[hsz,LK.sz]
 obtain⟨ad,c,b',o',hsv,q1,q2,q3,q4⟩:=oF hS.h (hr _ _ h2) h3 hob;have hmne:m≠[]:=by intro h;rw[h]at hm0;exact absurd hm0 (by decide)
 have:=q1 hmne;subst this;rcases hS.h.ok _ _ hn with⟨hv0,hl0⟩|⟨b,cap,us,hv0,g1,g2,g3,g4,g5,g6,g7⟩
 ·have:l.length=0:=by rw[hl0];rfl
  omega
 ·have hne:cap≠lo:=by omega
  have v2:a.eval d= .slice (some ⟨b,0+lo*1,none⟩) (l.length-lo) (cap-lo):=by rw[v1,hv0];show Value.slice (some ⟨b,if cap=lo then 0 else 0+lo*1,none⟩) _ _=_;rw[if_neg hne]
  let cs:List Value:=m.map (fun x=> .int .u8 (x.toNat:Int))
  have hcl:cs.length=m.length:=by simp[cs]
  simp only[LK.sz,Nat.mul_one]at g6;have hrun:=run_copy_row (P:=P) w td ts tyo e b (0+lo*1) (l.length-lo) (cap-lo) ⟨b',o',none⟩ m.length c us ty cs hu h1sz g3 (by rw[hcl];show _=min m.length (l.length-lo);omega) (fun j u hj=>by
   have hjl:j<m.length:=by have:=(gS_.1 hj).1;simpa[cs]using this
   obtain⟨u',hu',hru⟩:=q4 j m[j] 0 (.val (.int .u8 (m[j]).toNat)) (gE_ hjl) rfl;have:=hru.val_eq;subst this;simp[cs,hjl]at hj;rw[←hj,Addr.add_lit];simpa[LK.sz]using hu') (by rw[hcl];omega) (fun u hu=>by obtain⟨x,_,rfl⟩:=List.mem_map.1 hu;rfl)
  have hexec:(execOp a.eval ⟨dst,.call ⟨.builtin .copy,⟨[d,s]⟩,⟨[td,ts]⟩⟩,tyo,pos,aft,none⟩).run P w= .ok (.value (goInt cs.length)) (w.setRow b (us.toList.take (0+lo*1)++cs++us.toList.drop (0+lo*1+cs.length)).toArray):=by
   rw[←v2,←hsv]at hrun;simp[execOp,resolve,invoke,Go.builtin,hrun]
  refine F9 hexec ?_;have hlen2:(l.take lo++m++l.drop (lo+m.length)).length=l.length:=by simp;omega
  refine hK _ _ (hk M _ _ (I7.put hS (S':=fun j=>j<i+1) (Nat.lt_irrefl i) (fun j hj=>Nat.lt_succ_of_lt hj) (B5.ext_refl _ _) ?_ hf (E6 _ _) (fun e' he=>by cases he;rw[hcl];exact .c (.pv (.val rfl))) (by simp)));refine hS.h.step (nn:=n) (xx:= .own v ty .byt (l.take lo++m++l.drop (lo+m.length))) (row:=some b) (I8 w b _) (fun q hq=>by cases hq;exact⟨g1,g2⟩) (fun m' y hm' hy=>?_) (B4 _ _ _) ?_ (fun q hq=> .inr (by rw[hv0]at hq;exact hq))
  ·have hy':D4 st.H n _ m'=some y:=hy;rw[B9 _ _ hm']at hy';exact⟨hy',fun q hq=>by cases hq;rw[hv0]at hn;exact hS.h.inj n m' _ y b (fun e=>hm' e.symm) hn hy' rfl⟩
  ·rw[hv0];refine .inr ⟨b,cap,_,by rw[hlen2],g1,g2,setRow_heap w b us _ ty _ g3,by rw[hlen2];exact g4,g5,?_,fun i x j y e1 e2=>?_⟩
   ·simp[LK.sz,hcl];omega
   ·have hj:=N9 e2;have hj0:j=0:=by simp[LK.sz]at hj;exact hj
    subst hj0;simp[LK.enc]at e2;subst e2;have hil:i<l.length:=by have:=(gS_.1 e1).1;omega
    refine⟨.int .u8 (x.toNat:Int),?_,.val rfl⟩;simp only[LK.sz,Nat.mul_one,Nat.add_zero,Nat.zero_add,List.getElem?_toArray];by_cases hi1:i<lo
    ·rw[List.append_assoc,List.getElem?_append_left (by simp;omega),List.getElem?_take,if_pos hi1];rw[List.append_assoc,List.getElem?_append_left (by simp;omega),List.getElem?_take,if_pos hi1]at e1;obtain⟨u,hu,hru⟩:=g7 i x 0 (.val (.int .u8 x.toNat)) e1 rfl;have:=hru.val_eq;subst this;simp only[LK.sz,Nat.mul_one,Nat.add_zero]at hu;rw[Array.getElem?_toList];exact hu
    ·have htl:(us.toList.take lo).length=lo:=by simp;omega
     have htl2:(l.take lo).length=lo:=by simp;omega
     rw[List.append_assoc,List.getElem?_append_right (by rw[htl];omega),htl];rw[List.append_assoc,List.getElem?_append_right (by rw[htl2];omega),htl2]at e1;by_cases hi2:i-lo<m.length
     ·rw[List.getElem?_append_left (by rw[hcl];exact hi2)];rw[List.getElem?_append_left hi2]at e1;simp only[cs,List.getElem?_map,e1,Option.map_some]
     ·rw[List.getElem?_append_right (by rw[hcl];omega),List.getElem?_drop,hcl];rw[List.getElem?_append_right (by omega),List.getElem?_drop]at e1;rw[show lo+m.length+(i-lo-m.length)=i by omega]at e1⊢;obtain⟨u,hu,hru⟩:=g7 i x 0 (.val (.int .u8 x.toNat)) e1 rfl;have:=hru.val_eq;subst this;simp only[LK.sz,Nat.mul_one,Nat.add_zero]at hu;rw[Array.getElem?_toList];exact hu
end
end
end Go.Mt
namespace Go.Proofs.YtgmeedgkjlfpeaaGreat
open Go.Mt
noncomputable section
def kR:D9:=⟨T,J4,A7,A9,37,[],none,.f⟩
theorem A7T:B1 Tryz.prog kR:=⟨G7,A2,A4⟩
theorem oA:F0 Tryz.prog kR:=⟨tOk,A7T⟩
theorem C1f (bd:Nat) (L:vK) (T:Nat→Prop) (d:H8) (S:Nat→Prop) (k:Lk) (r:List Lk) (hk:aS d L k) (a n:Nat) (hs:((a+n:Nat):Int)≤k.i.m.size):C5 Tryz.prog 86 [lst .ptr ((k::r).map fun k=>k.b),int .i64 a,int .i64 n] [U2 (cT bd) L T,D3 bd d S] (fun _=>True) (fun y:((Nat→Prop)×(Nat→Prop))=>int .i64 0) (fun y=>[U2 (cT bd) L y.1,D3 bd d y.2]):=by
 refine I6 (E:=kR) Tryz.func86 (fun M0 W hM0=>?_);obtain⟨l1,l2,hL⟩:=List.append_of_mem hk.mem;have hok:=hk.ok.gm.ok;have hsz:=hok.s;have hz16:=hk.ok.gm.sz;refine A3 oA [false] (fun bs=>?_);refine aJ 0 2 hL (fun S1 S2=>?_);refine A5 [2] (nX bd k.b k.i S2 hk.ok.gm) (fun S3 _=>?_);refine gU 0 2 hL (fun S4=>?_);refine J3 oA (fun _=>none) [false,false,false,false,false] (fun bs=>?_) (fun bs=>?_)
 ·and_intros<;> first|exact trivial|omega|exact rfl|exact decide_eq_false (by omega)|(simp;omega)
 exact B3 oA (S4,S) trivial [0,1]
def iM:D9:=⟨T,J4,A7,A9,44,[],none,.f⟩
theorem A4x:B1 Tryz.prog iM:=⟨G7,A2,A4⟩
theorem bW:F0 Tryz.prog iM:=⟨tOk,A4x⟩
theorem A7U (bd:Nat) (L:vK) (T:Nat→Prop) (d:H8) (S:Nat→Prop) (k:Lk) (r:List Lk) (hc:∀x∈k::r,aS d L x) (w:Nat) (hw:w=2 ^ k.i.m.cl.toNat) (p:Nat) (hp:p<eG k.i.m):C5 Tryz.prog 76 [lst .ptr ((k::r).map fun k=>k.b),str [],int .i64 p] [U2 (cT bd) L T,D3 bd d S] (fun _=>True) (fun y:((Nat→Prop)×(Nat→Prop))×Value=> .t [.c (.own 2 y.2),int .i64 0]) (fun y=>[U2 (cT bd) L y.1.1,D3 bd d y.1.2,.own y.2 5 .byt (O2 (k::r) (p*w) w)]):=by
 refine I6 (E:=iM) Tryz.func76 (fun M0 W hM0=>?_);have hk:=hc k (by simp);obtain⟨l1,l2,hL⟩:=List.append_of_mem hk.mem;have hok:=hk.ok.gm.ok;have hsz:=hok.s;have hz16:=hk.ok.gm.sz;have hcl:=hok.c;have hp2:=P5 hcl;have hwi:(2 ^ k.i.m.cl.toNat:Int)=(w:Int):=by rw[hw];push_cast;rfl
 rw[hwi]at hp2;have hn:=hk.ok.gm.n.2.2;rw[hwi]at hn;have hle:((p*w+w:Nat):Int)≤k.i.m.size:=by
  have:(p+1)*w≤eG k.i.m*w:=Nat.mul_le_mul_right _ hp;rw[Nat.add_mul,Nat.one_mul]at this;have h2:((eG k.i.m*w:Nat):Int)=(eG k.i.m:Int)*w:=by push_cast;rfl
  omega
 refine A3 bW [false] (fun bs=>?_);refine aJ 0 2 hL (fun S1 S2=>?_);refine A5 [2] (nX bd k.b k.i S2 hk.ok.gm) (fun S3 _=>?_);refine gU 0 2 hL (fun S4=>?_);refine J3 bW (fun _=>none) [false,false,false] (fun bs=>?_) (fun bs=>?_)
 ·and_intros<;> first|exact trivial|omega|exact rfl|exact decide_eq_false (by omega)|exact decide_eq_false (by rw[←hk.ok.gm.n.1];omega)|(show k.i.m.cl≤64;omega)|(simp;omega)
 have hpw:(p:Int)*2 ^ k.i.m.cl.toNat=((p*w:Nat):Int):=by rw[hwi];push_cast;rfl
 refine rD bW 10 [0,0,0,0,12,0,32,127,255,255,1023,2047] 7 [0,1] [] (B7r bd L d (k::r) hc S4 S (p*w) w (fun k' r' e=>by cases e;exact hle) (by simp)) (fun y _=>?_) (hsim:=?hs3) (hp0:=?hp3)
 case hs3=>
  and_intros<;> (first|exact wk_|refine A6 ?_|skip)
  all_goals first|exact hpw|exact hwi|(rw[Int.one_mul];exact hwi)
 case hp3=>and_intros<;> first|exact trivial|exact rfl|omega|(show k.i.m.cl≤64;omega)|(rw[hpw];omega)|(simp;omega)
 refine A3 bW [] (fun bs=>?_);exact B3 bW y trivial [0,1,3]
abbrev pcA (a b c:Int):A:= .g [.pv (i64 a),.pv (i64 b),.pv (i64 c)]
abbrev A2S (c:List Lk) (p w a:Nat) (x:Bs):Bs:=(O2 c (p*w) w).take (16*a)++x++(O2 c (p*w) w).drop (16*a+x.length)
def tN:D9:=⟨T,J4,A7,A9,33,[],none,.f⟩
theorem B3Y:B1 Tryz.prog tN:=⟨G7,A2,A4⟩
theorem dX:F0 Tryz.prog tN:=⟨tOk,B3Y⟩
theorem C5i (bd:Nat) (l1 l2:vK) (T:Nat→Prop) (d:H8) (S:Nat→Prop) (k:Lk) (r:List Lk) (hc:∀x∈k::r,aS d (l1++(k.b,k.i)::l2) x) (hN:k.n+1≤60) (hd:DOk d) (w:Nat) (hw:w=2 ^ k.i.m.cl.toNat) (p a n:Nat) (hp:p<eG k.i.m) (x:Bs) (hx:x.length=16*n) (hn0:0<n) (han:a+n≤w):C5 Tryz.prog 91 [lst .ptr ((k::r).map fun k=>k.b),pcA p a n,lst .byt x] [U2 (cT bd) (l1++(k.b,k.i)::l2) T,D3 bd d S] (fun y:((Nat→Prop)×(Nat→Prop))×X1×P7×Nat=>Put k.f k.i k.v k.n d (A2S (k::r) p w a x) p y.2.1 y.2.2.1 y.2.2.2) (fun y=>int .i64 0) (fun y=>[U2 (cT bd) (l1++(k.b,y.2.1)::l2) y.1.1,D3 bd ⟨d.room,C1 d.files k.i.nm y.2.2.1,y.2.2.2⟩ y.1.2]):=by
 refine I6 (E:=tN) Tryz.func91 (fun M0 W hM0=>?_);have hk:=hc k (by simp);have hok:=hk.ok.gm.ok;have hcl:=hok.c;have hp2:=P5 hcl;have hwi:(2 ^ k.i.m.cl.toNat:Int)=(w:Int):=by rw[hw];push_cast;rfl
 rw[hwi]at hp2;refine A3 dX [] (fun bs=>?_);refine A5 [0,1] (A7U bd _ T d S k r hc w hw p hp) (fun y _=>?_);have hal:(O2 (k::r) (p*w) w).length=16*w:=R5 hc _ _;have h16:((a:Int)*16).toNat=16*a:=by omega
 refine A3 dX [false] (fun bs=>?_);refine C2h dX (n:=3) (lo:=((a:Int)*16).toNat) (m:=x) (l:=O2 (k::r) (p*w) w) (by omega) (by rw[h16];omega) (Int.toNat_natCast _) ?_;refine A3 dX [] (fun bs=>?_);refine G1 3 [7] rfl ⟨rfl,trivial⟩ ?_;refine aJ 0 5 rfl (fun S1 S2=>?_);refine yA (ns:=[0,1,2,5]) (fs:=fun c=>[(0,lst .ptr ((k::r).map fun k=>k.b)),(4,.c (.ptr 2 c 0)),(7,lst .byt (A2S (k::r) p w a x))]) (hs:=fun c=>[U2 (cT bd) (l1++l2) S1,D3 bd d y.1.2,.blk c 156 [.pv (i64 p),.pv (i64 a),.pv (i64 n)],L5 bd k.b k.i S2]) ?cc rfl ?wk2 (fun c=>?_)
 case wk2=>
  and_intros<;> (first|exact wk_|refine A6 ?_|skip)
  all_goals(dsimp only[bX,mO,D4];rw[h16];exact rfl)
 refine R3 dX 6 [0,1,3,0,8,0,63,127] [] (fun bs=>?_);refine A5 [3,1] (C4R bd k.b k.i S2 d y.1.2 k.f hk.f k.v k.n hk.ok hN hd p hp (A2S (k::r) p w a x) (by simp only[List.length_append,List.length_take,List.length_drop,hal];rw[←hw];omega)) (fun z hz=>?_);refine yE 0 3 (l:=l1++(k.b,z.2.1)::l2) (l0:=l1++l2) (l1:=l1) (l2:=l2) (x:=(k.b,z.2.1)) rfl rfl (fun S5=>?_);refine A3 dX [] (fun bs=>?_);exact B3 dX ((S5,z.1.2),z.2) hz [0,1]
theorem B7s {d:H8} {L:vK} {c:List Lk} (hc:∀k∈c,aS d L k) {p w:Nat} {x:Bs} (hx:x.length=16*w):A2S c p w 0 x=x:=by
 show(O2 c (p*w) w).take (16*0)++x++(O2 c (p*w) w).drop (16*0+x.length)=x;rw[Nat.mul_zero,List.take_zero,List.nil_append,List.drop_eq_nil_of_le (by rw[R5 hc];omega),List.append_nil]
def A1M:D9:=⟨T,J4,A7,A9,31,[],none,.f⟩
theorem B7t:B1 Tryz.prog A1M:=⟨G7,A2,A4⟩
theorem fA:F0 Tryz.prog A1M:=⟨tOk,B7t⟩
theorem C6u (bd:Nat) (l1 l2:vK) (T:Nat→Prop) (d:H8) (S:Nat→Prop) (k:Lk) (r:List Lk) (hc:∀x∈k::r,aS d (l1++(k.b,k.i)::l2) x) (hN:k.n+1≤60) (hd:DOk d) (w:Nat) (hw:w=2 ^ k.i.m.cl.toNat) (p a n:Nat) (hp:p<eG k.i.m) (b:Bs) (fr:Nat) (hb:fr+16*n≤b.length) (hbl:b.length≤100000) (hn0:0<n) (han:a+n≤w) (bx lx:Nat):C5 Tryz.prog 88 [pcA p a n,bool (decide ((n:Int)=(w:Int))),int .i64 fr,.c (.ptr 2 bx 0),.c (.ptr 3 lx 0)] [U2 (cT bd) (l1++(k.b,k.i)::l2) T,D3 bd d S,.blk bx 22 [.pv (.lst .byt b)],.blk lx 85 [.pv (.lst .ptr ((k::r).map fun k=>k.b))]] (fun y:((Nat→Prop)×(Nat→Prop))×X1×P7×Nat=>Put k.f k.i k.v k.n d (A2S (k::r) p w a ((b.drop fr).take (16*n))) p y.2.1 y.2.2.1 y.2.2.2) (fun y=>int .i64 0) (fun y=>[U2 (cT bd) (l1++(k.b,y.2.1)::l2) y.1.1,D3 bd ⟨d.room,C1 d.files k.i.nm y.2.2.1,y.2.2.2⟩ y.1.2,.blk bx 22 [.pv (.lst .byt b)],.blk lx 85 [.pv (.lst .ptr ((k::r).map fun k=>k.b))]]):=by
 refine I6 (E:=A1M) Tryz.func88 (fun M0 W hM0=>?_);have hk:=hc k (by simp);have hok:=hk.ok.gm.ok;have hcl:=hok.c;have hp2:=P5 hcl;have hwi:(2 ^ k.i.m.cl.toNat:Int)=(w:Int):=by rw[hw];push_cast;rfl
 rw[hwi]at hp2;refine A3 fA [] (fun bs=>?_);have hsl:List.drop ((fr:Int)).toNat (List.take ((fr:Int)+(n:Int)*16).toNat b)=(b.drop fr).take (16*n):=by
  rw[Int.toNat_natCast,show((fr:Int)+(n:Int)*16).toNat=fr+16*n by omega,List.drop_take,Nat.add_sub_cancel_left]
 obtain⟨x,hx⟩:∃x,x=(b.drop fr).take (16*n):=⟨_,rfl⟩
 have hxl:x.length=16*n:=by rw[hx];simp;omega
 rw[←hx];refine C6 (b:=decide ((n:Int)=(w:Int))) rfl rfl (fun hb2=>?_) (fun hb2=>?_)
 ·have hnw:n=w:=by have:=of_decide_eq_true hb2;omega
  have ha0:a=0:=by omega
  refine A3 fA [] (fun bs=>?_);refine aJ 0 5 rfl (fun S1 S2=>?_);refine yA (ns:=[0,1,2,3,4,5]) (fs:=fun c=>[(4,.c (.ptr 3 lx 0)),(5,.c (.ptr 4 c 0)),(9,lst .byt x)]) (hs:=fun c=>[U2 (cT bd) (l1++l2) S1,D3 bd d S,.blk bx 22 [.pv (.lst .byt b)],.blk lx 85 [.pv (.lst .ptr ((k::r).map fun k=>k.b))],.blk c 156 [.pv (i64 p),.pv (i64 a),.pv (i64 n)],L5 bd k.b k.i S2]) ?cc rfl ?wk2 (fun c=>?_)
  case wk2=>
   and_intros<;> (first|exact wk_|refine A6 ?_|skip)
   all_goals(dsimp only[bX,mO,D4];rw[hsl,hx];exact rfl)
  refine R3 fA 7 [0,1,3,0,8,0,32,127,255] [] (fun bs=>?_);refine A5 [5,1] (C4R bd k.b k.i S2 d S k.f hk.f k.v k.n hk.ok hN hd p hp x (by rw[hxl,hnw,hw])) (fun z hz=>?_);refine yE 0 5 (l:=l1++(k.b,z.2.1)::l2) (l0:=l1++l2) (l1:=l1) (l2:=l2) (x:=(k.b,z.2.1)) rfl rfl (fun S5=>?_);refine A3 fA [] (fun bs=>?_);rw[hnw]at hxl;exact B3 fA ((S5,z.1.2),z.2) (by subst ha0;rw[B7s hc hxl];exact hz) [0,1,2,3]
 ·refine A3 fA [] (fun bs=>?_);refine A5 [0,1] (C5i bd l1 l2 T d S k r hc hN hd w hw p a n hp x hxl hn0 han) (fun z hz=>?_) (hsim:=?hs3)
  case hs3=>
   and_intros<;> (first|exact wk_|refine A6 ?_|skip)
   all_goals(rw[hsl,hx];exact rfl)
  refine A3 fA [] (fun bs=>?_);exact B3 fA z hz [0,1,2,3]
theorem aS.turn {d:H8} {l1 l2:vK} {k x:Lk} (h:aS d (l1++(k.b,k.i)::l2) x) (hne:x.i.nm≠k.i.nm) (j:X1) (f':P7) (lg:Nat):aS ⟨d.room,C1 d.files k.i.nm f',lg⟩ (l1++(k.b,j)::l2) x:=by
 refine⟨?_,?_,h.ok⟩
 ·have hm:=h.mem;simp only[List.mem_append,List.mem_cons]at hm⊢;rcases hm with hm|hm|hm
  ·exact .inl hm
  ·exact absurd (congrArg (fun q:Nat×X1=>q.2.nm) hm) hne
  ·exact .inr (.inr hm)
 ·show H9 (C1 d.files k.i.nm f') x.i.nm=_;rw[U3,if_neg hne];exact h.f
theorem B7u {d:H8} {L:vK} {c:List Lk} (h:∀k∈c,aS d L k) (a n m:Nat) (hm:m<n):((O2 c a n).drop (16*m)).take 16=Z9 c (a+m):=by
 have e:n=m+(1+(n-m-1)):=by omega
 rw[e,qG,List.drop_append,List.drop_eq_nil_of_le (by rw[R5 h];omega),List.nil_append,R5 h,Nat.sub_self,List.drop_zero,qG];have e1:O2 c (a+m) 1=Z9 c (a+m):=by show[]++Z9 c (a+m+0)=_;rfl
 rw[e1,List.take_append_of_le_length (by rw[A1K h];omega),List.take_of_length_le (by rw[A1K h];omega)]
theorem C1g {k k':Lk} {r:List Lk} (hs:k'.i.m.size=k.i.m.size) (hc:k'.i.m.cl=k.i.m.cl) {q:Nat} (hv:k'.v (q / 2 ^ k.i.m.cl.toNat)=k.v (q / 2 ^ k.i.m.cl.toNat)):Z9 (k'::r) q=Z9 (k::r) q:=by
 unfold Z9;rw[hs,hc,hv]
theorem C1h {d:H8} {L:vK} {k:Lk} {r:List Lk} (hc:∀x∈k::r,aS d L x) {w p a n:Nat} (hw:w=2 ^ k.i.m.cl.toNat) (hp:p<eG k.i.m) {x:Bs} (hx:x.length=16*n) (han:a+n≤w) {k':Lk} (hsm:Sm k.i k'.i) (hv:k'.v=A4v k.v p (some (A2S (k::r) p w a x))) (q:Nat):
 Z9 (k'::r) q=if p*w+a≤q∧q<p*w+a+n then(x.drop (16*(q-(p*w+a)))).take 16 else Z9 (k::r) q:=by
 have hk:=hc k (by simp);have hw0:0<w:=by rw[hw];exact Nat.pow_pos (by omega)
 have hn:=hk.ok.gm.n.2.2;rw[show(2 ^ k.i.m.cl.toNat:Int)=(w:Int) by rw[hw];push_cast;rfl]at hn;have hle:((p*w+w:Nat):Int)≤k.i.m.size:=by
  have:(p+1)*w≤eG k.i.m*w:=Nat.mul_le_mul_right _ hp;rw[Nat.add_mul,Nat.one_mul]at this;have h2:((eG k.i.m*w:Nat):Int)=(eG k.i.m:Int)*w:=by push_cast;rfl
  omega
 by_cases hq:q / w=p
 ·have hqm:=Nat.mod_add_div q w;have hml:=Nat.mod_lt q hw0;rw[hq,Nat.mul_comm]at hqm;have hqs:(q:Int)<k.i.m.size:=by omega
  have e1:Z9 (k'::r) q=((A2S (k::r) p w a x).drop (16*(q%w))).take 16:=by
   unfold Z9;rw[hsm.sz,hsm.cl,if_pos hqs,←hw,hq,hv];unfold A4v;rw[if_pos rfl]
  have e2:Z9 (k::r) q=((O2 (k::r) (p*w) w).drop (16*(q%w))).take 16:=by
   rw[B7u hc _ _ _ hml]
   congr 1
   omega
  have hl:(O2 (k::r) (p*w) w).length=16*w:=R5 hc _ _;rw[e1,e2];unfold A2S;generalize hR:O2 (k::r) (p*w) w=R at hl⊢;obtain⟨m,hm⟩:∃m,m=q%w:=⟨_,rfl⟩
  rw[←hm]at hqm hml⊢;have ht:(R.take (16*a)).length=16*a:=by rw[List.length_take];omega
  by_cases h1:m<a
  ·rw[if_neg (by omega),List.append_assoc,List.drop_append_of_le_length (by rw[ht];omega),List.take_append_of_le_length (by rw[List.length_drop,ht];omega),List.drop_take,List.take_take]
   congr 1
   omega
  ·have e3:R.take (16*a)++x++R.drop (16*a+x.length)=R.take (16*a)++(x++R.drop (16*a+x.length)):=List.append_assoc _ _ _;rw[e3,List.drop_append,List.drop_eq_nil_of_le (by rw[ht];omega),List.nil_append,ht];by_cases h2:m<a+n
   ·rw[if_pos (by omega),List.drop_append_of_le_length (by omega),List.take_append_of_le_length (by rw[List.length_drop];omega),show 16*m-16*a=16*(q-(p*w+a)) by omega]
   ·rw[if_neg (by omega),List.drop_append,List.drop_eq_nil_of_le (by omega),List.nil_append,List.drop_drop,hx,show 16*a+16*n+(16*m-16*a-16*n)=16*m by omega]
 ·have hout:¬(p*w+a≤q∧q<p*w+a+n):=fun h=>hq (by
   rw[Nat.div_eq_iff hw0];omega)
  rw[if_neg hout];refine C1g hsm.sz hsm.cl ?_;rw[hv,←hw];unfold A4v;rw[if_neg hq]
structure A1N (d:H8) (nm:Bs) (N l:Nat):Prop where
 fl:∀p∈d.files,p.2.now.length≤4000
 fc:d.files.length≤32
 room:∀f':P7,f'.now.length≤2+64*N→aK (C1 d.files nm f')+70≤d.room
 rm:d.room≤1048576
 lg:d.lg+l≤900000000
theorem A1N.ok {d:H8} {nm:Bs} {N l:Nat} (h:A1N d nm N l) {f:P7} (hf:H9 d.files nm=some f) (hl:f.now.length≤2+64*N):DOk d:=
 ⟨h.fl,h.fc,by have:=h.room f hl;rwa [rL hf]at this,h.rm,by have:=h.lg;omega⟩
theorem A7V {kk:KK} {V:Type} {k:kk.T} {v f:V} {l:List (kk.T×V)} (h:H9 l k=some f) {p:kk.T×V} (hp:p∈C1 l k v):p∈l∨p.2=v:=by
 obtain⟨l1,l2,e1,e2,_⟩:=aX h;rw[e2 v]at hp;rw[e1];simp only[List.mem_append,List.mem_cons]at hp⊢;rcases hp with hp|hp|hp
 ·exact .inl (.inl hp)
 ·exact .inr (by rw[hp])
 ·exact .inl (.inr (.inr hp))
theorem A1N.step {d:H8} {nm:Bs} {N l:Nat} (h:A1N d nm N l) {f:P7} (hf:H9 d.files nm=some f) {f':P7} (hl:f'.now.length≤4000) {lg m:Nat} (hlg:lg+m≤d.lg+l):A1N ⟨d.room,C1 d.files nm f',lg⟩ nm N m:=
 ⟨fun p hp=>by rcases A7V hf hp with h1|h1;exact h.fl p h1;rw[h1];exact hl,by show(C1 d.files nm f').length≤32;rw[A6U hf];exact h.fc,fun f2 h2=>by show aK (C1 (C1 d.files nm f') nm f2)+70≤d.room;rw[fX];exact h.room f2 h2,h.rm,by have:=h.lg;show lg+m≤900000000;omega⟩
def C5j (bd b:Nat) (i:X1) (m0:X7) (ch0:Bool) (k0:Nat) (y:HdX) (b1 b2:Nat):List HB:=
 [L5 bd b i y.T,.blk b2 27 [.pv (i64 0)],.blk y.m 82 (iX m0),.blk y.h 4 [.pv (bv ch0)],.blk y.kp 136 [.ptr 7 y.bk 0],.blk y.c 56 [.ptr 0 b 0],.blk y.n 3 [.pv (i64 i.held.length)],iJ y.bk k0 y.S,
  .blk b1 200 [.clo 183 [.ptr 2 y.m 0,.ptr 3 y.h 0,.ptr 4 y.kp 0,.ptr 5 y.c 0,.ptr 6 y.n 0]]]
def A4y:D9:=⟨T,J4,A7,A9,6,[],none,.f⟩
theorem C1i:B1 Tryz.prog A4y:=⟨G7,A2,A4⟩
theorem A9f:F0 Tryz.prog A4y:=⟨tOk,C1i⟩
theorem pcD (bd b:Nat) (i:X1) (m0:X7) (ch0:Bool) (k0:Nat) (y:HdX) (n:Nat) (hn:i.held.length=n+1) (hb:n≤1000) (b1 b2:Nat):B0O (X:=((Nat→Prop))) Tryz.prog 169 [.c (.ptr 8 b1 0),.c (.ptr 1 b2 0)] (C5j bd b i m0 ch0 k0 y b1 b2) (fun _=>True) (fun T=>[L5 bd b (U5 i (i.held.take n)) T,.blk b2 27 [.pv (i64 0)]]):=by
 refine uS (E:=A4y) Tryz.func169 rfl (by decide) rfl rfl (fun M0 W hM0=>?_);refine A3 A9f [] (fun bs=>?_);refine A5 [0,2,3,4,5,6,7] (C5h bd b i m0 ch0 k0 y n hn hb) (fun T _=>?_);refine A3 A9f [] (fun bs=>?_);exact B0P A9f T trivial [0,1]
structure Wrt (d:H8) (k:Lk) (r:List Lk) (a n:Nat) (b:Bs) (k':Lk) (lg:Nat):Prop where
 bb:k'.b=k.b
 sm:Sm k.i k'.i
 ok:P8 k'.f k'.i k'.v k'.n
 st:k'.n≤k.n+n
 lg:lg≤d.lg+64*n
 fb:k'.f.b=k.f.b
 sec:∀q,Z9 (k'::r) q=if a≤q∧q<a+n then(b.drop (16*(q-a))).take 16 else Z9 (k::r) q
def C2i (k:Lk) (l:List X7):Lk:=⟨k.b,U5 k.i l,k.f,k.v,k.n⟩
theorem P8.hold {f:P7} {i:X1} {v:Nat→Option Bs} {N:Nat} (h:P8 f i v N) (hl:i.held.length≤1):P8 f (U5 i (i.held++[i.m])) v N:=by
 refine⟨h.gm,h.gk,fun m hm=>?_,by simp[U5];omega,h.sec,h.len,h.nb,h.head,h.seq,h.ls,h.vw,h.kr,fun m hm j hj=>?_,h.gs,h.gl,h.kn⟩
 ·have hm:m∈i.held++[i.m]:=hm;rcases List.mem_append.1 hm with hm|hm
  ·exact h.gh m hm
  ·rw[List.mem_singleton.1 hm];exact h.gm
 ·have hm:m∈i.held++[i.m]:=hm;rcases List.mem_append.1 hm with hm|hm
  ·exact h.hr m hm j hj
  ·rw[List.mem_singleton.1 hm]at hj⊢;exact h.ez j hj
theorem P8.unhold {f:P7} {i:X1} {v:Nat→Option Bs} {N:Nat} (h:P8 f i v N) (l:List X7) (hl:∀m∈l,m∈i.held) (hn:l.length≤2):P8 f (U5 i l) v N:=
 ⟨h.gm,h.gk,fun m hm=>h.gh m (hl m hm),hn,h.sec,h.len,h.nb,h.head,h.seq,h.ls,h.vw,h.kr,fun m hm=>h.hr m (hl m hm),h.gs,h.gl,h.kn⟩
def A1O:D9:=⟨T,J4,A7,A9,62,[],none,.f⟩
theorem B7v:B1 Tryz.prog A1O:=⟨G7,A2,A4⟩
theorem bN:F0 Tryz.prog A1O:=⟨tOk,B7v⟩
theorem C6v (bd:Nat) (l1 l2:vK) (T:Nat→Prop) (d:H8) (S:Nat→Prop) (k:Lk) (r:List Lk) (hc:∀x∈k::r,aS d (l1++(k.b,k.i)::l2) x) (hnr:∀x∈r,x.i.nm≠k.i.nm) (hh:k.i.held.length≤1) (a n:Nat) (hs:((a+n:Nat):Int)≤k.i.m.size) (b:Bs) (hb:b.length=16*n) (hN:k.n+n≤60) (hd:A1N d k.i.nm (k.n+n) (64*n)) (bx lx:Nat):C5 Tryz.prog 87 [lst .ptr ((k::r).map fun k=>k.b),int .i64 a,int .i64 n,.c (.clo 88 [.ptr 2 bx 0,.ptr 3 lx 0])] [U2 (cT bd) (l1++(k.b,k.i)::l2) T,D3 bd d S,.blk bx 22 [.pv (.lst .byt b)],.blk lx 85 [.pv (.lst .ptr ((k::r).map fun k=>k.b))]] (fun y:((Nat→Prop)×(Nat→Prop))×Lk×Nat=>Wrt d k r a n b y.2.1 y.2.2) (fun y=>int .i64 0) (fun y=>[U2 (cT bd) (l1++(y.2.1.b,y.2.1.i)::l2) y.1.1,D3 bd ⟨d.room,C1 d.files k.i.nm y.2.1.f,y.2.2⟩ y.1.2,.blk bx 22 [.pv (.lst .byt b)],.blk lx 85 [.pv (.lst .ptr ((k::r).map fun k=>k.b))]]):=by
 refine I6 (E:=A1O) Tryz.func87 (fun M0 W hM0=>?_);have hk:=hc k (by simp);have hok:=hk.ok.gm.ok;have hsz:=hok.s;have hz16:=hk.ok.gm.sz;have hcl:=hok.c;have hp:=P5 hcl;have hkn:=hk.ok.kn;have hknb:=hk.ok.nb;obtain⟨w,hw⟩:∃w:Nat,w=2 ^ k.i.m.cl.toNat:=⟨_,rfl⟩
 have hwi:(2 ^ k.i.m.cl.toNat:Int)=(w:Int):=by rw[hw];push_cast;rfl
 rw[hwi]at hp;have hw0:0<w:=by omega
 refine A3 bN [] (fun bs=>?_);generalize(bs 0 0 0).bn=b8;refine aJ 0 5 rfl (fun S1 S2=>?_);refine A5 [5] (nX bd k.b k.i S2 hk.ok.gm) (fun S3 _=>?_);refine A3 bN [] (fun bs=>?_);refine A5 [5] (C2g bd k.b k.i S3 hk.ok.gm (by omega) (by omega)) (fun y _=>?_);refine A3 bN [] (fun bs=>?_);generalize(bs 0 0 0).bn=b12;refine C2Q (f:=169) (bs:=[b12,b8]) ?_;refine A3 (bN.df _) [] (fun bs=>?_);refine yE 0 5 (l:=l1++(k.b,U5 k.i (k.i.held++[k.i.m]))::l2) (l0:=l1++l2) (l1:=l1) (l2:=l2) (x:=(k.b,U5 k.i (k.i.held++[k.i.m]))) rfl rfl (fun S4=>?_);have hE:A1G a n k.i.m.cl=0:=by unfold A1G;rw[if_neg (by omega)]
 obtain⟨P,hP⟩:∃P,P=A2R a n k.i.m.cl:=⟨_,rfl⟩
 have hP2:P=P4 w n a n:=by rw[hP,A2R,if_pos hE,hwi,Int.toNat_natCast]
 have hPl:P.length≤n:=by rw[hP2];exact A1H (by omega) _ _ _
 obtain⟨kh,hkh⟩:∃kh,kh=C2i k (k.i.held++[k.i.m]):=⟨_,rfl⟩
 have hW0:Wrt d kh r a 0 b kh d.lg:=⟨rfl,⟨rfl,rfl,rfl,rfl,rfl⟩,by rw[hkh];exact hk.ok.hold hh,Nat.le_refl _,Nat.le_refl _,rfl,fun q=>by rw[if_neg (by omega)]⟩
 refine K3 (fun q:((Nat→Prop)×(Nat→Prop))×Lk×Nat×Nat×Nat×Value=>[(3,.c (.clo 88 [.ptr 2 bx 0,.ptr 3 lx 0])),(8,.c (.ptr 4 b8 0)),(10,int .i64 k.i.m.cl),(15,int .i64 (16*(q.2.2.2.1-a):Nat)),(38,.c (.own 12 q.2.2.2.2.2)),(39,int .i64 P.length),(40,int .i64 q.2.2.2.2.1)])
  (fun q=>[U2 (cT bd) (l1++(k.b,q.2.1.i)::l2) q.1.1,D3 bd ⟨d.room,C1 d.files k.i.nm q.2.1.f,q.2.2.1⟩ q.1.2,.blk bx 22 [.pv (.lst .byt b)],.blk lx 85 [.pv (.lst .ptr ((k::r).map fun k=>k.b))],.blk b8 27 [.pv (i64 0)],
   .blk y.m 82 (iX k.i.m),.blk y.h 4 [.pv (bv k.i.ch)],.blk y.kp 136 [.ptr 10 y.bk 0],.blk y.c 56 [.pv (.val (.pointer (some ⟨k.b,0,none⟩)))],.blk y.n 3 [.pv (i64 (k.i.held++[k.i.m]:List X7).length)],iJ y.bk k.i.k y.S,
   .blk b12 200 [.clo 183 [.ptr 5 y.m 0,.ptr 6 y.h 0,.ptr 7 y.kp 0,.ptr 8 y.c 0,.ptr 9 y.n 0]],.own q.2.2.2.2.2 156 .pcs P])
  (fun q=>Wrt d kh r a (q.2.2.2.1-a) b q.2.1 q.2.2.1∧q.2.2.2.2.1≤P.length∧a≤q.2.2.2.1∧q.2.2.2.1≤a+n∧P.drop q.2.2.2.2.1=P4 w (a+n-q.2.2.2.1) q.2.2.2.1 ((a+n-q.2.2.2.1:Nat):Int))
  (fun q=>P.length-q.2.2.2.2.1) [0,1,2,3,4,6,7,8,9,10,11,12,13] ((S4,S),kh,d.lg,a,0,?pv) ⟨by simp only[Nat.sub_self];exact hW0,Nat.zero_le _,Nat.le_refl _,by simp only;omega,by simp only[List.drop_zero];rw[hP2,show a+n-a=n by omega]⟩ ?wk1 (fun q hq=>?_)
 case wk1=>
  rw[hP,hkh]
  and_intros<;> (first|exact wk_|refine A6 ?_|skip)
  all_goals first|exact(show jB (D3 bd d S) (D3 bd ⟨d.room,C1 d.files k.i.nm k.f,d.lg⟩ S)from by rw[A1D hk.f];exact rfl)|(show(0:Int)=((16*(a-a):Nat):Int);simp;done)
 obtain⟨⟨T1,D1⟩,⟨kb,ki,kf,kv,kn⟩,lg,p,q,pv⟩:=q;obtain⟨hW,hq1,hq2,hq3,hq4⟩:=hq;simp only at hW hq1 hq2 hq3 hq4;have hkb:kb=kh.b:=hW.bb;have hkb:kb=k.b:=by rw[hkb,hkh];rfl
 subst hkb;have hnm:ki.nm=k.i.nm:=by rw[hW.sm.nm,hkh];rfl
 have hkcl:ki.m.cl=k.i.m.cl:=by rw[hW.sm.cl,hkh];rfl
 have hksz:ki.m.size=k.i.m.size:=by rw[hW.sm.sz,hkh];rfl
 have hst:kn≤k.n+(p-a):=by have:=hW.st;rw[hkh]at this;exact this
 have hlg:lg≤d.lg+64*(p-a):=hW.lg;refine A3 (bN.df _) [] (fun bs=>?_);refine I4 rfl rfl (fun hk2=>?_) (fun hk2=>?_)
 ·have hk2:(q:Int)<(P.length:Nat):=hk2;have hqP:q<P.length:=by omega
  obtain⟨N,hN2⟩:∃N,a+n-p=N+1:=by
   refine⟨a+n-p-1,?_⟩;apply Decidable.byContradiction;intro hne;rw[V8 _ _ _ _ (by omega)]at hq4;have:=congrArg List.length hq4;rw[List.length_drop]at this;simp at this;omega
  have hq5:=hq4;rw[hN2,V9 _ _ _ _ (by omega)]at hq5;obtain⟨cnt,hcnt⟩:∃cnt,cnt=min (a+n-p) (w-p%w):=⟨_,rfl⟩
  have hpm:=Nat.mod_lt p hw0;have hPq:P.getD q LK.pcs.dft=⟨((p / w:Nat):Int),((p%w:Nat):Int),(cnt:Nat)⟩:=by
   have h1:P.getD q LK.pcs.dft=(P.drop q).getD 0 LK.pcs.dft:=by simp[List.getD]
   rw[h1,hq5];show pcX (w:Int) (p:Int) _=_;unfold pcX;rw[←Int.natCast_ediv,←Int.natCast_emod]
   congr 1
   omega
  have hkn':eG ki.m=eG k.i.m:=by unfold eG;rw[hkcl,hksz]
  have hpw:p / w<eG ki.m:=by
   have hn:=hk.ok.gm.n.2.2;rw[hwi]at hn;rw[hkn',Nat.div_lt_iff_lt_mul hw0];have:(p:Int)<((eG k.i.m*w:Nat):Int):=by push_cast;omega
   omega
  have hdrop:P.drop (q+1)=P4 w (a+n-(p+cnt)) ((p+cnt:Nat):Int) ((a+n-(p+cnt):Nat):Int):=by
   have h1:P.drop (q+1)=(P.drop q).tail:=by rw[List.tail_drop]
   rw[h1,hq5,List.tail_cons];have e1:(p:Int)+min ((N+1:Nat):Int) ((w:Int)-(p:Int)%w)=((p+cnt:Nat):Int):=by
    rw[←Int.natCast_emod];omega
   have e2:((N+1:Nat):Int)-min ((N+1:Nat):Int) ((w:Int)-(p:Int)%w)=((a+n-(p+cnt):Nat):Int):=by
    rw[←Int.natCast_emod];omega
   rw[e1,e2];exact kQ (by omega) _ _ _ _ (by omega) (by omega)
  obtain⟨kc,hkc⟩:∃kc:Lk,kc=⟨k.b,ki,kf,kv,kn⟩:=⟨_,rfl⟩
  have hokc:P8 kf ki kv kn:=hW.ok;have hf':H9 (C1 d.files k.i.nm kf) ki.nm=some kf:=by rw[hnm,U3,if_pos rfl]
  have hlen:=hokc.len;have hnb:=hokc.nb;have hc':∀x∈(⟨k.b,ki,kf,kv,kn⟩:Lk)::r,aS ⟨d.room,C1 d.files k.i.nm kf,lg⟩ (l1++(k.b,ki)::l2) x:=by
   intro x hx;rcases List.mem_cons.1 hx with hx|hx
   ·rw[hx];exact⟨by simp,hf',hokc⟩
   ·exact(hc x (by simp[hx])).turn (hnr x hx) ki kf lg
  have hd':A1N ⟨d.room,C1 d.files k.i.nm kf,lg⟩ k.i.nm (k.n+n) (64*(a+n-p)):=hd.step hk.f (by omega) (by omega);have hdo:DOk ⟨d.room,C1 d.files k.i.nm kf,lg⟩:=hd'.ok (f:=kf) (by show H9 (C1 d.files k.i.nm kf) k.i.nm=some kf;rw[U3,if_pos rfl]) (by omega);refine A3 (bN.df _) [] (fun bs=>?_);refine yA (ns:=[0,1,2,3,4,5,6,7,8,9,10,11,12,13]) (fs:=fun c=>[(3,.c (.clo 88 [.ptr 2 bx 0,.ptr 3 lx 0])),(8,.c (.ptr 4 b8 0)),(10,int .i64 k.i.m.cl),(15,int .i64 (16*(p-a):Nat)),(17,.c (.ptr 13 c 0)),(38,.c (.own 12 pv)),(39,int .i64 P.length),(40,int .i64 q)])
   (hs:=fun c=>[U2 (cT bd) (l1++(k.b,ki)::l2) T1,D3 bd ⟨d.room,C1 d.files k.i.nm kf,lg⟩ D1,.blk bx 22 [.pv (.lst .byt b)],.blk lx 85 [.pv (.lst .ptr ((k::r).map fun k=>k.b))],.blk b8 27 [.pv (i64 0)],
    .blk y.m 82 (iX k.i.m),.blk y.h 4 [.pv (bv k.i.ch)],.blk y.kp 136 [.ptr 10 y.bk 0],.blk y.c 56 [.pv (.val (.pointer (some ⟨k.b,0,none⟩)))],.blk y.n 3 [.pv (i64 (k.i.held++[k.i.m]:List X7).length)],iJ y.bk k.i.k y.S,
    .blk b12 200 [.clo 183 [.ptr 5 y.m 0,.ptr 6 y.h 0,.ptr 7 y.kp 0,.ptr 8 y.c 0,.ptr 9 y.n 0]],.own pv 156 .pcs P,.blk c 156 [.pv (i64 ((p / w:Nat):Int)),.pv (i64 ((p%w:Nat):Int)),.pv (i64 (cnt:Nat))]]) ?cc rfl ?wk2 (fun c=>?_)
  case wk2=>
   and_intros<;> (first|exact wk_|refine A6 ?_|skip)
   all_goals(dsimp only;rw[Int.toNat_natCast,hPq])
  refine R3 (bN.df _) 8 [0,0,0,4,0,16,60,0,255,511] [] (fun bs=>?_) (hchk:=by dsimp only;decide+kernel);refine A5 [0,1,2,3] (C6u bd l1 l2 T1 ⟨d.room,C1 d.files k.i.nm kf,lg⟩ D1 ⟨k.b,ki,kf,kv,kn⟩ r hc' (by show kn+1≤60;omega) hdo w (by show w=2 ^ ki.m.cl.toNat;rw[hkcl];exact hw) (p / w) (p%w) cnt hpw b (16*(p-a)) (by omega) (by omega) (by omega) (by omega) bx lx) (fun z hz=>?_) (hsim:=?hs3)
  case hs3=>
   and_intros<;> (first|exact wk_|refine A6 ?_|skip)
   all_goals(rw[Int.one_mul,hwi];exact rfl)
  obtain⟨⟨T2,D2⟩,j,f',lg'⟩:=z;have hz:Put kf ki kv kn ⟨d.room,C1 d.files k.i.nm kf,lg⟩ (A2S ((⟨k.b,ki,kf,kv,kn⟩:Lk)::r) (p / w) w (p%w) ((b.drop (16*(p-a))).take (16*cnt))) (p / w) j f' lg':=hz;have hms:C1 (C1 d.files k.i.nm kf) ki.nm f'=C1 d.files k.i.nm f':=by rw[hnm,fX]
  have hmd:p / w*w+p%w=p:=by rw[Nat.mul_comm];exact Nat.div_add_mod p w
  have hW2:Wrt d kh r a (p+cnt-a) b ⟨k.b,j,f',A4v kv (p / w) (some (A2S ((⟨k.b,ki,kf,kv,kn⟩:Lk)::r) (p / w) w (p%w) ((b.drop (16*(p-a))).take (16*cnt)))),kn+1⟩ lg':=by
   refine⟨by rw[hkh];rfl,hW.sm.trans hz.sm,hz.ok,?_,?_,hz.b.trans hW.fb,fun s=>?_⟩
   ·rw[hkh];show kn+1≤k.n+_;omega
   ·have:lg'≤lg+64:=hz.lg;omega
   ·rw[C1h hc' (w:=w) (p:=p / w) (a:=p%w) (n:=cnt) (x:=(b.drop (16*(p-a))).take (16*cnt)) (by show w=2 ^ ki.m.cl.toNat;rw[hkcl];exact hw) hpw (by simp;omega) (by omega) hz.sm rfl s,hmd];have h2:=hW.sec s;rw[h2];by_cases h3:p≤s∧s<p+cnt
    ·rw[if_pos h3,if_pos (by omega),List.drop_take,List.take_take,List.drop_drop];rw[show 16*(p-a)+16*(s-p)=16*(s-a) by omega]
     congr 1
     omega
    ·rw[if_neg h3];by_cases h4:a≤s∧s<a+(p-a)
     ·rw[if_pos h4,if_pos (by omega)]
     ·rw[if_neg h4,if_neg (by omega)]
  refine A3 (bN.df _) [false] (fun bs=>?_);refine I0 [0,1,2,3,4,5,6,7,8,9,10,11,12] ((T2,D2),⟨k.b,j,f',_,kn+1⟩,lg',p+cnt,q+1,pv) ⟨⟨hW2,by simp only;omega,by simp only;omega,by simp only;omega,hdrop⟩,by simp only;omega⟩ (h:=?wk4)
  case wk4=>
   and_intros<;> (first|exact wk_|refine A6 ?_|skip)
   all_goals first|exact(show jB (D3 bd ⟨d.room,C1 (C1 d.files k.i.nm kf) ki.nm f',lg'⟩ D2) (D3 bd ⟨d.room,C1 d.files k.i.nm f',lg'⟩ D2)from by rw[hms];exact rfl)|(show((16*(p-a):Nat):Int)+(cnt:Int)*16=((16*(p+cnt-a):Nat):Int);omega)
 ·refine A3 (bN.df _) [] (fun bs=>?_);have hk2:¬((q:Int)<(P.length:Nat)):=hk2;have hpe:p=a+n:=by
   rw[List.drop_eq_nil_of_le (by omega)]at hq4;apply Decidable.byContradiction;intro hne;obtain⟨N,hN3⟩:∃N,a+n-p=N+1:=⟨a+n-p-1,by omega⟩
   rw[hN3,V9 _ _ _ _ (by omega)]at hq4;cases hq4
  subst hpe;have hheld:ki.held=k.i.held++[k.i.m]:=by rw[hW.sm.hd,hkh];rfl
  have hWf:Wrt d k r a n b ⟨k.b,U5 ki k.i.held,kf,kv,kn⟩ lg:=by
   have h1:=hW.sec;have h2:=hW.st;rw[hkh]at h2;rw[Nat.add_sub_cancel_left]at h1 h2 hlg;exact⟨rfl,⟨hnm,hkcl,hksz,by show ki.m.bk=_;rw[hW.sm.bk,hkh];rfl,rfl⟩,hW.ok.unhold _ (fun m hm=>by show m∈ki.held;rw[hheld];simp[hm]) (by omega),h2,hlg,by rw[hW.fb,hkh];rfl,fun s=>by have:=h1 s;rw[hkh]at this;exact this⟩
  refine aJ 0 13 rfl (fun S5 S6=>?_);refine C2R [13,4,5,6,7,8,9,10,11] (pcD bd k.b ki k.i.m k.i.ch k.i.k ⟨S6,y.m,y.h,y.kp,y.c,y.n,y.bk,y.S⟩ k.i.held.length (by rw[hheld];simp) (by omega) b12 b8) (fun T3 _=>?_) (hl:=?hl5)
  case hl5=>
   and_intros<;> (first|exact wk_|refine A6 ?_|skip)
   all_goals first|(rw[hheld];done)
  rw[show ki.held.take k.i.held.length=k.i.held from by rw[hheld];exact List.take_left];refine yE 0 13 (l:=l1++(k.b,U5 ki k.i.held)::l2) (l0:=l1++l2) (l1:=l1) (l2:=l2) (x:=(k.b,U5 ki k.i.held)) rfl rfl (fun S7=>?_);exact Y6 ((bN.df _).df _) ((S7,D1),⟨k.b,U5 ki k.i.held,kf,kv,kn⟩,lg) hWf [0,1,2,3]
def oB:D9:=⟨T,J4,A7,A9,31,[],none,.f⟩
theorem A9g:B1 Tryz.prog oB:=⟨G7,A2,A4⟩
theorem lM:F0 Tryz.prog oB:=⟨tOk,A9g⟩
theorem C4T (bd:Nat) (l1 l2:vK) (T:Nat→Prop) (d:H8) (S:Nat→Prop) (k:Lk) (r:List Lk) (hc:∀x∈k::r,aS d (l1++(k.b,k.i)::l2) x) (hnr:∀x∈r,x.i.nm≠k.i.nm) (hh:k.i.held.length≤1) (a n:Nat) (hs:((a+n:Nat):Int)≤k.i.m.size) (b:Bs) (hb:b.length=16*n) (hN:k.n+n≤60) (hd:A1N d k.i.nm (k.n+n) (64*n)):C5 Tryz.prog 45 [lst .ptr ((k::r).map fun k=>k.b),int .i64 a,lst .byt b] [U2 (cT bd) (l1++(k.b,k.i)::l2) T,D3 bd d S] (fun y:((Nat→Prop)×(Nat→Prop))×Lk×Nat=>Wrt d k r a n b y.2.1 y.2.2) (fun y=>int .i64 0) (fun y=>[U2 (cT bd) (l1++(y.2.1.b,y.2.1.i)::l2) y.1.1,D3 bd ⟨d.room,C1 d.files k.i.nm y.2.1.f,y.2.2⟩ y.1.2]):=by
 refine I6 (E:=oB) Tryz.func45 (fun M0 W hM0=>?_);have hk:=hc k (by simp);have hz16:=hk.ok.gm.sz;have hq:(b.length:Int) / 16=(n:Nat):=by rw[hb];omega
 refine J3 lM (fun _=>none) [false,false] (fun bs=>?_) (fun bs=>?_)
 ·and_intros<;> first|exact trivial|exact rfl|omega|(show(!decide (((b.length:Nat):Int)%16=0))=false;rw[decide_eq_true (by omega)];rfl)
 refine A5 [0,1] (C1f bd _ T d S k r hk a n hs) (fun y _=>?_) (hsim:=?hs1)
 case hs1=>
  and_intros<;> (first|exact wk_|refine A6 ?_|skip)
  all_goals first|exact hq
 refine A3 lM [false] (fun bs=>?_);refine A5 [0,1,3,2] (C6v bd l1 l2 y.1 d y.2 k r hc hnr hh a n hs b hb hN hd ?bx ?lx) (fun z hz=>?_) (hsim:=?hs2)
 case hs2=>
  and_intros<;> (first|exact wk_|refine A6 ?_|skip)
  all_goals first|exact hq
 refine A3 lM [] (fun bs=>?_);exact B3 lM z hz [0,1]
end
end Go.Proofs.YtgmeedgkjlfpeaaGreat
namespace Go.Mt
open Go.RowKit
noncomputable section
section
variable {P : Program} {E : D9} {B : Nat → Prop} {W : World} {M0 : B5} {Q : Exit → Act → World → Prop} {k : List X8} {st : St}
theorem C5k (hE:F0 P E) {all:List Oper} {i:Nat} {o:Oper} {t:TypeId} {x y v:Operand} {r:HR} {f':Nat→Option Ent}
 (hk:G P E B W M0 Q (.ops all (i+1)::k) ⟨f',r.H,r.nx⟩)
 (hd:Q6 i all=o::Q6 (i+1) all:=by exact rfl) (hg:o.guard=none:=by exact rfl) (ho:o.op= .insert t x y v:=by exact rfl)
 (h:E5 E st.H st.nx (U7 st.f []) undef (.mapUpdate t x y v)=some r:=by exact rfl) (hob:r.ob:=by and_intros<;> first|exact trivial|exact rfl)
 (hf:O5 E.N i (C7 all all) st.f o.dst (some (.u r.x))=some f':=by exact rfl):G P E B W M0 Q (.ops all i::k) st:=by
 intro M a w hS;show wA E.ro P all.toArray (after E.ro P Q k) (Q6 i all) a w;rw[hd];refine N1 fun K hK=>?_
 have hw:Region.wanted o (yielded all.toArray a.tmps)=true:=by unfold Region.wanted;rw[hg]
 rw[if_pos hw];obtain⟨dst,op,tyo,pos,aft,guard⟩:=o;simp only at ho hg hf;subst ho hg;have hr:=I9 hS (Γ:=[]) (by simp);show Oper.wp P ⟨dst,.mapUpdate t x y v,tyo,pos,aft,none⟩ a w K _;refine oK hE.T hS.h hr (nx:=st.nx) (fun u=>⟨r,?_,hob,fun v' w' M' hM hS2 hv=>?_⟩)
 ·rw[←h];rfl
 ·refine hK _ _ (hk M' _ w' ?_);exact I7.put hS (S':=fun j=>j<i+1) (Nat.lt_irrefl i) (fun j hj=>Nat.lt_succ_of_lt hj) hM hS2 hf (E6 _ _) (fun e' he=>by cases he;exact hv) (by simp)
end
end
end Go.Mt
namespace Go.Proofs.YtgmeedgkjlfpeaaGreat
open Go.Mt
noncomputable section
abbrev iY:bP:=⟨[],[]⟩
def ysB (l:List bP):List (Nat×bP):=(List.range l.length).map fun j=>(l.length-1-j,l.getD (l.length-1-j) iY)
theorem wT (l:List bP):(ysB l).length=l.length:=by simp[ysB]
theorem B7w {l:List bP} {j:Nat} (h:j<l.length):(ysB l)[j]? =some (l.length-1-j,l.getD (l.length-1-j) iY):=by
 simp[ysB,h]
def evB (y:Nat×bP):List Value:=[.int .i64 y.1,.agg #[.string ⟨y.2.nm.toArray⟩,.string ⟨y.2.bk.toArray⟩]]
def eaB (y:Nat×bP):List A:=[int .i64 y.1,.g [.pv (sv y.2.nm),.pv (sv y.2.bk)]]
theorem C4U (M:B5) (y:Nat×bP) (vs:Array Value) (h:cY M (eaB y) vs):vs=(evB y).toArray:=by
 obtain⟨h1,h2⟩:=h;obtain⟨vs⟩:=vs
 match vs,h1,h2 with
 |[u,v],_,h2=>
  have a0:=h2 0 _ u rfl rfl;have a1:=h2 1 _ v rfl rfl;cases a0 with|c a0=>cases a0 with|pv a0=>
  cases a1 with| @g _ us hr=>
  obtain⟨g1,g2⟩:=hr;obtain⟨us⟩:=us
  match us,g1,g2 with
  |[u0,u1],_,g2=>
   have c0:=g2 0 _ u0 rfl rfl;have c1:=g2 1 _ u1 rfl rfl;cases c0 with|pv c0=>cases c1 with|pv c1=>
   rw[a0.val_eq,c0.val_eq,c1.val_eq];rfl
theorem C4V (M:B5) (y:Nat×bP):cY M (eaB y) (evB y).toArray:=by
 refine⟨rfl,fun j a v e1 e2=>?_⟩
 match j,e1,e2 with
 |0,e1,e2=>cases e1;cases e2;exact .c (.pv (.val rfl))
 |1,e1,e2=>
  cases e1;cases e2;refine .g ⟨rfl,fun j c u e1 e2=>?_⟩
  match j,e1,e2 with
  |0,e1,e2=>cases e1;cases e2;exact .pv (.val rfl)
  |1,e1,e2=>cases e1;cases e2;exact .pv (.val rfl)
def A4z:D9:=⟨T,J4,A7,A9,19,[],some 0,.f⟩
theorem C1j:B1 Tryz.prog A4z:=⟨G7,A2,A4⟩
theorem tQ:F0 Tryz.prog A4z:=⟨tOk,C1j⟩
theorem C1k (l:List bP) (hl:l.length≤1000000):B4i Tryz.prog 115 [.cel [.lst .lnk l]] evB (ysB l):=by
 refine xZ (E:=A4z) Tryz.func115 (by decide) rfl rfl rfl rfl rfl (fun args w=>?_) (fun M lid J Jx w hJ hJx h0 hy=>?_)
 ·simp[callFunc,Tryz.func115,Tryz.f115]
 refine A3 tQ [] (fun bs=>?_);refine xY (J:=J) (n:=l.length) rfl hJ (fun i=>[(0,pv (.val (.func (.yield lid) #[] #[]))),(1,.c (.cel [.lst .lnk l])),(3,int .i64 ((l.length:Int)-1-(i:Nat)))]) rfl h0 ?wk (fun i w' M' hi hJi=>?_)
 case wk=>
  and_intros<;> (first|exact wk_|refine A6 ?_|skip)
  all_goals first|omega
 refine A3 tQ [] (fun bs=>?_);refine I4 rfl rfl (fun hk=>?_) (fun hk=>?_)
 ·have hk:(l.length:Int)-1-(i:Nat) ≥ 0:=hk;have hk':i<l.length:=by omega
  have e:(l.length:Int)-1-(i:Nat)=((l.length-1-i:Nat):Int):=by omega
  simp only[e];refine A3 tQ [] (fun bs=>?_);refine A3n (J:=J) (Jx:=Jx) (i:=i) rfl rfl hJ (by exact trivial) rfl evB eaB C4U (y:=(l.length-1-i,l.getD (l.length-1-i) iY)) rfl rfl hJi (hy _ _ (B7w hk')) (fun b=>rfl) (fun W2 M2 h3=>?_) (fun W2 M2 h3=>?_)
  ·refine A3 tQ [false] (fun bs=>?_);refine A3h (J:=J) rfl hJ hk' h3 ?wk3
   case wk3=>
    and_intros<;> (first|exact wk_|refine A6 ?_|skip)
    all_goals first|omega
  ·refine A3 tQ [true] (fun bs=>?_);exact A3f rfl hJ hJx rfl (.inr ⟨i+1,by rw[wT];omega,h3⟩)
 ·have hk:¬((l.length:Int)-1-(i:Nat) ≥ 0):=hk;have hk':i=(ysB l).length:=by rw[wT];omega
  subst hk';refine A3 tQ [] (fun bs=>?_);exact A3g rfl hJ hJx (.inl hJi)
def tR:D9:=⟨T,J4,A7,A9,4,[],none,.f⟩
theorem B3Z:B1 Tryz.prog tR:=⟨G7,A2,A4⟩
theorem A7W:F0 Tryz.prog tR:=⟨tOk,B3Z⟩
theorem C5l (l:List bP):C5 Tryz.prog 56 [lst .lnk l] [] (fun _=>True) (fun _:Unit=> .c (.clo 115 [.cel [.lst .lnk l]])) (fun _=>[]):=by
 refine I6 (E:=tR) Tryz.func56 (fun M0 W hM0=>?_);refine A3 A7W [] (fun bs=>?_);refine rE 2 0 0 (ys:=[.lst .lnk l]) rfl rfl rfl ?_;exact B3 A7W () trivial []
abbrev C5m:=List (KK.str.T×VK.str.T)
def mB (l:List bP):Nat→C5m
 |0=>[]
 |i+1=>C1 (mB l i) (l.getD (l.length-1-i) iY).nm (l.getD (l.length-1-i) iY).bk
theorem C5n {l:List bP} (hinj:∀x∈l,∀y∈l,x.nm=y.nm→x=y):∀i,i≤l.length→∀j,j<i→H9 (mB l i) (l.getD (l.length-1-j) iY).nm=some (l.getD (l.length-1-j) iY).bk:=by
 have hm:∀j,j<l.length→l.getD (l.length-1-j) iY∈l:=fun j hj=>by
  rw[List.getD_eq_getElem?_getD,gE_ (by omega)];exact List.getElem_mem _
 intro i
 induction i with
 |zero=>intro _ j hj;omega
 |succ i ih=>
  intro hi j hj;rw[mB,U3];split
  ·rename_i h;rw[hinj _ (hm j (by omega)) _ (hm i (by omega)) h]
  ·rename_i h;refine ih (by omega) j ?_;rcases Nat.lt_or_ge j i with h2|h2
   ·exact h2
   ·exact absurd (by rw[show j=i by omega]) h
theorem C4W {l:List bP} (hinj:∀x∈l,∀y∈l,x.nm=y.nm→x=y) {x:bP} (hx:x∈l):H9 (mB l l.length) x.nm=some x.bk:=by
 obtain⟨j,hj,e⟩:=List.getElem_of_mem hx;have h:=C5n hinj l.length (Nat.le_refl _) (l.length-1-j) (by omega);rw[show l.length-1-(l.length-1-j)=j by omega,List.getD_eq_getElem?_getD,gE_ hj]at h;rw[←e];exact h
structure Way (l:List bP) (p:List bP):Prop where
 inj:∀x∈l,∀y∈l,x.nm=y.nm→x=y
 n:l.length≤1000
 mem:∀x∈p,x∈l
 nxt:∀i,i<p.length→(p.getD i iY).bk=(p.getD (i+1) iY).nm
 ne:∀i,0<i→i<p.length→(p.getD i iY).nm≠[]
 uniq:∀i j,i<p.length→j<p.length→(p.getD i iY).nm=(p.getD j iY).nm→i=j
 pos:0<p.length
 le:p.length≤8
theorem A7X (l:Nat):F0 Tryz.prog (rd ⟨T,J4,A7,A9,61,[],none,.t⟩ l):=⟨tOk,B4j ⟨G7,A2,A4⟩⟩
def A1P:D9:=⟨T,J4,A7,A9,61,[],none,.t⟩
theorem B7x:B1 Tryz.prog A1P:=⟨G7,A2,A4⟩
theorem fB:F0 Tryz.prog A1P:=⟨tOk,B7x⟩
theorem C1l (l:List bP) (nm:List UInt8) (hp:∃p,Way l p∧(p.getD 0 iY).nm=nm):aA Tryz.prog 25 false [lst .lnk l,str nm] (.x (.c (i64 0))):=by
 refine cJ (E:=A1P) Tryz.func25 (fun M0 W hM0=>?_);obtain⟨p,hw,hnm⟩:=hp;have hll:=hw.n;refine A3 fB [] (fun bs=>?_);refine A5 [] (C5l l) (fun _ _=>?_);refine A3 fB [] (fun bs=>?_);refine A3e (C1k l (by omega)) eaB C4V rfl rfl (c:=_) (o:=_) (ps:=[17,18]) rfl (by decide) (by decide) (fun _=>rfl) rfl [(1,str nm),(5,.c (.ptr 1 ?b5 0))] (fun m:C5m=>[.mp ?bm .str .str m,.blk ?b5 126 [.mpt 0 ?bm]]) (fun i m=>m=mB l i) (fun _ _=>False) [0,1] [] rfl ?wk rfl (fun lid M1 M2 J1 i x y hy hok hb=>?_) (fun x hx=>?_) (fun i x hi hx=>hx.elim)
 case wk=>and_intros<;> (first|exact wk_|refine A6 ?_|skip)
 ·subst hok;refine A3 (A7X lid) [] (fun bs=>?_);refine hb _ ?_;have hlt:i<l.length:=by have:=(gS_.1 hy).1;rwa [wT]at this
  rw[B7w hlt]at hy;cases hy;refine A3 (A7X lid) [] (fun bs=>?_);exact G3 [0,1] (C1 (mB l i) (l.getD (l.length-1-i) iY).nm (l.getD (l.length-1-i) iY).bk) rfl (by and_intros<;> (first|exact wk_|refine A6 ?_|skip))
 ·subst hx;rw[wT];have hat:∀i,i<p.length→H9 (mB l l.length) (p.getD i iY).nm=some (p.getD (i+1) iY).nm:=fun i hi=>by
   have hm:p.getD i iY∈p:=by rw[List.getD_eq_getElem?_getD,gE_ hi];exact List.getElem_mem _
   rw[C4W hw.inj (hw.mem _ hm),hw.nxt i hi]
  have h0:=hat 0 hw.pos;rw[hnm]at h0;refine J3 fB (fun _=>none) [false] (fun bs=>?_) (fun bs=>?_)
  ·and_intros<;> first|exact trivial|exact rfl|(show(!A5V (H9 (mB l l.length) nm))=false;rw[h0];rfl)
  refine W8 8 (y:=str (p.getD 1 iY).nm) rfl (fun M v h=>by rw[h0]at h;exact h) ?_;refine C5k fB ?_;refine A3 fB [] (fun bs=>?_);refine K3 (fun q:Nat×List (KK.str.T×VK.int.T)×Nat×Nat×Nat=>[(5,.c (.ptr 1 q.2.2.1 0)),(8,str (p.getD q.1 iY).nm),(10,.c (.mpt 2 q.2.2.2.1)),(11,int .i64 q.1)]) (fun q=>[.mp q.2.2.2.2 .str .str (mB l l.length),.blk q.2.2.1 126 [.mpt 0 q.2.2.2.2],.mp q.2.2.2.1 .str .int q.2.1])
   (fun q=>1≤q.1∧q.1≤p.length∧∀x,(∀j,j<q.1→(p.getD j iY).nm≠x)→H9 q.2.1 x=none) (fun q=>p.length-q.1) [0,1,2] (1,C1 [] nm 1,?c5,?cS,?cm) ⟨Nat.le_refl _,hw.pos,fun x hx=>?ini⟩ ?wk1 (fun q hq=>?_)
  case ini=>
   rw[U3,if_neg (fun h=>hx 0 (by omega) (by rw[hnm,h]))];rfl
  case wk1=>
   and_intros<;> (first|exact wk_|refine A6 ?_|skip)
  obtain⟨n,S,c5,cS,cm⟩:=q;obtain⟨hq1,hq2,hq3⟩:=hq;simp only at hq1 hq2 hq3;refine A3 fB [] (fun bs=>?_);refine C6 (b:= !decide ((p.getD n iY).nm=[])) rfl rfl (fun hk=>?_) (fun hk=>?_)
  ·have hne:(p.getD n iY).nm≠[]:=by simpa using hk
   have hnp:n<p.length:=by
    apply Decidable.byContradiction;intro h;exact hne (by rw[List.getD_eq_getElem?_getD,List.getElem?_eq_none (by omega)];rfl)
   have h1:=hat n hnp;have h2:H9 S (p.getD n iY).nm=none:=hq3 _ (fun j hj h=>by have:=hw.uniq j n (by omega) hnp h;omega);have hle:=hw.le;refine J3 fB (fun _=>none) [false,false,false] (fun bs=>?_) (fun bs=>?_)
   ·and_intros<;> first|exact trivial|exact rfl|(rw[h1];rfl)|(rw[h2];exact rfl)|(exact decide_eq_false (by omega))|(dsimp only;rw[h2];exact(by decide))|(dsimp only;omega)
   refine W8 8 (y:=str (p.getD (n+1) iY).nm) rfl (fun M v h=>by dsimp only at h;rw[h1]at h;exact h) ?_;exact I0 [0,1,2] (n+1,C1 S (p.getD n iY).nm (O8 VK.int.dft (H9 S (p.getD n iY).nm)+1),c5,cS,cm) ⟨⟨by simp only;omega,hnp,fun x hx=>by rw[U3,if_neg (fun h=>hx n (by simp only;omega) h.symm)];exact hq3 x (fun j hj=>hx j (by simp only;omega))⟩,by simp only;omega⟩
  ·have hn:(p.getD n iY).nm=[]:=by simpa using hk
   refine A3 fB [] (fun bs=>?_);exact D5 tOk hM0 rfl rfl ⟨trivial,trivial⟩ ⟨rfl,rfl⟩
def A9h:C3
 |[.c (.pv (.lst .lnk l)),.c (.pv (.val (.string ⟨⟨nm⟩⟩)))]=>some ((∃p,Way l p∧(p.getD 0 iY).nm=nm),false,.x (.c (i64 0)))
 |_=>none
theorem B3a:E9 Tryz.prog 25 A9h:=by
 intro args pre sh rv h hp;unfold A9h at h;split at h
 ·cases h;have hp:=hp;exact C1l _ _ hp
 ·cases h
def C9:FuncId→Option C3:=D6 25 A9h J4
theorem B7:G4 Tryz.prog C9:=B8 B3a G7



def T6 (c:List Lk):vK:=c.map fun k=>(k.b,k.i)
def dZ (c:List Lk):List (KK.str.T×VK.ptr.T):=c.map fun k=>(k.i.nm,some k.b)
def flC (c:List Lk):vS:=c.map fun k=>(k.i.nm,k.f)
def nmC (c:List Lk):List Bs:=c.map fun k=>k.i.nm
theorem B0t {α:Type} (g:α→Bs) {V:Type} (v:α→V):∀{c:List α},(c.map g).Nodup→∀{k:α},k∈c→H9 (kk:= .str) (c.map fun k=>(g k,v k)) (g k)=some (v k):=by
 intro c
 induction c with
 |nil=>intro _ k hk;cases hk
 |cons x c ih=>
  intro hn k hk;simp only[List.map_cons,List.nodup_cons,List.mem_map,not_exists,not_and]at hn;simp only[List.map_cons,H9];rcases List.mem_cons.1 hk with rfl|hk
  ·rw[KK.eqb_iff.2 (rfl:g k=g k)]
  ·have:KK.eqb (k:= .str) (g k) (g x)=false:=by
    cases hb:KK.eqb (k:= .str) (g k) (g x)with
    |false=>rfl
    |true=>exact absurd (KK.eqb_iff.1 hb) (hn.1 k hk)
   rw[this];exact ih hn.2 hk
theorem B7y {kk:KK} {V:Type} {k:kk.T}:∀{l:List (kk.T×V)},(∀p∈l,p.1≠k)→H9 l k=none:=by
 intro l
 induction l with
 |nil=>intro _;rfl
 |cons p l ih=>
  intro h;have:kk.eqb k p.1=false:=by
   cases hb:kk.eqb k p.1 with
   |false=>rfl
   |true=>exact absurd (KK.eqb_iff.1 hb).symm (h p (by simp))
  simp only[H9,this];exact ih fun q hq=>h q (by simp[hq])
structure G2 (d:H8) (c:List Lk):Prop where
 fl:d.files=flC c
 nd:(nmC c).Nodup
 ok:∀k∈c,P8 k.f k.i k.v k.n
 hd:∀k∈c,k.i.held=[]
 ne:∀k∈c,k.i.nm≠[]
 n:c.length≤8
theorem G2.lk {d:H8} {c:List Lk} (h:G2 d c) {k:Lk} (hk:k∈c):aS d (T6 c) k:=
 ⟨List.mem_map.2 ⟨k,hk,rfl⟩,by rw[h.fl];exact B0t (fun k:Lk=>k.i.nm) (fun k:Lk=>k.f) h.nd hk,h.ok k hk⟩
theorem G2.pt {d:H8} {c:List Lk} (h:G2 d c) {k:Lk} (hk:k∈c):H9 (dZ c) k.i.nm=some (some k.b):=B0t (fun k:Lk=>k.i.nm) (fun k:Lk=>(some k.b:VK.ptr.T)) h.nd hk
theorem A9i {c:List Lk} {nm:Bs} (h:∀k∈c,k.i.nm≠nm):H9 (dZ c) nm=none:=B7y fun p hp=>by obtain⟨k,hk,rfl⟩:=List.mem_map.1 hp;exact h k hk
theorem G2.nf {d:H8} {c:List Lk} (h:G2 d c) {nm:Bs} (hn:∀k∈c,k.i.nm≠nm):H9 d.files nm=none:=by rw[h.fl];exact B7y fun p hp=>by obtain⟨k,hk,rfl⟩:=List.mem_map.1 hp;exact hn k hk
theorem G2.one {d:H8} {c:List Lk} (h:G2 d c) {x y:Lk} (hx:x∈c) (hy:y∈c) (e:x.i.nm=y.i.nm):x=y:=by
 obtain⟨i,hi,rfl⟩:=List.getElem_of_mem hx;obtain⟨j,hj,rfl⟩:=List.getElem_of_mem hy;have:=(List.getElem_inj (xs:=nmC c) (i:=i) (j:=j) (h₀:=by simpa[nmC]using hi) (h₁:=by simpa[nmC]using hj) h.nd).1 (by simpa[nmC]using e);subst this;rfl
inductive lN (c:List Lk):Bs→List Lk→Prop
 |nil:lN c [] []
 |cons {k:Lk} {p:List Lk}:k∈c→lN c k.i.m.bk p→lN c k.i.nm (k::p)
theorem lN.mem {c:List Lk} {nm:Bs} {p:List Lk} (h:lN c nm p):∀k∈p,k∈c:=by
 induction h with
 |nil=>intro k hk;cases hk
 |cons hk _ ih=>intro x hx;rcases List.mem_cons.1 hx with rfl|hx;exact hk;exact ih x hx
theorem lN.det {d:H8} {c:List Lk} (hc:G2 d c) {nm:Bs} {p:List Lk} (h:lN c nm p):∀{q:List Lk},lN c nm q→p=q:=by
 induction h with
 |nil=>
  intro q hq;generalize hnm:([]:Bs)=nm at hq;cases hq with
  |nil=>rfl
  |cons hk _=>exact absurd hnm.symm (hc.ne _ hk)
 | @cons k p hk _ ih=>
  intro q hq;generalize hnm:k.i.nm=nm at hq;cases hq with
  |nil=>exact absurd hnm (hc.ne _ hk)
  | @cons k' q hk' hq'=>
   have:=hc.one hk hk' hnm;subst this;rw[ih hq']
theorem lN.sub {c:List Lk} {nm:Bs} {p:List Lk} (h:lN c nm p):∀k∈p,∃q,lN c k.i.nm (k::q)∧(k::q).length≤p.length:=by
 induction h with
 |nil=>intro k hk;cases hk
 | @cons x p hx hp ih=>
  intro k hk;rcases List.mem_cons.1 hk with rfl|hk
  ·exact⟨p,.cons hx hp,Nat.le_refl _⟩
  ·obtain⟨q,h1,h2⟩:=ih k hk;exact⟨q,h1,Nat.le_trans h2 (Nat.le_succ _)⟩
theorem lN.un {d:H8} {c:List Lk} (hc:G2 d c) {nm:Bs} {p:List Lk} (h:lN c nm p):(nmC p).Nodup:=by
 induction h with
 |nil=>exact List.nodup_nil
 | @cons k p hk hp ih=>
  refine List.nodup_cons.2 ⟨fun hm=>?_,ih⟩;obtain⟨x,hx,e⟩:=List.mem_map.1 hm;have hxk:x=k:=hc.one (hp.mem x hx) hk e;subst hxk;obtain⟨q,h1,h2⟩:=hp.sub x hx;have:=(lN.cons hk hp).det hc h1;have:=congrArg List.length this;simp only[List.length_cons]at this h2;omega
def tS (k:Lk):bP:=⟨k.i.nm,k.i.m.bk⟩
structure B0u (c:List Lk) (nm to:Bs) (l:List bP):Prop where
 mem:∀x,x∈l↔x=⟨nm,to⟩∨∃k∈c,k.i.nm≠nm∧x=tS k
 n:l.length≤c.length+1
theorem B0u.inj {d:H8} {c:List Lk} (hc:G2 d c) {nm to:Bs} {l:List bP} (h:B0u c nm to l):∀x∈l,∀y∈l,x.nm=y.nm→x=y:=by
 intro x hx y hy e;rcases(h.mem x).1 hx with rfl|⟨k,hk,h1,rfl⟩<;> rcases(h.mem y).1 hy with rfl|⟨k',hk',h2,rfl⟩
 ·rfl
 ·exact absurd e.symm h2
 ·exact absurd e h1
 ·rw[hc.one hk hk' e]
theorem lN.links {c:List Lk} {nm:Bs} {p:List Lk} (h:lN c nm p):(∀i,i<p.length→((p.map tS).getD i iY).bk=((p.map tS).getD (i+1) iY).nm)∧((p.map tS).getD 0 iY).nm=nm:=by
 induction h with
 |nil=>exact⟨fun i hi=>absurd hi (Nat.not_lt_zero _),rfl⟩
 | @cons k p hk hp ih=>
  refine⟨fun i hi=>?_,rfl⟩;cases i with
  |zero=>
   show k.i.m.bk=_;rw[←ih.2];rfl
  |succ i=>exact ih.1 i (Nat.lt_of_succ_lt_succ hi)
theorem qI {α β:Type} (f:α→β) (l:List α) (x:β) (i:Nat) (hi:i<l.length):(l.map f).getD i x=f l[i]:=by
 simp[List.getD,hi]
theorem C4X {d:H8} {c:List Lk} (hc:G2 d c) {nm to:Bs} {l:List bP} (h:B0u c nm to l) {p:List Lk} (hp:lN c to p) (hn:nm∉nmC p) (hl:p.length≤7):Way l (⟨nm,to⟩::p.map tS):=by
 obtain⟨h1,h2⟩:=hp.links;have hun:=hp.un hc;have hnot:∀i,i<p.length→nm≠((p.map tS).getD i iY).nm:=fun i hi e=>by
  rw[qI _ _ _ _ hi]at e;exact hn (List.mem_map.2 ⟨p[i],List.getElem_mem hi,e.symm⟩)
 refine⟨h.inj hc,by have:=h.n;have:=hc.n;omega,fun x hx=>?_,fun i hi=>?_,fun i h0 hi=>?_,fun i j hi hj e=>?_,Nat.succ_pos _,by simp;omega⟩
 ·rcases List.mem_cons.1 hx with rfl|hx
  ·exact(h.mem _).2 (.inl rfl)
  ·obtain⟨k,hk,rfl⟩:=List.mem_map.1 hx;exact(h.mem _).2 (.inr ⟨k,hp.mem k hk,fun e=>hn (e▸List.mem_map.2 ⟨k,hk,rfl⟩),rfl⟩)
 ·cases i with
  |zero=>exact h2.symm
  |succ i=>exact h1 i (by simp at hi;omega)
 ·cases i with
  |zero=>omega
  |succ i=>
   have hi:i<p.length:=by simp at hi;omega
   show((p.map tS).getD i iY).nm≠[];rw[qI _ _ _ _ hi];exact hc.ne _ (hp.mem _ (List.getElem_mem hi))
 ·simp only[List.length_cons,List.length_map]at hi hj;cases i with
  |zero=>cases j with
   |zero=>rfl
   |succ j=>exact absurd e (hnot j (by omega))
  |succ i=>cases j with
   |zero=>exact absurd e.symm (hnot i (by omega))
   |succ j=>
    have hi:i<p.length:=by omega
    have hj:j<p.length:=by omega
    have e:((p.map tS).getD i iY).nm=((p.map tS).getD j iY).nm:=e;rw[qI _ _ _ _ hi,qI _ _ _ _ hj]at e;have:=(List.getElem_inj (xs:=nmC p) (i:=i) (j:=j) (h₀:=by simpa[nmC]using hi) (h₁:=by simpa[nmC]using hj) hun).1 (by simpa[nmC,tS]using e);rw[this]
def eA (ba bd bm:Nat) (d:H8) (c:List Lk) (n:Int) (T S:Nat→Prop):List HB:=[.blk ba 49 [.ptr 3 bd 0,.mpt 1 bm,.pv (i64 n)],.mp bm .str .ptr (dZ c),U2 (cT bd) (T6 c) T,D3 bd d S]
def oC:D9:=⟨T,C9,A7,A9,65,[],none,.f⟩
theorem A9j:B1 Tryz.prog oC:=⟨B7,A2,A4⟩
theorem tT:F0 Tryz.prog oC:=⟨tOk,A9j⟩
theorem C4Y (b:Nat) (d:H8) (S:Nat→Prop) (nm:Bs) (hf:H9 d.files nm=none):C5 Tryz.prog 22 [.c (.ptr 0 b 0),str nm,int .i64 0,int .i64 0] [D3 b d S] (fun _=>True) (fun _:Nat→Prop=> .t [pv (.nil .byt),int .i64 4]) (fun S=>[D3 b d S]):=by
 refine I6 (E:=oC) Tryz.func22 (fun M0 W hM0=>?_);refine A3 tT [] (fun bs=>?_);refine A5 [0] (C4y b d S nm hf) (fun S1 _=>?_);refine A3 tT [true] (fun bs=>?_);exact B3 tT S1 trivial [0]
def A1Q:D9:=⟨T,C9,A7,A9,13,[],none,.f⟩
theorem B7z:B1 Tryz.prog A1Q:=⟨B7,A2,A4⟩
theorem A5A:F0 Tryz.prog A1Q:=⟨tOk,B7z⟩
theorem A9k (b:Nat) (d:H8) (S:Nat→Prop) (hf:H9 d.files []=none):C5 Tryz.prog 11 [.c (.ptr 0 b 0)] [D3 b d S] (fun _=>True) (fun _:Nat→Prop=>int .i64 0) (fun S=>[D3 b d S]):=by
 refine I6 (E:=A1Q) Tryz.func11 (fun M0 W hM0=>?_);refine A3 A5A [] (fun bs=>?_);refine A5 [0] (C4Y b d S [] hf) (fun S1 _=>?_);refine A3 A5A [false] (fun bs=>?_);exact B3 A5A S1 trivial [0]
def abv (c:List Lk) (nm:Bs) (vs:List Nat):Nat:=(vs.filter fun j=>decide ((c.map fun k=>k.i.m.bk)[j]? =some nm)).length
theorem C1m {c:List Lk} {nm:Bs} {vs:List Nat} (h1:vs.Nodup) (h2:∀i∈vs,i<c.length) (h3:∀i,i<c.length→i∈vs):abv c nm vs=abv c nm (List.range c.length):=by
 have hp:vs.Perm (List.range c.length):=(List.perm_ext_iff_of_nodup h1 List.nodup_range).2 (fun i=>⟨fun h=>List.mem_range.2 (h2 i h),fun h=>h3 i (List.mem_range.1 h)⟩);exact(hp.filter _).length_eq
theorem C4Z {c:List Lk} {nm:Bs} (h:∀k∈c,k.i.m.bk≠nm) (vs:List Nat):abv c nm vs=0:=by
 unfold abv;rw[List.length_eq_zero_iff,List.filter_eq_nil_iff];intro j _;rw[decide_eq_true_iff,List.getElem?_map];cases hj:c[j]? with
 |none=>simp
 |some k=>simp only[Option.map_some,Option.some.injEq];exact h k (List.mem_of_getElem? hj)
theorem B8A {c:List Lk} {j:Nat} (h:j<c.length):((dZ c).getD j (KK.str.dft,VK.ptr.dft))=(c[j].i.nm,some c[j].b):=by
 simp[List.getD,dZ,h]
def A1R:D9:=⟨T,C9,A7,A9,25,[],none,.f⟩
theorem B8B:B1 Tryz.prog A1R:=⟨B7,A2,A4⟩
theorem fC:F0 Tryz.prog A1R:=⟨tOk,B8B⟩
theorem C6w (ba bd bm:Nat) (d:H8) (c:List Lk) (hc:G2 d c) (n:Int) (T S:Nat→Prop) (nm:Bs):C5 Tryz.prog 43 [.c (.ptr 0 ba 0),str nm] (eA ba bd bm d c n T S) (fun _=>True) (fun _:(Nat→Prop)×(Nat→Prop)=>int .i64 (abv c nm (List.range c.length))) (fun y=>eA ba bd bm d c n y.1 y.2):=by
 refine I6 (E:=A1R) Tryz.func43 (fun M0 W hM0=>?_);refine A3 fC [] (fun bs=>?_);refine V3 (fun q:List Nat×Nat×(Nat→Prop)×(Nat→Prop)=>[(1,str nm),(5,int .i64 (abv c nm q.1)),(12,.c (.ptr 1 q.2.1 0))]) (fun q=>[.blk ba 49 [.ptr 3 bd 0,.mpt 1 bm,.pv (i64 n)],.mpr bm .str .ptr (dZ c) q.2.1 q.1,U2 (cT bd) (T6 c) q.2.2.1,D3 bd d q.2.2.2]) (fun q=>q.1.Nodup∧∀i∈q.1,i<c.length) (fun q=>c.length-q.1.length) [0,1,2,3] ([],?bi,T,S) ⟨List.nodup_nil,by simp⟩ (fun q hq=>?_);obtain⟨vs,bi,T1,S1⟩:=q;obtain⟨hq1,hq2⟩:=hq;simp only at hq1 hq2;refine A3 fC [] (fun bs=>?_);refine A8J 1 rfl (fun j hj hnv=>?_) (fun hall=>?_)
 ·have hj':j<c.length:=by simpa[dZ]using hj
  have hnd:(j::vs).Nodup:=List.nodup_cons.2 ⟨hnv,hq1⟩;have hlt:∀i∈j::vs,i<c.length:=fun i hi=>by
   rcases List.mem_cons.1 hi with rfl|hi
   ·exact hj'
   ·exact hq2 i hi
  have hle:=lD hnd hlt;have hn8:=hc.n;have hav:abv c nm vs≤vs.length:=List.length_filter_le _ _;simp only[List.length_cons]at hle;have hkm:=List.getElem_mem hj';have hk:=hc.lk hkm;obtain⟨l1,l2,hL⟩:=List.append_of_mem hk.mem;have hst:abv c nm (j::vs)=abv c nm vs+(if c[j].i.m.bk=nm then 1 else 0):=by
   unfold abv;rw[List.filter_cons,List.getElem?_map,gE_ hj'];simp only[Option.map_some,Option.some.injEq,decide_eq_true_eq];split<;> rfl
  have ep:((dZ c).getD j (KK.str.dft,VK.ptr.dft)).2=some c[j].b:=by rw[B8A hj']
  refine A3 fC [true] (fun bs=>?_);refine Z3 17 4 ep ?_;refine aJ 2 4 hL (fun S2 S3=>?_);refine A5 [4,3] (A0z bd c[j].b c[j].i S3 d S1 c[j].f hk.f c[j].v c[j].n hk.ok) (fun y _=>?_);refine gU 2 4 hL (fun S4=>?_);refine A3 fC [] (fun bs=>?_);refine C6 (b:=decide (c[j].i.m.bk=nm)) rfl rfl (fun hb=>?_) (fun hb=>?_)
  ·have hb:=of_decide_eq_true hb;rw[if_pos hb]at hst;refine Q2 fC [] (fun bs=>?_) (fun bs=>?_)
   ·and_intros<;> first|exact trivial|(simp only;omega)
   refine I0 [0,1,2,3] (j::vs,bi,S4,y.2) ⟨⟨hnd,hlt⟩,by simp only[List.length_cons];omega⟩ (h:=?wk1)
   case wk1=>
    and_intros<;> (first|exact wk_|refine A6 ?_|skip)
    all_goals(rw[hst];push_cast;rfl)
  ·have hb:=of_decide_eq_false hb;rw[if_neg hb]at hst;refine A3 fC [] (fun bs=>?_);refine I0 [0,1,2,3] (j::vs,bi,S4,y.2) ⟨⟨hnd,hlt⟩,by simp only[List.length_cons];omega⟩ (h:=?wk2)
   case wk2=>
    and_intros<;> (first|exact wk_|refine A6 ?_|skip)
    all_goals(rw[hst];rfl)
 ·have e:=C1m (nm:=nm) hq1 hq2 (fun i hi=>hall i (by simpa[dZ]using hi));refine A3 fC [false] (fun bs=>?_);refine B4y 1 ?_;rw[e];exact B3 fC (T1,S1) trivial [0,1,2,3]
def tU:D9:=⟨T,C9,A7,A9,9,[],none,.f⟩
theorem B3b:B1 Tryz.prog tU:=⟨B7,A2,A4⟩
theorem A1S:F0 Tryz.prog tU:=⟨tOk,B3b⟩
theorem B8C (ba bd bm:Nat) (d:H8) (c:List Lk) (hc:G2 d c) (n:Int) (T S:Nat→Prop) (nm:Bs) (h0:∀k∈c,k.i.m.bk≠nm):C5 Tryz.prog 40 [.c (.ptr 0 ba 0),str nm] (eA ba bd bm d c n T S) (fun _=>True) (fun _:(Nat→Prop)×(Nat→Prop)=>int .i64 0) (fun y=>eA ba bd bm d c n y.1 y.2):=by
 refine I6 (E:=tU) Tryz.func40 (fun M0 W hM0=>?_);refine A3 A1S [] (fun bs=>?_);refine A5 [0,1,2,3] (C6w ba bd bm d c hc n T S nm) (fun y _=>?_);rw[C4Z h0];refine A3 A1S [false] (fun bs=>?_);exact B3 A1S y trivial [0,1,2,3]
structure C4a (c:List Lk) (nm to:Bs) (vs:List Nat) (l:List bP):Prop where
 mem:∀x,x∈l↔x=⟨nm,to⟩∨∃j∈vs,∃k,c[j]? =some k∧k.i.nm≠nm∧x=tS k
 n:l.length≤vs.length+1
def A1T:D9:=⟨T,C9,A7,A9,36,[],none,.f⟩
theorem B8D:B1 Tryz.prog A1T:=⟨B7,A2,A4⟩
theorem fD:F0 Tryz.prog A1T:=⟨tOk,B8D⟩
theorem C6x (ba bd bm:Nat) (d:H8) (c:List Lk) (hc:G2 d c) (n:Int) (T S:Nat→Prop) (nm to:Bs):C5 Tryz.prog 26 [.c (.ptr 0 ba 0),str nm,str to] (eA ba bd bm d c n T S) (fun y:((Nat→Prop)×(Nat→Prop))×List bP=>B0u c nm to y.2) (fun y=>lst .lnk y.2) (fun y=>eA ba bd bm d c n y.1.1 y.1.2):=by
 refine I6 (E:=A1T) Tryz.func26 (fun M0 W hM0=>?_);refine A3 fD [] (fun bs=>?_);refine V3 (fun q:List Nat×Nat×(Nat→Prop)×(Nat→Prop)×Value×List bP=>[(1,str nm),(7,.c (.own 4 q.2.2.2.2.1)),(18,.c (.ptr 1 q.2.1 0))]) (fun q=>[.blk ba 49 [.ptr 3 bd 0,.mpt 1 bm,.pv (i64 n)],.mpr bm .str .ptr (dZ c) q.2.1 q.1,U2 (cT bd) (T6 c) q.2.2.1,D3 bd d q.2.2.2.1,.own q.2.2.2.2.1 116 .lnk q.2.2.2.2.2]) (fun q=>q.1.Nodup∧(∀i∈q.1,i<c.length)∧C4a c nm to q.1 q.2.2.2.2.2) (fun q=>c.length-q.1.length) [0,1,2,3,4] ([],?bi,T,S,?ov,[⟨nm,to⟩]) ⟨List.nodup_nil,by simp,by simp,by simp⟩ (fun q hq=>?_);obtain⟨vs,bi,T1,S1,ov,l⟩:=q
 obtain⟨hq1,hq2,hq3⟩:=hq;simp only at hq1 hq2 hq3;refine A3 fD [] (fun bs=>?_);refine A8J 1 rfl (fun j hj hnv=>?_) (fun hall=>?_)
 ·have hj':j<c.length:=by simpa[dZ]using hj
  have hnd:(j::vs).Nodup:=List.nodup_cons.2 ⟨hnv,hq1⟩;have hlt:∀i∈j::vs,i<c.length:=fun i hi=>by
   rcases List.mem_cons.1 hi with rfl|hi
   ·exact hj'
   ·exact hq2 i hi
  have hle:=lD hnd hlt;have hn8:=hc.n;have hll:=hq3.n;simp only[List.length_cons]at hle;have hkm:=List.getElem_mem hj';have hk:=hc.lk hkm;obtain⟨l1,l2,hL⟩:=List.append_of_mem hk.mem;have hgj:c[j]? =some c[j]:=gE_ hj';have ep:((dZ c).getD j (KK.str.dft,VK.ptr.dft))=(c[j].i.nm,some c[j].b):=B8A hj';have ep2:((dZ c).getD j (KK.str.dft,VK.ptr.dft)).2=some c[j].b:=by rw[ep]
  refine A3 fD [true] (fun bs=>?_);refine W8 8 (y:=str c[j].i.nm) rfl (fun M v h=>by rw[ep]at h;exact h) ?_;refine W8 9 (y:= .c (.opt (some c[j].b))) rfl (fun M v h=>by rw[ep]at h;exact h) ?_;refine C6 (b:= !decide (((dZ c).getD j (KK.str.dft,VK.ptr.dft)).1=nm)) rfl rfl (fun hb=>?_) (fun hb=>?_)
  ·rw[ep]at hb;have hb:c[j].i.nm≠nm:=by simpa using hb
   refine A3 fD [] (fun bs=>?_);refine Z3 29 5 rfl ?_;refine aJ 2 5 hL (fun S2 S3=>?_);refine A5 [5,3] (A0z bd c[j].b c[j].i S3 d S1 c[j].f hk.f c[j].v c[j].n hk.ok) (fun y _=>?_);refine gU 2 5 hL (fun S4=>?_);have hV:C4a c nm to (j::vs) (l++[tS c[j]]):=by
    refine⟨fun x=>?_,by simp only[List.length_append,List.length_cons,List.length_nil];omega⟩;rw[List.mem_append,hq3.mem,List.mem_singleton]
    constructor
    ·rintro ((h|⟨i,hi,k,h1,h2,h3⟩)|h)
     ·exact .inl h
     ·exact .inr ⟨i,List.mem_cons_of_mem _ hi,k,h1,h2,h3⟩
     ·exact .inr ⟨j,by simp,_,hgj,hb,h⟩
    ·rintro (h|⟨i,hi,k,h1,h2,h3⟩)
     ·exact .inl (.inl h)
     ·rcases List.mem_cons.1 hi with rfl|hi
      ·rw[hgj]at h1;cases h1;exact .inr h3
      ·exact .inl (.inr ⟨i,hi,k,h1,h2,h3⟩)
   refine A3 fD [] (fun bs=>?_);refine I0 [0,1,2,3,7] (j::vs,bi,S4,y.2,?ov2,l++[tS c[j]]) ⟨⟨hnd,hlt,hV⟩,by simp only[List.length_cons];omega⟩ (h:=?wk1)
   case wk1=>
    and_intros<;> (first|exact wk_|refine A6 ?_|skip)
  ·rw[ep]at hb;have hb:c[j].i.nm=nm:=by simpa using hb
   have hV:C4a c nm to (j::vs) l:=by
    refine⟨fun x=>?_,by simp only[List.length_cons];omega⟩;rw[hq3.mem];refine or_congr_right ⟨fun⟨i,hi,h⟩=>⟨i,List.mem_cons_of_mem _ hi,h⟩,fun⟨i,hi,k,h1,h2,h3⟩=>?_⟩;rcases List.mem_cons.1 hi with rfl|hi
    ·rw[hgj]at h1;cases h1;exact absurd hb h2
    ·exact⟨i,hi,k,h1,h2,h3⟩
   refine A3 fD [] (fun bs=>?_);exact I0 [0,1,2,3,4] (j::vs,bi,T1,S1,ov,l) ⟨⟨hnd,hlt,hV⟩,by simp only[List.length_cons];omega⟩
 ·refine A3 fD [false] (fun bs=>?_);refine B4y 1 ?_;refine G1 4 [6] rfl ⟨rfl,trivial⟩ ?_;refine B3 fD ((T1,S1),l) ⟨fun x=>?_,?_⟩ [0,1,2,3]
  ·rw[hq3.mem];refine or_congr_right ⟨fun⟨j,hj,k,h1,h2,h3⟩=>⟨k,List.mem_of_getElem? h1,h2,h3⟩,fun⟨k,h1,h2,h3⟩=>?_⟩;obtain⟨j,hj,rfl⟩:=List.getElem_of_mem h1;exact⟨j,hall j (by simpa[dZ]using hj),_,gE_ hj,h2,h3⟩
  ·have h1:=hq3.n;have h2:=lD hq1 hq2;show l.length≤c.length+1;omega
def B3c (ba bd bm:Nat) (d:H8) (c:List Lk) (n:Int) (T S:Nat→Prop) (bA bl bw:Nat) (v:Value) (l:List Nat):List HB:=eA ba bd bm d c n T S++[.blk bA 24 [.ptr 0 ba 0],.blk bl 85 [.own 7 v],.blk bw 160 [.clo 71 [.ptr 4 bA 0,.ptr 5 bl 0,.ptr 6 bw 0]],.own v 56 .ptr l]
def C5o (ba bd bm:Nat) (d:H8) (c:List Lk) (n:Int) (bA bl bw:Nat) (nm:Bs) (p:List Lk):Prop:=∀(T S:Nat→Prop) (v:Value) (l:List Nat),l.length+p.length≤100→
 C5 Tryz.prog 71 [str nm,.c (.ptr 4 bA 0),.c (.ptr 5 bl 0),.c (.ptr 6 bw 0)] (B3c ba bd bm d c n T S bA bl bw v l) (fun _=>True) (fun _:((Nat→Prop)×(Nat→Prop))×Value=> .t []) (fun y=>B3c ba bd bm d c n y.1.1 y.1.2 bA bl bw y.2 (l++p.map fun k=>k.b))
def tV:D9:=⟨T,C9,A7,A9,23,[],none,.f⟩
theorem B3d:B1 Tryz.prog tV:=⟨B7,A2,A4⟩
theorem A1U:F0 Tryz.prog tV:=⟨tOk,B3d⟩
theorem C5p (ba bd bm:Nat) (d:H8) (c:List Lk) (hc:G2 d c) (n:Int) (T S:Nat→Prop) (bA bl bw:Nat) (v:Value) (l:List Nat) (nm:Bs) (h0:∀k∈c,k.i.nm≠nm):C5 Tryz.prog 71 [str nm,.c (.ptr 4 bA 0),.c (.ptr 5 bl 0),.c (.ptr 6 bw 0)] (B3c ba bd bm d c n T S bA bl bw v l) (fun _=>True) (fun _:((Nat→Prop)×(Nat→Prop))×Value=> .t []) (fun y=>B3c ba bd bm d c n y.1.1 y.1.2 bA bl bw y.2 l):=by
 refine I6 (E:=tV) Tryz.func71 (fun M0 W hM0=>?_);have e0:O8 VK.ptr.dft (H9 (dZ c) nm)=none:=by rw[A9i h0];rfl
 refine A3 A1U [] (fun bs=>?_);refine jU 5 e0 ?_;refine jU 12 e0 ?_;refine A3 A1U [false] (fun bs=>?_);exact Y6 A1U ((T,S),v) trivial [0,1,2,3,4,5,6,7]
def tW:D9:=⟨T,C9,A7,A9,23,[],none,.f⟩
theorem B3e:B1 Tryz.prog tW:=⟨B7,A2,A4⟩
theorem kS:F0 Tryz.prog tW:=⟨tOk,B3e⟩
theorem C5q (ba bd bm:Nat) (d:H8) (c:List Lk) (hc:G2 d c) (n:Int) (T S:Nat→Prop) (bA bl bw:Nat) (v:Value) (l:List Nat) (k:Lk) (p:List Lk) (hk:k∈c) (hl:l.length+(p.length+1)≤100) (ih:C5o ba bd bm d c n bA bl bw k.i.m.bk p):C5 Tryz.prog 71 [str k.i.nm,.c (.ptr 4 bA 0),.c (.ptr 5 bl 0),.c (.ptr 6 bw 0)] (B3c ba bd bm d c n T S bA bl bw v l) (fun _=>True) (fun _:((Nat→Prop)×(Nat→Prop))×Value=> .t []) (fun y=>B3c ba bd bm d c n y.1.1 y.1.2 bA bl bw y.2 (l++(k::p).map fun k=>k.b)):=by
 refine I6 (E:=tW) Tryz.func71 (fun M0 W hM0=>?_);have e0:O8 VK.ptr.dft (H9 (dZ c) k.i.nm)=some k.b:=by rw[hc.pt hk];rfl
 have hko:=hc.lk hk;obtain⟨l1,l2,hL⟩:=List.append_of_mem hko.mem;refine A3 kS [] (fun bs=>?_);refine Z3 5 20 e0 ?_;refine Z3 12 20 e0 ?_;refine A3 kS [true] (fun bs=>?_);refine aJ 2 20 hL (fun S2 S3=>?_);refine rD kS 4 [0,0,2,6,15] 2 [20,3] [4,5,6] (A0z bd k.b k.i S3 d S k.f hko.f k.v k.n hko.ok) (fun y _=>?_);refine gU 2 20 hL (fun S4=>?_);refine A5 [0,1,2,3,4,5,6,9] (ih S4 y.2 _ (l++[k.b]) (by simp;omega)) (fun z _=>?_);refine A3 kS [] (fun bs=>?_);refine Y6 kS z trivial [0,1,2,3,4,5,6,9] (hl:=?hl)
 case hl=>
  and_intros<;> (first|exact wk_|refine A6 ?_|skip)
  all_goals simp
theorem C6y (ba bd bm:Nat) (d:H8) (c:List Lk) (hc:G2 d c) (n:Int) (bA bl bw:Nat) {nm:Bs} {p:List Lk} (hp:lN c nm p):C5o ba bd bm d c n bA bl bw nm p:=by
 induction hp with
 |nil=>
  intro T S v l hl;have:=C5p ba bd bm d c hc n T S bA bl bw v l [] hc.ne;simpa using this
 |cons hk hp ih=>intro T S v l hl;exact C5q ba bd bm d c hc n T S bA bl bw v l _ _ hk (by simpa using hl) ih
def A1V:D9:=⟨T,C9,A7,A9,12,[],none,.f⟩
theorem B8E:B1 Tryz.prog A1V:=⟨B7,A2,A4⟩
theorem A5B:F0 Tryz.prog A1V:=⟨tOk,B8E⟩
theorem A5C (ba bd bm:Nat) (d:H8) (c:List Lk) (hc:G2 d c) (n:Int) (T S:Nat→Prop) (nm:Bs) (p:List Lk) (hp:lN c nm p) (hl:p.length≤100):C5 Tryz.prog 34 [.c (.ptr 0 ba 0),str nm] (eA ba bd bm d c n T S) (fun _=>True) (fun _:(Nat→Prop)×(Nat→Prop)=>lst .ptr (p.map fun k=>k.b)) (fun y=>eA ba bd bm d c n y.1 y.2):=by
 refine I6 (E:=A1V) Tryz.func34 (fun M0 W hM0=>?_);refine A3 A5B [] (fun bs=>?_);refine bZ 5 0 56 rfl rfl ?_;refine A5 [0,1,2,3,4,5,6,7] (C6y ba bd bm d c hc n _ _ _ hp T S (.slice none 0 0) [] (by simpa using hl)) (fun y _=>?_);refine A3 A5B [] (fun bs=>?_);refine G1 7 [4] rfl ⟨rfl,trivial⟩ ?_;exact B3 A5B y.1 trivial [0,1,2,3]


theorem C1n {α:Type} (g:α→Bs) {V:Type} (v:α→V) {c1 c2:List α} {k k':α} (hn:((c1++k::c2).map g).Nodup) (hg:g k'=g k):C1 (kk:= .str) ((c1++k::c2).map fun x=>(g x,v x)) (g k) (v k')=(c1++k'::c2).map fun x=>(g x,v x):=by
 induction c1 with
 |nil=>
  have e:KK.eqb (k:= .str) (g k) (g k)=true:=KK.eqb_iff.2 rfl;simp only[List.nil_append,List.map_cons,C1,e,hg]
 |cons x c1 ih=>
  simp only[List.cons_append,List.map_cons,List.nodup_cons]at hn;have e:KK.eqb (k:= .str) (g k) (g x)=false:=by
   cases hb:KK.eqb (k:= .str) (g k) (g x)with
   |false=>rfl
   |true=>exact absurd (List.mem_map.2 ⟨k,by simp,KK.eqb_iff.1 hb⟩) hn.1
  simp only[List.cons_append,List.map_cons,C1,e];rw[ih hn.2]
theorem B0v {α:Type} (g:α→Bs) {V:Type} (v:α→V) {c1 c2:List α} {k:α} (hn:((c1++k::c2).map g).Nodup):Y3 (kk:= .str) ((c1++k::c2).map fun x=>(g x,v x)) (g k)=(c1++c2).map fun x=>(g x,v x):=by
 induction c1 with
 |nil=>
  have e:KK.eqb (k:= .str) (g k) (g k)=true:=KK.eqb_iff.2 rfl;simp only[List.nil_append,List.map_cons,Y3,e]
 |cons x c1 ih=>
  simp only[List.cons_append,List.map_cons,List.nodup_cons]at hn;have e:KK.eqb (k:= .str) (g k) (g x)=false:=by
   cases hb:KK.eqb (k:= .str) (g k) (g x)with
   |false=>rfl
   |true=>exact absurd (List.mem_map.2 ⟨k,by simp,KK.eqb_iff.1 hb⟩) hn.1
  simp only[List.cons_append,List.map_cons,Y3,e];rw[ih hn.2]
theorem kT (c1 c2:List Lk) (k:Lk):T6 (c1++k::c2)=T6 c1++(k.b,k.i)::T6 c2:=by simp[T6]
theorem G2.upd {d:H8} {c1 c2:List Lk} {k k':Lk} (h:G2 d (c1++k::c2)) (hn:k'.i.nm=k.i.nm) (ho:P8 k'.f k'.i k'.v k'.n) (hh:k'.i.held=[]) (lg:Nat):G2 ⟨d.room,C1 d.files k.i.nm k'.f,lg⟩ (c1++k'::c2):=by
 have hnm:nmC (c1++k'::c2)=nmC (c1++k::c2):=by simp[nmC,hn]
 have hm:∀x∈c1++k'::c2,x=k'∨x∈c1++k::c2:=fun x hx=>by
  simp only[List.mem_append,List.mem_cons]at hx⊢;rcases hx with hx|hx|hx
  ·exact .inr (.inl hx)
  ·exact .inl hx
  ·exact .inr (.inr (.inr hx))
 refine⟨?_,by rw[hnm];exact h.nd,fun x hx=>?_,fun x hx=>?_,fun x hx=>?_,by have:=h.n;simp at this⊢;exact this⟩
 ·show C1 d.files k.i.nm k'.f=_;rw[h.fl];exact C1n (fun k:Lk=>k.i.nm) (fun k:Lk=>k.f) h.nd hn
 ·rcases hm x hx with rfl|hx;exact ho;exact h.ok x hx
 ·rcases hm x hx with rfl|hx;exact hh;exact h.hd x hx
 ·rcases hm x hx with rfl|hx
  ·rw[hn];exact h.ne k (by simp)
  ·exact h.ne x hx
theorem wU {c1 c2:List Lk} {k k':Lk} (hn:k'.i.nm=k.i.nm) (hb:k'.b=k.b):dZ (c1++k'::c2)=dZ (c1++k::c2):=by simp[dZ,hn,hb]
theorem G2.new {d:H8} {c:List Lk} {k:Lk} (h:G2 d c) (hn:∀x∈c,x.i.nm≠k.i.nm) (ho:P8 k.f k.i k.v k.n) (hh:k.i.held=[]) (he:k.i.nm≠[]) (h8:c.length≤7) (lg:Nat):G2 ⟨d.room,C1 d.files k.i.nm k.f,lg⟩ (c++[k]):=by
 refine⟨?_,?_,fun x hx=>?_,fun x hx=>?_,fun x hx=>?_,by simp;omega⟩
 ·show C1 d.files k.i.nm k.f=_;rw[dL (h.nf hn),h.fl];simp[flC]
 ·rw[nmC,List.map_append,List.nodup_append];refine⟨h.nd,by simp,fun a ha b hb=>?_⟩;obtain⟨x,hx,rfl⟩:=List.mem_map.1 ha;rw[List.map_cons,List.map_nil,List.mem_singleton]at hb;rw[hb];exact hn x hx
 all_goals
  rcases List.mem_append.1 hx with hx|hx
  ·first|exact h.ok x hx|exact h.hd x hx|exact h.ne x hx
  ·rw[List.mem_singleton.1 hx];first|exact ho|exact hh|exact he
theorem C1o {c:List Lk} {k:Lk} (hn:∀x∈c,x.i.nm≠k.i.nm):C1 (dZ c) k.i.nm (some k.b)=dZ (c++[k]):=by
 rw[dL (A9i hn)];simp[dZ]
theorem G2.del {d:H8} {c1 c2:List Lk} {k:Lk} (h:G2 d (c1++k::c2)):G2 ⟨d.room,Y3 d.files k.i.nm,d.lg⟩ (c1++c2):=by
 have hm:∀x∈c1++c2,x∈c1++k::c2:=fun x hx=>by
  simp only[List.mem_append,List.mem_cons]at hx⊢;rcases hx with hx|hx
  ·exact .inl hx
  ·exact .inr (.inr hx)
 refine⟨?_,?_,fun x hx=>h.ok x (hm x hx),fun x hx=>h.hd x (hm x hx),fun x hx=>h.ne x (hm x hx),by have:=h.n;simp at this⊢;omega⟩
 ·show Y3 d.files k.i.nm=_;rw[h.fl];exact B0v (fun k:Lk=>k.i.nm) (fun k:Lk=>k.f) h.nd
 ·have:=h.nd;simp only[nmC,List.map_append,List.map_cons]at this⊢;exact this.sublist (List.Sublist.append_left (List.sublist_cons_self _ _) _)
theorem B0w {d:H8} {c1 c2:List Lk} {k:Lk} (h:G2 d (c1++k::c2)):Y3 (dZ (c1++k::c2)) k.i.nm=dZ (c1++c2):=B0v (fun k:Lk=>k.i.nm) (fun k:Lk=>(some k.b:VK.ptr.T)) h.nd
structure cI (d:H8) (c:List Lk) (m N B:Nat):Prop where
 rm:d.room≤1048576
 sp:(m:Int)*B+70≤d.room
 cl:c.length≤m
 nb:∀k∈c,k.n≤N
 N60:N≤60
 B:2+64*N≤B∧B≤4000
 lg:d.lg≤100000000
theorem C1p {l:vS} {B:Nat} (h:∀p∈l,p.2.now.length≤B):aK l≤(l.length:Int)*B:=by
 induction l with
 |nil=>simp[aK,szs]
 |cons p l ih=>
  have h1:=ih fun q hq=>h q (by simp[hq])
  have h2:=h p (by simp);have e:aK (p::l)=p.2.now.length+aK l:=by simp[aK,szs]
  have e2:(((p::l).length:Nat):Int)*B=B+(l.length:Int)*B:=by simp[Int.add_mul];omega
  rw[e,e2];omega
theorem cI.le {d:H8} {c:List Lk} {m N B:Nat} (h:G2 d c) (hr:cI d c m N B):∀p∈d.files,p.2.now.length≤B:=by
 intro p hp;rw[h.fl]at hp;obtain⟨k,hk,rfl⟩:=List.mem_map.1 hp;have h1:=(h.ok k hk).len;have h2:=hr.nb k hk;have h3:=hr.B;show k.f.now.length≤B;omega
theorem cI.sum {d:H8} {c:List Lk} {m N B:Nat} (hr:cI d c m N B) {l:vS} (h:∀p∈l,p.2.now.length≤B) (hl:l.length≤m):aK l+70≤d.room:=by
 have h1:=C1p h;have h2:=hr.sp;have h3:(l.length:Int)*B≤(m:Int)*B:=Int.mul_le_mul_of_nonneg_right (by omega) (by omega);omega
theorem A9l {d:H8} {c:List Lk} (h:G2 d c):d.files.length=c.length:=by rw[h.fl];simp[flC]
theorem cI.dok {d:H8} {c:List Lk} {m N B:Nat} (h:G2 d c) (hr:cI d c m N B):DOk d:=by
 have h1:=hr.le h;have h2:=A9l h;have h3:=h.n;exact⟨fun p hp=>Nat.le_trans (h1 p hp) hr.B.2,by omega,hr.sum h1 (by have:=hr.cl;omega),hr.rm,by have:=hr.lg;omega⟩
theorem cI.dk {d:H8} {c:List Lk} {m N B:Nat} (h:G2 d c) (hr:cI d c m N B) {k:Lk} (hk:k∈c) {N' l:Nat} (hN:N'≤N) (hl:l≤1000000):A1N d k.i.nm N' l:=by
 have h1:=hr.le h;have h2:=A9l h;have h3:=h.n;have hf:=(h.lk hk).f;have h4:=hr.B;refine⟨fun p hp=>Nat.le_trans (h1 p hp) hr.B.2,by omega,fun f' hf'=>hr.sum (fun p hp=>?_) (by rw[A6U hf];have:=hr.cl;omega),hr.rm,by have:=hr.lg;omega⟩;rcases A7V hf hp with h5|h5
 ·exact h1 p h5
 ·rw[h5];omega
abbrev vV (kd:Int) (nm to:Bs) (at_ n m:Int) (b:Bs):A:= .g [.pv (i64 kd),.pv (sv nm),.pv (sv to),.pv (i64 at_),.pv (i64 n),.pv (i64 m),.pv (.lst .byt b)]
structure A9m (d:H8) (c0:UInt8) (cl sz:Int) (bk:Bs) (k:Lk) (lg:Nat):Prop where
 nm:k.i.nm=[c0]
 m:k.i.m=Z8 cl sz bk
 hd:k.i.held=[]
 ok:P8 k.f k.i k.v k.n
 v:∀j,k.v j=none
 n:k.n=1
 lg:lg≤d.lg+60
def tX:D9:=⟨T,C9,A7,A9,118,[],none,.f⟩
theorem B3f:B1 Tryz.prog tX:=⟨B7,A2,A4⟩
theorem M4:F0 Tryz.prog tX:=⟨tOk,B3f⟩
theorem C5r (ba bd bm:Nat) (d:H8) (c:List Lk) (hc:G2 d c) (n:Int) (T S:Nat→Prop) (c0:UInt8) (hc0:97≤c0.toNat∧c0.toNat≤122) (hno:∀k∈c,k.i.nm≠[c0]) (cl sz:Int) (hok:MOk (Z8 cl sz [])) (hsz:sz≤16) (h7:c.length≤7) (hd:DOk d) (at_:Int) (b:Bs):C5 Tryz.prog 13 [.c (.ptr 0 ba 0),vV 1 [c0] [] at_ cl sz b] (eA ba bd bm d c n T S) (fun y:((Nat→Prop)×(Nat→Prop))×Lk×Nat=>A9m d c0 cl sz [] y.2.1 y.2.2) (fun y=>int .i64 0) (fun y=>eA ba bd bm ⟨d.room,C1 d.files [c0] y.2.1.f,y.2.2⟩ (c++[y.2.1]) n y.1.1 y.1.2):=by
 refine I6 (E:=tX) Tryz.func13 (fun M0 W hM0=>?_);have hcl:=hok.c;have hs:=hok.s;have hdv:=hok.d;have hp:=P5 hcl;have hcl:0≤cl∧cl≤6:=hcl;have hs:0≤sz∧sz≤4096:=hs;have hdv:sz%2 ^ cl.toNat=0:=hdv;have hp:1≤(2:Int) ^ cl.toNat∧(2:Int) ^ cl.toNat≤64:=hp;refine J3 M4 (fun _=>some false) [false,false,false,false,false] (fun bs=>?_) (fun bs=>?_)
 ·and_intros<;> first|exact trivial|exact rfl|omega|exact hc0.1|exact hc0.2|exact decide_eq_false (by omega)
 refine mC M4 5 [0,1,0,4,12,31,63,127] [] (fun bs=>?_) (fun bs=>?_)
 ·and_intros<;> first|exact trivial|exact rfl|omega|(show cl≤64;omega)|(simp;omega)
 refine J3 M4 (fun _=>some false) [false] (fun bs=>?_) (fun bs=>?_)
 ·and_intros<;> first|exact trivial|exact rfl|(show(!decide (sz%(1*2 ^ cl.toNat)=0))=false;rw[Int.one_mul,hdv];rfl)|omega|(rw[Int.one_mul];omega)
 have e0:O8 VK.ptr.dft (H9 (dZ c) [c0])=none:=by rw[A9i hno];rfl
 refine R3 M4 6 [0,1,3,7,0,16,63,127,255] [] (fun bs=>?_);refine A3 M4 [] (fun bs=>?_);refine jU 41 e0 ?_;refine A3 M4 [false] (fun bs=>?_);have hml:(dZ c).length=c.length:=by simp[dZ]
 refine J3 M4 (fun _=>none) [false] (fun bs=>?_) (fun bs=>?_)
 ·and_intros<;> first|exact trivial|exact rfl|exact decide_eq_false (by rw[hml];omega)
 refine C2P M4 (fun _=>some false) 10 [0,1,3,7,15,31,63,127,15,271,1023,2047,4095,8191] [] (fun bs=>?_);refine L7 M4 (fun _=>some false) [false] (fun bs=>?_);refine rD M4 8 [0,0,2,0,8,31,0,64,255,511] 5 [0,1,2,3] [4] (C6x ba bd bm d c hc n T S [c0] []) (fun y hy=>?_);have hw:∃p,Way y.2 p∧(p.getD 0 iY).nm=[c0]:=⟨_,C4X hc hy .nil (by simp[nmC]) (Nat.zero_le _),rfl⟩
 refine J3 M4 (fun _=>none) [false,false] (fun bs=>?_) (fun bs=>?_)
 ·and_intros<;> first|exact trivial|exact rfl|exact hw
 refine X3 [0,1,2,3,4] [(0,.c (.ptr 0 ba 0)),(3,.c (.ptr 4 ?bc 0)),(4,int .i64 0)] (eA ba bd bm d c n y.1.1 y.1.2++[.blk ?bc 34 [.pv (i64 1),.pv (sv [c0]),.pv (sv []),.pv (i64 at_),.pv (i64 cl),.pv (i64 sz),.pv (.lst .byt b)]]) ?_;refine rD M4 17 [0,1,3,7,0,16,0,64,0,256,0,1024,4095,8191,16383,16383,32767,131071] 12 [3] [0,4] (C1Z bd d y.1.2 c0 hc0 cl sz [] hok hsz (hc.nf hno) hd (by rw[A9l hc];omega)) (fun z hz=>?_);refine A3 M4 [false,true] (fun bs=>?_);obtain⟨⟨T1,S1⟩,b1,f1,s1,lg1⟩:=z;obtain⟨hz1,hz2⟩:=hz;have hnew:=C1o (c:=c) (k:=⟨b1,⟨[c0],Z8 cl sz [],Z8 cl sz [],[],s1,false,0,[]⟩,f1,fun _=>none,1⟩) hno
 refine R3 M4 7 [0,1,3,7,0,16,0,127] [] (fun bs=>?_);refine A3 M4 [] (fun bs=>?_);refine yE 2 5 (l:=T6 (c++[(⟨b1,⟨[c0],Z8 cl sz [],Z8 cl sz [],[],s1,false,0,[]⟩,f1,fun _=>none,1⟩:Lk)])) (l0:=T6 c) (l1:=T6 c) (l2:=[]) (x:=(b1,⟨[c0],Z8 cl sz [],Z8 cl sz [],[],s1,false,0,[]⟩)) (by simp[T6]) (by simp) (fun T2=>?_);refine B3 M4 ((T2,S1),⟨b1,⟨[c0],Z8 cl sz [],Z8 cl sz [],[],s1,false,0,[]⟩,f1,fun _=>none,1⟩,lg1) ⟨rfl,rfl,rfl,hz1,fun _=>rfl,rfl,hz2⟩ [0,1,2,3] (hl:=?hl)
 case hl=>
  and_intros<;> (first|exact wk_|refine A6 ?_|skip)
  all_goals first|exact hnew|(rw[hnew];exact rfl)

theorem lN.hd {d:H8} {c:List Lk} (hc:G2 d c) {k:Lk} {r:List Lk} (hp:lN c k.i.nm (k::r)):∀x∈r,x.i.nm≠k.i.nm:=by
 intro x hx e;have:=hp.un hc;exact(List.nodup_cons.1 this).1 (List.mem_map.2 ⟨x,hx,e⟩)
theorem A9n {α:Type} [DecidableEq α] {l:List α}:∀{g:List α},l.Nodup→(∀a∈l,a∈g)→l.length≤g.length:=by
 induction l with
 |nil=>intro g _ _;exact Nat.zero_le _
 |cons a l ih=>
  intro g hn hs;have ha:=hs a (by simp);obtain⟨h1,h2⟩:=List.nodup_cons.1 hn;have h3:=ih (g:=g.erase a) h2 (fun b hb=>(List.mem_erase_of_ne (fun e:b=a=>h1 (by rw[←e];exact hb))).2 (hs b (by simp[hb])));rw[List.length_erase_of_mem ha]at h3;have:=List.length_pos_of_mem ha;simp only[List.length_cons];omega
theorem lN.len {d:H8} {c:List Lk} (hc:G2 d c) {nm:Bs} {p:List Lk} (hp:lN c nm p):p.length≤c.length:=by
 have h1:=hp.un hc;have h2:(nmC p).length≤(nmC c).length:=by
  refine A9n h1 fun x hx=>?_
  obtain⟨k,hk,rfl⟩:=List.mem_map.1 hx;exact List.mem_map.2 ⟨k,hp.mem k hk,rfl⟩
 simpa[nmC]using h2
theorem B0x (bd:Nat) (c1 c2:List Lk) (k:Lk) (S:Nat→Prop):jB (U2 (cT bd) (T6 (c1++k::c2)) S) (U2 (cT bd) (T6 c1++(k.b,k.i)::T6 c2) S):=by rw[kT];exact rfl
theorem A7Y (bd:Nat) (c1 c2:List Lk) (k:Lk) (S:Nat→Prop):jB (U2 (cT bd) (T6 c1++(k.b,k.i)::T6 c2) S) (U2 (cT bd) (T6 (c1++k::c2)) S):=by rw[kT];exact rfl
theorem B8F (bm:Nat) {c c':List Lk} (h:dZ c=dZ c'):jB (.mp bm .str .ptr (dZ c)) (.mp bm .str .ptr (dZ c')):=by rw[h];exact rfl
def A5D:D9:=⟨T,C9,A7,A9,88,[],none,.f⟩
theorem C1q:B1 Tryz.prog A5D:=⟨B7,A2,A4⟩
theorem oD:F0 Tryz.prog A5D:=⟨tOk,C1q⟩
theorem aWr (ba bd bm:Nat) (d:H8) (c1 c2:List Lk) (k:Lk) (r:List Lk) (hc:G2 d (c1++k::c2)) (n:Int) (T S:Nat→Prop) (hpt:lN (c1++k::c2) k.i.nm (k::r)) (hfr:∀x∈c1++k::c2,x.i.m.bk≠k.i.nm) (a nn:Nat) (hs:((a+nn:Nat):Int)≤k.i.m.size) (to b:Bs) (hb:b.length=16*nn) (m N B:Nat) (hr:cI d (c1++k::c2) m N B) (hkN:k.n+nn≤N) (cN cM:Int):C5 Tryz.prog 18 [.c (.ptr 0 ba 0),vV 4 k.i.nm to a cN cM b] (eA ba bd bm d (c1++k::c2) n T S) (fun y:((Nat→Prop)×(Nat→Prop))×Lk×Nat=>Wrt d k r a nn b y.2.1 y.2.2) (fun y=>int .i64 0) (fun y=>eA ba bd bm ⟨d.room,C1 d.files k.i.nm y.2.1.f,y.2.2⟩ (c1++y.2.1::c2) n y.1.1 y.1.2):=by
 refine I6 (E:=A5D) Tryz.func18 (fun M0 W hM0=>?_);have hkm:k∈c1++k::c2:=by simp
 have hko:=hc.lk hkm;have hz16:=hko.ok.gm.sz;have h8:=hpt.len hc;have hc8:=hc.n;have hN60:=hr.N60;refine A3 oD [] (fun bs=>?_);refine R3 oD 6 [0,1,3,7,0,16,63,127] [] (fun bs=>?_);refine A3 oD [] (fun bs=>?_);refine A5 [0,1,2,3] (A5C ba bd bm d (c1++k::c2) hc n T S k.i.nm (k::r) hpt (by omega)) (fun y _=>?_);refine A3 oD [true,true] (fun bs=>?_);refine A5 [0,1,2,3] (B8C ba bd bm d (c1++k::c2) hc n y.1 y.2 k.i.nm hfr) (fun u _=>?_);refine A3 oD [false,true] (fun bs=>?_);refine A5 [2,3] (C4T bd (T6 c1) (T6 c2) u.1 d u.2 k r (fun x hx=>by rw[←kT];exact hc.lk (hpt.mem x hx)) (hpt.hd hc) (by rw[hc.hd k hkm];exact Nat.zero_le _) a nn hs b hb (by omega) (hr.dk hc hkm hkN (by omega))) (fun z hz=>?_) (hl:=?hl1)
 case hl1=>
  and_intros<;> (first|exact wk_|refine A6 ?_|skip)
  all_goals first|exact B0x _ _ _ _ _
 obtain⟨⟨T2,D2⟩,k',lg'⟩:=z;have hz:Wrt d k r a nn b k' lg':=hz;refine A3 oD [] (fun bs=>?_);refine B3 oD ((T2,D2),k',lg') hz [0,1,2,3] (hl:=?hl2)
 case hl2=>
  and_intros<;> (first|exact wk_|refine A6 ?_|skip)
  all_goals first|exact(wU hz.sm.nm hz.bb).symm|exact A7Y _ _ _ _ _|exact B8F _ (wU hz.sm.nm hz.bb).symm
abbrev C1r (e:Int) (b:Bs):A:= .g [.pv (i64 e),.pv (.lst .byt b),.pv (.nil .str),.pv (.nil .spn),.pv (i64 0),.pv (i64 0)]
def A5E:D9:=⟨T,C9,A7,A9,145,[],none,.f⟩
theorem C1s:B1 Tryz.prog A5E:=⟨B7,A2,A4⟩
theorem O3:F0 Tryz.prog A5E:=⟨tOk,C1s⟩
theorem aRd (ba bd bm:Nat) (d:H8) (c:List Lk) (hc:G2 d c) (n:Int) (T S:Nat→Prop) (k:Lk) (r:List Lk) (hpt:lN c k.i.nm (k::r)) (a nn:Nat) (hs:((a+nn:Nat):Int)≤k.i.m.size) (to b:Bs) (cM:Int):C5 Tryz.prog 16 [.c (.ptr 0 ba 0),vV 3 k.i.nm to a nn cM b] (eA ba bd bm d c n T S) (fun _=>True) (fun _:(Nat→Prop)×(Nat→Prop)=>C1r 0 (O2 (k::r) a nn)) (fun y=>eA ba bd bm d c n y.1 y.2):=by
 refine I6 (E:=A5E) Tryz.func16 (fun M0 W hM0=>?_);have hkm:k∈c:=hpt.mem k (by simp);have hko:=hc.lk hkm;have h8:=hpt.len hc;have hc8:=hc.n;obtain⟨l1,l2,hL⟩:=List.append_of_mem hko.mem;have e0:O8 VK.ptr.dft (H9 (dZ c) k.i.nm)=some k.b:=by rw[hc.pt hkm];rfl
 refine A3 O3 [] (fun bs=>?_);refine R3 O3 6 [0,1,3,7,0,16,63,127] [] (fun bs=>?_);refine A3 O3 [] (fun bs=>?_);refine Z3 22 20 e0 ?_;refine aJ 2 20 hL (fun S1 S2=>?_);refine A5 [20,3] (A0z bd k.b k.i S2 d S k.f hko.f k.v k.n hko.ok) (fun u _=>?_);refine gU 2 20 hL (fun S3=>?_);refine A3 O3 [true] (fun bs=>?_);refine X3 [0,1,2,3,4,5,22] [(0,.c (.ptr 0 ba 0)),(3,.c (.ptr 4 ?bc 0)),(4,.c (.ptr 5 ?br 0)),(7,.c (.ptr 6 ?b7 0))] (eA ba bd bm d c n S3 u.2++[.blk ?bc 34 [.pv (i64 3),.pv (sv k.i.nm),.pv (sv to),.pv (i64 a),.pv (i64 nn),.pv (i64 cM),.pv (.lst .byt b)],.blk ?br 31 [.pv (i64 0),.pv (.nil .byt),.pv (.nil .str),.pv (.nil .spn),.pv (i64 0),.pv (i64 0)],.blk ?b7 31 [.pv (i64 0),.pv (.nil .byt),.pv (.nil .str),.pv (.nil .spn),.pv (i64 0),.pv (i64 0)]]) ?_
 refine vR 16 ?_;refine X4 0 ?_;refine C0 1 O3 ?_;refine C0 4 O3 ?_;refine C0 6 O3 ?_;refine D8 2 O3 ?_;refine nS (X:=(Nat→Prop)×(Nat→Prop)) (fun _=>True) 8 [0,1,2,3,4,5,6,7] (fun y=>[(4,.c (.ptr 5 ?br 0)),(7,.c (.ptr 6 ?b7 0)),(63,lst .ptr ((k::r).map fun k=>k.b)),(65,int .i64 a),(67,int .i64 nn)]) (fun y=>eA ba bd bm d c n y.1 y.2++[.blk ?bc 34 [.pv (i64 3),.pv (sv k.i.nm),.pv (sv to),.pv (i64 a),.pv (i64 nn),.pv (i64 cM),.pv (.lst .byt b)],.blk ?br 31 [.pv (i64 0),.pv (.nil .byt),.pv (.nil .str),.pv (.nil .spn),.pv (i64 0),.pv (i64 0)],.blk ?b7 31 [.pv (i64 0),.pv (.nil .byt),.pv (.nil .str),.pv (.nil .spn),.pv (i64 0),.pv (i64 0)]]) ?_ (fun fin=>?_)
 rotate_left
 refine B2 [3,5,7] rfl (by simp) ⟨E7 [0,1,2,3] (fun n=>n) (A5C ba bd bm d c hc n S3 u.2 k.i.nm (k::r) hpt (by omega)) rfl rfl trivial rfl rfl rfl rfl (by decide) rfl rfl (fun x=>rfl) (fun y _=>?_),A8 5 O3 (fun _=>?_),A8 7 O3 (fun _=>?_),trivial⟩
 ·refine D8 5 O3 ?_;refine D8 7 O3 ?_;exact F5 [0,1,2,3,4,5,6] _ _ _ (fin y trivial)
 ·refine B2 [3,7] rfl (by simp) ⟨E7 [0,1,2,3] (fun n=>n) (A5C ba bd bm d c hc n S3 u.2 k.i.nm (k::r) hpt (by omega)) rfl rfl trivial rfl rfl rfl rfl (by decide) rfl rfl (fun x=>rfl) (fun y _=>?_),A8 7 O3 (fun _=>?_),trivial⟩
  ·refine D8 7 O3 ?_;exact F5 [0,1,2,3,4,5,6] _ _ _ (fin y trivial)
  ·refine E4 3 rfl (E7 [0,1,2,3] (fun n=>n) (A5C ba bd bm d c hc n S3 u.2 k.i.nm (k::r) hpt (by omega)) rfl rfl trivial rfl rfl rfl rfl (by decide) rfl rfl (fun x=>rfl) (fun y _=>?_));exact F5 [0,1,2,3,4,5,6] _ _ _ (fin y trivial)
 ·refine B2 [3,5] rfl (by simp) ⟨E7 [0,1,2,3] (fun n=>n) (A5C ba bd bm d c hc n S3 u.2 k.i.nm (k::r) hpt (by omega)) rfl rfl trivial rfl rfl rfl rfl (by decide) rfl rfl (fun x=>rfl) (fun y _=>?_),A8 5 O3 (fun _=>?_),trivial⟩
  ·refine D8 5 O3 ?_;exact F5 [0,1,2,3,4,5,6] _ _ _ (fin y trivial)
  ·refine E4 3 rfl (E7 [0,1,2,3] (fun n=>n) (A5C ba bd bm d c hc n S3 u.2 k.i.nm (k::r) hpt (by omega)) rfl rfl trivial rfl rfl rfl rfl (by decide) rfl rfl (fun x=>rfl) (fun y _=>?_));exact F5 [0,1,2,3,4,5,6] _ _ _ (fin y trivial)
 intro y _;refine E4 8 rfl ?_;refine E7 [2,3] (fun n=>n-2) (B7r bd (T6 c) d (k::r) (fun x hx=>hc.lk (hpt.mem x hx)) y.1 y.2 a nn (fun k' r' e=>by cases e;exact hs) (by simp)) rfl rfl trivial rfl rfl rfl rfl (by decide) rfl rfl (fun x=>rfl) (fun z _=>?_);refine X4 9 ?_;refine gG 10 ?_;refine gG 11 ?_;refine C0 12 O3 ?_;refine F7 13 O3 (fun _=>?_);refine C0 14 O3 ?_;refine F7 15 O3 (fun _=>?_);refine iV ?_;refine A3 O3 [] (fun bs=>?_);refine K7 5 1 7 rfl rfl rfl ?_;exact B3 O3 z.1 trivial [0,1,2,3]
def A1W:D9:=⟨T,C9,A7,A9,82,[],none,.f⟩
theorem B8G:B1 Tryz.prog A1W:=⟨B7,A2,A4⟩
theorem cU:F0 Tryz.prog A1W:=⟨tOk,B8G⟩
theorem C6z (ba bd bm:Nat) (d:H8) (c1 c2:List Lk) (k:Lk) (hc:G2 d (c1++k::c2)) (n:Int) (T S:Nat→Prop) (hfr:∀x∈c1++k::c2,x.i.m.bk≠k.i.nm) (hg:d.lg≤100000000) (to b:Bs) (cA cN cM:Int):C5 Tryz.prog 17 [.c (.ptr 0 ba 0),vV 2 k.i.nm to cA cN cM b] (eA ba bd bm d (c1++k::c2) n T S) (fun _=>True) (fun _:(Nat→Prop)×(Nat→Prop)=>int .i64 0) (fun y=>eA ba bd bm ⟨d.room,Y3 d.files k.i.nm,d.lg⟩ (c1++c2) n y.1 y.2):=by
 refine I6 (E:=A1W) Tryz.func17 (fun M0 W hM0=>?_);have hkm:k∈c1++k::c2:=by simp
 have hko:=hc.lk hkm;refine A3 cU [] (fun bs=>?_);refine R3 cU 6 [0,1,3,7,0,16,63,127] [] (fun bs=>?_);refine A3 cU [true] (fun bs=>?_);refine A5 [0,1,2,3] (B8C ba bd bm d (c1++k::c2) hc n T S k.i.nm hfr) (fun u _=>?_);refine A3 cU [false] (fun bs=>?_);refine R3 cU 6 [0,1,3,7,0,16,63,127] [] (fun bs=>?_);refine A5 [3] (B9x bd d u.2 k.i.nm k.f hko.f (by omega)) (fun S1 _=>?_);refine A3 cU [true] (fun bs=>?_);refine R3 cU 6 [0,1,3,7,0,16,63] [] (fun bs=>?_);refine A3 cU [] (fun bs=>?_);refine aJ 2 20 (kT c1 c2 k) (fun S2 S3=>?_);refine B3 cU (S2,S1) trivial [0,1,2,3] (hl:=?hl)
 case hl=>
  and_intros<;> (first|exact wk_|refine A6 ?_|skip)
  all_goals first|exact B0w hc|exact C6Q (B0w hc)|(show jB (U2 (cT bd) (T6 c1++T6 c2) S2) (U2 (cT bd) (T6 (c1++c2)) S2);rw[show T6 (c1++c2)=T6 c1++T6 c2 by simp[T6]];exact rfl)

abbrev B8H (e:Int):A:= .g [.pv (i64 e),.pv (.nil .byt),.pv (.nil .str),.pv (.nil .spn),.pv (i64 0),.pv (i64 0)]
def A1X:D9:=⟨T,C9,A7,A9,5,[],none,.f⟩
theorem B8I:B1 Tryz.prog A1X:=⟨B7,A2,A4⟩
theorem B0y:F0 Tryz.prog A1X:=⟨tOk,B8I⟩
theorem C1t (e:Int):C5 Tryz.prog 10 [int .i64 e] [] (fun _=>True) (fun _:Unit=>B8H e) (fun _=>[]):=by
 refine I6 (E:=A1X) Tryz.func10 (fun M0 W hM0=>?_);refine A3 B0y [] (fun bs=>?_);exact B3 B0y () trivial []
def A5F:D9:=⟨T,C9,A7,A9,84,[],none,.f⟩
theorem C1u:B1 Tryz.prog A5F:=⟨B7,A2,A4⟩
theorem iN:F0 Tryz.prog A5F:=⟨tOk,C1u⟩
theorem oWr (ba bd bm:Nat) (d:H8) (c1 c2:List Lk) (k:Lk) (r:List Lk) (hc:G2 d (c1++k::c2)) (n:Int) (T S:Nat→Prop) (hpt:lN (c1++k::c2) k.i.nm (k::r)) (hfr:∀x∈c1++k::c2,x.i.m.bk≠k.i.nm) (a nn:Nat) (hs:((a+nn:Nat):Int)≤k.i.m.size) (to b:Bs) (hb:b.length=16*nn) (m N B:Nat) (hr:cI d (c1++k::c2) m N B) (hkN:k.n+nn≤N) (cN cM:Int):C5 Tryz.prog 8 [.c (.ptr 0 ba 0),vV 4 k.i.nm to a cN cM b] (eA ba bd bm d (c1++k::c2) n T S) (fun y:((Nat→Prop)×(Nat→Prop))×Lk×Nat×Int=>Wrt d k r a nn b y.2.1 y.2.2.1) (fun y=>B8H 0) (fun y=>eA ba bd bm ⟨d.room,C1 d.files k.i.nm y.2.1.f,y.2.2.1⟩ (c1++y.2.1::c2) y.2.2.2 y.1.1 y.1.2):=by
 refine I6 (E:=A5F) Tryz.func8 (fun M0 W hM0=>?_);refine A3 iN [false] (fun bs=>?_);refine A5 [3] (A9k bd d S (hc.nf hc.ne)) (fun S1 _=>?_);refine A3 iN [false] (fun bs=>?_);refine A5 [0,1,2,3] (A2J ba 49 2 [.ptr 3 bd 0,.mpt 1 bm,.pv (i64 n)] [.mp bm .str .ptr (dZ (c1++k::c2)),U2 (cT bd) (T6 (c1++k::c2)) T,D3 bd d S1] n 1 rfl) (fun n2 _=>?_);refine A3 iN [false,false,false,false] (fun bs=>?_);have e0:O8 VK.ptr.dft (H9 (dZ (c1++k::c2)) k.i.nm)=some k.b:=by rw[hc.pt (by simp)];rfl
 refine R3 iN 6 [0,1,3,7,0,16,63,127,255] [] (fun bs=>?_);refine A3 iN [] (fun bs=>?_);refine Z3 56 20 e0 ?_;refine A3 iN [false,false,false,false,false,false,false,false,false,false,false] (fun bs=>?_);refine A5 [0,1,2,3] (aWr ba bd bm d c1 c2 k r hc n2 T S1 hpt hfr a nn hs to b hb m N B hr hkN cN cM) (fun y hy=>?_);refine A3 iN [] (fun bs=>?_);refine A5 [] (C1t 0) (fun _ _=>?_);refine A3 iN [] (fun bs=>?_);exact B3 iN (y.1,y.2.1,y.2.2,n2) hy [0,1,2,3]
def A5G:D9:=⟨T,C9,A7,A9,84,[],none,.f⟩
theorem C1v:B1 Tryz.prog A5G:=⟨B7,A2,A4⟩
theorem kU:F0 Tryz.prog A5G:=⟨tOk,C1v⟩
theorem oRd (ba bd bm:Nat) (d:H8) (c:List Lk) (hc:G2 d c) (n:Int) (T S:Nat→Prop) (k:Lk) (r:List Lk) (hpt:lN c k.i.nm (k::r)) (a nn:Nat) (hs:((a+nn:Nat):Int)≤k.i.m.size) (to b:Bs) (cM:Int):C5 Tryz.prog 8 [.c (.ptr 0 ba 0),vV 3 k.i.nm to a nn cM b] (eA ba bd bm d c n T S) (fun _=>True) (fun _:((Nat→Prop)×(Nat→Prop))×Int=>C1r 0 (O2 (k::r) a nn)) (fun y=>eA ba bd bm d c y.2 y.1.1 y.1.2):=by
 refine I6 (E:=A5G) Tryz.func8 (fun M0 W hM0=>?_);refine A3 kU [false] (fun bs=>?_);refine A5 [3] (A9k bd d S (hc.nf hc.ne)) (fun S1 _=>?_);refine A3 kU [false] (fun bs=>?_);refine A5 [0,1,2,3] (A2J ba 49 2 [.ptr 3 bd 0,.mpt 1 bm,.pv (i64 n)] [.mp bm .str .ptr (dZ c),U2 (cT bd) (T6 c) T,D3 bd d S1] n 1 rfl) (fun n2 _=>?_);refine A3 kU [false,false,false,false] (fun bs=>?_);have e0:O8 VK.ptr.dft (H9 (dZ c) k.i.nm)=some k.b:=by rw[hc.pt (hpt.mem k (by simp))];rfl
 refine R3 kU 6 [0,1,3,7,0,16,63,127,255] [] (fun bs=>?_);refine A3 kU [] (fun bs=>?_);refine Z3 56 20 e0 ?_;refine A3 kU [false,true,true] (fun bs=>?_);refine A5 [0,1,2,3] (aRd ba bd bm d c hc n2 T S1 k r hpt a nn hs to b cM) (fun y _=>?_);refine A3 kU [] (fun bs=>?_);exact B3 kU (y,n2) trivial [0,1,2,3]
def A1Y:D9:=⟨T,C9,A7,A9,84,[],none,.f⟩
theorem B8J:B1 Tryz.prog A1Y:=⟨B7,A2,A4⟩
theorem cV:F0 Tryz.prog A1Y:=⟨tOk,B8J⟩
theorem C7A (ba bd bm:Nat) (d:H8) (c1 c2:List Lk) (k:Lk) (hc:G2 d (c1++k::c2)) (n:Int) (T S:Nat→Prop) (hfr:∀x∈c1++k::c2,x.i.m.bk≠k.i.nm) (hg:d.lg≤100000000) (to b:Bs) (cA cN cM:Int):C5 Tryz.prog 8 [.c (.ptr 0 ba 0),vV 2 k.i.nm to cA cN cM b] (eA ba bd bm d (c1++k::c2) n T S) (fun _=>True) (fun _:((Nat→Prop)×(Nat→Prop))×Int=>B8H 0) (fun y=>eA ba bd bm ⟨d.room,Y3 d.files k.i.nm,d.lg⟩ (c1++c2) y.2 y.1.1 y.1.2):=by
 refine I6 (E:=A1Y) Tryz.func8 (fun M0 W hM0=>?_);refine A3 cV [false] (fun bs=>?_);refine A5 [3] (A9k bd d S (hc.nf hc.ne)) (fun S1 _=>?_);refine A3 cV [false] (fun bs=>?_);refine A5 [0,1,2,3] (A2J ba 49 2 [.ptr 3 bd 0,.mpt 1 bm,.pv (i64 n)] [.mp bm .str .ptr (dZ (c1++k::c2)),U2 (cT bd) (T6 (c1++k::c2)) T,D3 bd d S1] n 1 rfl) (fun n2 _=>?_);refine A3 cV [false,false,false,false] (fun bs=>?_);have e0:O8 VK.ptr.dft (H9 (dZ (c1++k::c2)) k.i.nm)=some k.b:=by rw[hc.pt (by simp)];rfl
 refine R3 cV 6 [0,1,3,7,0,16,63,127,255] [] (fun bs=>?_);refine A3 cV [] (fun bs=>?_);refine Z3 56 20 e0 ?_;refine A3 cV [false,false,false,false,false,false,true,true] (fun bs=>?_);refine A5 [0,1,2,3] (C6z ba bd bm d c1 c2 k hc n2 T S1 hfr hg to b cA cN cM) (fun y _=>?_);refine A3 cV [] (fun bs=>?_);refine A5 [] (C1t 0) (fun _ _=>?_);refine A3 cV [] (fun bs=>?_);exact B3 cV (y,n2) trivial [0,1,2,3]
def A1Z:D9:=⟨T,C9,A7,A9,84,[],none,.f⟩
theorem B8K:B1 Tryz.prog A1Z:=⟨B7,A2,A4⟩
theorem lO:F0 Tryz.prog A1Z:=⟨tOk,B8K⟩
theorem C4b (ba bd bm:Nat) (d:H8) (c:List Lk) (hc:G2 d c) (n:Int) (T S:Nat→Prop) (c0:UInt8) (hc0:97≤c0.toNat∧c0.toNat≤122) (hno:∀k∈c,k.i.nm≠[c0]) (cl sz:Int) (hok:MOk (Z8 cl sz [])) (hsz:sz≤16) (h7:c.length≤7) (hd:DOk d) (at_:Int) (b:Bs):C5 Tryz.prog 8 [.c (.ptr 0 ba 0),vV 1 [c0] [] at_ cl sz b] (eA ba bd bm d c n T S) (fun y:((Nat→Prop)×(Nat→Prop))×Lk×Nat×Int=>A9m d c0 cl sz [] y.2.1 y.2.2.1) (fun y=>B8H 0) (fun y=>eA ba bd bm ⟨d.room,C1 d.files [c0] y.2.1.f,y.2.2.1⟩ (c++[y.2.1]) y.2.2.2 y.1.1 y.1.2):=by
 refine I6 (E:=A1Z) Tryz.func8 (fun M0 W hM0=>?_);refine A3 lO [false] (fun bs=>?_);refine A5 [3] (A9k bd d S (hc.nf hc.ne)) (fun S1 _=>?_);refine A3 lO [false] (fun bs=>?_);refine A5 [0,1,2,3] (A2J ba 49 2 [.ptr 3 bd 0,.mpt 1 bm,.pv (i64 n)] [.mp bm .str .ptr (dZ c),U2 (cT bd) (T6 c) T,D3 bd d S1] n 1 rfl) (fun n2 _=>?_);refine A3 lO [false,false,true] (fun bs=>?_);refine A5 [0,1,2,3] (C5r ba bd bm d c hc n2 T S1 c0 hc0 hno cl sz hok hsz h7 hd at_ b) (fun y hy=>?_);refine A3 lO [] (fun bs=>?_);refine A5 [] (C1t 0) (fun _ _=>?_);refine A3 lO [] (fun bs=>?_);exact B3 lO (y.1,y.2.1,y.2.2,n2) hy [0,1,2,3]
def nmI (i:Nat):Bs:=[UInt8.ofNat (97+i)]
theorem B0z {i j:Nat} (hi:i<16) (hj:j<16) (h:nmI i=nmI j):i=j:=by
 have:=congrArg (fun l:Bs=>(l.getD 0 0).toNat) h;simp only[nmI,List.getD_cons_zero,UInt8.toNat_ofNat']at this;omega
theorem C4c {c c':List Lk} {n:Nat} (h:∀q,q<n→Z9 c q=Z9 c' q):O2 c 0 n=O2 c' 0 n:=by
 induction n with
 |zero=>rfl
 |succ n ih=>rw[O2,O2,ih fun q hq=>h q (by omega),Nat.zero_add,h n (by omega)]
section
open Go.Shelf
def A3L:Go.Shelf.Ren:=⟨fun|7=>197|10=>244|n=>n,fun|23=>109|26=>9|3=>118|28=>54|0=>0|27=>53|33=>67|4=>4|n=>n,fun|n=>n⟩
theorem C5s:Go.Proofs.SlLaysZ.n7 Tryz.prog A3L:={
 mixed:=by kernel_rfl
 f7:=⟨Tryz.f197.name,by decide,Tryz.func197.trans (congrArg some (by kernel_rfl))⟩
 f10:=⟨Tryz.f244.name,by decide,Tryz.func244.trans (congrArg some (by kernel_rfl))⟩
 t0:=Tryz.underlying0
 a0:=Tryz.isAgg0
 z0:=Tryz.sizeOf0
 v0:=Tryz.zeroValue0
 t4:=Tryz.underlying4
 a4:=Tryz.isAgg4
 z4:=Tryz.sizeOf4
 v4:=Tryz.zeroValue4
 t23:=Tryz.underlying109
 a23:=Tryz.isAgg109
 z23:=Tryz.sizeOf109
 v23:=Tryz.zeroValue109
 t26:=Tryz.underlying9
 a26:=Tryz.isAgg9
 z26:=Tryz.sizeOf9
 v26:=Tryz.zeroValue9
 t27:=Tryz.underlying53
 a27:=Tryz.isAgg53
 z27:=Tryz.sizeOf53
 v27:=Tryz.zeroValue53
 t28:=Tryz.underlying54
 a28:=Tryz.isAgg54
 z28:=Tryz.sizeOf54
 v28:=Tryz.zeroValue54
 t33:=Tryz.underlying67
 a33:=Tryz.isAgg67
 z33:=Tryz.sizeOf67
 v33:=Tryz.zeroValue67}
def A3M:Go.Shelf.Ren:=⟨fun|6=>14|8=>29|9=>30|11=>64|13=>66|12=>65|23=>146|24=>147|14=>137|15=>138|16=>139|17=>140|18=>141|19=>142|20=>143|21=>144|22=>145|25=>215|26=>216|27=>217|28=>218|29=>219|30=>220|31=>256|n=>n,fun|26=>9|28=>54|24=>28|0=>0|3=>3|37=>149|48=>133|50=>252|4=>4|40=>244|39=>243|45=>188|5=>5|9=>9|51=>329|55=>333|57=>384|58=>385|33=>67|n=>n,fun|n=>n⟩
theorem C5t:Go.Proofs.SlLaysZ.n6 Tryz.prog A3M:={
 mixed:=by kernel_rfl
 f6:=⟨Tryz.f14.name,by decide,Tryz.func14.trans (congrArg some (by kernel_rfl))⟩
 f8:=⟨Tryz.f29.name,by decide,Tryz.func29.trans (congrArg some (by kernel_rfl))⟩
 f11:=⟨Tryz.f64.name,by decide,Tryz.func64.trans (congrArg some (by kernel_rfl))⟩
 t0:=Tryz.underlying0
 a0:=Tryz.isAgg0
 z0:=Tryz.sizeOf0
 v0:=Tryz.zeroValue0
 t24:=Tryz.underlying28
 a24:=Tryz.isAgg28
 z24:=Tryz.sizeOf28
 v24:=Tryz.zeroValue28
 t26:=Tryz.underlying9
 a26:=Tryz.isAgg9
 z26:=Tryz.sizeOf9
 v26:=Tryz.zeroValue9
 t28:=Tryz.underlying54
 a28:=Tryz.isAgg54
 z28:=Tryz.sizeOf54
 v28:=Tryz.zeroValue54
 i26:=by kernel_rfl}
def B3g:Go.Shelf.Ren:=⟨fun|6=>30|8=>66|9=>65|19=>146|20=>147|21=>137|22=>138|23=>139|24=>140|25=>141|26=>142|27=>143|28=>144|29=>145|36=>215|31=>216|32=>217|37=>218|38=>219|39=>220|41=>256|n=>n,fun|27=>28|29=>9|3=>3|32=>149|26=>28|0=>0|44=>133|46=>252|4=>4|36=>244|35=>243|41=>188|5=>5|9=>9|53=>329|57=>333|63=>384|64=>385|n=>n,fun|n=>n⟩
theorem C2j:Go.Proofs.SlLaysM.n6 Tryz.prog B3g:={
 mixed:=by kernel_rfl
 f6:=⟨Tryz.f30.name,by decide,Tryz.func30.trans (congrArg some (by kernel_rfl))⟩
 f8:=Tryz.func66.trans (congrArg some (by kernel_rfl))
 f9:=⟨Tryz.f65.name,by decide,Tryz.func65.trans (congrArg some (by kernel_rfl))⟩
 f19:=Tryz.func146.trans (congrArg some (by kernel_rfl))
 f20:=Tryz.func147.trans (congrArg some (by kernel_rfl))
 f21:=⟨Tryz.f137.name,by decide,Tryz.func137.trans (congrArg some (by kernel_rfl))⟩
 f22:=⟨Tryz.f138.name,by decide,Tryz.func138.trans (congrArg some (by kernel_rfl))⟩
 f23:=⟨Tryz.f139.name,by decide,Tryz.func139.trans (congrArg some (by kernel_rfl))⟩
 f24:=⟨Tryz.f140.name,by decide,Tryz.func140.trans (congrArg some (by kernel_rfl))⟩
 f25:=⟨Tryz.f141.name,by decide,Tryz.func141.trans (congrArg some (by kernel_rfl))⟩
 f26:=⟨Tryz.f142.name,by decide,Tryz.func142.trans (congrArg some (by kernel_rfl))⟩
 f27:=⟨Tryz.f143.name,by decide,Tryz.func143.trans (congrArg some (by kernel_rfl))⟩
 f28:=⟨Tryz.f144.name,by decide,Tryz.func144.trans (congrArg some (by kernel_rfl))⟩
 f29:=⟨Tryz.f145.name,by decide,Tryz.func145.trans (congrArg some (by kernel_rfl))⟩
 f31:=Tryz.func216.trans (congrArg some (by kernel_rfl))
 f32:=Tryz.func217.trans (congrArg some (by kernel_rfl))
 f36:=⟨Tryz.f215.name,by decide,Tryz.func215.trans (congrArg some (by kernel_rfl))⟩
 f37:=⟨Tryz.f218.name,by decide,Tryz.func218.trans (congrArg some (by kernel_rfl))⟩
 f38:=⟨Tryz.f219.name,by decide,Tryz.func219.trans (congrArg some (by kernel_rfl))⟩
 f39:=⟨Tryz.f220.name,by decide,Tryz.func220.trans (congrArg some (by kernel_rfl))⟩
 f41:=⟨Tryz.f256.name,by decide,Tryz.func256.trans (congrArg some (by kernel_rfl))⟩
 t0:=Tryz.underlying0
 a0:=Tryz.isAgg0
 z0:=Tryz.sizeOf0
 v0:=Tryz.zeroValue0
 t3:=Tryz.underlying3
 a3:=Tryz.isAgg3
 z3:=Tryz.sizeOf3
 v3:=Tryz.zeroValue3
 t4:=Tryz.underlying4
 a4:=Tryz.isAgg4
 z4:=Tryz.sizeOf4
 v4:=Tryz.zeroValue4
 t5:=Tryz.underlying5
 a5:=Tryz.isAgg5
 z5:=Tryz.sizeOf5
 v5:=Tryz.zeroValue5
 t9:=Tryz.underlying9
 a9:=Tryz.isAgg9
 z9:=Tryz.sizeOf9
 v9:=Tryz.zeroValue9
 t26:=Tryz.underlying28
 a26:=Tryz.isAgg28
 z26:=Tryz.sizeOf28
 v26:=Tryz.zeroValue28
 t27:=Tryz.underlying28
 a27:=Tryz.isAgg28
 z27:=Tryz.sizeOf28
 v27:=Tryz.zeroValue28
 t29:=Tryz.underlying9
 a29:=Tryz.isAgg9
 z29:=Tryz.sizeOf9
 v29:=Tryz.zeroValue9
 t32:=Tryz.underlying149
 a32:=Tryz.isAgg149
 z32:=Tryz.sizeOf149
 v32:=Tryz.zeroValue149
 t35:=Tryz.underlying243
 a35:=Tryz.isAgg243
 z35:=Tryz.sizeOf243
 v35:=Tryz.zeroValue243
 t36:=Tryz.underlying244
 a36:=Tryz.isAgg244
 z36:=Tryz.sizeOf244
 v36:=Tryz.zeroValue244
 t41:=Tryz.underlying188
 a41:=Tryz.isAgg188
 z41:=Tryz.sizeOf188
 v41:=Tryz.zeroValue188
 t44:=Tryz.underlying133
 a44:=Tryz.isAgg133
 z44:=Tryz.sizeOf133
 v44:=Tryz.zeroValue133
 t46:=Tryz.underlying252
 a46:=Tryz.isAgg252
 z46:=Tryz.sizeOf252
 v46:=Tryz.zeroValue252
 t53:=Tryz.underlying329
 a53:=Tryz.isAgg329
 z53:=Tryz.sizeOf329
 v53:=Tryz.zeroValue329
 t57:=Tryz.underlying333
 a57:=Tryz.isAgg333
 z57:=Tryz.sizeOf333
 v57:=Tryz.zeroValue333
 t63:=Tryz.underlying384
 a63:=Tryz.isAgg384
 z63:=Tryz.sizeOf384
 v63:=Tryz.zeroValue384
 t64:=Tryz.underlying385
 a64:=Tryz.isAgg385
 z64:=Tryz.sizeOf385
 v64:=Tryz.zeroValue385}
theorem C4d (m:Nat):AnyZ.SortsIn Tryz.prog A3M Fence.wide m:=
 ⟨fun blk off cap ss W hH hblk hsz=>callsIn_wide.2 (AnyM.slices_Sort_string C2j blk off cap ss W hH hblk hsz),
  fun p cap W=>callsIn_wide.2 (AnyM.slices_Sort_string_none C2j p cap W)⟩
abbrev A5H:=List (KK.str.T×VK.ptr.T)
theorem C1w {l:A5H} (hl:l.length≤1) (hk:∀p∈l,p.1.length≤1000) {w:World} {b:Nat} {es:Array MapEntry} {clock:Nat} (hb:w.heap[b]? =some (.map es clock)) (hm:aB .str .ptr l es clock):
 ∃D0:DataW Unit,w.ownsMap Tryz.prog 9 (fun _=>some (.nil,[])) b 1 D0∧strKeys D0=l.map (fun p=>p.1)∧Go.Maps.size D0≤1:=by
 obtain⟨es⟩:=es
 match l,es,hm,hl,hk with
 |[],[],hm,_,_=>
  exact⟨.map [],⟨⟨[]⟩,clock,hb,⟨by decide,⟨fun x hx=>(by cases hx),List.nodup_nil,List.nodup_nil⟩,fun x hx=>(by cases hx)⟩,Nat.zero_le _,rfl⟩,rfl,Nat.zero_le _⟩
 |[],e::es,hm,_,_=>have:=hm.all;simp at this
 |[p],[],hm,_,_=>have:=hm.all;simp at this
 |[p],[e],hm,_,hk=>
  have h1:=hm.all;simp only[List.map_cons,List.map_nil,List.cons.injEq,Prod.mk.injEq,and_true]at h1;have h2:=hk p (by simp);have h3:keyOf Tryz.prog 9 e.key=some (.string p.1):=by
   rw[h1.1];exact Go.WideMaps.keyOf_string_mk Tryz.underlying9 (s:=⟨p.1.toArray⟩) (by show p.1.toArray.size≤maxLen;rw[List.size_toArray];exact Nat.le_trans h2 (by decide))
  have h4:Go.WideElems.rd (H:=Unit) Tryz.prog 9 (fun _=>some (.nil,[])) e=some (.string p.1,.nil):=by
   unfold Go.WideElems.rd;rw[h3];rfl
  have h5:Go.WideElems.rg (H:=Unit) Tryz.prog 9 (fun _=>some (.nil,[])) e=(.string p.1,.nil):=by unfold Go.WideElems.rg;rw[h4];rfl
  refine⟨.map [(.string p.1,.nil)],⟨⟨[e]⟩,clock,hb,⟨by show 1≤maxLen;decide,⟨fun x hx=>?_,by simp,by simp⟩,fun x hx=>?_⟩,Nat.le_refl _,?_⟩,rfl,Nat.le_refl _⟩
  ·rw[List.mem_singleton.1 hx];exact hm.lt 0 e rfl
  ·rw[List.mem_singleton.1 hx];exact⟨_,h4⟩
  ·show _=DataW.map (DataW.insert (Go.WideElems.rg Tryz.prog 9 _ e) []);rw[h5];rfl
 |[p],e::e2::es,hm,_,_=>have:=hm.all;simp at this
 |p::q::l,_,_,hl,_=>simp at hl
theorem C7B {g ty:Nat} (eg:∀args w,(callFunc g args).run Tryz.prog w= .ok (.enter g args) w)
 (hgive:∀(Bm b nn:Nat) (D0:DataW Unit) (w:World),Bm<w.heap.size→w.cell? ⟨Bm,0,none⟩=some (.map (some b))→w.ownsMap Tryz.prog 9 (fun _=>some (.nil,[])) b nn D0→SeqGives Fence.wide 2 Tryz.prog g #[.pointer (some ⟨Bm,0,none⟩)] encStr (fun ss=>ss.Perm (strKeys D0)) (Go.Maps.size D0) w)
 (bm bc:Nat) (l:A5H) (hl:l.length≤1) (hk:∀p∈l,p.1.length≤1000):C5 (X:=Unit) Tryz.prog 14 [.c (.clo g [.ptr 1 bc 0])] [.mp bm .str .ptr l,.blk bc ty [.mpt 0 bm]] (fun _=>True) (fun _=>lst .str (l.map fun p=>p.1)) (fun _=>[.mp bm .str .ptr l]):=by
 refine⟨⟨_,Tryz.func14,rfl,by decide⟩,fun M w vs hS hra=>?_⟩;obtain⟨_,_,es,clock,hb,hm⟩:=hS.ok 0 _ rfl;obtain⟨_,_,us,q3,q4⟩:=hS.ok 1 _ rfl;obtain⟨D0,ho,hkeys,hsz⟩:=C1w hl hk hb hm;have hvs:vs= #[.func (.func g) #[] #[.pointer (some ⟨bc,0,none⟩)]]:=by
  obtain⟨h1,h2⟩:=hra;obtain⟨vs⟩:=vs
  match vs,h1,h2 with
  |[v],_,h2=>
   have:=h2 0 _ v rfl rfl;cases this with|c h=>
   cases h with
   | @clo _ _ us2 hs hh=>
    obtain⟨us2⟩:=us2
    match us2,hs,hh with
    |[u],_,hh=>
     have:=hh 0 _ u rfl rfl;cases this;rfl
 subst hvs;have hbc:bc<w.heap.size:=(Array.getElem?_eq_some_iff.1 q3).1;have hcell:w.cell? ⟨bc,0,none⟩=some (.map (some bm)):=by
  obtain⟨us⟩:=us
  match us,q4 with
  |[u],q4=>
   have:=q4.2 0 _ u rfl rfl;cases this;simp[World.cell?,q3]
 have cS:=AnyZ.sorted_in C5t Fence.wide 5 trivial trivial trivial trivial rfl (by omega) (C4d _) (enters_of Tryz.func30 (by kernel_rfl) rfl) g #[.pointer (some ⟨bc,0,none⟩)] trivial eg _ _ (Nat.le_trans hsz (by decide)) (by omega) _ (hgive bc bm 1 D0 w hbc hcell ho);refine((callsIn_wide (n:=5)).1 cS).mono ?_
 rintro e w' ⟨v,ss,rfl,hp,hrow,hnil,hbel⟩
 have hss:ss=l.map fun p=>p.1:=by
  rw[hkeys]at hp
  match l,hl,hp with
  |[],_,hp=>exact hp.eq_nil
  |[p],_,hp=>exact List.perm_singleton.1 hp
 have hsort:ss.mergeSort (fun x y=>decide (x≤y))=ss:=by
  rw[hss]
  match l,hl with
  |[],_=>simp
  |[p],_=>simp
 rw[hsort]at hrow
 let F:B5:=fun k=>if k<w.heap.size then none else w'.heap[k]?
 have hF:jK F w.heap.size w':=by
  intro k o hk;simp only[F]at hk;split at hk
  ·cases hk
  ·exact⟨by omega,hk⟩
 have hS':=hS.call hbel hF;refine⟨v,M.or F,(),rfl,B5.ext_or hS.mem hS.base hF,trivial,?_,hS'.below,hS'.base,hS'.mem,fun n x hx=>?_,fun n n' x x' b hnn h1 h2=>?_⟩
 ·rw[←hss];refine .c (.pv ?_);rcases hrow.2 with⟨rfl,hz⟩|⟨gb,cap,cur,rfl,hbase,hgb,r1,r2,r3,r4⟩
  ·have:ss=[]:=List.eq_nil_of_length_eq_zero hz;subst this;exact R.lst_nil _ _
  ·refine R.lst_mk rfl r1 r2 (fun _=>rfl) (fun h=>by cases h) (fun i x j y e1 e2=>?_) (b:=gb) (o:=0);have hj:j=0:=by
    have:=(gS_.1 e2).1;simp[LK.enc]at this;exact this
   subst hj;simp[LK.enc]at e2;subst e2;refine⟨encStr x,?_,.val rfl⟩;have hi:=(gS_.1 e1).1;have hMg:(M.or F) gb=some (.cells cur 9 (0,0)):=by
    have hMn:M gb=none:=B5.none_of_size hS.mem hbase;unfold B5.or;simp only[F,if_neg (Nat.not_lt.2 hbase),hgb];rfl
   unfold B5.cell;rw[hMg];simp only[LK.sz,Nat.mul_one,Nat.zero_add,Nat.add_zero];have h6:(cur.toList.take (ss.length*1))[i]? =some (encStr x):=by rw[r4,List.getElem?_map,e1];rfl
   rw[Nat.mul_one,List.getElem?_take,if_pos hi]at h6;rw[←Array.getElem?_toList];exact h6
 ·match n,hx with
  |0,hx=>exact hS'.ok 0 x hx
 ·match n,n',hnn,h1,h2 with
  |0,0,hnn,_,_=>exact absurd rfl hnn
def tY:D9:=⟨T,C9,A7,A9,4,[],none,.f⟩
theorem B3h:B1 Tryz.prog tY:=⟨B7,A2,A4⟩
theorem A7Z:F0 Tryz.prog tY:=⟨tOk,B3h⟩
theorem C5u (bm:Nat) (l:A5H):C5 Tryz.prog 197 [.c (.mpt 0 bm)] [.mp bm .str .ptr l] (fun _=>True) (fun bc:Nat=> .c (.clo 244 [.ptr 1 bc 0])) (fun bc=>[.mp bm .str .ptr l,.blk bc 109 [.mpt 0 bm]]):=by
 refine I6 (E:=tY) Tryz.func197 (fun M0 W hM0=>?_);refine A3 A7Z [] (fun bs=>?_);exact B3 A7Z _ trivial [0,1]
theorem C5v (bm bc:Nat) (l:A5H) (hl:l.length≤1) (hk:∀p∈l,p.1.length≤1000):C5 (X:=Unit) Tryz.prog 14 [.c (.clo 244 [.ptr 1 bc 0])] [.mp bm .str .ptr l,.blk bc 109 [.mpt 0 bm]] (fun _=>True) (fun _=>lst .str (l.map fun p=>p.1)) (fun _=>[.mp bm .str .ptr l]):=
 C7B (enters_of Tryz.func244 (by kernel_rfl) rfl) (fun Bm b nn D0 w h1 h2 h3=>AnyZ.keys_gives (ρ:=A3L) {C5s with} Fence.wide 2 trivial rfl (by omega) Bm b nn D0 w h1 h2 h3) bm bc l hl hk
end
def A1a:D9:=⟨T,C9,A7,A9,11,[],none,.f⟩
theorem B8L:B1 Tryz.prog A1a:=⟨B7,A2,A4⟩
theorem wV:F0 Tryz.prog A1a:=⟨tOk,B8L⟩
theorem C7C (b:Nat) (d:H8) (S:Nat→Prop) (hf:d.files=[]):C5 Tryz.prog 112 [.c (.ptr 0 b 0)] [D3 b d S] (fun _=>True) (fun _:Nat→Prop=>lst .str []) (fun S=>[D3 b d S]):=by
 refine I6 (E:=A1a) Tryz.func112 (fun M0 W hM0=>?_);have hp:Y7 d.files=[]:=by rw[hf];rfl
 refine N0 0 (fun x hx=>?_);refine A3 wV [false] (fun bs=>?_);refine A5 [1] (C5u x.bm (Y7 d.files)) (fun bc _=>?_);refine A3 wV [] (fun bs=>?_);refine A5 [1,4] (C5v x.bm bc (Y7 d.files) (by rw[hp];exact Nat.zero_le _) (fun p h=>by rw[hp]at h;cases h)) (fun _ _=>?_);rw[show((Y7 d.files).map fun p=>p.1)=[]from by rw[hp];rfl];refine A3 wV [] (fun bs=>?_);refine J8 0 (jE b d) [0,1,2,3] x hx (fun S'=>?_);exact B3 wV S' trivial [0]
def A1b:D9:=⟨T,C9,A7,A9,23,[],none,.f⟩
theorem B8M:B1 Tryz.prog A1b:=⟨B7,A2,A4⟩
theorem A5I:F0 Tryz.prog A1b:=⟨tOk,B8M⟩
theorem C5w:C5 Tryz.prog 53 [lst .lnk []] [] (fun _=>True) (fun _:Unit=>lst .lnk []) (fun _=>[]):=by
 refine I6 (E:=A1b) Tryz.func53 (fun M0 W hM0=>?_);refine A3 A5I [] (fun bs=>?_);refine V3 (fun _:Unit=>[(3,lst .lnk []),(7,int .i64 0),(8,int .i64 0)]) (fun _=>[]) (fun _=>True) (fun _=>0) [] () trivial (fun _ _=>?_);refine A3 A5I [false] (fun bs=>?_);exact B3 A5I () trivial []
def A1c:D9:=⟨T,C9,A7,A9,38,[],none,.f⟩
theorem B8N:B1 Tryz.prog A1c:=⟨B7,A2,A4⟩
theorem qJ:F0 Tryz.prog A1c:=⟨tOk,B8N⟩
theorem C7D (b:Nat) (d:H8) (S:Nat→Prop) (hf:d.files=[]):C5 Tryz.prog 52 [.c (.ptr 0 b 0)] [D3 b d S] (fun _=>True) (fun _:Nat→Prop=>lst .lnk []) (fun S=>[D3 b d S]):=by
 refine I6 (E:=A1c) Tryz.func52 (fun M0 W hM0=>?_);refine A3 qJ [] (fun bs=>?_);refine A5 [0] (C7C b d S hf) (fun S1 _=>?_);refine A3 qJ [] (fun bs=>?_);refine V3 (fun _:Unit=>[(3,lst .lnk []),(11,int .i64 0),(12,int .i64 0)]) (fun _=>[D3 b d S1]) (fun _=>True) (fun _=>0) [0] () trivial (fun _ _=>?_);refine A3 qJ [false] (fun bs=>?_);refine A5 [] C5w (fun _ _=>?_);refine A3 qJ [] (fun bs=>?_);exact B3 qJ S1 trivial [0]
def A1d:D9:=⟨T,C9,A7,A9,54,[],none,.f⟩
theorem B8O:B1 Tryz.prog A1d:=⟨B7,A2,A4⟩
theorem lP:F0 Tryz.prog A1d:=⟨tOk,B8O⟩
theorem C7E (b:Nat) (d:H8) (S:Nat→Prop) (hf:d.files=[]):C5 Tryz.prog 21 [.c (.ptr 0 b 0)] [D3 b d S] (fun _=>True) (fun y:(Nat×Nat×Int)×((Nat→Prop)×(Nat→Prop))=> .t [.c (.ptr 0 y.1.1 0),int .i64 0]) (fun y=>eA y.1.1 b y.1.2.1 d [] y.1.2.2 y.2.1 y.2.2):=by
 refine I6 (E:=A1d) Tryz.func21 (fun M0 W hM0=>?_);refine A3 lP [false] (fun bs=>?_);refine A5 [0] (A9k b d S (by rw[hf];rfl)) (fun S1 _=>?_);refine A3 lP [false] (fun bs=>?_);refine A5 [0] (C7D b d S1 hf) (fun S2 _=>?_);refine A3 lP [] (fun bs=>?_);refine A5 [] C5w (fun _ _=>?_);refine A3 lP [] (fun bs=>?_);refine A3o 3 (cT b) ?_;refine V3 (fun q:Nat×Nat=>[(6,.c (.ptr 0 q.1 0)),(30,int .i64 0),(31,int .i64 0)]) (fun q=>eA q.1 b q.2 d [] 0 (fun _=>False) S2) (fun _=>True) (fun _=>0) [2,1,3,0] (?ba,?bm) trivial (fun q _=>?_);refine A3 lP [false] (fun bs=>?_);exact B3 lP ((q.1,q.2,0),(fun _=>False,S2)) trivial [0,1,2,3]
def A1e:D9:=⟨T,C9,A7,A9,4,[],none,.f⟩
theorem B8P:B1 Tryz.prog A1e:=⟨B7,A2,A4⟩
theorem B1A:F0 Tryz.prog A1e:=⟨tOk,B8P⟩
theorem C5x (e:Int):C5 Tryz.prog 20 [int .i64 e] [] (fun _=>True) (fun _:Unit=>int .i64 e) (fun _=>[]):=by
 refine I6 (E:=A1e) Tryz.func20 (fun M0 W hM0=>?_);refine A3 B1A [] (fun bs=>?_);exact B3 B1A () trivial []
def A1f:D9:=⟨T,C9,A7,A9,30,[],none,.f⟩
theorem B8Q:B1 Tryz.prog A1f:=⟨B7,A2,A4⟩
theorem lQ:F0 Tryz.prog A1f:=⟨tOk,B8Q⟩
theorem C5y (n:Int) (h1:1≤n) (h2:n≤1048576):C5 Tryz.prog 9 [int .i64 n] [] (fun _=>True) (fun y:(Nat×Nat×Nat×Int)×((Nat→Prop)×(Nat→Prop))=> .t [.c (.ptr 3 y.1.2.1 0),.c (.ptr 0 y.1.1 0)]) (fun y=>eA y.1.1 y.1.2.1 y.1.2.2.1 ⟨n,[],0⟩ [] y.1.2.2.2 y.2.1 y.2.2):=by
 refine I6 (E:=A1f) Tryz.func9 (fun M0 W hM0=>?_);refine A3 lQ [] (fun bs=>?_);refine A5 [] (C6W n h1 h2) (fun p _=>?_);refine A3 lQ [] (fun bs=>?_);refine A5 [] (C5x 0) (fun _ _=>?_);refine L7 lQ (fun _=>some false) [false] (fun bs=>?_);refine A5 [0] (C7E p.1 ⟨n,[],0⟩ p.2 rfl) (fun y _=>?_);refine A3 lQ [] (fun bs=>?_);refine A5 [] (C5x 0) (fun _ _=>?_);refine A3 lQ [false] (fun bs=>?_);exact B3 lQ ((y.1.1,p.1,y.1.2.1,y.1.2.2),y.2) trivial [0,1,2,3]
theorem C4e {cl sz:Int} {bk:Bs} (hc:0≤cl∧cl≤6) (hs:0≤sz∧sz≤4096) (hd:sz%2 ^ cl.toNat=0) (hb:bk=[]∨Nm bk):MOk (Z8 cl sz bk):=by
 have hp:=P5 hc;refine⟨rfl,rfl,hc,hs,hd,hb,dR.2 ⟨?_,fun i hi=>absurd hi (Nat.not_lt_zero _)⟩,Nat.zero_le _,fun x hx=>by cases hx⟩;have h0:0≤sz / 2 ^ cl.toNat:=Int.ediv_nonneg hs.1 (by omega);have h1:sz / 2 ^ cl.toNat≤sz:=Int.ediv_le_self _ hs.1;exact⟨h0,by show sz / 2 ^ cl.toNat≤4096;omega,hc.1,hc.2⟩
theorem G2.nil {d:H8} (h:d.files=[]):G2 d []:=⟨h,List.nodup_nil,fun _ h=>(by cases h),fun _ h=>(by cases h),fun _ h=>(by cases h),Nat.zero_le _⟩
def A1g:D9:=⟨T,C9,A7,A9,30,[],none,.f⟩
theorem B8R:B1 Tryz.prog A1g:=⟨B7,A2,A4⟩
theorem lR:F0 Tryz.prog A1g:=⟨tOk,B8R⟩
theorem C4f:C5 Tryz.prog 6 [] [] (fun _=>True) (fun _:Unit=>bool true) (fun _=>[]):=by
 refine I6 (E:=A1g) Tryz.func6 (fun M0 W hM0=>?_);refine A3 lR [] (fun bs=>?_);refine A5 [] (C5y 1000 (by decide) (by decide)) (fun y _=>?_);refine A3 lR [false] (fun bs=>?_);obtain⟨⟨ba,bd,bm,n⟩,T,S⟩:=y;have hc0:=G2.nil (d:=⟨1000,[],0⟩) rfl;have hok:MOk (Z8 0 4 []):=C4e (by decide) (by decide) (by decide) (.inl rfl);have hd0:DOk ⟨1000,[],0⟩:=⟨fun p hp=>(by cases hp),by decide,by decide,by decide,by decide⟩
 refine A5 [0,1,2,3] (C4b ba bd bm ⟨1000,[],0⟩ [] hc0 n T S 97 (by decide) (fun _ h=>by cases h) 0 4 hok (by decide) (by decide) hd0 0 []) (fun z hz=>?_);obtain⟨⟨T1,S1⟩,k,lg1,n1⟩:=z;have hz:A9m ⟨1000,[],0⟩ 97 0 4 [] k lg1:=hz;have hlg1:lg1≤60:=hz.lg;have hnm:k.i.nm=[97]:=hz.nm;have hkm:k.i.m=Z8 0 4 []:=hz.m;have hkn:k.n=1:=hz.n;have hsz:k.i.m.size=4:=by rw[hkm];rfl
 have hbk:k.i.m.bk=[]:=by rw[hkm];rfl
 have hc1:G2 ⟨1000,C1 [] k.i.nm k.f,lg1⟩ ([]++[k]):=hc0.new (fun _ h=>(by cases h)) hz.ok hz.hd (by rw[hnm];simp) (by decide) lg1;have hp1:lN ([]++[k]) k.i.nm [k]:= .cons (by simp) (by rw[hbk];exact .nil);have hr1:cI ⟨1000,C1 [] k.i.nm k.f,lg1⟩ ([]++[k]) 1 2 130:=⟨by show(1000:Int)≤1048576;decide,by show(1:Int)*130+70≤1000;decide,by simp,fun x hx=>by simp at hx;rw[hx,hkn];decide,by decide,⟨by decide,by decide⟩,by show lg1≤_;omega⟩
 obtain⟨bx,hbx⟩:∃bx:Bs,bx=[102,101,100,99,98,97,57,56,55,54,53,52,51,50,49,48]:=⟨_,rfl⟩
 have hbl:bx.length=16:=by rw[hbx];rfl
 refine A3 lR [] (fun bs=>?_);refine A5 [0,1,2,3] (oWr ba bd bm ⟨1000,C1 [] k.i.nm k.f,lg1⟩ [] [] k [] hc1 n1 T1 S1 hp1 (fun x hx=>by simp at hx;rw[hx,hbk,hnm];simp) 2 1 (by rw[hsz];decide) [] bx (by rw[hbl]) 1 2 130 hr1 (by rw[hkn];exact Nat.le_refl _) 0 0) (fun u hu=>?_) (hsim:=?hs1) (hl:=?hl1)
 case hs1=>
  rw[hbx,hnm]
  and_intros<;> (first|exact wk_|refine A6 ?_|skip)
 case hl1=>
  rw[hnm]
  and_intros<;> (first|exact wk_|refine A6 ?_|skip)
 obtain⟨⟨T2,S2⟩,k2,lg2,n2⟩:=u;have hu:Wrt ⟨1000,C1 [] k.i.nm k.f,lg1⟩ k [] 2 1 bx k2 lg2:=hu;have hnm2:k2.i.nm=k.i.nm:=hu.sm.nm;have hbk2:k2.i.m.bk=[]:=hu.sm.bk.trans hbk;have hc2:G2 ⟨1000,C1 (C1 [] k.i.nm k.f) k.i.nm k2.f,lg2⟩ ([]++k2::[]):=hc1.upd hnm2 hu.ok (hu.sm.hd.trans hz.hd) lg2;have hp2:lN ([]++k2::[]) k2.i.nm [k2]:= .cons (by simp) (by rw[hbk2];exact .nil);have hsec:O2 [k2] 2 1=bx:=by
  show[]++Z9 [k2] (2+0)=bx;rw[List.nil_append,hu.sec,if_pos (by omega)];show(bx.drop 0).take 16=bx;rw[List.drop_zero,List.take_of_length_le (by omega)]
 refine A3 lR [] (fun bs=>?_);refine A5 [0,1,2,3] (oRd ba bd bm ⟨1000,C1 (C1 [] k.i.nm k.f) k.i.nm k2.f,lg2⟩ ([]++k2::[]) hc2 n2 T2 S2 k2 [] hp2 2 1 (by rw[hu.sm.sz,hsz];decide) [] [] 0) (fun v _=>?_) (hsim:=?hs2)
 case hs2=>
  rw[hnm2,hnm]
  and_intros<;> (first|exact wk_|refine A6 ?_|skip)
 rw[hsec];refine J3 lR (fun _=>some true) [] (fun bs=>?_) (fun bs=>?_)
 ·and_intros<;> first|exact trivial|exact rfl
 refine B3 lR () trivial [] (hr:=?hr)
 case hr=>
  rw[hbx]
  and_intros<;> (first|exact wk_|refine A6 ?_|skip)
  all_goals first|rfl
def A5J (sz last:Int) (r:qM):Bool:= !(decide ((r.data.length:Int) / 16=0) || !decide ((r.data.length:Int)%16=0) || decide (r.at_<last) || decide (sz<r.at_) || decide (sz-r.at_<(r.data.length:Int) / 16))
def Y9 (sz:Int):Int→List qM→Bool
 |_,[]=>true
 |last,r::l=>A5J sz last r && Y9 sz (r.at_+(r.data.length:Int) / 16) l
def A5K:D9:=⟨T,O6,A7,A9,62,[],none,.f⟩
theorem C1x:B1 Tryz.prog A5K:=⟨J6,A2,A4⟩
theorem kV:F0 Tryz.prog A5K:=⟨tOk,C1x⟩
theorem sRt (fu:Bool) (sz:Int) (l:List qM) (hl:l.length≤4096) (hd:∀r∈l,r.data.length≤65536) (hin:∀r∈l,0≤r.at_∧r.at_≤65536) (hz:0≤sz∧sz≤4096):C5 Tryz.prog 156 [.g [.pv (bv fu),.pv (i64 sz),.pv (.lst .rcd l)]] [] (fun _=>True) (fun _:Unit=>bool (Y9 sz 0 l)) (fun _=>[]):=by
 refine I6 (E:=A5K) Tryz.func156 (fun M0 W hM0=>?_);refine A3 kV [false] (fun bs=>?_);refine K3 (fun q:Nat×Int×Nat=>[(1,.c (.ptr 0 q.2.2 0)),(3,int .i64 q.2.1),(16,lst .rcd l),(17,int .i64 l.length),(18,int .i64 q.1)]) (fun q=>[.blk q.2.2 165 [.pv (bv fu),.pv (i64 sz),.pv (.lst .rcd l)]])
  (fun q=>q.1≤l.length∧Y9 sz 0 l=Y9 sz q.2.1 (l.drop q.1)∧0≤q.2.1∧q.2.1≤100000) (fun q=>l.length-q.1) [0] (0,0,?b6) ⟨Nat.zero_le _,rfl,Int.le_refl _,(show(0:Int)≤100000 by omega)⟩ ?wk1 (fun q hq=>?_)
 case wk1=>and_intros<;> (first|exact wk_|refine A6 ?_|skip)
 obtain⟨i,last,b⟩:=q;obtain⟨h1,h2,h3,h4⟩:=hq;simp only at h1 h2 h3 h4;refine A3 kV [] (fun bs=>?_);refine I4 rfl rfl (fun hk=>?_) (fun hk=>?_)
 ·have hi:i<l.length:=by have:(i:Int)<l.length:=hk;omega
  have hge:l.getD ((i:Int)).toNat LK.rcd.dft=l[i]:=by simp[List.getD,hi]
  have hd1:=hd _ (List.getElem_mem hi);have hi1:=hin _ (List.getElem_mem hi);have hd2:(l.getD ((i:Int)).toNat LK.rcd.dft).data.length≤65536:=by rw[hge];exact hd1
  have hi2:0≤(l.getD ((i:Int)).toNat LK.rcd.dft).at_∧(l.getD ((i:Int)).toNat LK.rcd.dft).at_≤65536:=by rw[hge];exact hi1
  refine Q2 kV [] (fun bs=>?_) (fun bs=>?_)
  ·and_intros<;> intros<;> first|exact trivial|omega|(simp only at *;omega)|(simp only[L1,IntKind.bits];omega)
  have hp:Y9 sz last (l.drop i)=(A5J sz last l[i] && Y9 sz (l[i].at_+(l[i].data.length:Int) / 16) (l.drop (i+1))):=by
   rw[List.drop_eq_getElem_cons hi];rfl
  refine C6 rfl rfl (fun ht=>?_) (fun ht=>?_)
  ·have hr:A5J sz last l[i]=false:=by rw[←hge];exact congrArg not ht
   refine A3 kV [] (fun bs=>?_);have e:Y9 sz 0 l=false:=by rw[h2,hp,hr];rfl
   rw[e];exact B3 kV () trivial []
  have hr:A5J sz last l[i]=true:=by rw[←hge];exact congrArg not ht
  have ht1:(l[i].data.length:Int) / 16≤sz-l[i].at_:=by simp[A5J]at hr;omega
  refine A3 kV [] (fun bs=>?_);refine G3 [0] (i+1,l[i].at_+(l[i].data.length:Int) / 16,b) ?ok2 ?wk2
  case ok2=>exact⟨⟨by show i+1≤l.length;omega,by rw[h2,hp,hr];rfl,by show(0:Int)≤l[i].at_+(l[i].data.length:Int) / 16;omega,by show l[i].at_+(l[i].data.length:Int) / 16≤100000;omega⟩,by show l.length-(i+1)<l.length-i;omega⟩
  case wk2=>
   and_intros<;> (first|exact wk_|refine A6 ?_|skip)
   all_goals exact congrArg (fun r:qM=>r.at_+(r.data.length:Int) / 16) hge
 ·refine A3 kV [] (fun bs=>?_);have e:Y9 sz 0 l=true:=by
   have hi:i=l.length:=by have:¬(i:Int)<l.length:=hk;omega
   rw[h2,hi,List.drop_length];rfl
  rw[e];exact B3 kV () trivial []
abbrev smB (b:Nat) (v:Value) (s:Int) (l:Bs):List HB:=[.blk b 265 [.own 1 v,.pv (.val (.int .u32 s))],.own v 5 .byt l]
def A5L:D9:=⟨T,C9,A7,A9,26,[],none,.f⟩
theorem C1y:B1 Tryz.prog A5L:=⟨B7,A2,A4⟩
theorem B8S:F0 Tryz.prog A5L:=⟨tOk,C1y⟩
theorem sWr (b:Nat) (v:Value) (l x:Bs) (s:Int) (hs:0≤s∧s≤4294967295) (hl:l.length≤1000000) (hx:x.length≤1000000):C5 Tryz.prog 157 [.c (.ptr 0 b 0),lst .byt x] (smB b v s l) (fun _=>True) (fun _:Value=> .t [int .i64 x.length,.c (.pv (.val .nilIface))]) (fun v'=>smB b v' (H4 wd s x) (l++x)):=by
 refine I6 (E:=A5L) Tryz.func157 (fun M0 W hM0=>?_);refine A3 B8S [] (fun bs=>?_);exact B3 B8S _ trivial [0,2]
def A1h:D9:=⟨T,C9,A7,A9,18,[],none,.f⟩
theorem B8T:B1 Tryz.prog A1h:=⟨B7,A2,A4⟩
theorem A5M:F0 Tryz.prog A1h:=⟨tOk,B8T⟩
theorem C7F (b:Nat) (v:Value) (l:Bs) (s:Int) (hs:0≤s∧s≤4294967295) (hl:l.length≤1000000) (n:Nat) (x:Int) (h1:1≤n) (h2:n≤8) (hx:0≤x∧x≤4294967295):C5 Tryz.prog 158 [.c (.ptr 0 b 0),int .i64 n,int .i64 x] (smB b v s l) (fun _=>True) (fun _:Value=> .t []) (fun v'=>smB b v' (H4 wd s (T9 [] n false x)) (l++T9 [] n false x)):=by
 refine I6 (E:=A1h) Tryz.func158 (fun M0 W hM0=>?_);have hp:=hO [] n false x;simp only[List.length_nil,Nat.zero_add,Int.toNat_natCast]at hp;refine A3 A5M [] (fun bs=>?_);refine G1 2 [6,16] rfl ⟨rfl,rfl,trivial⟩ ?_;refine A5 [0,1] (sWr b v l (T9 [] n false x) s hs hl (by omega)) (fun v' _=>?_);refine A3 A5M [] (fun bs=>?_);exact Y6 A5M v' trivial [0,1]
theorem C5z {n:Nat} (h:n<4294967296):IntKind.u32.wrap (n:Int)=n:=by rw[IntKind.wrap_u32];omega
theorem C6A (a:BitVec 32) (y:Int):fG .u32 (a.toNat:Int) y=((a ^^^ BitVec.ofInt 32 y).toNat:Int):=by
 unfold fG;show IntKind.u32.wrap ((BitVec.ofInt 32 (a.toNat:Int) ^^^ BitVec.ofInt 32 y).toNat:Int)=_;rw[C5z (BitVec.isLt _)]
 congr 2
 simp[BitVec.ofInt_natCast]
theorem xx {y:Int} (h:0≤y∧y≤4294967295):fG .u32 IntKind.u32.max (fG .u32 IntKind.u32.max y)=y:=by
 have e:IntKind.u32.max=(((4294967295#32:BitVec 32).toNat:Nat):Int):=by decide
 rw[e,C6A _ y,C6A,BitVec.ofInt_natCast,BitVec.ofNat_toNat,BitVec.setWidth_eq,←BitVec.xor_assoc,BitVec.xor_self,BitVec.zero_xor,BitVec.toNat_ofInt];omega
theorem A7a (f:Nat→Int) {s:Int} (hs:0≤s∧s≤4294967295) (a b:Bs):H4 f (H4 f s a) b=H4 f s (a++b):=by
 unfold H4;rw[xx (C0h f (show 0≤fG .u32 IntKind.u32.max s∧fG .u32 IntKind.u32.max s≤4294967295 from iE _) a _)]
 congr 1
 unfold A2M;rw[List.take_length,List.take_length,List.take_length,List.foldl_append]
abbrev smO (b:Nat) (v:Value) (l:Bs):List HB:=smB b v (H4 wd 0 l) l
theorem C7G (b:Nat) (v:Value) (l x:Bs) (hl:l.length≤1000000) (hx:x.length≤1000000):C5 Tryz.prog 157 [.c (.ptr 0 b 0),lst .byt x] (smO b v l) (fun _=>True) (fun _:Value=> .t [int .i64 x.length,.c (.pv (.val .nilIface))]) (fun v'=>smO b v' (l++x)):=by
 have h:=sWr b v l x (H4 wd 0 l) (bK _ _ _) hl hx
 rwa [A7a wd (by omega)]at h
theorem A1i (b:Nat) (v:Value) (l:Bs) (hl:l.length≤1000000) (n:Nat) (x:Int) (h1:1≤n) (h2:n≤8) (hx:0≤x∧x≤4294967295):C5 Tryz.prog 158 [.c (.ptr 0 b 0),int .i64 n,int .i64 x] (smO b v l) (fun _=>True) (fun _:Value=> .t []) (fun v'=>smO b v' (l++T9 [] n false x)):=by
 have h:=C7F b v l (H4 wd 0 l) (bK _ _ _) hl n x h1 h2 hx
 rwa [A7a wd (by omega)]at h
abbrev nB (n:Nat) (x:Int):Bs:=T9 [] n false x
def N4 (z n:Int):Bs:=[77,84,82,75]++nB 1 1++nB 2 z++nB 2 n
theorem bG (n:Nat) (x:Int):(nB n x).length≤n:=by
 have:=hO [] n false x;simpa using this
theorem B1B (z n:Int):(N4 z n).length≤9:=by
 have h1:=bG 1 1;have h2:=bG 2 z;have h3:=bG 2 n;simp only[N4,List.length_append,List.length_cons,List.length_nil];omega
def cC (r:qM):Bs:=nB 2 r.at_++nB 2 ((r.data.length:Int) / 16)++r.data++nB 4 (H4 wd 0 r.data)
def eB (sz:Int) (l:List qM):Bs:=N4 sz l.length++l.flatMap cC
abbrev C7H (b:Nat) (v:Value) (l:Bs):List HB:=[.blk b 265 [.own 2 v,.pv (.val (.int .u32 (H4 wd 0 l)))],.own v 5 .byt l]
def A1j:D9:=⟨T,C9,A7,A9,76,[],none,.f⟩
theorem B8U:B1 Tryz.prog A1j:=⟨B7,A2,A4⟩
theorem R6:F0 Tryz.prog A1j:=⟨tOk,B8U⟩
theorem C7I (sz:Int) (l:List qM) (hl:l.length≤4096) (hd:∀r∈l,r.data.length≤65536) (hin:∀r∈l,0≤r.at_∧r.at_≤65536) (hz:0≤sz∧sz≤4096) (hr:Y9 sz 0 l=true) (hsz:(eB sz l).length≤200000):C5 Tryz.prog 78 [.g [.pv (bv true),.pv (i64 sz),.pv (.lst .rcd l)]] [] (fun _=>True) (fun _:Unit=> .t [lst .byt (eB sz l++nB 4 (H4 wd 0 (eB sz l))),int .i64 0]) (fun _=>[]):=by
 refine I6 (E:=A1j) Tryz.func78 (fun M0 W hM0=>?_);obtain⟨zn,rfl⟩:=Int.eq_ofNat_of_zero_le hz.1;refine A3 R6 [] (fun bs=>?_);refine A5 [] (sRt true zn l hl hd hin hz) (fun _ _=>?_);refine A3 R6 [false] (fun bs=>?_);refine bZ 1 0 5 rfl rfl ?_;refine A5 [1,3] (sWr _ _ [] [77,84,82,75] 0 (by omega) (by simp) (by simp)) (fun v1 _=>?_);refine A3 R6 [true] (fun bs=>?_);refine A5 [1,3] (A1i _ _ [77,84,82,75] (by simp) 1 1 (by omega) (by omega) (by omega)) (fun v2 _=>?_);have q1:=bG 1 1;have q2:=bG 2 zn;have q3:=bG 2 l.length;refine A3 R6 [] (fun bs=>?_);refine A5 [1,3] (A1i _ _ ([77,84,82,75]++nB 1 1) (by simp only[List.length_append,List.length_cons,List.length_nil];omega) 2 zn (by omega) (by omega) (by omega)) (fun v3 _=>?_)
 refine A3 R6 [] (fun bs=>?_);refine A5 [1,3] (A1i _ _ ([77,84,82,75]++nB 1 1++nB 2 zn) (by simp only[List.length_append,List.length_cons,List.length_nil];omega) 2 l.length (by omega) (by omega) (by omega)) (fun v4 _=>?_);refine A3 R6 [] (fun bs=>?_);have e0:N4 zn l.length++(l.take 0).flatMap cC=[77,84,82,75]++nB 1 1++nB 2 zn++nB 2 l.length:=by simp[N4]
 refine K3 (fun q:Nat×Value×Nat×Nat=>[(1,.c (.ptr 0 q.2.2.1 0)),(4,.c (.ptr 1 q.2.2.2 0)),(32,lst .rcd l),(33,int .i64 l.length),(34,int .i64 q.1)]) (fun q=> .blk q.2.2.1 165 [.pv (bv true),.pv (i64 zn),.pv (.lst .rcd l)]::C7H q.2.2.2 q.2.1 (N4 zn l.length++(l.take q.1).flatMap cC))
  (fun q=>q.1≤l.length) (fun q=>l.length-q.1) [0,1,3] (0,v4,?b6,?b7) (Nat.zero_le _) ?wk1 (fun q hq=>?_)
 case wk1=>
  simp only[e0]
  and_intros<;> (first|exact wk_|refine A6 ?_|skip)
 obtain⟨i,v5,b6,b7⟩:=q;simp only at hq;refine A3 R6 [] (fun bs=>?_);refine I4 rfl rfl (fun hk=>?_) (fun hk=>?_)
 ·have hi:i<l.length:=by have:(i:Int)<l.length:=hk;omega
  have hge:l.getD ((i:Int)).toNat LK.rcd.dft=l[i]:=by simp[List.getD,hi]
  have hm:l[i]∈l:=List.getElem_mem hi;have hd1:=hd _ hm;have hi1:=hin _ hm;have hst:(N4 zn l.length++(l.take i).flatMap cC).length≤200000:=by
   have e:(eB zn l)=N4 zn l.length++(l.take i).flatMap cC++(l.drop i).flatMap cC:=by rw[List.append_assoc,←List.flatMap_append,List.take_append_drop];rfl
   rw[e,List.length_append]at hsz;omega
  rw[←hge]at hd1 hi1;have q4:=bG 2 (l.getD ((i:Int)).toNat LK.rcd.dft).at_;have q5:=bG 2 (((l.getD ((i:Int)).toNat LK.rcd.dft).data.length:Int) / 16);have hcr:=bK wd 0 (l.getD ((i:Int)).toNat LK.rcd.dft).data;have l1:((N4 zn l.length++(l.take i).flatMap cC)++nB 2 (l.getD ((i:Int)).toNat LK.rcd.dft).at_).length≤200002:=by rw[List.length_append];omega
  have l2:(((N4 zn l.length++(l.take i).flatMap cC)++nB 2 (l.getD ((i:Int)).toNat LK.rcd.dft).at_)++nB 2 (((l.getD ((i:Int)).toNat LK.rcd.dft).data.length:Int) / 16)).length≤200004:=by rw[List.length_append];omega
  have l3:((((N4 zn l.length++(l.take i).flatMap cC)++nB 2 (l.getD ((i:Int)).toNat LK.rcd.dft).at_)++nB 2 (((l.getD ((i:Int)).toNat LK.rcd.dft).data.length:Int) / 16))++(l.getD ((i:Int)).toNat LK.rcd.dft).data).length≤300000:=by rw[List.length_append];omega
  refine A3 R6 [] (fun bs=>?_);refine A5 [1,2] (A1i b7 v5 (N4 zn l.length++(l.take i).flatMap cC) (by omega) 2 (l.getD ((i:Int)).toNat LK.rcd.dft).at_ (by omega) (by omega) (by omega)) (fun v6 _=>?_);refine A3 R6 [] (fun bs=>?_);refine A5 [1,2] (A1i b7 v6 ((N4 zn l.length++(l.take i).flatMap cC)++nB 2 (l.getD ((i:Int)).toNat LK.rcd.dft).at_) (by omega) 2 (((l.getD ((i:Int)).toNat LK.rcd.dft).data.length:Int) / 16) (by omega) (by omega) (by omega)) (fun v7 _=>?_);refine A3 R6 [] (fun bs=>?_);refine A5 [1,2] (C7G b7 v7 (((N4 zn l.length++(l.take i).flatMap cC)++nB 2 (l.getD ((i:Int)).toNat LK.rcd.dft).at_)++nB 2 (((l.getD ((i:Int)).toNat LK.rcd.dft).data.length:Int) / 16)) (l.getD ((i:Int)).toNat LK.rcd.dft).data (by omega) (by omega)) (fun v8 _=>?_)
  refine A3 R6 [] (fun bs=>?_);refine A5 [1,2] (A1i b7 v8 ((((N4 zn l.length++(l.take i).flatMap cC)++nB 2 (l.getD ((i:Int)).toNat LK.rcd.dft).at_)++nB 2 (((l.getD ((i:Int)).toNat LK.rcd.dft).data.length:Int) / 16))++(l.getD ((i:Int)).toNat LK.rcd.dft).data) (by omega) 4 (H4 wd 0 (l.getD ((i:Int)).toNat LK.rcd.dft).data) (by omega) (by omega) (by omega)) (fun v9 _=>?_);refine A3 R6 [] (fun bs=>?_);refine G3 [0,1,2] (i+1,v9,b6,b7) ?ok2 ?wk2
  case ok2=>exact⟨by show i+1≤l.length;omega,by show l.length-(i+1)<l.length-i;omega⟩
  case wk2=>
   have e:N4 zn l.length++(l.take (i+1)).flatMap cC=((((N4 zn l.length++(l.take i).flatMap cC)++nB 2 (l.getD ((i:Int)).toNat LK.rcd.dft).at_)++nB 2 (((l.getD ((i:Int)).toNat LK.rcd.dft).data.length:Int) / 16))++(l.getD ((i:Int)).toNat LK.rcd.dft).data)++nB 4 (H4 wd 0 (l.getD ((i:Int)).toNat LK.rcd.dft).data):=by
    rw[List.take_add_one,gE_ hi,List.flatMap_append,hge];simp[cC]
   simp only[e]
   and_intros<;> (first|exact wk_|refine A6 ?_|skip)
 ·have hcr:=bK wd 0 (N4 zn l.length++(l.take i).flatMap cC);refine A3 R6 [] (fun bs=>?_);have hi:i=l.length:=by have:¬(i:Int)<l.length:=hk;omega
  have e:(N4 zn l.length++(l.take i).flatMap cC)=eB zn l:=by rw[hi,List.take_length];rfl
  have hst:(N4 zn l.length++(l.take i).flatMap cC).length≤200000:=by rw[e];exact hsz
  have q4:=bG 4 (H4 wd 0 (N4 zn l.length++(l.take i).flatMap cC));refine A5 [1,2] (A1i b7 v5 (N4 zn l.length++(l.take i).flatMap cC) (by omega) 4 (H4 wd 0 (N4 zn l.length++(l.take i).flatMap cC)) (by omega) (by omega) (by omega)) (fun v6 _=>?_);have hl5:((N4 zn l.length++(l.take i).flatMap cC)++T9 [] 4 false (H4 wd 0 (N4 zn l.length++(l.take i).flatMap cC))).length≤200004:=by rw[List.length_append];have q4':(T9 [] 4 false (H4 wd 0 (N4 zn l.length++(l.take i).flatMap cC))).length≤4:=q4;omega
  refine K7 1 0 2 rfl rfl rfl ?_;clear hst e hi q4;refine A3 R6 [false] (fun bs=>?_);rw[←show N4 zn l.length++(l.take i).flatMap cC=eB zn l by rw[show i=l.length by(have:¬(i:Int)<l.length:=hk);omega,List.take_length];rfl];exact B3 R6 () trivial []
abbrev rdO (b:Nat) (l:Bs) (at_:Int):List HB:=[.blk b 350 [.pv (.lst .byt l),.pv (i64 at_),.pv (bv false)]]
def A1k:D9:=⟨T,C9,A7,A9,41,[],none,.f⟩
theorem B8V:B1 Tryz.prog A1k:=⟨B7,A2,A4⟩
theorem wW:F0 Tryz.prog A1k:=⟨tOk,B8V⟩
theorem C7J (b:Nat) (l:Bs) (at_:Int) (n:Nat) (hl:l.length≤1000000) (ha:0≤at_∧at_≤1000000) (hn:1≤n∧n≤4) (hg:mW l at_ n=0) (hv:0≤J0 l at_ n false∧J0 l at_ n false≤4294967295):C5 Tryz.prog 235 [.c (.ptr 0 b 0),int .i64 n] (rdO b l at_) (fun _=>True) (fun _:Unit=>int .i64 (J0 l at_ n false)) (fun _=>rdO b l (at_+n)):=by
 refine I6 (E:=A1k) Tryz.func235 (fun M0 W hM0=>?_);refine A3 wW [] (fun bs=>?_);refine R3 wW 14 [0,1,3,7,0,16,48,112,0,511,1023,2047,2047,4095,16383] [] (fun bs=>?_);rw[hg];refine A3 wW [] (fun bs=>?_);exact B3 wW () trivial [0]
def A1l:D9:=⟨T,C9,A7,A9,51,[],none,.f⟩
theorem B8W:B1 Tryz.prog A1l:=⟨B7,A2,A4⟩
theorem lS:F0 Tryz.prog A1l:=⟨tOk,B8W⟩
theorem C7K (b:Nat) (l:Bs) (at_ n:Int) (hl:l.length≤1000000) (ha:0≤at_) (hn:0≤n) (hg:at_+n≤l.length):C5 Tryz.prog 234 [.c (.ptr 0 b 0),int .i64 n] (rdO b l at_) (fun _=>True) (fun _:Unit=>lst .byt ((l.take (at_+n).toNat).drop at_.toNat)) (fun _=>rdO b l (at_+n)):=by
 refine I6 (E:=A1l) Tryz.func234 (fun M0 W hM0=>?_);refine A3 lS [] (fun bs=>?_);refine R3 lS 16 [0,1,3,7,15,31,31,95,223,479,991,31,2079,6175,14367,32735,65535,131071] [] (fun bs=>?_);refine A3 lS [false] (fun bs=>?_);refine R3 lS 16 [0,0,2,6,14,0,32,96,224,0,992,0,2048,6144,14336,32766,65535,131071] [] (fun bs=>?_);refine A3 lS [] (fun bs=>?_);refine G1 33 [4,50] rfl ⟨rfl,rfl,trivial⟩ ?_;rw[show at_+n-n=at_ by omega];exact B3 lS () trivial [0]
theorem C4g {n x:Nat} (h1:1≤n) (h8:n≤8) (hv:x<256 ^ n):jF n x=0:=by
 unfold jF;have hd:(x:Int) / 2 ^ (8*(n:Int)).toNat=0:=by
  apply Int.ediv_eq_zero_of_lt (by omega);have e:(2:Int) ^ (8*(n:Int)).toNat=((256 ^ n:Nat):Int):=by
   rw[show(8*(n:Int)).toNat=8*n by omega,show(256:Nat)=2 ^ 8 by decide,←Nat.pow_mul]
   push_cast;rfl
  rw[e];exact_mod_cast hv
 rw[if_neg (by omega),if_neg (fun h=>h.2 hd)]
theorem C2k {n x:Nat} (h1:1≤n) (h8:n≤8) (hv:x<256 ^ n):nB n (x:Int)=G5 n false x n:=by
 show T9 [] n false x=_;unfold T9;rw[if_pos (C4g h1 h8 hv)];rfl
theorem A7b {n x:Nat} (h1:1≤n) (h8:n≤8) (hv:x<256 ^ n):(nB n (x:Int)).length=n:=by
 rw[C2k h1 h8 hv];simp[G5]
theorem C6B (b:Nat) (p r:Bs) (n x:Nat) (hn:1≤n∧n≤4) (hx:x<256 ^ n) (hl:(p++nB n x++r).length≤1000000):
 C5 Tryz.prog 235 [.c (.ptr 0 b 0),int .i64 n] (rdO b (p++nB n x++r) p.length) (fun _=>True) (fun _:Unit=>int .i64 x) (fun _=>rdO b (p++nB n x++r) (p.length+n)):=by
 have e:=C2k hn.1 (by omega) hx;obtain⟨g1,g2⟩:=kF p r n false x hn.1 (by omega) hx;rw[←e]at g1 g2;have hx4:x≤4294967295:=by
  have:(256:Nat) ^ n≤256 ^ 4:=Nat.pow_le_pow_right (by omega) hn.2;omega
 have hp:p.length≤1000000:=by rw[List.length_append,List.length_append]at hl;omega
 have h:=C7J b (p++nB n x++r) p.length n hl (by omega) hn g2 (by rw[g1];omega);rw[g1]at h;exact h
theorem C6C (b:Nat) (p d r:Bs) (hl:(p++d++r).length≤1000000):
 C5 Tryz.prog 234 [.c (.ptr 0 b 0),int .i64 d.length] (rdO b (p++d++r) p.length) (fun _=>True) (fun _:Unit=>lst .byt d) (fun _=>rdO b (p++d++r) (p.length+d.length)):=by
 have h:=C7K b (p++d++r) p.length d.length hl (by omega) (by omega) (by rw[List.length_append,List.length_append];omega);have e:((p++d++r).take ((p.length:Int)+d.length).toNat).drop ((p.length:Int)).toNat=d:=by
  rw[show((p.length:Int)+d.length).toNat=(p++d).length by rw[List.length_append];omega,List.take_left,Int.toNat_natCast,List.drop_left]
 rw[e]at h;exact h
theorem A1m (b:Nat) (T p r:Bs) (n x:Nat) (a:Int) (e:T=p++nB n x++r) (ea:a=p.length) (hn:1≤n∧n≤4) (hx:x<256 ^ n) (hl:T.length≤1000000):
 C5 Tryz.prog 235 [.c (.ptr 0 b 0),int .i64 n] (rdO b T a) (fun _=>True) (fun _:Unit=>int .i64 x) (fun _=>rdO b T (a+n)):=by
 subst e;subst ea;exact C6B b p r n x hn hx hl
theorem C2l (b:Nat) (T p d r:Bs) (a n:Int) (e:T=p++d++r) (ea:a=p.length) (en:n=d.length) (hl:T.length≤1000000):
 C5 Tryz.prog 234 [.c (.ptr 0 b 0),int .i64 n] (rdO b T a) (fun _=>True) (fun _:Unit=>lst .byt d) (fun _=>rdO b T (a+n)):=by
 subst e;subst ea;subst en;exact C6C b p d r hl
theorem C1z {sz:Int}:∀{l:List qM} {a:Int},Y9 sz a l=true→∀r∈l,r.data.length%16=0:=by
 intro l
 induction l with
 |nil=>intro a _ r hr;cases hr
 |cons x l ih=>
  intro a h r hr;simp only[Y9,Bool.and_eq_true]at h;rcases List.mem_cons.1 hr with rfl|h2
  ·have:=h.1;simp[A5J]at this;omega
  ·exact ih h.2 r h2
theorem B1C {b:Bool} {M:B5} {v:Value} {B:Nat→Prop} {w:World} (h:RA M (bool b) v):A5d M B w (.x (.c (bv b))) v:=by
 cases h with
 |c h=>cases h with
  |pv h=>exact h
def RtP (sz:Int) (l:List qM):Prop:=l.length≤4096∧(∀r∈l,r.data.length≤65536)∧(∀r∈l,0≤r.at_∧r.at_≤65536)∧0≤sz∧sz≤4096
def B8X:C3
 |[.g [.pv (.val (.bool fu)),.pv (.val (.int .i64 sz)),.pv (.lst .rcd l)]]=>some (RtP sz l,true,.x (.c (bv (Y9 sz 0 l))))
 |_=>none
theorem B8Y:E9 Tryz.prog 156 B8X:=by
 intro args pre sh rv h hp;unfold B8X at h;split at h
 ·cases h;exact C5.toC (sRt _ _ _ hp.1 hp.2.1 hp.2.2.1 hp.2.2.2) (fun _ M v B w hv=>B1C hv)
 ·cases h
def B1D:FuncId→Option C3:=D6 156 B8X C9
theorem A9o:G4 Tryz.prog B1D:=B8 B8Y B7
def A5N:D9:=⟨T,B1D,A7,A9,93,[],none,.f⟩
theorem B1E:B1 Tryz.prog A5N:=⟨A9o,A2,A4⟩
theorem Z0:F0 Tryz.prog A5N:=⟨tOk,B1E⟩
theorem sRd (T:Bs) (zn:Nat) (l:List qM) (hT:T=eB zn l++nB 4 (H4 wd 0 (eB zn l))) (hl:l.length≤4096) (hd:∀r∈l,r.data.length≤65536) (hin:∀r∈l,0≤r.at_∧r.at_≤65535) (hz:zn≤4096) (hr:Y9 zn 0 l=true) (hsz:T.length≤200000):C5 Tryz.prog 180 [lst .byt T] [] (fun _=>True) (fun _:Unit=> .t [.g [.pv (bv true),.pv (i64 zn),.pv (.lst .rcd l)],lst (.ints .i64) (l.map (fun r=>H4 wd 0 r.data)++[H4 wd 0 (eB zn l)]),bool true]) (fun _=>[]):=by
 refine I6 (E:=A5N) Tryz.func180 (fun M0 W hM0=>?_);obtain⟨R,hR⟩:∃R,R=l.flatMap cC++nB 4 (H4 wd 0 (eB zn l)):=⟨_,rfl⟩
 have e0:T=[]++[77,84,82,75]++(nB 1 1++nB 2 zn++nB 2 l.length++R):=by rw[hT,hR];simp[eB,N4]
 have e1:T=[77,84,82,75]++nB 1 (1:Nat)++(nB 2 zn++nB 2 l.length++R):=by rw[e0];simp
 have n1:(nB 1 (1:Nat)).length=1:=A7b (by omega) (by omega) (by omega);have n2:(nB 2 zn).length=2:=A7b (by omega) (by omega) (by omega);have n3:(nB 2 l.length).length=2:=A7b (by omega) (by omega) (by omega);have e2:T=([77,84,82,75]++nB 1 (1:Nat))++nB 2 zn++(nB 2 l.length++R):=by rw[e1];simp
 have e3:T=([77,84,82,75]++nB 1 (1:Nat)++nB 2 zn)++nB 2 l.length++R:=by rw[e2];simp
 refine A3 Z0 [] (fun bs=>?_);refine A5 [1] (C2l _ T [] [77,84,82,75] _ 0 4 e0 rfl rfl (by omega)) (fun _ _=>?_);refine A3 Z0 [false] (fun bs=>?_);refine A5 [1] (A1m _ T _ _ 1 1 (0+4) e1 rfl (by omega) (by omega) (by omega)) (fun _ _=>?_);refine A3 Z0 [] (fun bs=>?_);refine A5 [1] (A1m _ T _ _ 2 zn (0+4+(1:Nat)) e2 (by simp only[List.length_append,n1];rfl) (by omega) (by omega) (by omega)) (fun _ _=>?_);refine A3 Z0 [] (fun bs=>?_);refine A5 [1] (A1m _ T _ _ 2 l.length (0+4+(1:Nat)+(2:Nat)) e3 (by simp only[List.length_append,n1,n2];rfl) (by omega) (by omega) (by omega)) (fun _ _=>?_);refine A3 Z0 [] (fun bs=>?_)
 refine lZ 8 3 rfl ?_;refine bZ 2 2 174 rfl rfl ?_;have hn0:(N4 zn l.length).length=9:=by simp only[N4,List.length_append,n1,n2,n3,List.length_cons,List.length_nil];exact congrArg (fun k=>4+k+2+2) n1
 have ep:((N4 zn l.length++(l.take 0).flatMap cC).length:Int)=9:=by rw[List.take_zero];simp[hn0]
 refine K3 (fun q:Nat×Value×Value×Nat×Nat×Nat=>[(0,lst .byt T),(2,.c (.ptr 0 q.2.2.2.1 0)),(5,.c (.ptr 1 q.2.2.2.2.1 0)),(6,int .i64 1),(7,.c (.ptr 2 q.2.2.2.2.2 0)),(8,.c (.own 3 q.2.1)),(9,int .i64 ((l.length:Int)-q.1))])
  (fun q=>[.blk q.2.2.2.1 165 [.pv (bv false),.pv (i64 0),.pv (.nil .rcd)],.blk q.2.2.2.2.1 350 [.pv (.lst .byt T),.pv (i64 ((N4 zn l.length++(l.take q.1).flatMap cC).length:Int)),.pv (bv false)],.blk q.2.2.2.2.2 165 [.pv (bv true),.pv (i64 zn),.own 4 q.2.2.1],.own q.2.1 3 (.ints .i64) ((l.take q.1).map fun r=>H4 wd 0 r.data),.own q.2.2.1 174 .rcd (l.take q.1)])
  (fun q=>q.1≤l.length) (fun q=>l.length-q.1) [0,1,2,3,4] (0,?vs,?vr,?b0,?b1,?b2) (Nat.zero_le _) ?wk1 (fun q hq=>?_)
 case wk1=>
  simp only[ep]
  and_intros<;> (first|exact wk_|refine A6 ?_|skip)
 obtain⟨i,vs,vr,b0,b1,b2⟩:=q;simp only at hq;refine A3 Z0 [] (fun bs=>?_);refine C6 rfl rfl (fun hk=>?_) (fun hk=>?_)
 ·have hi:i<l.length:=by simp at hk;omega
  have hm:l[i]∈l:=List.getElem_mem hi;have hd1:=hd _ hm;have hi1:=hin _ hm;have hmo:=C1z hr _ hm;obtain⟨an,han⟩:=Int.eq_ofNat_of_zero_le hi1.1;have hcr:=bK wd 0 l[i].data;obtain⟨cn,hcn⟩:=Int.eq_ofNat_of_zero_le hcr.1;obtain⟨ln,hln⟩:∃ln,l[i].data.length=ln*16:=⟨l[i].data.length / 16,by omega⟩
  have hrc:cC l[i]=nB 2 an++nB 2 ln++l[i].data++nB 4 cn:=by
   have e:((l[i].data.length:Int) / 16)=(ln:Int):=by omega
   simp only[cC];rw[e,han,hcn]
  have m1:(nB 2 an).length=2:=A7b (by omega) (by omega) (by omega);have m2:(nB 2 ln).length=2:=A7b (by omega) (by omega) (by omega);have m3:(nB 4 cn).length=4:=A7b (by omega) (by omega) (by omega);obtain⟨r4,hr4⟩:∃r4,r4=(l.drop (i+1)).flatMap cC++nB 4 (H4 wd 0 (eB zn l)):=⟨_,rfl⟩
  have d0:T=(N4 zn l.length++(l.take i).flatMap cC)++cC l[i]++r4:=by
   rw[hT,hr4];have h:l=l.take i++l[i]::l.drop (i+1):=by rw[←List.drop_eq_getElem_cons hi,List.take_append_drop]
   have e:=congrArg (List.flatMap cC) h;rw[List.flatMap_append,List.flatMap_cons,←List.append_assoc]at e;unfold eB;rw[e];simp only[List.append_assoc]
  rw[hrc]at d0;have d1:T=(N4 zn l.length++(l.take i).flatMap cC)++nB 2 an++(nB 2 ln++l[i].data++nB 4 cn++r4):=by rw[d0];simp
  have d2:T=((N4 zn l.length++(l.take i).flatMap cC)++nB 2 an)++nB 2 ln++(l[i].data++nB 4 cn++r4):=by rw[d0];simp
  have d3:T=((N4 zn l.length++(l.take i).flatMap cC)++nB 2 an++nB 2 ln)++l[i].data++(nB 4 cn++r4):=by rw[d0];simp
  have d4:T=((N4 zn l.length++(l.take i).flatMap cC)++nB 2 an++nB 2 ln++l[i].data)++nB 4 cn++r4:=by rw[d0];simp
  refine A3 Z0 [] (fun bs=>?_);refine A5 [1] (A1m b1 T _ _ 2 an ((N4 zn l.length++(l.take i).flatMap cC).length:Int) d1 rfl (by omega) (by omega) (by omega)) (fun _ _=>?_);refine A3 Z0 [] (fun bs=>?_);refine A5 [1] (A1m b1 T _ _ 2 ln (((N4 zn l.length++(l.take i).flatMap cC).length:Int)+(2:Nat)) d2 (by simp only[List.length_append,m1];push_cast;omega) (by omega) (by omega) (by omega)) (fun _ _=>?_);refine A3 Z0 [] (fun bs=>?_);refine A5 [1] (C2l b1 T _ _ _ (((N4 zn l.length++(l.take i).flatMap cC).length:Int)+(2:Nat)+(2:Nat)) (ln*16) d3 (by simp only[List.length_append,m1,m2];push_cast;omega) (by omega) (by omega)) (fun _ _=>?_)
  refine A3 Z0 [] (fun bs=>?_);refine A5 [1] (A1m b1 T _ _ 4 cn (((N4 zn l.length++(l.take i).flatMap cC).length:Int)+(2:Nat)+(2:Nat)+ln*16) d4 (by simp only[List.length_append,m1,m2,hln];push_cast;omega) (by omega) (by omega) (by omega)) (fun _ _=>?_);refine A3 Z0 [] (fun bs=>?_);refine G3 [0,1,2,9,7] (i+1,?vs2,?vr2,b0,b1,b2) ?ok2 ?wk2
  case wk2=>
   have t1:l.take (i+1)=l.take i++[l[i]]:=by rw[List.take_add_one,gE_ hi];rfl
   have t2:(l.take (i+1)).map (fun r=>H4 wd 0 r.data)=(l.take i).map (fun r=>H4 wd 0 r.data)++[(cn:Int)]:=by rw[t1,List.map_append,←hcn];rfl
   have t3:l.take (i+1)=l.take i++[⟨(an:Int),l[i].data⟩]:=by rw[t1,←han]
   have t4:((N4 zn l.length++(l.take (i+1)).flatMap cC).length:Int)=((N4 zn l.length++(l.take i).flatMap cC).length:Int)+(2:Nat)+(2:Nat)+ln*16+(4:Nat):=by
    rw[t1,List.flatMap_append];simp only[List.flatMap_cons,List.flatMap_nil,List.append_nil,hrc,List.length_append,m1,m2,m3,hln];push_cast;omega
   simp only[t2,t4];simp only[t3]
   and_intros<;> (first|exact wk_|refine A6 ?_|skip)
   all_goals first|omega
  case ok2=>exact⟨by show i+1≤l.length;omega,by show l.length-(i+1)<l.length-i;omega⟩
 ·have hi:i=l.length:=by simp at hk;omega
  have hP:(N4 zn l.length++(l.take i).flatMap cC)=eB zn l:=by rw[hi,List.take_length];rfl
  have hcr:=bK wd 0 (eB zn l);obtain⟨cn,hcn⟩:=Int.eq_ofNat_of_zero_le hcr.1;have d1:T=(N4 zn l.length++(l.take i).flatMap cC)++nB 4 cn++[]:=by rw[hP,hT,hcn];simp
  refine A3 Z0 [] (fun bs=>?_);refine A5 [1] (A1m b1 T _ _ 4 cn ((N4 zn l.length++(l.take i).flatMap cC).length:Int) d1 rfl (by omega) (by omega) (by omega)) (fun _ _=>?_);refine A3 Z0 [] (fun bs=>?_);refine K7 2 2 4 rfl rfl rfl ?_;refine G1 6 [8,63] rfl ⟨rfl,rfl,trivial⟩ ?_;have hTl:((N4 zn l.length++(l.take i).flatMap cC).length:Int)+(4:Nat)=T.length:=by
   rw[d1];simp only[List.length_append,List.length_nil];have m4:(nB 4 (cn:Int)).length=4:=A7b (by omega) (by omega) (by omega);omega
  have hsL:(l.take i).map (fun r=>H4 wd 0 r.data)++[(cn:Int)]=l.map (fun r=>H4 wd 0 r.data)++[H4 wd 0 (eB zn l)]:=by rw[hi,List.take_length,hcn]
  refine X3 [0,1,2] [(0,lst .byt T),(2,.c (.ptr 0 b0 0)),(5,.c (.ptr 1 b1 0)),(6,int .i64 1),(7,.c (.ptr 2 b2 0)),(8,lst (.ints .i64) (l.map (fun r=>H4 wd 0 r.data)++[H4 wd 0 (eB zn l)]))] [.blk b0 165 [.pv (bv false),.pv (i64 0),.pv (.nil .rcd)],.blk b1 350 [.pv (.lst .byt T),.pv (i64 T.length),.pv (bv false)],.blk b2 165 [.pv (bv true),.pv (i64 zn),.pv (.lst .rcd l)]] ?_ (h:=?wk9)
  case wk9=>
   and_intros<;> (first|exact wk_|refine A6 ?_|skip)
   all_goals first|exact hTl|exact congrArg (PV.lst (.ints .i64)) hsL|exact congrArg (PV.lst .rcd) (by rw[hi,List.take_length])|exact⟨rfl,hTl⟩
  refine bY tOk B1E rfl (fun _=>some true) 31 [0,0,0,4,12,28,60,124,252,508,1020,2044,4092,8188,16380,32764,4092,69628,262140,524284,1048572,2097148,4194300,8388604,16777212,33554428,67108860,134217724,268435452,33554429,570425343,2147483647] [(29,0)] rfl (by decide+kernel) (fun bs=>rfl) (fun bs=>?_) (fun bs=>?_)
  ·and_intros<;> first|exact trivial|exact rfl|omega|exact(fun r h=>⟨(hin r h).1,by have:=(hin r h).2;omega⟩)|(simp[hr];done)
  refine A3 Z0 [] (fun bs=>?_);refine B3 Z0 () trivial [] (hr:=?hr9)
  case hr9=>
   and_intros<;> (first|exact wk_|refine A6 ?_|skip)
   all_goals first|(show(!false && decide ((1:Int)≤1) && decide ((T.length:Int)=T.length) && Y9 zn 0 l && decide ((T.length:Int)≤262144))=true;rw[hr,decide_eq_true (show(T.length:Int)≤262144 by omega),decide_eq_true (rfl:(T.length:Int)=T.length)];rfl)
abbrev C7L (zn:Nat) (l:List qM):List Int:=l.map (fun r=>H4 wd 0 r.data)++[H4 wd 0 (eB zn l)]
def A1n:D9:=⟨T,C9,A7,A9,53,[],none,.f⟩
theorem B8Z:B1 Tryz.prog A1n:=⟨B7,A2,A4⟩
theorem Y2:F0 Tryz.prog A1n:=⟨tOk,B8Z⟩
theorem C7M (T:Bs) (zn:Nat) (l:List qM) (hT:T=eB zn l++nB 4 (H4 wd 0 (eB zn l))) (hl:l.length≤4096) (hd:∀r∈l,r.data.length≤65536) (hin:∀r∈l,0≤r.at_∧r.at_≤65535) (hz:zn≤4096) (hr:Y9 zn 0 l=true) (hsz:T.length≤200000):C5 Tryz.prog 98 [lst .byt T] [] (fun _=>True) (fun _:Unit=> .t [.g [.pv (bv true),.pv (i64 zn),.pv (.lst .rcd l)],int .i64 0]) (fun _=>[]):=by
 refine I6 (E:=A1n) Tryz.func98 (fun M0 W hM0=>?_);have hcr:=bK wd 0 (eB zn l);have n4:(nB 4 (H4 wd 0 (eB zn l))).length=4:=by
  obtain⟨cn,hcn⟩:=Int.eq_ofNat_of_zero_le hcr.1;rw[hcn];exact A7b (by omega) (by omega) (by omega)
 have hTl:T.length=(eB zn l).length+4:=by rw[hT,List.length_append,n4]
 have hTt:T.take ((T.length:Int)-4).toNat=eB zn l:=by
  rw[show((T.length:Int)-4).toNat=(eB zn l).length by omega,hT,List.take_left]
 obtain⟨S,hS⟩:∃S,S=C7L zn l:=⟨_,rfl⟩
 have hSl:S.length=l.length+1:=by rw[hS];simp
 refine A3 Y2 [] (fun bs=>?_);have hrd:=sRd T zn l hT hl hd hin hz hr hsz;rw[←show S=l.map (fun r=>H4 wd 0 r.data)++[H4 wd 0 (eB zn l)]from hS]at hrd;refine A5 [] hrd (fun _ _=>?_);refine A3 Y2 [false] (fun bs=>?_);refine K3 (fun q:Nat×Nat×Nat=>[(0,lst .byt T),(2,.c (.ptr 0 q.2.1 0)),(4,.c (.ptr 1 q.2.2 0)),(5,lst (.ints .i64) S),(19,lst .rcd l),(20,int .i64 l.length),(21,int .i64 q.1)]) (fun q=>[.blk q.2.1 165 [.pv (bv false),.pv (i64 0),.pv (.nil .rcd)],.blk q.2.2 165 [.pv (bv true),.pv (i64 zn),.pv (.lst .rcd l)]]) (fun q=>q.1≤l.length) (fun q=>l.length-q.1) [0,1] (0,?b0,?b1) (Nat.zero_le _) ?wk1 (fun q hq=>?_)
 case wk1=>
  and_intros<;> (first|exact wk_|refine A6 ?_|skip)
 obtain⟨i,b0,b1⟩:=q;simp only at hq;refine A3 Y2 [] (fun bs=>?_);refine I4 rfl rfl (fun hk=>?_) (fun hk=>?_)
 ·have hk:(i:Int)<(l.length:Nat):=hk;have hi:i<l.length:=by omega
  have hge:l.getD ((i:Int)).toNat LK.rcd.dft=l[i]:=by simp[List.getD,hi]
  have hSi:S.getD ((i:Int)).toNat 0=H4 wd 0 l[i].data:=by
   rw[Int.toNat_natCast,hS,List.getD_eq_getElem?_getD,List.getElem?_append_left (by simpa using hi),List.getElem?_map,gE_ hi];rfl
  have hci:=bK wd 0 l[i].data;have hdi:=hd _ (List.getElem_mem hi);rw[←hge]at hdi hci hSi;refine A3 Y2 [] (fun bs=>?_);refine mC Y2 8 [0,1,3,0,0,24,56,120,255] [] (fun bs=>?_) (fun bs=>?_)
  ·and_intros<;> first|exact trivial|exact rfl|omega|(simp only;omega)
  refine A3 Y2 [] (fun bs=>?_);have hwr:IntKind.u32.wrap (S.getD ((i:Int)).toNat 0)=H4 wd 0 (l.getD ((i:Int)).toNat LK.rcd.dft).data:=by rw[hSi,IntKind.wrap_u32];omega
  refine C6 (b:= !decide (H4 wd 0 (l.getD ((i:Int)).toNat LK.rcd.dft).data=IntKind.u32.wrap (S.getD ((i:Int)).toNat 0))) rfl rfl (fun hc=>?_) (fun hc=>?_)
  ·rw[hwr]at hc;simp at hc
  ·refine A3 Y2 [] (fun bs=>?_);refine I0 [0,1] (i+1,b0,b1) ⟨by simp only;omega,by simp only;omega⟩
 ·refine A3 Y2 [] (fun bs=>?_);refine mC Y2 13 [0,0,2,6,15,31,0,0,128,384,960,1984,4032,8191] [] (fun bs=>?_) (fun bs=>?_)
  ·and_intros<;> first|exact trivial|exact rfl|omega|(simp only;omega)|(simp;omega)
  refine A3 Y2 [] (fun bs=>?_);have hSe:S.getD ((S.length:Int)-1).toNat 0=H4 wd 0 (eB zn l):=by
   rw[show((S.length:Int)-1).toNat=l.length by omega,hS,List.getD_eq_getElem?_getD,List.getElem?_append_right (by simp)];simp
  have hwr:IntKind.u32.wrap (S.getD ((S.length:Int)-1).toNat 0)=H4 wd 0 (eB zn l):=by rw[hSe,IntKind.wrap_u32];omega
  refine C6 (b:= !decide (H4 wd 0 (List.drop (Int.toNat 0) (List.take ((T.length:Int)-4).toNat T))=IntKind.u32.wrap (S.getD ((S.length:Int)-1).toNat 0))) rfl rfl (fun hc=>?_) (fun hc=>?_)
  ·rw[hwr,hTt]at hc;simp at hc
  ·refine A3 Y2 [] (fun bs=>?_);exact B3 Y2 () trivial []
def zrB (b:Bs):Bool:=decide (∀x∈b,x=0)
def kW:D9:=⟨T,C9,A7,A9,5,[],none,.t⟩
theorem A7c:B1 Tryz.prog kW:=⟨B7,A2,A4⟩
theorem A9p:F0 Tryz.prog kW:=⟨tOk,A7c⟩
theorem A9q (x:Int):aA Tryz.prog 155 false [int .u8 x] (.x (.c (bv (!decide (x=0))))):=by
 refine cJ (E:=kW) Tryz.func155 (fun M0 W hM0=>?_);refine A3 A9p [] (fun bs=>?_);exact D5 tOk hM0 rfl rfl ⟨trivial,trivial⟩ rfl
abbrev nwA:A:= .c (.clo 155 [])
def tZ:C3
 |[.c (.pv (.val (.int .u8 x)))]=>some (True,false,.x (.c (bv (!decide (x=0)))))
 |_=>none
theorem A5O:E9 Tryz.prog 155 tZ:=by
 intro args pre sh rv h hp;unfold tZ at h;split at h
 ·cases h;exact A9q _
 ·cases h
def R1:FuncId→Option C3:=D6 155 tZ C9
theorem N5:G4 Tryz.prog R1:=B8 A5O B7
def A1o:D9:=⟨T,R1,A7,A9,19,[],none,.f⟩
theorem B8a:B1 Tryz.prog A1o:=⟨N5,A2,A4⟩
theorem fE:F0 Tryz.prog A1o:=⟨tOk,B8a⟩
theorem C7N (b:Bs) (hb:b.length≤1000000):C5 Tryz.prog 224 [lst .byt b,nwA] [] (fun i:Int=>(i= -1∧∀x∈b,x=0)∨(0≤i∧∃x∈b,x≠0)) (fun i=>int .i64 i) (fun _=>[]):=by
 refine I6 (E:=A1o) Tryz.func224 (fun M0 W hM0=>?_);refine A3 fE [] (fun bs=>?_);refine V3 (fun i:Nat=>[(0,lst .byt b),(1,nwA),(7,int .i64 b.length),(8,int .i64 i)]) (fun _=>[]) (fun i=>i≤b.length∧∀j,j<i→b.getD j 0=0) (fun i=>b.length-i) [] 0 ⟨Nat.zero_le _,fun j hj=>absurd hj (Nat.not_lt_zero _)⟩ (fun i hi=>?_);refine A3 fE [] (fun bs=>?_);refine I4 rfl rfl (fun hk=>?_) (fun hk=>?_)
 ·have hk:(i:Int)<(b.length:Nat):=hk;have hi2:i<b.length:=by omega
  have hge:b.getD i 0=b[i]:=by rw[List.getD,gE_ hi2];rfl
  refine A3 fE [] (fun bs=>?_);refine C6 (b:= !decide (((b.getD i LK.byt.dft).toNat:Int)=0)) rfl rfl (fun hc=>?_) (fun hc=>?_)
  ·refine A3 fE [] (fun bs=>?_);have hne:b.getD i 0≠0:=fun e=>by
    have e':b.getD i LK.byt.dft=0:=e;rw[e']at hc;exact absurd hc (by decide)
   exact B3 fE (i:Int) (.inr ⟨by omega,b[i],List.getElem_mem hi2,by rw[←hge];exact hne⟩) []
  ·refine A3 fE [] (fun bs=>?_);have hz:b.getD i 0=0:=by
    have hc:(!decide (((b.getD i 0).toNat:Int)=0))=false:=hc;have h2:((b.getD i 0).toNat:Int)=0:=by simpa using hc
    exact UInt8.toNat_inj.1 (by show(b.getD i 0).toNat=0;omega)
   refine I0 [] (i+1) ⟨⟨hi2,fun j hj=>?_⟩,by omega⟩;by_cases e:j=i
   ·rw[e];exact hz
   ·exact hi.2 j (by omega)
 ·refine A3 fE [] (fun bs=>?_);refine B3 fE (-1) (.inl ⟨rfl,fun x hx=>?_⟩) [];have hk:¬((i:Int)<(b.length:Nat)):=hk;obtain⟨j,hj⟩:=List.getElem?_of_mem hx;have hjl:=(gS_.1 hj).1;have:=hi.2 j (by omega);rw[List.getD,hj]at this;exact this
def A1p:D9:=⟨T,R1,A7,A9,9,[],none,.f⟩
theorem B8b:B1 Tryz.prog A1p:=⟨N5,A2,A4⟩
theorem A5P:F0 Tryz.prog A1p:=⟨tOk,B8b⟩
theorem C7O (b:Bs) (hb:b.length≤1000000):C5 Tryz.prog 154 [lst .byt b,nwA] [] (fun _=>True) (fun _:Unit=>bool (!zrB b)) (fun _=>[]):=by
 refine I6 (E:=A1p) Tryz.func154 (fun M0 W hM0=>?_);refine A3 A5P [] (fun bs=>?_);refine A5 [] (C7N b hb) (fun i hi=>?_);refine A3 A5P [] (fun bs=>?_);refine B3 A5P () trivial [] (hr:=?hr)
 case hr=>
  show decide ((0:Int)≤i)= !zrB b;unfold zrB;rcases hi with⟨h1,h2⟩|⟨h1,x,h2,h3⟩
  ·subst h1;rw[decide_eq_true h2];rfl
  ·rw[decide_eq_true h1,decide_eq_false (fun h=>h3 (h x h2))];rfl
def A5Q:D9:=⟨T,R1,A7,A9,6,[],none,.f⟩
theorem C2A:B1 Tryz.prog A5Q:=⟨N5,A2,A4⟩
theorem A9r:F0 Tryz.prog A5Q:=⟨tOk,C2A⟩
theorem bNo (b:Bs) (hb:b.length≤1000000):C5 Tryz.prog 77 [lst .byt b] [] (fun _=>True) (fun _:Unit=>bool (zrB b)) (fun _=>[]):=by
 refine I6 (E:=A5Q) Tryz.func77 (fun M0 W hM0=>?_);refine A3 A9r [] (fun bs=>?_);refine A5 [] (C7O b hb) (fun _ _=>?_);refine A3 A9r [] (fun bs=>?_);refine B3 A9r () trivial [] (hr:=?hr)
 case hr=>exact Bool.not_not _
abbrev ocA:List C:=[.cel [bv true],.cel [sv [],bv false,.nil .spn]]
def A1q:D9:=⟨T,R1,A7,A9,12,[],none,.f⟩
theorem B8c:B1 Tryz.prog A1q:=⟨N5,A2,A4⟩
theorem B1F:F0 Tryz.prog A1q:=⟨tOk,B8c⟩
theorem C7P (k:Int):C5 Tryz.prog 74 (int .i64 k::ocA.map A.c) [] (fun _=>True) (fun _:Unit=>bool true) (fun _=>[]):=by
 refine I6 (E:=A1q) Tryz.func74 (fun M0 W hM0=>?_);refine L7 B1F (fun _=>some true) [] (fun bs=>?_);exact B3 B1F () trivial []
def evN (k:Nat):List Value:=[.int .i64 k]
def eaN (k:Nat):List A:=[int .i64 k]
theorem C4h (M:B5) (y:Nat) (vs:Array Value) (h:cY M (eaN y) vs):vs=(evN y).toArray:=by
 obtain⟨h1,h2⟩:=h;obtain⟨vs⟩:=vs
 match vs,h1,h2 with
 |[u],_,h2=>
  have a0:=h2 0 _ u rfl rfl;cases a0 with|c a0=>cases a0 with|pv a0=>
  rw[a0.val_eq];rfl
theorem C4i (M:B5) (y:Nat):cY M (eaN y) (evN y).toArray:=by
 refine⟨rfl,fun j a v e1 e2=>?_⟩
 match j,e1,e2 with
 |0,e1,e2=>cases e1;cases e2;exact .c (.pv (.val rfl))
def A5R:D9:=⟨T,C9,A7,A9,19,[],some 0,.f⟩
theorem C2B:B1 Tryz.prog A5R:=⟨B7,A2,A4⟩
theorem iO:F0 Tryz.prog A5R:=⟨tOk,C2B⟩
abbrev itC (n:Nat):List C:=[.cel [i64 n],.bx (.clo 74 ocA)]
theorem C2C (n:Nat) (hn:n≤4096):B4i Tryz.prog 152 (itC n) evN (List.range n):=by
 refine xZ (E:=A5R) Tryz.func152 (by decide) rfl rfl rfl rfl rfl (fun args w=>?_) (fun M lid J Jx w hJ hJx h0 hy=>?_)
 ·simp[callFunc,Tryz.func152,Tryz.f152]
 refine A3 iO [] (fun bs=>?_);refine xY (J:=J) (n:=n) rfl hJ (fun i=>[(0,pv (.val (.func (.yield lid) #[] #[]))),(1,.c (.cel [i64 n])),(2,.c (.bx (.clo 74 ocA))),(5,int .i64 n),(6,int .i64 (i:Nat))]) rfl h0 ?wk (fun i w' M' hi hJi=>?_)
 case wk=>
  and_intros<;> (first|exact wk_|refine A6 ?_|skip)
  all_goals first|omega
 refine A3 iO [] (fun bs=>?_);refine I4 rfl rfl (fun hk=>?_) (fun hk=>?_)
 ·have hk:(i:Int)<(n:Nat):=hk;have hk':i<n:=by omega
  refine A3 iO [] (fun bs=>?_);refine C4v iO ?_;refine A3 iO [] (fun bs=>?_);refine A5 [] (C7P (i:Nat)) (fun _ _=>?_);refine L7 iO (fun _=>some true) [] (fun bs=>?_);have hyi:(List.range n)[i]? =some i:=by simp[hk']
  refine A3n (J:=J) (Jx:=Jx) (i:=i) rfl rfl hJ (by exact⟨_,rfl,rfl⟩) rfl evN eaN C4h (y:=i) rfl rfl hJi (hy _ _ hyi) (fun b=>rfl) (fun W2 M2 h3=>?_) (fun W2 M2 h3=>?_)
  ·refine L7 iO (fun _=>some true) [false] (fun bs=>?_);refine A3h (J:=J) rfl hJ hk' h3 ?wk3
   case wk3=>
    and_intros<;> (first|exact wk_|refine A6 ?_|skip)
    all_goals first|omega
  ·refine L7 iO (fun _=>some true) [true] (fun bs=>?_);exact A3f rfl hJ hJx rfl (.inr ⟨i+1,by rw[List.length_range];omega,h3⟩)
 ·have hk:¬((i:Int)<(n:Nat)):=hk;have hk':i=(List.range n).length:=by rw[List.length_range];omega
  subst hk';refine A3 iO [] (fun bs=>?_);exact A3g rfl hJ hJx (.inl hJi)
def uA:D9:=⟨T,R1,A7,A9,6,[],none,.f⟩
theorem B3i:B1 Tryz.prog uA:=⟨N5,A2,A4⟩
theorem A7d:F0 Tryz.prog uA:=⟨tOk,B3i⟩
theorem C6D (n:Nat):C5 Tryz.prog 73 [int .i64 n,.c (.clo 74 ocA)] [] (fun _=>True) (fun _:Unit=> .c (.clo 152 (itC n))) (fun _=>[]):=by
 refine I6 (E:=uA) Tryz.func73 (fun M0 W hM0=>?_);refine A3 A7d [] (fun bs=>?_);refine B9o 0 [(4,.clo 152 [.cel [i64 n],.ptr 1 ?bq 0])] ?_;refine B9o 1 [(4,.clo 152 (itC n))] ?_;exact B3 A7d () trivial []
def uC:D9:=⟨T,R1,A7,A9,19,[],none,.f⟩
theorem B3j:B1 Tryz.prog uC:=⟨N5,A2,A4⟩
theorem qK:F0 Tryz.prog uC:=⟨tOk,B3j⟩
theorem C6E (b:Nat):C5 Tryz.prog 35 [lst .bms [],.c (.clo 151 [.ptr 0 b 0])] [] (fun _=>True) (fun _:Unit=>int .i64 (-1)) (fun _=>[]):=by
 refine I6 (E:=uC) Tryz.func35 (fun M0 W hM0=>?_);refine A3 qK [] (fun bs=>?_);refine V3 (fun _:Unit=>[(7,int .i64 0),(8,int .i64 0)]) (fun _=>[]) (fun _=>True) (fun _=>0) [] () trivial (fun _ _=>?_);refine A3 qK [] (fun bs=>?_);refine I4 rfl rfl (fun hk=>absurd hk (by decide)) (fun hk=>?_);refine A3 qK [] (fun bs=>?_);exact B3 qK () trivial []
def A1r:D9:=⟨T,R1,A7,A9,21,[],none,.f⟩
theorem B8d:B1 Tryz.prog A1r:=⟨N5,A2,A4⟩
theorem wX:F0 Tryz.prog A1r:=⟨tOk,B8d⟩
theorem C7Q (bd b:Nat) (i:X1) (T:Nat→Prop) (d:H8) (S:Nat→Prop) (f:P7) (hf:H9 d.files i.nm=some f) (v:Nat→Option Bs) (N:Nat) (h:P8 f i v N):C5 Tryz.prog 72 [.c (.ptr 0 b 0),str []] [L5 bd b i T,D3 bd d S] (fun _=>True) (fun _:(Nat→Prop)×(Nat→Prop)=> .t [.g [.pv (sv []),.pv (bv false),.pv (.nil .spn)],bool false]) (fun y=>[L5 bd b i y.1,D3 bd d y.2]):=by
 refine I6 (E:=A1r) Tryz.func72 (fun M0 W hM0=>?_);refine A3 wX [] (fun bs=>?_);refine A5 [0,1] (A0z bd b i T d S f hf v N h) (fun u _=>?_);refine A3 wX [] (fun bs=>?_);refine A5 [] (C6E ?bq) (fun _ _=>?_) (hsim:=?hs1)
 case hs1=>
  and_intros<;> (first|exact wk_|refine A6 ?_|skip)
 refine A3 wX [true] (fun bs=>?_);exact B3 wX u trivial [0,1]
theorem A9s {b:Bs} (h:zrB b=true):b=List.replicate b.length 0:=by
 rw[List.eq_replicate_iff];exact⟨rfl,of_decide_eq_true h⟩
theorem C2D (n:Nat):zrB (List.replicate n 0)=true:=decide_eq_true fun x hx=>(List.mem_replicate.1 hx).2
def N6 (c:List Lk) (w:Nat):Nat→List qM
 |0=>[]
 |i+1=>N6 c w i++(match zrB (O2 c (i*w) w)with
  |true=>[]
  |false=>[⟨((i*w:Nat):Int),O2 c (i*w) w⟩])
def uD:Int→List qM→Int
 |a,[]=>a
 |_,r::l=>uD (r.at_+(r.data.length:Int) / 16) l
theorem B8e (sz:Int):∀(l m:List qM) (a:Int),Y9 sz a (l++m)=(Y9 sz a l && Y9 sz (uD a l) m):=by
 intro l
 induction l with
 |nil=>intro m a;simp[Y9,uD]
 |cons r l ih=>intro m a;simp only[List.cons_append,Y9,uD,ih,Bool.and_assoc]
theorem B8f:∀(l m:List qM) (a:Int),uD a (l++m)=uD (uD a l) m:=by
 intro l
 induction l with
 |nil=>intro m a;rfl
 |cons r l ih=>intro m a;simp only[List.cons_append,uD,ih]
structure C6F (c:List Lk) (w n i:Nat):Prop where
 len:(N6 c w i).length≤i
 d:∀r∈N6 c w i,r.data.length=16*w
 at_:∀r∈N6 c w i,0≤r.at_∧r.at_≤((n*w:Nat):Int)
 jQ:Y9 ((n*w:Nat):Int) 0 (N6 c w i)=true
 e:uD 0 (N6 c w i)≤((i*w:Nat):Int)
 fl:((N6 c w i).flatMap cC).length≤i*(8+16*w)
theorem A9t {d:H8} {L:vK} {c:List Lk} (h:∀k∈c,aS d L k) {w n:Nat} (hw:0<w):∀i,i≤n→C6F c w n i:=by
 intro i
 induction i with
 |zero=>exact fun _=>⟨Nat.le_refl _,fun _ h=>(by cases h),fun _ h=>(by cases h),rfl,(by show(0:Int)≤_;omega),Nat.zero_le _⟩
 |succ i ih=>
  intro hi;obtain⟨h1,h2,h3,h4,h5,h6⟩:=ih (by omega);have hl:(O2 c (i*w) w).length=16*w:=R5 h _ _;have hle:i*w+w≤n*w:=by
   have:=Nat.mul_le_mul_right w hi
   rwa [Nat.add_mul,Nat.one_mul]at this
  have hiw:(i+1)*w=i*w+w:=by rw[Nat.add_mul,Nat.one_mul]
  have hm:(i+1)*(8+16*w)=i*(8+16*w)+(8+16*w):=by rw[Nat.add_mul,Nat.one_mul]
  cases hz:zrB (O2 c (i*w) w)with
  |true=>
   have e:N6 c w (i+1)=N6 c w i:=by rw[N6,hz];simp
   refine⟨?_,?_,?_,?_,?_,?_⟩<;> rw[e]
   ·omega
   ·exact h2
   ·exact h3
   ·exact h4
   ·omega
   ·omega
  |false=>
   have e:N6 c w (i+1)=N6 c w i++[⟨((i*w:Nat):Int),O2 c (i*w) w⟩]:=by rw[N6,hz]
   have hd16:((O2 c (i*w) w).length:Int) / 16=(w:Int):=by rw[hl];omega
   have hr1:A5J ((n*w:Nat):Int) (uD 0 (N6 c w i)) ⟨((i*w:Nat):Int),O2 c (i*w) w⟩=true:=by
    have hm0:((O2 c (i*w) w).length:Int)%16=0:=by rw[hl];omega
    unfold A5J;simp only[hd16,hm0];rw[decide_eq_false (show¬((w:Int)=0) by omega),decide_true,decide_eq_false (show¬(((i*w:Nat):Int)<uD 0 (N6 c w i)) by omega),decide_eq_false (show¬(((n*w:Nat):Int)<((i*w:Nat):Int)) by omega),decide_eq_false (show¬(((n*w:Nat):Int)-((i*w:Nat):Int)<(w:Int)) by omega)];rfl
   refine⟨?_,?_,?_,?_,?_,?_⟩<;> rw[e]
   ·rw[List.length_append,List.length_singleton];omega
   ·intro r hr;rcases List.mem_append.1 hr with hr|hr
    ·exact h2 r hr
    ·rw[List.mem_singleton.1 hr];exact hl
   ·intro r hr;rcases List.mem_append.1 hr with hr|hr
    ·exact h3 r hr
    ·rw[List.mem_singleton.1 hr];exact⟨by show(0:Int)≤((i*w:Nat):Int);omega,by show((i*w:Nat):Int)≤_;omega⟩
   ·rw[B8e,h4,Y9,Y9,hr1];rfl
   ·rw[B8f,uD,uD];show((i*w:Nat):Int)+((O2 c (i*w) w).length:Int) / 16≤_;rw[hd16];omega
   ·rw[List.flatMap_append,List.length_append];have q1:=bG 2 ((i*w:Nat):Int);have q2:=bG 2 (((O2 c (i*w) w).length:Int) / 16);have q3:=bG 4 (H4 wd 0 (O2 c (i*w) w));rw[hl]at q2;simp only[List.flatMap_cons,List.flatMap_nil,List.append_nil,cC,List.length_append,hl];omega
def kX (o:Bs) (r:qM):Bs:=o.take (16*r.at_.toNat)++r.data++o.drop (16*r.at_.toNat+r.data.length)
theorem C2E {d:H8} {L:vK} {c:List Lk} (h:∀k∈c,aS d L k) {w n:Nat}:∀i,i≤n→(N6 c w i).foldl kX (List.replicate (16*(n*w)) 0)=O2 c 0 (i*w)++List.replicate (16*(n*w)-16*(i*w)) 0:=by
 intro i
 induction i with
 |zero=>intro _;simp[N6,O2]
 |succ i ih=>
  intro hi;have hle:i*w+w≤n*w:=by
   have:=Nat.mul_le_mul_right w hi
   rwa [Nat.add_mul,Nat.one_mul]at this
  have hiw:(i+1)*w=i*w+w:=by rw[Nat.add_mul,Nat.one_mul]
  have hl:(O2 c (i*w) w).length=16*w:=R5 h _ _;have hl0:(O2 c 0 (i*w)).length=16*(i*w):=R5 h _ _;have ha:O2 c 0 ((i+1)*w)=O2 c 0 (i*w)++O2 c (i*w) w:=by rw[hiw,qG,Nat.zero_add]
  rw[ha];cases hz:zrB (O2 c (i*w) w)with
  |true=>
   have e:N6 c w (i+1)=N6 c w i:=by rw[N6,hz];simp
   rw[e,ih (by omega),A9s hz,hl,List.append_assoc,List.replicate_append_replicate]
   congr 2
   omega
  |false=>
   have e:N6 c w (i+1)=N6 c w i++[⟨((i*w:Nat):Int),O2 c (i*w) w⟩]:=by rw[N6,hz]
   rw[e,List.foldl_append,ih (by omega)];simp only[List.foldl_cons,List.foldl_nil,kX,Int.toNat_natCast];rw[←hl0,List.take_left,hl0,hl,List.drop_append,List.drop_eq_nil_of_le (by rw[hl0];omega),List.nil_append,hl0,List.drop_replicate]
   congr 2
   omega
abbrev C6G:=((Nat→Prop)×(Nat→Prop))×Value×List qM
def C2F (c:List Lk) (w n:Nat):Bs:=eB 16 (N6 c w n)++nB 4 (H4 wd 0 (eB 16 (N6 c w n)))
theorem dY (l:Nat):F0 Tryz.prog (rd ⟨T,C9,A7,A9,84,[],none,.t⟩ l):=⟨tOk,B4j ⟨B7,A2,A4⟩⟩
def qL:D9:=⟨T,C9,A7,A9,84,[],none,.t⟩
theorem B8g:B1 Tryz.prog qL:=⟨B7,A2,A4⟩
theorem bO:F0 Tryz.prog qL:=⟨tOk,B8g⟩
theorem C7R (bd:Nat) (L:vK) (T:Nat→Prop) (d:H8) (S:Nat→Prop) (k:Lk) (r:List Lk) (hc:∀x∈k::r,aS d L x) (hs:k.i.m.size=16) (w n:Nat) (hw:w=2 ^ k.i.m.cl.toNat) (hn:n=eG k.i.m) (hnw:n*w=16):C5 Tryz.prog 37 [lst .ptr ((k::r).map fun k=>k.b),str []] [U2 (cT bd) L T,D3 bd d S] (fun _=>True) (fun _:(Nat→Prop)×(Nat→Prop)=> .t [lst .byt (C2F (k::r) w n),int .i64 0]) (fun y=>[U2 (cT bd) L y.1,D3 bd d y.2]):=by
 refine uQ (E:=qL) Tryz.func37 rfl (by decide) rfl rfl (fun M0 W hM0 hlow=>?_);have hk:=hc k (by simp);obtain⟨l1,l2,hL⟩:=List.append_of_mem hk.mem;have hok:=hk.ok.gm.ok;have hcl:=hok.c;have hp:=P5 hcl;have hwi:(2 ^ k.i.m.cl.toNat:Int)=(w:Int):=by rw[hw];push_cast;rfl
 rw[hwi]at hp;have hn16:n≤16:=by
  have:=Nat.mul_le_mul_left n (show 1≤w by omega);omega
 have hn0:n≤4096:=by omega
 refine A3 bO [false] (fun bs=>?_);refine aJ 0 9 hL (fun S1 S2=>?_);refine A5 [9] (nX bd k.b k.i S2 hk.ok.gm) (fun S3 _=>?_);refine gU 0 9 hL (fun S4=>?_);refine A3 bO [false] (fun bs=>?_);refine aJ 0 20 hL (fun S1 S2=>?_);refine A5 [20,1] (C7Q bd k.b k.i S2 d S k.f hk.f k.v k.n hk.ok) (fun u _=>?_);refine gU 0 20 hL (fun S5=>?_);refine L7 bO (fun _=>some false) [] (fun bs=>?_);have hdv:k.i.m.size / 2 ^ k.i.m.cl.toNat=(n:Int):=by
  have:(16:Int)=(n:Int)*(w:Int):=by rw[show(n:Int)*(w:Int)=((n*w:Nat):Int) by push_cast;rfl,hnw];rfl
  rw[hs,hwi,this,Int.mul_ediv_cancel _ (by omega)]
 refine X3 [0,1,2,3,4,10,11,21] [(2,.c (.ptr 2 ?b2 0)),(4,.c (.ptr 3 ?b4 0)),(5,.c (.ptr 4 ?b5 0)),(6,int .i64 16),(7,.c (.ptr 5 ?b7 0)),(9,.c (.ptr 6 ?b9 0)),(10,.c (.ptr 7 ?b10 0)),(44,bool false)] [U2 (cT bd) L S5,D3 bd d u.2,.blk ?b2 85 [.pv (.lst .ptr ((k::r).map fun k=>k.b))],.blk ?b4 22 [.pv (.nil .byt)],.blk ?b5 27 [.pv (i64 0)],.blk ?b7 3 [.pv (i64 k.i.m.cl)],.blk ?b9 4 [.pv (bv true)],.blk ?b10 89 [.pv (sv []),.pv (bv false),.pv (.nil .spn)]] ?_ (h:=?wk1)
 case wk1=>
  and_intros<;> (first|exact wk_|refine A6 ?_|skip)
  all_goals first|exact hs
 refine A3 bO [false] (fun bs=>?_);refine B9o 6 [(9,.cel [bv true]),(51,.clo 74 [.cel [bv true],.ptr 7 ?bq 0])] ?_;refine B9o 7 [(51,.clo 74 ocA)] ?_;refine A5 [] (C6D n) (fun _ _=>?_) (hsim:=?hs1)
 case hs1=>
  rw[←hs]
  and_intros<;> (first|exact wk_|refine A6 ?_|skip)
  all_goals first|exact hdv
 refine A3 bO [] (fun bs=>?_);refine bZ 8 2 174 rfl rfl ?_;refine A3e (C2C n hn0) eaN C4i rfl rfl (c:=_) (o:=_) (ps:=[53]) rfl (by decide) (by decide) (fun _=>rfl) rfl
  [(2,.c (.ptr 2 ?c2 0)),(4,.c (.ptr 3 ?c4 0)),(5,.c (.ptr 4 ?c5 0)),(7,.c (.ptr 5 ?c7 0)),(9,.c (.cel [bv true])),(12,.c (.ptr 6 ?c12 0))]
  (fun x:C6G=>[U2 (cT bd) L x.1.1,D3 bd d x.1.2,.blk ?c2 85 [.pv (.lst .ptr ((k::r).map fun k=>k.b))],.blk ?c4 22 [.pv (.nil .byt)],.blk ?c5 27 [.pv (i64 0)],.blk ?c7 3 [.pv (i64 k.i.m.cl)],.blk ?c12 165 [.pv (bv true),.pv (i64 16),.own 7 x.2.1],.own x.2.1 174 .rcd x.2.2])
  (fun i x=>x.2.2=N6 (k::r) w i) (fun _ _=>False) [0,1,2,3,4,5,8,9] ((S5,u.2),.slice none 0 0,[]) rfl ?wk2 rfl (fun lid M1 M2 J1 i x y hy hok1 hb=>?_) (fun x hx=>?_) (fun i x hi hx=>hx.elim)
 case wk2=>
  and_intros<;> (first|exact wk_|refine A6 ?_|skip)
 ·obtain⟨⟨T1,D1⟩,v,l⟩:=x;have hok1:l=N6 (k::r) w i:=hok1;subst hok1;have hlt:i<n:=by have:=(gS_.1 hy).1;rwa [List.length_range]at this
  have hyi:y=i:=by rw[List.getElem?_range hlt]at hy;cases hy;rfl
  subst hyi;refine A3 (dY lid) [] (fun bs=>?_);refine hb _ ?_;refine A3 (dY lid) [] (fun bs=>?_);refine A5 [0,1] (A7U bd L T1 d D1 k r hc w hw y (by rw[←hn];exact hlt)) (fun z _=>?_);refine A3 (dY lid) [] (fun bs=>?_);have hxl:(O2 (k::r) (y*w) w).length=16*w:=R5 hc _ _;refine G1 8 [14] rfl ⟨rfl,trivial⟩ ?_;refine L7 (dY lid) (fun _=>some false) [false] (fun bs=>?_);refine A5 [] (bNo (O2 (k::r) (y*w) w) (by omega)) (fun _ _=>?_) (hg:=by exact⟨_,rfl,rfl⟩);refine L7 (dY lid) (fun _=>some false) [] (fun bs=>?_);refine C6 (b:= !zrB (O2 (k::r) (y*w) w)) rfl rfl (fun hz=>?_) (fun hz=>?_)
  ·have e:N6 (k::r) w (y+1)=N6 (k::r) w y++[⟨((y*w:Nat):Int),O2 (k::r) (y*w) w⟩]:=by
    rw[N6,show zrB (O2 (k::r) (y*w) w)=false by simpa using hz]
   have hyw:(y:Int)*2 ^ k.i.m.cl.toNat=((y*w:Nat):Int):=by rw[hwi];push_cast;rfl
   have hle:y*w+w≤n*w:=by
    have:=Nat.mul_le_mul_right w hlt
    rwa [Nat.succ_mul]at this
   have hrl:=(A9t hc (show 0<w by omega) y (Nat.le_of_lt hlt)).len;refine C4x (E:=rd qL lid) bO rfl 8 [0,1,0,0,12,0,60,124,255,511,1023] [] (fun bs Q1 back=>?_) (ho:=?ho1)
   case ho1=>
    intro bs
    and_intros<;> first|exact trivial|exact rfl|omega|(show k.i.m.cl≤64;omega)|(simp only[hyw];omega)
   have hll:(N6 (k::r) w y).length+1≤17:=by omega
   refine Q2 bO [] (fun bs=>?_) (fun bs=>?_)
   ·and_intros<;> first|exact trivial|exact rfl|omega|exact Nat.le_trans hll (by decide)
   refine back _ ?_;refine A3 (dY lid) [] (fun bs=>?_);refine G3 (P:=Tryz.prog) (X:=C6G) [0,1,2,3,4,5,6,17] (z.1,?vv,N6 (k::r) w y++[⟨((y*w:Nat):Int),O2 (k::r) (y*w) w⟩]) e.symm ?wk3
   case wk3=>
    and_intros<;> (first|exact wk_|refine A6 ?_|skip)
    all_goals first|(rw[hyw];done)
  ·have e:N6 (k::r) w (y+1)=N6 (k::r) w y:=by
    rw[N6,show zrB (O2 (k::r) (y*w) w)=true by simpa using hz];simp
   refine A3 (dY lid) [] (fun bs=>?_);refine G3 [0,1,2,3,4,5,6,7] (z.1,v,_) e.symm ?wk4
   case wk4=>
    and_intros<;> (first|exact wk_|refine A6 ?_|skip)
 ·obtain⟨⟨T1,D1⟩,v,l⟩:=x;have hx:l=N6 (k::r) w (List.range n).length:=hx;rw[List.length_range]at hx;subst hx;refine K7 6 2 7 rfl rfl rfl ?_;obtain⟨h1,h2,h3,h4,h5,h6⟩:=A9t hc (show 0<w by omega) n (Nat.le_refl n);rw[hnw]at h3 h4;have h4:Y9 16 0 (N6 (k::r) w n)=true:=by push_cast at h4;exact h4
  have h7:n*(8+16*w)=8*n+256:=by
   rw[Nat.mul_add,show n*(16*w)=16*(n*w) by rw[←Nat.mul_assoc,Nat.mul_comm n 16,Nat.mul_assoc],hnw,Nat.mul_comm n 8]
  have hst:(eB 16 (N6 (k::r) w n)).length≤9+(8*n+256):=by
   have:=B1B 16 (N6 (k::r) w n).length;unfold eB;rw[List.length_append];omega
  have hst2:(eB 16 (N6 (k::r) w n)).length≤200000:=Nat.le_trans hst (by omega);refine A3 bO [] (fun bs=>?_);refine A5 [] (C7I 16 (N6 (k::r) w n) (by omega) (fun q hq=>by rw[h2 q hq];omega) (fun q hq=>⟨(h3 q hq).1,by have:=(h3 q hq).2;omega⟩) ⟨by omega,by omega⟩ h4 hst2) (fun _ _=>?_);refine A3 bO [] (fun bs=>?_);refine C3U bO hlow (T1,D1) trivial [0,1] (hr:=?hr)
  case hr=>
   and_intros<;> (first|exact wk_|refine A6 ?_|skip)
theorem B8h {sz:Int}:∀{l:List qM} {a:Int},0≤a→Y9 sz a l=true→∀r∈l,0<r.data.length∧0≤r.at_∧16*r.at_+r.data.length≤16*sz:=by
 intro l
 induction l with
 |nil=>intro a _ _ r hr;cases hr
 |cons x l ih=>
  intro a ha h r hr;simp only[Y9,Bool.and_eq_true]at h;have h1:=h.1;simp[A5J]at h1;rcases List.mem_cons.1 hr with rfl|h2
  ·omega
  ·exact ih (by omega) h.2 r h2
theorem B8i {sz:Nat} {o:Bs} {r:qM} (ho:o.length=16*sz) (h:0≤r.at_∧16*r.at_+r.data.length≤16*(sz:Int)):(kX o r).length=16*sz:=by
 simp only[kX,List.length_append,List.length_take,List.length_drop];omega
theorem A7e {sz:Nat}:∀(l:List qM) (o:Bs),o.length=16*sz→(∀r∈l,0≤r.at_∧16*r.at_+r.data.length≤16*(sz:Int))→(l.foldl kX o).length=16*sz:=by
 intro l
 induction l with
 |nil=>intro o h _;exact h
 |cons r l ih=>intro o h hl;exact ih _ (B8i h (hl r (by simp))) (fun x hx=>hl x (by simp[hx]))
def A1s:D9:=⟨T,C9,A7,A9,40,[],none,.f⟩
theorem B8j:B1 Tryz.prog A1s:=⟨B7,A2,A4⟩
theorem cW:F0 Tryz.prog A1s:=⟨tOk,B8j⟩
theorem C7S (v0:Value) (D:Bs) (zn:Nat) (l:List qM) (hl:l.length≤4096) (hd:∀r∈l,r.data.length≤65536) (hin:∀r∈l,0≤r.at_∧r.at_≤65535) (hz:zn≤4096) (hr:Y9 zn 0 l=true):C5 Tryz.prog 101 [.c (.own 0 v0),.g [.pv (bv true),.pv (i64 zn),.pv (.lst .rcd l)]] [.own v0 5 .byt D] (fun _=>True) (fun v:Value=> .c (.own 1 v)) (fun v=>[.own v0 5 .byt D,.own v 5 .byt (l.foldl kX (List.replicate (16*zn) 0))]):=by
 refine I6 (E:=A1s) Tryz.func101 (fun M0 W hM0=>?_);have hri:=B8h (Int.le_refl 0) hr;refine A3 cW [] (fun bs=>?_);refine A5 [] (sRt true zn l hl hd (fun r h=>⟨(hin r h).1,by have:=(hin r h).2;omega⟩) (by omega)) (fun _ _=>?_);rw[hr];refine A3 cW [false,false] (fun bs=>?_);refine K3 (fun q:Nat×Value×Nat=>[(3,.c (.ptr 1 q.2.2 0)),(5,.c (.own 2 q.2.1)),(24,lst .rcd l),(25,int .i64 l.length),(26,int .i64 q.1)]) (fun q=>[.own v0 5 .byt D,.blk q.2.2 165 [.pv (bv true),.pv (i64 zn),.pv (.lst .rcd l)],.own q.2.1 5 .byt ((l.take q.1).foldl kX (List.replicate (16*zn) 0))]) (fun q=>q.1≤l.length) (fun q=>l.length-q.1) [0,1,2] (0,?v1,?b3) (Nat.zero_le _) ?wk1 (fun q hq=>?_)
 case wk1=>
  and_intros<;> (first|exact wk_|refine A6 ?_|skip)
  all_goals first|(show List.replicate ((zn:Int)*16).toNat (0:UInt8)=_;rw[show((zn:Int)*16).toNat=16*zn by omega];rfl)
 obtain⟨i,v,b3⟩:=q;simp only at hq;refine A3 cW [] (fun bs=>?_);refine I4 rfl rfl (fun hk=>?_) (fun hk=>?_)
 ·have hk:(i:Int)<(l.length:Nat):=hk;have hi:i<l.length:=by omega
  have hge:l.getD ((i:Int)).toNat LK.rcd.dft=l[i]:=by simp[List.getD,hi]
  obtain⟨x1,x2,x3⟩:=hri _ (List.getElem_mem hi);rw[←hge]at x1 x2 x3;obtain⟨o,ho⟩:∃o,o=(l.take i).foldl kX (List.replicate (16*zn) 0):=⟨_,rfl⟩
  have hol:o.length=16*zn:=by
   rw[ho];exact A7e _ _ (by simp) (fun r hr2=>(hri r (List.mem_of_mem_take hr2)).2)
  have hst:(l.take (i+1)).foldl kX (List.replicate (16*zn) 0)=kX o l[i]:=by
   rw[List.take_add_one,gE_ hi,List.foldl_append,←ho];rfl
  refine A3 cW [] (fun bs=>?_);refine mC cW 7 [0,0,2,6,15,0,32,127] [] (fun bs=>?_) (fun bs=>?_)
  ·rw[←ho]
   and_intros<;> first|exact trivial|exact rfl|omega|(simp only;omega)
  refine C2h cW (n:=2) (lo:=((l.getD ((i:Int)).toNat LK.rcd.dft).at_*16).toNat) (m:=(l.getD ((i:Int)).toNat LK.rcd.dft).data) (l:=(l.take i).foldl kX (List.replicate (16*zn) 0)) x1 (by rw[←ho,hol];omega) (Int.toNat_natCast _) ?_;refine A3 cW [] (fun bs=>?_);refine I0 [0,1,2] (i+1,?v2,b3) ⟨by simp only;omega,by simp only;omega⟩ (h:=?wk2)
  case wk2=>
   and_intros<;> (first|exact wk_|refine A6 ?_|skip)
   all_goals first|(refine Eq.trans ?_ hst.symm;rw[hge,←ho];rw[hge]at x2;unfold kX;rw[show(l[i].at_*16).toNat=16*l[i].at_.toNat by omega];done)
 ·refine A3 cW [] (fun bs=>?_);have hi:i=l.length:=by have:¬(i:Int)<l.length:=hk;omega
  subst hi;refine B3 cW v trivial [0,2] (hl:=?hl)
  case hl=>
   and_intros<;> (first|exact wk_|refine A6 ?_|skip)
   all_goals first|(rw[List.take_length];done)
end
end Go.Proofs.YtgmeedgkjlfpeaaGreat
