/-
  The program library and the walks of this claim, part 6 of 6.
-/
import Derived.Test.YtgmeedgkjlfpeaaGreatQ5
set_option linter.unusedSimpArgs false
set_option linter.unusedVariables false
set_option maxHeartbeats 4000000
namespace Go.Proofs.YtgmeedgkjlfpeaaGreat
open Go.Mt
noncomputable section
def cD (X:Bs) (w q:Nat):Bs:=(X.drop (16*w*q)).take (16*w)
def A7f (X:Bs) (w i:Nat):Nat→Option Bs:=fun q=>if q<i then(match zrB (cD X w q)with
 |true=>none
 |false=>some (cD X w q))else none
structure Imp (d:H8) (k:Lk) (X:Bs) (w i:Nat) (k':Lk) (lg:Nat):Prop where
 bb:k'.b=k.b
 sm:Sm k.i k'.i
 ok:P8 k'.f k'.i k'.v k'.n
 st:k'.n≤k.n+i
 lg:lg≤d.lg+64*i
 vw:k'.v=A7f X w i
theorem C4j {X:Bs} {w i:Nat} (h:zrB (cD X w i)=true):A7f X w (i+1)=A7f X w i:=by
 funext q
 simp only[A7f];by_cases h1:q<i
 ·rw[if_pos h1,if_pos (by omega)]
 ·rw[if_neg h1];by_cases h2:q=i
  ·subst h2;rw[if_pos (by omega),h]
  ·rw[if_neg (by omega)]
theorem C4k {X:Bs} {w i:Nat} (h:zrB (cD X w i)=false):A7f X w (i+1)=A4v (A7f X w i) i (some (cD X w i)):=by
 funext q
 simp only[A7f,A4v];by_cases h2:q=i
 ·subst h2;rw[if_pos (by omega),if_pos rfl,h]
 ·rw[if_neg h2];by_cases h1:q<i
  ·rw[if_pos h1,if_pos (by omega)]
  ·rw[if_neg h1,if_neg (by omega)]
theorem Imp.sec {d:H8} {k k':Lk} {X:Bs} {w n lg:Nat} (h:Imp d k X w n k' lg) (hX:X.length=256) (hs:k.i.m.size=16) (hw:w=2 ^ k.i.m.cl.toNat) (hnw:n*w=16) {j:Nat} (hj:j<16):Z9 [k'] j=(X.drop (16*j)).take 16:=by
 have hw0:0<w:=by rw[hw];exact Nat.pow_pos (by omega)
 have e:Z9 [k'] j=if(j:Int)<k'.i.m.size then(match k'.v (j / 2 ^ k'.i.m.cl.toNat)with
  |some x=>(x.drop (16*(j%2 ^ k'.i.m.cl.toNat))).take 16
  |none=>jV)else jV:=rfl
 have hq:j / w<n:=by rw[Nat.div_lt_iff_lt_mul hw0,hnw];exact hj
 have hm:=Nat.mod_add_div j w;have hl:=Nat.mod_lt j hw0;have hc:((cD X w (j / w)).drop (16*(j%w))).take 16=(X.drop (16*j)).take 16:=by
  unfold cD;rw[List.drop_take,List.take_take,List.drop_drop];have e1:16*w*(j / w)+16*(j%w)=16*j:=by rw[Nat.mul_assoc,←Nat.mul_add,Nat.add_comm,hm]
  have e2:min 16 (16*w-16*(j%w))=16:=by omega
  rw[e1,e2]
 rw[e,h.sm.sz,h.sm.cl,hs,if_pos (by omega),←hw,h.vw];unfold A7f;rw[if_pos hq];cases hz:zrB (cD X w (j / w))with
 |false=>exact hc
 |true=>
  show jV=_;rw[←hc,A9s hz,List.drop_replicate,List.take_replicate];have hcl:(cD X w (j / w)).length=16*w:=by
   unfold cD;rw[List.length_take,List.length_drop,hX];have e3:w*(j / w)+w≤16:=by
    have:=Nat.mul_le_mul_right w hq;rw[hnw,Nat.succ_mul,Nat.mul_comm]at this;exact this
   have e4:16*w*(j / w)=16*(w*(j / w)):=Nat.mul_assoc _ _ _;omega
  rw[hcl,show min 16 (16*w-16*(j%w))=16 by omega]
def A5S:D9:=⟨T,C9,A7,A9,6,[],none,.f⟩
theorem C2G:B1 Tryz.prog A5S:=⟨B7,A2,A4⟩
theorem A9u:F0 Tryz.prog A5S:=⟨tOk,C2G⟩
theorem inD (bd b:Nat) (i:X1) (m0:X7) (ch0:Bool) (k0:Nat) (y:HdX) (n:Nat) (hn:i.held.length=n+1) (hb:n≤1000) (b1 b2:Nat):B0O (X:=((Nat→Prop))) Tryz.prog 100 [.c (.ptr 8 b1 0),.c (.ptr 1 b2 0)] (C5j bd b i m0 ch0 k0 y b1 b2) (fun _=>True) (fun T=>[L5 bd b (U5 i (i.held.take n)) T,.blk b2 27 [.pv (i64 0)]]):=by
 refine uS (E:=A5S) Tryz.func100 rfl (by decide) rfl rfl (fun M0 W hM0=>?_);refine A3 A9u [] (fun bs=>?_);refine A5 [0,2,3,4,5,6,7] (C5h bd b i m0 ch0 k0 y n hn hb) (fun T _=>?_);refine A3 A9u [] (fun bs=>?_);exact B0P A9u T trivial [0,1]
def A5T:D9:=⟨T,C9,A7,A9,139,[],none,.f⟩
theorem C2H:B1 Tryz.prog A5T:=⟨B7,A2,A4⟩
theorem Q5:F0 Tryz.prog A5T:=⟨tOk,C2H⟩
theorem cIn (bd:Nat) (l1 l2:vK) (T:Nat→Prop) (d:H8) (S:Nat→Prop) (k:Lk) (hk:aS d (l1++(k.b,k.i)::l2) k) (hh:k.i.held.length≤1) (hbk:k.i.m.bk=[]) (hs:k.i.m.size=16) (hv:∀q,k.v q=none) (w n:Nat) (hw:w=2 ^ k.i.m.cl.toNat) (hn:n=eG k.i.m) (hnw:n*w=16) (l:List qM) (hl:l.length≤4096) (hld:∀r∈l,r.data.length≤65536) (hin:∀r∈l,0≤r.at_∧r.at_≤65535) (hr:Y9 (16:Nat) 0 l=true) (D X:Bs) (hD:D=eB (16:Nat) l++nB 4 (H4 wd 0 (eB (16:Nat) l))) (hsz:D.length≤200000) (hX:X=l.foldl kX (List.replicate (16*16) 0)) (hN:k.n+n≤60) (hd:A1N d k.i.nm (k.n+n) (64*n)):C5 Tryz.prog 49 [.c (.ptr 20 k.b 0),lst .byt D] [U2 (cT bd) (l1++(k.b,k.i)::l2) T,D3 bd d S] (fun y:((Nat→Prop)×(Nat→Prop))×Lk×Nat=>Imp d k X w n y.2.1 y.2.2) (fun y=>int .i64 0) (fun y=>[U2 (cT bd) (l1++(y.2.1.b,y.2.1.i)::l2) y.1.1,D3 bd ⟨d.room,C1 d.files k.i.nm y.2.1.f,y.2.2⟩ y.1.2]):=by
 refine I6 (E:=A5T) Tryz.func49 (fun M0 W hM0=>?_);have hok:=hk.ok.gm.ok;have hcl:=hok.c;have hp:=P5 hcl;have hwi:(2 ^ k.i.m.cl.toNat:Int)=(w:Int):=by rw[hw];push_cast;rfl
 rw[hwi]at hp;have hw0:0<w:=by omega
 have hkn:=hk.ok.kn;have hknb:=hk.ok.nb;refine A3 Q5 [false] (fun bs=>?_);refine A5 [] (C7M D 16 l hD hl hld hin (by decide) hr hsz) (fun _ _=>?_);refine A3 Q5 [false] (fun bs=>?_);refine aJ 0 20 rfl (fun S1 S2=>?_);refine A5 [20] (nX bd k.b k.i S2 hk.ok.gm) (fun S3 _=>?_);have hq1:(((16:Nat):Int)+1*2 ^ k.i.m.cl.toNat-1) / (1*2 ^ k.i.m.cl.toNat)=n:=by
  have e:((16:Nat):Int)+(w:Int)-1=((w:Int)-1)+(n:Int)*(w:Int):=by
   rw[←hnw];push_cast;omega
  rw[hwi,Int.one_mul,e,Int.add_mul_ediv_right _ _ (by omega),Int.ediv_eq_zero_of_lt (by omega) (by omega),Int.zero_add]
 have hq2:(n:Int)*(1*2 ^ k.i.m.cl.toNat)=16:=by
  have:((n*w:Nat):Int)=16:=by rw[hnw];rfl
  rw[hwi,Int.one_mul,←this];push_cast;rfl
 have hn16:n≤16:=by
  have:=Nat.mul_le_mul_left n (show 1≤w by omega);omega
 refine Q2 Q5 [] (fun bs=>?_) (fun bs=>?_)
 ·and_intros<;> first|exact trivial|exact rfl|omega|(show k.i.m.cl≤64;omega)|(simp only[hwi];omega)|(rw[hq1];omega)|(rw[hq1,hq2];decide)
 refine yB (ns:=[0,1,2,3,20]) (fs:=fun b4 b5=>[(0,.c (.ptr 4 k.b 0)),(4,.c (.ptr 2 b4 0)),(5,.c (.ptr 3 b5 0)),(6,int .i64 16),(7,int .i64 k.i.m.cl),(10,int .i64 16),(45,bool false)]) (hs:=fun b4 b5=>[U2 (cT bd) (l1++l2) S1,D3 bd d S,.blk b4 27 [.pv (i64 0)],.blk b5 165 [.pv (bv true),.pv (i64 16),.pv (.lst .rcd l)],L5 bd k.b k.i S3]) ?b4 ?b5 rfl ?wk1 (fun b4 b5=>?_)
 case wk1=>
  and_intros<;> (first|exact wk_|refine A6 ?_|skip)
  all_goals first|exact hs|(rw[hq1,hq2];done)
 refine A3 Q5 [false] (fun bs=>?_);refine A5 [4,1] (A0z bd k.b k.i S3 d S k.f hk.f k.v k.n hk.ok) (fun u _=>?_);refine yE 0 4 (l:=l1++(k.b,k.i)::l2) (l0:=l1++l2) (l1:=l1) (l2:=l2) (x:=(k.b,k.i)) rfl rfl (fun S4=>?_);have hbn:(!decide (k.i.m.bk=[]))=false:=by rw[hbk];rfl
 refine Q2 Q5 [false,false] (fun bs=>?_) (fun bs=>?_)
 ·and_intros<;> first|exact trivial|exact rfl|omega|exact hbn
 refine G1 5 [11,59] rfl ⟨rfl,rfl,trivial⟩ ?_;have hck:∀x∈[k],aS d (l1++(k.b,k.i)::l2) x:=fun x hx=>by rw[List.mem_singleton.1 hx];exact hk
 refine A5 [0,1] (B7r bd _ d [k] hck S4 u.2 0 16 (fun k' r' e=>by cases e;rw[hs];decide) (by simp)) (fun y _=>?_);refine A3 Q5 [false] (fun bs=>?_);refine aJ 0 20 rfl (fun S5 S6=>?_);refine A5 [20] (C2g bd k.b k.i S6 hk.ok.gm (by omega) (by omega)) (fun h _=>?_);refine A3 Q5 [] (fun bs=>?_);generalize(bs 0 0 0).bn=b13;refine C2Q (f:=100) (bs:=[b13,b4]) ?_;refine Q2 (Q5.df _) [false] (fun bs=>?_) (fun bs=>?_)
 ·and_intros<;> first|exact trivial|exact rfl|omega
 refine yE 0 20 (l:=l1++(k.b,U5 k.i (k.i.held++[k.i.m]))::l2) (l0:=l1++l2) (l1:=l1) (l2:=l2) (x:=(k.b,U5 k.i (k.i.held++[k.i.m]))) rfl rfl (fun S7=>?_);obtain⟨kh,hkh⟩:∃kh,kh=C2i k (k.i.held++[k.i.m]):=⟨_,rfl⟩
 refine X3 [0,1,2,21,22,23,24,25,26,27,3,6] [(0,.c (.ptr 20 k.b 0)),(4,.c (.ptr 2 b4 0)),(5,.c (.ptr 10 b5 0)),(7,int .i64 k.i.m.cl),(10,int .i64 16),(12,.c (.own 11 y.2))] [U2 (cT bd) (l1++(k.b,kh.i)::l2) S7,D3 bd d y.1.2,.blk b4 27 [.pv (i64 0)],
  .blk h.m 82 (iX k.i.m),.blk h.h 4 [.pv (bv k.i.ch)],.blk h.kp 136 [.ptr 8 h.bk 0],.blk h.c 56 [.pv (.val (.pointer (some ⟨k.b,0,none⟩)))],.blk h.n 3 [.pv (i64 (k.i.held++[k.i.m]:List X7).length)],iJ h.bk k.i.k h.S,
  .blk b13 200 [.clo 183 [.ptr 3 h.m 0,.ptr 4 h.h 0,.ptr 5 h.kp 0,.ptr 6 h.c 0,.ptr 7 h.n 0]],.blk b5 165 [.pv (bv true),.pv (i64 16),.pv (.lst .rcd l)],.own y.2 5 .byt (O2 [k] 0 16)] ?_ (h:=?wk2)
 case wk2=>
  rw[hkh]
  and_intros<;> (first|exact wk_|refine A6 ?_|skip)
 have hRl:(O2 [k] 0 16).length=256:=R5 hck 0 16;have hXl:(l.foldl kX (List.replicate (16*16) 0)).length=256:=A7e (sz:=16) l _ List.length_replicate (fun r hr2=>(B8h (Int.le_refl 0) hr r hr2).2);have hZ:O2 [k] 0 16=List.replicate 256 0:=qH 16 fun j _=>by
  show(if((0+j:Nat):Int)<k.i.m.size then(match k.v ((0+j) / 2 ^ k.i.m.cl.toNat)with
   |some x=>(x.drop (16*((0+j)%2 ^ k.i.m.cl.toNat))).take 16
   |none=>jV)else jV)=jV
  rw[hv];split<;> rfl
 refine rD (Q5.df _) 8 [0,0,3,0,0,16,56,120,255,511] 2 [11] [0,1,2,3,4,5,6,7,8,9,10] (C7S y.2 (O2 [k] 0 16) 16 l hl hld hin (by decide) hr) (fun v _=>?_) (hchk:=by dsimp only;decide+kernel);refine Q2 (Q5.df _) [] (fun bs=>?_) (fun bs=>?_)
 ·simp only[List.length_append,hXl,hRl,List.length_replicate]
  and_intros<;> first|exact trivial|exact rfl|decide|omega|(show k.i.m.cl≤64;omega)|(simp only[hwi];omega)
 refine G1 13 [14] rfl ⟨rfl,trivial⟩ ?_;refine G1 14 [12] rfl ⟨rfl,trivial⟩ ?_;have hm0:∀a:Nat,a=0→List.replicate 256 (0:UInt8)++List.replicate a 0=List.replicate 256 0:=fun a h=>by rw[h,List.replicate_zero,List.append_nil]
 have hdv:(16:Int) / 2 ^ k.i.m.cl.toNat=(n:Int):=by
  have:(16:Int)=(n:Int)*(w:Int):=by rw[show(n:Int)*(w:Int)=((n*w:Nat):Int) by push_cast;rfl,hnw];rfl
  rw[hwi,this,Int.mul_ediv_cancel _ (by omega)]
 obtain⟨z,hz⟩:∃z:Nat,z=16*w:=⟨_,rfl⟩
 have hzi:16*2 ^ k.i.m.cl.toNat=(z:Int):=by rw[hwi,hz];push_cast;rfl
 have hI0:Imp d kh X w 0 kh d.lg:=⟨rfl,⟨rfl,rfl,rfl,rfl,rfl⟩,by rw[hkh];exact hk.ok.hold hh,Nat.le_refl _,Nat.le_refl _,by rw[hkh];funext q;exact hv q⟩
 refine K3 (fun q:((Nat→Prop)×(Nat→Prop))×Lk×Nat×Nat=>[(0,.c (.ptr 20 k.b 0)),(4,.c (.ptr 2 b4 0)),(12,lst .byt (List.replicate 256 0)),(14,lst .byt X),(15,int .i64 z),(100,int .i64 n),(101,int .i64 q.2.2.2)])
  (fun q=>[U2 (cT bd) (l1++(k.b,q.2.1.i)::l2) q.1.1,D3 bd ⟨d.room,C1 d.files k.i.nm q.2.1.f,q.2.2.1⟩ q.1.2,.blk b4 27 [.pv (i64 0)],
  .blk h.m 82 (iX k.i.m),.blk h.h 4 [.pv (bv k.i.ch)],.blk h.kp 136 [.ptr 8 h.bk 0],.blk h.c 56 [.pv (.val (.pointer (some ⟨k.b,0,none⟩)))],.blk h.n 3 [.pv (i64 (k.i.held++[k.i.m]:List X7).length)],iJ h.bk k.i.k h.S,
  .blk b13 200 [.clo 183 [.ptr 3 h.m 0,.ptr 4 h.h 0,.ptr 5 h.kp 0,.ptr 6 h.c 0,.ptr 7 h.n 0]]])
  (fun q=>Imp d kh X w q.2.2.2 q.2.1 q.2.2.1∧q.2.2.2≤n) (fun q=>n-q.2.2.2) [0,1,2,3,4,5,6,7,8,9] ((S7,y.1.2),kh,d.lg,0) ⟨hI0,Nat.zero_le _⟩ ?wk3 (fun q hq=>?_)
 case wk3=>
  and_intros<;> (first|exact wk_|refine A6 ?_|skip)
  all_goals first|exact hdv|exact hzi|exact congrArg (PV.lst .byt) (by rw[hX,show((16-16:Int)*16).toNat=0 from rfl,List.replicate_zero,List.append_nil])|exact congrArg (PV.lst .byt) (by simp only[List.length_append,hXl,hRl,List.length_replicate];rw[hZ];exact hm0 _ (by decide))|(show jB (D3 bd d y.1.2) (D3 bd ⟨d.room,C1 d.files k.i.nm kh.f,d.lg⟩ y.1.2);rw[hkh];show jB _ (D3 bd ⟨d.room,C1 d.files k.i.nm k.f,d.lg⟩ y.1.2);rw[A1D hk.f];exact rfl)
 obtain⟨⟨T1,D1⟩,⟨kb,ki,kf,kv,kn⟩,lg,i⟩:=q;obtain⟨hI,hin2⟩:=hq;simp only at hI hin2;have hkb:kb=kh.b:=hI.bb;have hkb:kb=k.b:=by rw[hkb,hkh];rfl
 subst hkb;have hnm:ki.nm=k.i.nm:=by rw[hI.sm.nm,hkh];rfl
 have hkcl:ki.m.cl=k.i.m.cl:=by rw[hI.sm.cl,hkh];rfl
 have hksz:ki.m.size=k.i.m.size:=by rw[hI.sm.sz,hkh];rfl
 have hst:kn≤k.n+i:=by have:=hI.st;rw[hkh]at this;exact this
 have hlg:lg≤d.lg+64*i:=hI.lg;have hokc:P8 kf ki kv kn:=hI.ok;rw[←hX]at hXl;refine A3 (Q5.df _) [] (fun bs=>?_);refine I4 rfl rfl (fun hk2=>?_) (fun hk2=>?_)
 ·have hk2:(i:Int)<(n:Nat):=hk2;have hi:i<n:=by omega
  have hle:i*w+w≤16:=by
   have:=Nat.mul_le_mul_right w hi
   rwa [Nat.succ_mul,hnw]at this
  have e1:(i:Int)*(z:Int)=((16*(i*w):Nat):Int):=by rw[hz];push_cast;rw[Int.mul_left_comm]
  have e2:((i:Int)+1)*(z:Int)=((16*(i*w)+16*w:Nat):Int):=by rw[Int.add_mul,Int.one_mul,e1,hz];push_cast;rfl
  have hx1:List.drop ((i:Int)*(z:Int)).toNat (List.take (((i:Int)+1)*(z:Int)).toNat X)=cD X w i:=by
   rw[e1,e2,Int.toNat_natCast,Int.toNat_natCast,List.drop_take,Nat.add_sub_cancel_left];unfold cD;rw[show 16*w*i=16*(i*w) by rw[Nat.mul_assoc,Nat.mul_comm w i]]
  have hz1:List.drop ((i:Int)*(z:Int)).toNat (List.take (((i:Int)+1)*(z:Int)).toNat (List.replicate 256 (0:UInt8)))=List.replicate (16*w) 0:=by
   rw[e1,e2,Int.toNat_natCast,Int.toNat_natCast,List.drop_take,Nat.add_sub_cancel_left,List.drop_replicate,List.take_replicate];exact congrArg (fun m=>List.replicate m (0:UInt8)) (by omega)
  have hcl2:(cD X w i).length=16*w:=by
   rw[←hx1,e1,e2,Int.toNat_natCast,Int.toNat_natCast,List.length_drop,List.length_take,hXl];omega
  refine Q2 (Q5.df _) [] (fun bs=>?_) (fun bs=>?_)
  ·and_intros<;> first|exact trivial|exact rfl|omega|(simp only[e1,e2,hXl,List.length_replicate];omega)
  refine A5 [] (bEq (cD X w i) (List.replicate (16*w) 0) (by omega) (by rw[List.length_replicate];omega)) (fun e he=>?_) (hsim:=?hs5)
  case hs5=>
   and_intros<;> (first|exact wk_|refine A6 ?_|skip)
   all_goals first|exact congrArg (PV.lst .byt) hx1|exact congrArg (PV.lst .byt) hz1
  have hzz:zrB (cD X w i)=true→cD X w i=List.replicate (16*w) 0:=fun hz2=>by rw[A9s hz2,hcl2]
  refine A3 (Q5.df _) [] (fun bs=>?_);refine C6 (b:=e) rfl rfl (fun hb=>?_) (fun hb=>?_)
  ·have hz2:zrB (cD X w i)=true:=by rw[he.1 hb];exact C2D _
   refine A3 (Q5.df _) [false] (fun bs=>?_);refine I0 [0,1,2,3,4,5,6,7,8,9] ((T1,D1),⟨k.b,ki,kf,kv,kn⟩,lg,i+1) ⟨⟨⟨hI.bb,hI.sm,hI.ok,Nat.le_trans hI.st (Nat.le_succ _),Nat.le_trans hI.lg (by show d.lg+64*i≤d.lg+64*(i+1);omega),by rw[C4j hz2];exact hI.vw⟩,by simp only;omega⟩,by simp only;omega⟩
  ·have hz2:zrB (cD X w i)=false:=by
    cases hc:zrB (cD X w i)with
    |false=>rfl
    |true=>rw[he.2 (hzz hc)]at hb;cases hb
   refine A3 (Q5.df _) [] (fun bs=>?_);refine A5 [] (bNo (cD X w i) (by omega)) (fun _ _=>?_) (hsim:=?hs6)
   case hs6=>
    and_intros<;> (first|exact wk_|refine A6 ?_|skip)
    all_goals first|exact congrArg (PV.lst .byt) hx1
   refine A3 (Q5.df _) [] (fun bs=>?_);refine C6 (b:=zrB (cD X w i)) rfl rfl (fun hb2=>by rw[hz2]at hb2;cases hb2) (fun _=>?_);have hf':H9 (C1 d.files k.i.nm kf) ki.nm=some kf:=by rw[hnm,U3,if_pos rfl]
   have hlen:=hokc.len;have hnb:=hokc.nb;have hd':A1N ⟨d.room,C1 d.files k.i.nm kf,lg⟩ k.i.nm (k.n+n) (64*(n-i)):=hd.step hk.f (by omega) (by omega);have hdo:DOk ⟨d.room,C1 d.files k.i.nm kf,lg⟩:=hd'.ok (f:=kf) (by show H9 (C1 d.files k.i.nm kf) k.i.nm=some kf;rw[U3,if_pos rfl]) (by omega);have hkn':eG ki.m=eG k.i.m:=by unfold eG;rw[hkcl,hksz]
   refine A3 (Q5.df _) [] (fun bs=>?_);refine aJ 0 20 rfl (fun S8 S9=>?_);refine A5 [20,1] (C4R bd k.b ki S9 ⟨d.room,C1 d.files k.i.nm kf,lg⟩ D1 kf hf' kv kn hokc (by omega) hdo i (by rw[hkn',←hn];exact hi) (cD X w i) (by rw[hcl2,hkcl,←hw])) (fun r hr2=>?_) (hsim:=?hs7)
   case hs7=>
    and_intros<;> (first|exact wk_|refine A6 ?_|skip)
    all_goals first|exact congrArg (PV.lst .byt) hx1
   obtain⟨⟨T2,D2⟩,j,f',lg'⟩:=r;have hr2:Put kf ki kv kn ⟨d.room,C1 d.files k.i.nm kf,lg⟩ (cD X w i) i j f' lg':=hr2;refine yE 0 20 (l:=l1++(k.b,j)::l2) (l0:=l1++l2) (l1:=l1) (l2:=l2) (x:=(k.b,j)) rfl rfl (fun S10=>?_);have hms:C1 (C1 d.files k.i.nm kf) ki.nm f'=C1 d.files k.i.nm f':=by rw[hnm,fX]
   refine A3 (Q5.df _) [false] (fun bs=>?_);refine I0 [0,1,2,3,4,5,6,7,8,9] ((S10,D2),⟨k.b,j,f',A4v kv i (some (cD X w i)),kn+1⟩,lg',i+1) ⟨⟨⟨hI.bb,hI.sm.trans hr2.sm,hr2.ok,by have:=hI.st;show kn+1≤kh.n+(i+1);have h3:kn≤kh.n+i:=this;omega,by have:=hr2.lg;have h4:lg'≤lg+64:=this;show lg'≤d.lg+64*(i+1);omega,by rw[C4k hz2];exact congrArg (fun f=>A4v f i (some (cD X w i))) hI.vw⟩,by simp only;omega⟩,by simp only;omega⟩ (h:=?wk8)
   case wk8=>
    and_intros<;> (first|exact wk_|refine A6 ?_|skip)
    all_goals first|exact(show jB (D3 bd ⟨d.room,C1 (C1 d.files k.i.nm kf) ki.nm f',lg'⟩ D2) (D3 bd ⟨d.room,C1 d.files k.i.nm f',lg'⟩ D2)from by rw[hms];exact rfl)
 ·have hin:i=n:=by have:¬(i:Int)<(n:Nat):=hk2;omega
  subst hin;have hheld:ki.held=k.i.held++[k.i.m]:=by rw[hI.sm.hd,hkh];rfl
  have hIf:Imp d k X w i ⟨k.b,U5 ki k.i.held,kf,kv,kn⟩ lg:=
   ⟨rfl,⟨hnm,hkcl,hksz,by show ki.m.bk=_;rw[hI.sm.bk,hkh];rfl,rfl⟩,hI.ok.unhold _ (fun m hm=>by show m∈ki.held;rw[hheld];simp[hm]) (by omega),hst,hlg,hI.vw⟩
  refine A3 (Q5.df _) [] (fun bs=>?_);refine aJ 0 20 rfl (fun S5 S6=>?_);refine C2R [20,2,3,4,5,6,7,8,9] (inD bd k.b ki k.i.m k.i.ch k.i.k ⟨S6,h.m,h.h,h.kp,h.c,h.n,h.bk,h.S⟩ k.i.held.length (by rw[hheld];simp) (by omega) b13 b4) (fun T3 _=>?_) (hl:=?hl5)
  case hl5=>
   and_intros<;> (first|exact wk_|refine A6 ?_|skip)
   all_goals first|(rw[hheld];done)
  rw[show ki.held.take k.i.held.length=k.i.held from by rw[hheld];exact List.take_left];refine yE 0 20 (l:=l1++(k.b,U5 ki k.i.held)::l2) (l0:=l1++l2) (l1:=l1) (l2:=l2) (x:=(k.b,U5 ki k.i.held)) rfl rfl (fun S7=>?_);exact Y6 ((Q5.df _).df _) ((S7,D1),⟨k.b,U5 ki k.i.held,kf,kv,kn⟩,lg) hIf [0,1]
def A1t:D9:=⟨T,C9,A7,A9,88,[],none,.f⟩
theorem B8k:B1 Tryz.prog A1t:=⟨B7,A2,A4⟩
theorem iP:F0 Tryz.prog A1t:=⟨tOk,B8k⟩
theorem C7T (ba bd bm:Nat) (d:H8) (c1 c2:List Lk) (k:Lk) (r:List Lk) (hc:G2 d (c1++k::c2)) (nn:Int) (T S:Nat→Prop) (hpt:lN (c1++k::c2) k.i.nm (k::r)) (hfr:∀x∈c1++k::c2,x.i.m.bk≠k.i.nm) (hbk:k.i.m.bk=[]) (hs:k.i.m.size=16) (hv:∀q,k.v q=none) (w n:Nat) (hw:w=2 ^ k.i.m.cl.toNat) (hn:n=eG k.i.m) (hnw:n*w=16) (l:List qM) (hl:l.length≤4096) (hld:∀r∈l,r.data.length≤65536) (hin:∀r∈l,0≤r.at_∧r.at_≤65535) (hrg:Y9 (16:Nat) 0 l=true) (D X:Bs) (hD:D=eB (16:Nat) l++nB 4 (H4 wd 0 (eB (16:Nat) l))) (hsz:D.length≤200000) (hX:X=l.foldl kX (List.replicate (16*16) 0)) (m N B:Nat) (hr:cI d (c1++k::c2) m N B) (hkN:k.n+n≤N) (cA cN cM:Int) (to:Bs):C5 Tryz.prog 18 [.c (.ptr 0 ba 0),vV 23 k.i.nm to cA cN cM D] (eA ba bd bm d (c1++k::c2) nn T S) (fun y:((Nat→Prop)×(Nat→Prop))×Lk×Nat=>Imp d k X w n y.2.1 y.2.2) (fun y=>int .i64 0) (fun y=>eA ba bd bm ⟨d.room,C1 d.files k.i.nm y.2.1.f,y.2.2⟩ (c1++y.2.1::c2) nn y.1.1 y.1.2):=by
 refine I6 (E:=A1t) Tryz.func18 (fun M0 W hM0=>?_);have hkm:k∈c1++k::c2:=by simp
 have hko:=hc.lk hkm;have h8:=hpt.len hc;have hc8:=hc.n;have hN60:=hr.N60;have e0:O8 VK.ptr.dft (H9 (dZ (c1++k::c2)) k.i.nm)=some k.b:=by rw[hc.pt hkm];rfl
 refine A3 iP [] (fun bs=>?_);refine R3 iP 6 [0,1,3,7,0,16,63,127] [] (fun bs=>?_);refine A3 iP [] (fun bs=>?_);refine A5 [0,1,2,3] (A5C ba bd bm d (c1++k::c2) hc nn T S k.i.nm (k::r) hpt (by omega)) (fun y _=>?_);refine A3 iP [false,false,false,false,false,true] (fun bs=>?_);refine A5 [0,1,2,3] (B8C ba bd bm d (c1++k::c2) hc nn y.1 y.2 k.i.nm hfr) (fun u _=>?_);refine A3 iP [false,false,false,false,false,true] (fun bs=>?_);refine Z3 71 20 e0 ?_;refine A5 [2,3] (cIn bd (T6 c1) (T6 c2) u.1 d u.2 k (by rw[←kT];exact hko) (by rw[hc.hd k hkm];exact Nat.zero_le _) hbk hs hv w n hw hn hnw l hl hld hin hrg D X hD hsz hX (by omega) (hr.dk hc hkm hkN (by omega))) (fun z hz=>?_) (hl:=?hl1)
 case hl1=>
  and_intros<;> (first|exact wk_|refine A6 ?_|skip)
  all_goals first|exact B0x _ _ _ _ _
 obtain⟨⟨T2,D2⟩,k',lg'⟩:=z;have hz:Imp d k X w n k' lg':=hz;refine A3 iP [] (fun bs=>?_);refine B3 iP ((T2,D2),k',lg') hz [0,1,2,3] (hl:=?hl2)
 case hl2=>
  and_intros<;> (first|exact wk_|refine A6 ?_|skip)
  all_goals first|exact(wU hz.sm.nm hz.bb).symm|exact A7Y _ _ _ _ _|exact B8F _ (wU hz.sm.nm hz.bb).symm
def A1u:D9:=⟨T,C9,A7,A9,145,[],none,.f⟩
theorem B8l:B1 Tryz.prog A1u:=⟨B7,A2,A4⟩
theorem R7:F0 Tryz.prog A1u:=⟨tOk,B8l⟩
theorem C7U (ba bd bm:Nat) (d:H8) (c:List Lk) (hc:G2 d c) (nn:Int) (T S:Nat→Prop) (k:Lk) (r:List Lk) (hpt:lN c k.i.nm (k::r)) (hs:k.i.m.size=16) (w n:Nat) (hw:w=2 ^ k.i.m.cl.toNat) (hn:n=eG k.i.m) (hnw:n*w=16) (cA cN cM:Int) (b:Bs):C5 Tryz.prog 16 [.c (.ptr 0 ba 0),vV 22 k.i.nm [] cA cN cM b] (eA ba bd bm d c nn T S) (fun _=>True) (fun _:(Nat→Prop)×(Nat→Prop)=>C1r 0 (C2F (k::r) w n)) (fun y=>eA ba bd bm d c nn y.1 y.2):=by
 refine I6 (E:=A1u) Tryz.func16 (fun M0 W hM0=>?_);have hkm:k∈c:=hpt.mem k (by simp);have hko:=hc.lk hkm;have h8:=hpt.len hc;have hc8:=hc.n;obtain⟨l1,l2,hL⟩:=List.append_of_mem hko.mem;have e0:O8 VK.ptr.dft (H9 (dZ c) k.i.nm)=some k.b:=by rw[hc.pt hkm];rfl
 refine A3 R7 [] (fun bs=>?_);refine R3 R7 6 [0,1,3,7,0,16,63,127] [] (fun bs=>?_);refine A3 R7 [] (fun bs=>?_);refine Z3 22 20 e0 ?_;refine aJ 2 20 hL (fun S1 S2=>?_);refine A5 [20,3] (A0z bd k.b k.i S2 d S k.f hko.f k.v k.n hko.ok) (fun u _=>?_);refine gU 2 20 hL (fun S3=>?_);refine A3 R7 [false,false,true] (fun bs=>?_);refine X3 [0,1,2,3,4,5,22] [(0,.c (.ptr 0 ba 0)),(3,.c (.ptr 4 ?bc 0)),(4,.c (.ptr 5 ?br 0)),(7,.c (.ptr 6 ?b7 0))] (eA ba bd bm d c nn S3 u.2++[.blk ?bc 34 [.pv (i64 22),.pv (sv k.i.nm),.pv (sv []),.pv (i64 cA),.pv (i64 cN),.pv (i64 cM),.pv (.lst .byt b)],.blk ?br 31 [.pv (i64 0),.pv (.nil .byt),.pv (.nil .str),.pv (.nil .spn),.pv (i64 0),.pv (i64 0)],.blk ?b7 31 [.pv (i64 0),.pv (.nil .byt),.pv (.nil .str),.pv (.nil .spn),.pv (i64 0),.pv (i64 0)]]) ?_
 refine vR 14 ?_;refine X4 0 ?_;refine C0 1 R7 ?_;refine C0 4 R7 ?_;refine D8 2 R7 ?_;refine nS (X:=(Nat→Prop)×(Nat→Prop)) (fun _=>True) 8 [0,1,2,3,4,5] (fun y=>[(4,.c (.ptr 5 ?br 0)),(7,.c (.ptr 6 ?b7 0)),(102,lst .ptr ((k::r).map fun k=>k.b)),(104,str [])]) (fun y=>eA ba bd bm d c nn y.1 y.2++[.blk ?bc 34 [.pv (i64 22),.pv (sv k.i.nm),.pv (sv []),.pv (i64 cA),.pv (i64 cN),.pv (i64 cM),.pv (.lst .byt b)],.blk ?br 31 [.pv (i64 0),.pv (.nil .byt),.pv (.nil .str),.pv (.nil .spn),.pv (i64 0),.pv (i64 0)],.blk ?b7 31 [.pv (i64 0),.pv (.nil .byt),.pv (.nil .str),.pv (.nil .spn),.pv (i64 0),.pv (i64 0)]]) ?_ (fun fin=>?_)
 rotate_left
 refine B2 [3,5] rfl (by simp) ⟨E7 [0,1,2,3] (fun n=>n) (A5C ba bd bm d c hc nn S3 u.2 k.i.nm (k::r) hpt (by omega)) rfl rfl trivial rfl rfl rfl rfl (by decide) rfl rfl (fun x=>rfl) (fun y _=>?_),A8 5 R7 (fun _=>?_),trivial⟩
 ·refine D8 5 R7 ?_;exact F5 [0,1,2,3,4,5,6] _ _ _ (fin y trivial)
 ·refine E4 3 rfl (E7 [0,1,2,3] (fun n=>n) (A5C ba bd bm d c hc nn S3 u.2 k.i.nm (k::r) hpt (by omega)) rfl rfl trivial rfl rfl rfl rfl (by decide) rfl rfl (fun x=>rfl) (fun y _=>?_));exact F5 [0,1,2,3,4,5,6] _ _ _ (fin y trivial)
 intro y _;refine E4 6 rfl ?_;refine E7 [2,3] (fun n=>n-2) (C7R bd (T6 c) y.1 d y.2 k r (fun x hx=>hc.lk (hpt.mem x hx)) hs w n hw hn hnw) rfl rfl trivial rfl rfl rfl rfl (by decide) rfl rfl (fun x=>rfl) (fun z _=>?_);refine X4 7 ?_;refine gG 8 ?_;refine gG 9 ?_;refine C0 10 R7 ?_;refine F7 11 R7 (fun _=>?_);refine C0 12 R7 ?_;refine F7 13 R7 (fun _=>?_);refine iV ?_;refine A3 R7 [false] (fun bs=>?_);exact B3 R7 z trivial [0,1,2,3]
def A1v:D9:=⟨T,C9,A7,A9,84,[],none,.f⟩
theorem B8m:B1 Tryz.prog A1v:=⟨B7,A2,A4⟩
theorem cX:F0 Tryz.prog A1v:=⟨tOk,B8m⟩
theorem C7V (ba bd bm:Nat) (d:H8) (c1 c2:List Lk) (k:Lk) (r:List Lk) (hc:G2 d (c1++k::c2)) (nn:Int) (T S:Nat→Prop) (hpt:lN (c1++k::c2) k.i.nm (k::r)) (hfr:∀x∈c1++k::c2,x.i.m.bk≠k.i.nm) (hbk:k.i.m.bk=[]) (hs:k.i.m.size=16) (hv:∀q,k.v q=none) (w n:Nat) (hw:w=2 ^ k.i.m.cl.toNat) (hn:n=eG k.i.m) (hnw:n*w=16) (l:List qM) (hl:l.length≤4096) (hld:∀r∈l,r.data.length≤65536) (hin:∀r∈l,0≤r.at_∧r.at_≤65535) (hrg:Y9 (16:Nat) 0 l=true) (D X:Bs) (hD:D=eB (16:Nat) l++nB 4 (H4 wd 0 (eB (16:Nat) l))) (hsz:D.length≤200000) (hX:X=l.foldl kX (List.replicate (16*16) 0)) (m N B:Nat) (hr:cI d (c1++k::c2) m N B) (hkN:k.n+n≤N) (cA cN cM:Int) (to:Bs):C5 Tryz.prog 8 [.c (.ptr 0 ba 0),vV 23 k.i.nm to cA cN cM D] (eA ba bd bm d (c1++k::c2) nn T S) (fun y:((Nat→Prop)×(Nat→Prop))×Lk×Nat×Int=>Imp d k X w n y.2.1 y.2.2.1) (fun y=>B8H 0) (fun y=>eA ba bd bm ⟨d.room,C1 d.files k.i.nm y.2.1.f,y.2.2.1⟩ (c1++y.2.1::c2) y.2.2.2 y.1.1 y.1.2):=by
 refine I6 (E:=A1v) Tryz.func8 (fun M0 W hM0=>?_);refine A3 cX [false] (fun bs=>?_);refine A5 [3] (A9k bd d S (hc.nf hc.ne)) (fun S1 _=>?_);refine A3 cX [false] (fun bs=>?_);refine A5 [0,1,2,3] (A2J ba 49 2 [.ptr 3 bd 0,.mpt 1 bm,.pv (i64 nn)] [.mp bm .str .ptr (dZ (c1++k::c2)),U2 (cT bd) (T6 (c1++k::c2)) T,D3 bd d S1] nn 1 rfl) (fun n2 _=>?_);refine A3 cX [false,false,false,false] (fun bs=>?_);have e0:O8 VK.ptr.dft (H9 (dZ (c1++k::c2)) k.i.nm)=some k.b:=by rw[hc.pt (by simp)];rfl
 refine R3 cX 6 [0,1,3,7,0,16,63,127,255] [] (fun bs=>?_);refine A3 cX [] (fun bs=>?_);refine Z3 56 20 e0 ?_;refine A3 cX [false,false,false,false,false,false,false,false,false,false,false] (fun bs=>?_);refine A5 [0,1,2,3] (C7T ba bd bm d c1 c2 k r hc n2 T S1 hpt hfr hbk hs hv w n hw hn hnw l hl hld hin hrg D X hD hsz hX m N B hr hkN cA cN cM to) (fun y hy=>?_);refine A3 cX [] (fun bs=>?_);refine A5 [] (C1t 0) (fun _ _=>?_);refine A3 cX [] (fun bs=>?_);exact B3 cX (y.1,y.2.1,y.2.2,n2) hy [0,1,2,3]
def A1w:D9:=⟨T,C9,A7,A9,84,[],none,.f⟩
theorem B8n:B1 Tryz.prog A1w:=⟨B7,A2,A4⟩
theorem fF:F0 Tryz.prog A1w:=⟨tOk,B8n⟩
theorem C7W (ba bd bm:Nat) (d:H8) (c:List Lk) (hc:G2 d c) (nn:Int) (T S:Nat→Prop) (k:Lk) (r:List Lk) (hpt:lN c k.i.nm (k::r)) (hs:k.i.m.size=16) (w n:Nat) (hw:w=2 ^ k.i.m.cl.toNat) (hn:n=eG k.i.m) (hnw:n*w=16) (cA cN cM:Int) (b:Bs):C5 Tryz.prog 8 [.c (.ptr 0 ba 0),vV 22 k.i.nm [] cA cN cM b] (eA ba bd bm d c nn T S) (fun _=>True) (fun _:((Nat→Prop)×(Nat→Prop))×Int=>C1r 0 (C2F (k::r) w n)) (fun y=>eA ba bd bm d c y.2 y.1.1 y.1.2):=by
 refine I6 (E:=A1w) Tryz.func8 (fun M0 W hM0=>?_);refine A3 fF [false] (fun bs=>?_);refine A5 [3] (A9k bd d S (hc.nf hc.ne)) (fun S1 _=>?_);refine A3 fF [false] (fun bs=>?_);refine A5 [0,1,2,3] (A2J ba 49 2 [.ptr 3 bd 0,.mpt 1 bm,.pv (i64 nn)] [.mp bm .str .ptr (dZ c),U2 (cT bd) (T6 c) T,D3 bd d S1] nn 1 rfl) (fun n2 _=>?_);refine A3 fF [false,false,false,false] (fun bs=>?_);have e0:O8 VK.ptr.dft (H9 (dZ c) k.i.nm)=some k.b:=by rw[hc.pt (hpt.mem k (by simp))];rfl
 refine R3 fF 6 [0,1,3,7,0,16,63,127,255] [] (fun bs=>?_);refine A3 fF [] (fun bs=>?_);refine Z3 56 20 e0 ?_;refine A3 fF [false,false,false,true,true] (fun bs=>?_);refine A5 [0,1,2,3] (C7U ba bd bm d c hc n2 T S1 k r hpt hs w n hw hn hnw cA cN cM b) (fun y _=>?_);refine A3 fF [] (fun bs=>?_);exact B3 fF (y,n2) trivial [0,1,2,3]
structure Rd1 (i N G:Nat) (d:H8) (k:Lk):Prop where
 ok:G2 d [k]
 nm:k.i.nm=nmI i
 sz:k.i.m.size=16
 bk:k.i.m.bk=[]
 rm:d.room=1048576
 n:k.n≤N
 lg:d.lg≤G
theorem Rd1.write {i N G:Nat} {d:H8} {k k':Lk} {a lg:Nat} {b:Bs} (h:Rd1 i N G d k) (hz:Wrt d k [] a 1 b k' lg):Rd1 i (N+1) (G+64) ⟨d.room,C1 d.files k.i.nm k'.f,lg⟩ k':=
 ⟨h.ok.upd (c1:=[]) (c2:=[]) hz.sm.nm hz.ok (hz.sm.hd.trans (h.ok.hd k (by simp))) lg,hz.sm.nm.trans h.nm,hz.sm.sz.trans h.sz,hz.sm.bk.trans h.bk,h.rm,by have:=hz.st;have:=h.n;omega,by have:=hz.lg;have:=h.lg;show lg≤_;omega⟩
theorem B8o {i:Nat} (h:i<16):97≤(UInt8.ofNat (97+i)).toNat∧(UInt8.ofNat (97+i)).toNat≤122:=by
 rw[UInt8.toNat_ofNat'];omega
theorem B3k {c:List Lk} {k:Lk} (hk:k∈c) (hb:k.i.m.bk=[]):lN c k.i.nm [k]:= .cons hk (by rw[hb];exact .nil)
theorem A9v {d:H8} {c:List Lk} (hr:d.room=1048576) (hc:c.length≤8) (hn:∀k∈c,k.n≤60) (hl:d.lg≤100000000):cI d c 8 60 4000:=
 ⟨by rw[hr];exact Int.le_refl _,by rw[hr];decide,hc,hn,Nat.le_refl _,⟨by decide,by decide⟩,hl⟩
theorem Rd1.roomy {i N G:Nat} {d:H8} {k:Lk} (h:Rd1 i N G d k) (hN:N≤60) (hG:G≤100000000):cI d [k] 8 60 4000:=
 A9v h.rm (by simp) (fun x hx=>by have:=h.n;rw[List.mem_singleton.1 hx];omega) (by have:=h.lg;omega)
theorem C2m {k:Lk} (h:P8 k.f k.i k.v k.n) (hs:k.i.m.size=16):eG k.i.m*2 ^ k.i.m.cl.toNat=16:=by
 have:=h.gm.n.2.2;rw[hs]at this;have h2:((eG k.i.m*2 ^ k.i.m.cl.toNat:Nat):Int)=16:=by push_cast;exact this
 omega
theorem rdN {K:Lk} {c0:UInt8} {cl:Int} {lg:Nat} (hz:A9m ⟨1048576,[],0⟩ c0 cl 16 [] K lg) (hc:[c0]=nmI 0):Rd1 0 1 60 ⟨1048576,C1 [] [c0] K.f,lg⟩ K:=by
 have hnm:K.i.nm=nmI 0:=hz.nm.trans hc;refine⟨?_,hnm,by rw[hz.m];rfl,by rw[hz.m];rfl,rfl,Nat.le_of_eq hz.n,Nat.le_trans hz.lg (by decide)⟩;rw[←hz.nm];exact(G2.nil (d:=⟨1048576,[],0⟩) rfl).new (fun _ h=>by cases h) hz.ok hz.hd (by rw[hnm];simp[nmI]) (by decide) lg
structure Rd2 (i N G:Nat) (d:H8) (k K:Lk):Prop where
 ok:G2 d [k,K]
 nm:k.i.nm=nmI i
 nm2:K.i.nm=nmI (i+1)
 sz:k.i.m.size=16
 sz2:K.i.m.size=16
 bk:k.i.m.bk=[]
 bk2:K.i.m.bk=[]
 rm:d.room=1048576
 n:k.n≤N
 n2:K.n=1
 v:∀q,K.v q=none
 lg:d.lg≤G
theorem Rd1.new {i N G:Nat} {d:H8} {k K:Lk} {c0:UInt8} {cl:Int} {lg:Nat} (h:Rd1 i N G d k) (hi:i<14) (hz:A9m d c0 cl 16 [] K lg) (hc:[c0]=nmI (i+1)):Rd2 i N (G+60) ⟨d.room,C1 d.files [c0] K.f,lg⟩ k K:=by
 have hnm:K.i.nm=nmI (i+1):=hz.nm.trans hc;refine⟨?_,h.nm,hnm,h.sz,by rw[hz.m];rfl,h.bk,by rw[hz.m];rfl,h.rm,h.n,hz.n,hz.v,by have:=hz.lg;have:=h.lg;show lg≤_;omega⟩;rw[←hz.nm];exact h.ok.new (fun x hx=>by
  rw[List.mem_singleton.1 hx,h.nm,hnm];intro e;have:=B0z (by omega) (by omega) e;omega) hz.ok hz.hd (by rw[hnm];simp[nmI]) (by simp) lg
theorem Rd2.free {i N G:Nat} {d:H8} {k K:Lk} (h:Rd2 i N G d k K) (j:Nat):∀x∈[k,K],x.i.m.bk≠nmI j:=by
 intro x hx;have:x.i.m.bk=[]:=by
  simp only[List.mem_cons,List.not_mem_nil,or_false]at hx;rcases hx with rfl|rfl
  ·exact h.bk
  ·exact h.bk2
 rw[this];simp[nmI]
theorem Rd2.roomy {i N G:Nat} {d:H8} {k K:Lk} (h:Rd2 i N G d k K) (hN:N≤60) (hG:G≤100000000):cI d [k,K] 8 60 4000:=
 A9v h.rm (by simp) (fun x hx=>by
  have h1:=h.n;have h2:=h.n2;simp only[List.mem_cons,List.not_mem_nil,or_false]at hx;rcases hx with rfl|rfl<;> omega) (by have:=h.lg;omega)
theorem Rd2.go {i N G:Nat} {d:H8} {k K K':Lk} {X:Bs} {w n lg:Nat} (h:Rd2 i N G d k K) (hz:Imp d K X w n K' lg) (hn:n≤16):G2 ⟨d.room,C1 d.files K.i.nm K'.f,lg⟩ [k,K']∧Rd1 (i+1) 17 (G+1100) ⟨d.room,Y3 (C1 d.files K.i.nm K'.f) k.i.nm,lg⟩ K':=by
 have h1:G2 ⟨d.room,C1 d.files K.i.nm K'.f,lg⟩ [k,K']:=h.ok.upd (c1:=[k]) (c2:=[]) hz.sm.nm hz.ok (hz.sm.hd.trans (h.ok.hd K (by simp))) lg;exact⟨h1,h1.del (c1:=[]) (c2:=[K']),hz.sm.nm.trans h.nm2,hz.sm.sz.trans h.sz2,hz.sm.bk.trans h.bk2,h.rm,by have:=hz.st;have:=h.n2;omega,by have:=hz.lg;have:=h.lg;show lg≤_;omega⟩
theorem Imp.all {d d':H8} {L:vK} {k K K':Lk} {w n lg:Nat} (hk:∀x∈[k],aS d' L x) (hz:Imp d K (O2 [k] 0 16) w n K' lg) (hs:K.i.m.size=16) (hw:w=2 ^ K.i.m.cl.toNat) (hnw:n*w=16):O2 [K'] 0 16=O2 [k] 0 16:=
 C4c fun q hq=>by
  rw[hz.sec (R5 hk 0 16) hs hw hnw hq,B7u hk 0 16 q hq,Nat.zero_add]
structure C7X (k:Lk) (l:List qM) (D:Bs):Prop where
 n:l.length≤4096
 d:∀r∈l,r.data.length≤65536
 at_:∀r∈l,0≤r.at_∧r.at_≤65535
 r:Y9 (16:Nat) 0 l=true
 eq:D=eB (16:Nat) l++nB 4 (H4 wd 0 (eB (16:Nat) l))
 sz:D.length≤200000
 X:O2 [k] 0 16=l.foldl kX (List.replicate (16*16) 0)
theorem C7Y {d:H8} {L:vK} {k:Lk} (h:∀x∈[k],aS d L x) {w n:Nat} (hw:0<w) (hnw:n*w=16):C7X k (N6 [k] w n) (C2F [k] w n):=by
 have hn:n≤16:=by
  have:=Nat.mul_le_mul_left n hw;rw[hnw]at this;omega
 have hw16:w≤16:=by
  apply Decidable.byContradiction;intro h2
  match n,hnw with
  |0,e=>rw[Nat.zero_mul]at e;cases e
  |n+1,e=>rw[Nat.add_mul]at e;omega
 obtain⟨h1,h2,h3,h4,h5,h6⟩:=A9t h hw n (Nat.le_refl n);rw[hnw]at h3 h4;have h7:n*(8+16*w)=8*n+256:=by
  rw[Nat.mul_add,show n*(16*w)=16*(n*w) by rw[←Nat.mul_assoc,Nat.mul_comm n 16,Nat.mul_assoc],hnw,Nat.mul_comm n 8]
 have hst:(eB ((16:Nat):Int) (N6 [k] w n)).length≤9+(8*n+256):=by
  have:=B1B ((16:Nat):Int) (N6 [k] w n).length;unfold eB;rw[List.length_append];omega
 refine⟨by omega,fun r hr=>by rw[h2 r hr];omega,fun r hr=>by have:=h3 r hr;omega,h4,rfl,?_,?_⟩
 ·show(eB ((16:Nat):Int) (N6 [k] w n)++nB 4 (H4 wd 0 (eB ((16:Nat):Int) (N6 [k] w n)))).length≤_;have:=bG 4 (H4 wd 0 (eB ((16:Nat):Int) (N6 [k] w n)));rw[List.length_append];omega
 ·have:=C2E h n (Nat.le_refl n) (w:=w) (n:=n);rw[hnw,Nat.sub_self]at this;rw[this];exact(List.append_nil _).symm
theorem C6H {i:Nat} (h:i<14):[UInt8.ofNat (IntKind.u8.wrap (98+(i:Int))).toNat]=nmI (i+1):=by
 rw[IntKind.wrap_u8,show((98+(i:Int))%256).toNat=97+(i+1) by omega];rfl
def A1x:D9:=⟨T,C9,A7,A9,76,[],none,.f⟩
theorem B8p:B1 Tryz.prog A1x:=⟨B7,A2,A4⟩
theorem aT:F0 Tryz.prog A1x:=⟨tOk,B8p⟩
theorem C7Z (cs:Bs) (hcs:0<cs.length∧cs.length≤100):C5 Tryz.prog 7 [int .i64 1,lst .byt cs] [] (fun y:(Nat×Nat×Nat×Int)×((Nat→Prop)×(Nat→Prop))×H8×Lk=>Rd1 0 3 2000 y.2.2.1 y.2.2.2) (fun y=> .t [.c (.ptr 0 y.1.1 0),bool true]) (fun y=>eA y.1.1 y.1.2.1 y.1.2.2.1 y.2.2.1 [y.2.2.2] y.1.2.2.2 y.2.1.1 y.2.1.2):=by
 refine I6 (E:=A1x) Tryz.func7 (fun M0 W hM0=>?_);refine A3 aT [] (fun bs=>?_);refine A5 [] (C5y 1048576 (by decide) (by decide)) (fun y _=>?_);refine A3 aT [false] (fun bs=>?_);obtain⟨⟨ba,bd,bm,n⟩,T,S⟩:=y;refine K3 (fun q:((Nat→Prop)×(Nat→Prop))×H8×List Lk×Int×Nat=>[(0,int .i64 1),(1,lst .byt cs),(7,.c (.ptr 0 ba 0)),(8,int .i64 q.2.2.2.2)]) (fun q=>eA ba bd bm q.2.1 q.2.2.1 q.2.2.2.1 q.1.1 q.1.2) (fun q=>(q.2.2.2.2=0∧q.2.1=⟨1048576,[],0⟩∧q.2.2.1=[])∨(q.2.2.2.2=1∧∃k,q.2.2.1=[k]∧Rd1 0 3 2000 q.2.1 k)) (fun q=>1-q.2.2.2.2) [0,1,2,3] ((T,S),⟨1048576,[],0⟩,[],n,0) (.inl ⟨rfl,rfl,rfl⟩) ?wk1 (fun q hq=>?_)
 case wk1=>
  and_intros<;> (first|exact wk_|refine A6 ?_|skip)
 obtain⟨⟨T1,S1⟩,d,c,n1,i⟩:=q;simp only at hq;refine A3 aT [] (fun bs=>?_);refine I4 rfl rfl (fun hk2=>?_) (fun hk2=>?_)
 ·have hk2:(i:Int)<1:=hk2;obtain⟨rfl,rfl,rfl⟩:i=0∧d=⟨1048576,[],0⟩∧c=[]:=by
   rcases hq with h|⟨h,_⟩
   ·exact h
   ·omega
  refine A3 aT [false] (fun bs=>?_);refine A5 [0,1,2,3] (C4b ba bd bm ⟨1048576,[],0⟩ [] (G2.nil rfl) n1 T1 S1 (UInt8.ofNat (97+0)) (B8o (by decide)) (fun _ h=>(by cases h)) 0 16 (C4e ⟨by decide,by decide⟩ (by decide) (by decide) (.inl rfl)) (by decide) (by decide) ((A9v (c:=[]) rfl (by decide) (fun _ h=>(by cases h)) (by decide)).dok (G2.nil rfl)) 0 []) (fun z hz=>?_);obtain⟨⟨T2,S2⟩,K,lg,n2⟩:=z;have hz:A9m ⟨1048576,[],0⟩ _ 0 16 [] K lg:=hz;have h1:=rdN hz rfl;refine A3 aT [] (fun bs=>?_);refine K3 (fun q:Bs×Nat×Value×Nat×Nat=>[(0,int .i64 1),(1,lst .byt cs),(7,.c (.ptr 0 ba 0)),(8,int .i64 0),(9,.c (.ptr 4 q.2.2.2.1 0)),(10,.c (.ptr 5 q.2.2.2.2 0)),(11,.c (.own 6 q.2.2.1)),(12,int .i64 q.2.1)]) (fun q=>eA ba bd bm ⟨1048576,C1 [] [UInt8.ofNat (97+0)] K.f,lg⟩ [K] n2 T2 S2++[.blk q.2.2.2.1 34 [.pv (i64 1),.pv (sv (nmI 0)),.pv (sv []),.pv (i64 0),.pv (i64 0),.pv (i64 16),.pv (.lst .byt [])],.blk q.2.2.2.2 31 [.pv (i64 0),.pv (.nil .byt),.pv (.nil .str),.pv (.nil .spn),.pv (i64 0),.pv (i64 0)],.own q.2.2.1 5 .byt q.1]) (fun q=>q.1.length=16∧q.2.1≤16) (fun q=>16-q.2.1) [0,1,2,3,5,6,7] (List.replicate 16 0,0,?ov,?b9,?b10) ⟨rfl,Nat.zero_le _⟩ ?wk4 (fun q hq=>?_)
  case wk4=>
   and_intros<;> (first|exact wk_|refine A6 ?_|skip)
  obtain⟨l,j,ov,b9,b10⟩:=q;obtain⟨hl,hj⟩:=hq;simp only at hl hj;refine A3 aT [] (fun bs=>?_);refine I4 rfl rfl (fun hk4=>?_) (fun hk4=>?_)
  ·have hk4:(j:Int)<16:=hk4;refine Q2 aT [] (fun bs=>?_) (fun bs=>?_)
   ·and_intros<;> first|exact trivial|exact rfl|omega|(simp only;omega)|exact Int.emod_lt_of_pos _ (by omega)|exact Int.emod_nonneg _ (by omega)|exact A2I _
   refine I0 [0,1,2,3,4,5,6] (l.set ((j:Int)).toNat (UInt8.ofNat ((cs.getD ((0:Int)%(cs.length:Nat)).toNat LK.byt.dft).toNat:Int).toNat),j+1,ov,b9,b10) ⟨⟨(List.length_set ..).trans hl,by simp only;omega⟩,by simp only;omega⟩ (h:=?wk5)
   case wk5=>
    and_intros<;> (first|exact wk_|refine A6 ?_|skip)
  ·refine G1 6 [11] rfl ⟨rfl,trivial⟩ ?_;refine A3 aT [] (fun bs=>?_);have hnm:K.i.nm=nmI 0:=h1.nm;refine A5 [0,1,2,3] (oWr ba bd bm ⟨1048576,C1 [] [UInt8.ofNat (97+0)] K.f,lg⟩ [] [] K [] h1.ok n2 T2 S2 (B3k (by simp) h1.bk) (fun x hx=>by rw[List.mem_singleton.1 hx,h1.bk,h1.nm];simp[nmI]) 0 1 (by rw[h1.sz];decide) [] l hl 8 60 4000 (h1.roomy (by decide) (by decide)) (by have:=h1.n;omega) 0 0) (fun u hu=>?_) (hsim:=?hs6)
   case hs6=>
    rw[hnm]
    and_intros<;> (first|exact wk_|refine A6 ?_|skip)
   obtain⟨⟨T3,S3⟩,k2,lg2,n3⟩:=u;have hu:Wrt _ K [] 0 1 l k2 lg2:=hu;have h2:=h1.write hu;refine L7 aT (fun _=>some false) [false] (fun bs=>?_);refine I0 [0,1,2,3] ((T3,S3),_,[k2],n3,1) ⟨.inr ⟨rfl,k2,rfl,h2.ok,h2.nm,h2.sz,h2.bk,h2.rm,Nat.le_trans h2.n (by decide),Nat.le_trans h2.lg (by decide)⟩,by show 1-1<1-0;decide⟩ (h:=?wk6)
   case wk6=>
    and_intros<;> (first|exact wk_|refine A6 ?_|skip)
 ·refine A3 aT [] (fun bs=>?_);obtain⟨rfl,k,rfl,h⟩:i=1∧∃k,c=[k]∧Rd1 0 3 2000 d k:=by
   rcases hq with⟨h,_⟩|h
   ·have hk2:¬((i:Int)<1):=hk2;omega
   ·exact h
  exact B3 aT ((ba,bd,bm,n1),(T1,S1),d,k) h [0,1,2,3]
def A1y:D9:=⟨T,C9,A7,A9,137,[],none,.f⟩
theorem A7g:B1 Tryz.prog A1y:=⟨B7,A2,A4⟩
theorem O7:F0 Tryz.prog A1y:=⟨tOk,A7g⟩
theorem C7a (n:Nat) (hn:n≤255) (cs:Bs) (hcs:0<cs.length∧cs.length≤30):C5 Tryz.prog 5 [lst .byt cs,int .u8 n] [] (fun _=>True) (fun _:Unit=>bool true) (fun _=>[]):=by
 refine I6 (E:=A1y) Tryz.func5 (fun M0 W hM0=>?_);refine J3 O7 (fun _=>some false) [false] (fun bs=>?_) (fun bs=>?_)
 ·and_intros<;> first|exact trivial|exact rfl|omega|exact decide_eq_false (by omega)|(show(decide ((cs.length:Int)=0) || decide (30<(cs.length:Int)))=false;rw[decide_eq_false (by omega),decide_eq_false (by omega)];rfl)
 refine A5 [] (C7Z cs ⟨hcs.1,by omega⟩) (fun y h0=>?_);obtain⟨⟨ba,bd,bm,na⟩,⟨T,S⟩,d,k⟩:=y;have h0:Rd1 0 3 2000 d k:=h0;refine A3 O7 [false] (fun bs=>?_);refine K3 (fun q:((Nat→Prop)×(Nat→Prop))×H8×Lk×Int×Nat=>[(0,lst .byt cs),(1,int .u8 n),(5,.c (.ptr 0 ba 0)),(7,int .i64 q.2.2.2.2)]) (fun q=>eA ba bd bm q.2.1 [q.2.2.1] q.2.2.2.1 q.1.1 q.1.2) (fun q=>q.2.2.2.2≤16∧Rd1 0 (3+q.2.2.2.2) (2000+64*q.2.2.2.2) q.2.1 q.2.2.1) (fun q=>16-q.2.2.2.2) [0,1,2,3] ((T,S),d,k,na,0) ⟨Nat.zero_le _,h0⟩ ?wk1 (fun q hq=>?_)
 case wk1=>
  and_intros<;> (first|exact wk_|refine A6 ?_|skip)
 clear h0;obtain⟨⟨T1,S1⟩,d1,k1,n1,i⟩:=q;obtain⟨hi16,h1⟩:=hq;simp only at hi16 h1;refine A3 O7 [] (fun bs=>?_);refine C6 rfl rfl (fun hk=>?_) (fun hk=>?_)
 ·have hi:i<cs.length∧i<16:=by simp at hk;omega
  refine G8 tOk A7g 9 (fun _=>none) (fun bs=>rfl) (fun bs=>?_) (fun bs=>?_)
  ·and_intros<;> first|exact trivial|exact rfl|omega|exact A2I _|(show(i:Int)<cs.length;omega)|decide
  refine G1 4 [8] rfl ⟨rfl,trivial⟩ ?_;refine A3 O7 [] (fun bs=>?_);have hr:=h1.roomy (by omega) (by omega);refine A5 [0,1,2,3] (oWr ba bd bm d1 [] [] k1 [] h1.ok n1 T1 S1 (B3k (by simp) h1.bk) (fun x hx=>by rw[List.mem_singleton.1 hx,h1.bk,h1.nm];simp[nmI]) i 1 (by rw[h1.sz];omega) [] ((List.replicate 16 0).set 15 (UInt8.ofNat (((cs.getD ((i:Int)).toNat LK.byt.dft).toNat:Int).toNat))) (by rw[List.length_set,List.length_replicate]) 8 60 4000 hr (by have:=h1.n;omega) 0 0) (fun u hu=>?_) (hsim:=?hs1)
  case hs1=>
   rw[h1.nm]
   and_intros<;> (first|exact wk_|refine A6 ?_|skip)
  obtain⟨⟨T2,S2⟩,k2,lg2,n2⟩:=u;refine Q2 O7 [] (fun bs=>?_) (fun bs=>?_)
  ·and_intros<;> first|exact trivial|exact rfl|(simp only;omega)
  have hu:Wrt d1 k1 [] i 1 _ k2 lg2:=hu;refine I0 [0,1,2,3] ((T2,S2),⟨d1.room,C1 d1.files k1.i.nm k2.f,lg2⟩,k2,n2,i+1) ⟨⟨by simp only;omega,h1.write hu⟩,by simp only;omega⟩ (h:=?wk2)
  case wk2=>
   and_intros<;> (first|exact wk_|refine A6 ?_|skip)
 ·have hN:Rd1 0 20 4000 d1 k1:=⟨h1.ok,h1.nm,h1.sz,h1.bk,h1.rm,by have:=h1.n;omega,by have:=h1.lg;omega⟩
  refine A3 O7 [] (fun bs=>?_);refine A5 [0,1,2,3] (oRd ba bd bm d1 [k1] h1.ok n1 T1 S1 k1 [] (B3k (by simp) h1.bk) 0 16 (by rw[h1.sz];decide) [] [] 0) (fun u _=>?_) (hsim:=?hs2)
  case hs2=>
   rw[h1.nm]
   and_intros<;> (first|exact wk_|refine A6 ?_|skip)
  obtain⟨X,hX⟩:∃X,X=O2 [k1] 0 16:=⟨_,rfl⟩
  rw[←hX];refine A3 O7 [] (fun bs=>?_);refine K3 (fun q:((Nat→Prop)×(Nat→Prop))×H8×Lk×Int×Nat×Nat=>[(1,int .u8 n),(5,.c (.ptr 0 ba 0)),(9,.c (.ptr 4 q.2.2.2.2.2 0)),(10,str (nmI q.2.2.2.2.1)),(11,int .i64 q.2.2.2.2.1)]) (fun q=>eA ba bd bm q.2.1 [q.2.2.1] q.2.2.2.1 q.1.1 q.1.2++[.blk q.2.2.2.2.2 31 [.pv (i64 0),.pv (.lst .byt X),.pv (.nil .str),.pv (.nil .spn),.pv (i64 0),.pv (i64 0)]]) (fun q=>q.2.2.2.2.1≤1+n%7∧Rd1 q.2.2.2.2.1 20 (4000+1500*q.2.2.2.2.1) q.2.1 q.2.2.1∧O2 [q.2.2.1] 0 16=X) (fun q=>1+n%7-q.2.2.2.2.1) [0,1,2,3,4] (u.1,d1,k1,u.2,0,?b9) ⟨Nat.zero_le _,hN,hX.symm⟩ ?wk3 (fun q hq=>?_)
  case wk3=>
   and_intros<;> (first|exact wk_|refine A6 ?_|skip)
  clear hN h1 hX;obtain⟨⟨T2,S2⟩,d2,k2,n2,i,b9⟩:=q;obtain⟨hi,h2,hX2⟩:=hq;simp only at hi h2 hX2;have hi8:i≤8:=by omega
  refine A3 O7 [] (fun bs=>?_);refine I4 rfl rfl (fun hk4=>?_) (fun hk4=>?_)
  ·have hk4:(i:Int)<1+(n:Int)%7:=hk4;have hto:=C6H (i:=i) (by omega);have hno:∀x∈[k2],x.i.nm≠[UInt8.ofNat (97+(i+1))]:=fun x hx e=>by
    rw[List.mem_singleton.1 hx,h2.nm]at e;have:=B0z (i:=i) (j:=i+1) (by omega) (by omega) e;omega
   have hcl:0≤(i:Int)%5∧(i:Int)%5≤4:=by omega
   have hdv:(16:Int)%2 ^ ((i:Int)%5).toNat=0:=by
    generalize(i:Int)%5=cl at hcl;have:cl=0∨cl=1∨cl=2∨cl=3∨cl=4:=by omega
    rcases this with rfl|rfl|rfl|rfl|rfl<;> decide
   have hr:=h2.roomy (by decide) (by omega);refine A3 O7 [] (fun bs=>?_);refine A5 [0,1,2,3] (C4b ba bd bm d2 [k2] h2.ok n2 T2 S2 (UInt8.ofNat (97+(i+1))) (B8o (by omega)) hno ((i:Int)%5) 16 (C4e ⟨hcl.1,by omega⟩ (by decide) hdv (.inl rfl)) (by decide) (by simp) (hr.dok h2.ok) 0 []) (fun u hu=>?_) (hsim:=?hs3)
   case hs3=>
    rw[hto]
    and_intros<;> (first|exact wk_|refine A6 ?_|skip)
   obtain⟨⟨T3,S3⟩,K,lg3,n3⟩:=u;have hu:A9m d2 _ _ 16 [] K lg3:=hu;have h3:=h2.new (by omega) hu rfl;have hKo:=h3.ok.ok K (by simp);have hko:=h3.ok.ok k2 (by simp);have hw:=C2m hko h3.sz;have hW:=C2m hKo h3.sz2;have hp0:0<2 ^ k2.i.m.cl.toNat:=Nat.pow_pos (by omega);have hP0:0<2 ^ K.i.m.cl.toNat:=Nat.pow_pos (by omega);have hlk:∀x∈[k2],aS ⟨d2.room,C1 d2.files [UInt8.ofNat (97+(i+1))] K.f,lg3⟩ (T6 [k2,K]) x:=fun x hx=>by rw[List.mem_singleton.1 hx];exact h3.ok.lk (by simp)
   have ho:=C7Y hlk hp0 hw;have hn16:eG K.i.m≤16:=by
    have:=Nat.mul_le_mul_left (eG K.i.m) hP0;rw[hW]at this;omega
   refine A3 O7 [] (fun bs=>?_);refine A5 [0,1,2,3] (C7W ba bd bm _ [k2,K] h3.ok n3 T3 S3 k2 [] (B3k (by simp) h3.bk) h3.sz _ _ rfl rfl hw 0 0 0 []) (fun v _=>?_) (hsim:=?hs4)
   case hs4=>
    rw[h3.nm]
    and_intros<;> (first|exact wk_|refine A6 ?_|skip)
   refine A3 O7 [] (fun bs=>?_);refine A5 [0,1,2,3] (C7V ba bd bm _ [k2] [] K [] h3.ok v.2 v.1.1 v.1.2 (B3k (by simp) h3.bk2) (fun x hx=>by rw[h3.nm2];exact h3.free (i+1) x hx) h3.bk2 h3.sz2 h3.v _ _ rfl rfl hW _ ho.n ho.d ho.at_ ho.r _ (O2 [k2] 0 16) ho.eq ho.sz ho.X 8 60 4000 (h3.roomy (by decide) (by omega)) (by have:=h3.n2;omega) 0 0 0 []) (fun z hz=>?_) (hsim:=?hs5)
   case hs5=>
    rw[h3.nm2,←hto]
    and_intros<;> (first|exact wk_|refine A6 ?_|skip)
   obtain⟨⟨T4,S4⟩,K',lg4,n4⟩:=z;have hz:Imp _ K (O2 [k2] 0 16) _ _ K' lg4:=hz;obtain⟨h4,h5⟩:=h3.go hz hn16;have hfr:∀x∈[k2,K'],x.i.m.bk≠k2.i.nm:=fun x hx=>by
    have:x.i.m.bk=[]:=by
     simp only[List.mem_cons,List.not_mem_nil,or_false]at hx;rcases hx with rfl|rfl
     ·exact h3.bk
     ·exact h5.bk
    rw[this,h3.nm];simp[nmI]
   refine A3 O7 [] (fun bs=>?_);refine A5 [0,1,2,3] (C7A ba bd bm _ [] [K'] k2 h4 n4 T4 S4 hfr (Nat.le_trans h5.lg (by omega)) [] [] 0 0 0) (fun v2 _=>?_) (hsim:=?hs6)
   case hs6=>
    rw[h3.nm]
    and_intros<;> (first|exact wk_|refine A6 ?_|skip)
   refine L7 O7 (fun _=>some false) [false] (fun bs=>?_);have hR1:Rd1 (i+1) 20 (4000+1500*(i+1)) ⟨d2.room,Y3 (C1 (C1 d2.files [UInt8.ofNat (97+(i+1))] K.f) K.i.nm K'.f) k2.i.nm,lg4⟩ K':=⟨h5.ok,h5.nm,h5.sz,h5.bk,h5.rm,Nat.le_trans h5.n (by decide),Nat.le_trans h5.lg (by omega)⟩
   refine I0 [0,1,2,3,4] (v2.1,⟨d2.room,Y3 (C1 (C1 d2.files [UInt8.ofNat (97+(i+1))] K.f) K.i.nm K'.f) k2.i.nm,lg4⟩,K',v2.2,i+1,b9) ⟨⟨by simp only;omega,hR1,(Imp.all hlk hz h3.sz2 rfl hW).trans hX2⟩,by simp only;omega⟩ (h:=?wk4)
   case wk4=>
    rw[←hto]
    and_intros<;> (first|exact wk_|refine A6 ?_|skip)
  ·have hk4:¬((i:Int)<1+(n:Int)%7):=hk4;refine A3 O7 [] (fun bs=>?_);refine A5 [0,1,2,3] (oRd ba bd bm d2 [k2] h2.ok n2 T2 S2 k2 [] (B3k (by simp) h2.bk) 0 16 (by rw[h2.sz];decide) [] [] 0) (fun v _=>?_) (hsim:=?hs7)
   case hs7=>
    rw[h2.nm]
    and_intros<;> (first|exact wk_|refine A6 ?_|skip)
   rw[hX2];refine J3 O7 (fun _=>some true) [] (fun bs=>?_) (fun bs=>?_)
   ·and_intros<;> first|exact trivial|exact rfl|(simp;done)
   have hall:(decide ((0:Int)=0) && decide ((0:Int)=0) && decide (X=X))=true:=by simp
   refine A5 [] C4f (fun _ _=>?_) (hg:=by exact⟨_,rfl,congrArg (fun b=>some (Go.Mt.Ent.u (bool b))) hall⟩);refine J3 O7 (fun _=>some true) [] (fun bs=>?_) (fun bs=>?_)
   ·and_intros<;> first|exact trivial|exact rfl|(simp;done)
   refine B3 O7 () trivial [] (hr:=?hr)
   case hr=>
    and_intros<;> (first|exact wk_|refine A6 ?_|skip)
    all_goals first|(show qT (bool (decide ((0:Int)=0) && decide ((0:Int)=0) && decide (X=X) && true)) (bool true);rw[hall];exact rfl)
def uE:D9:=⟨T,C9,A7,A9,137,[],none,.f⟩
theorem B3l:B1 Tryz.prog uE:=⟨B7,A2,A4⟩
theorem A1z:F0 Tryz.prog uE:=⟨tOk,B3l⟩
theorem C6I (n:Nat) (hn:n≤255):C5 Tryz.prog 5 [lst .byt [],int .u8 n] [] (fun _=>True) (fun _:Unit=>bool true) (fun _=>[]):=by
 refine I6 (E:=uE) Tryz.func5 (fun M0 W hM0=>?_);refine J3 A1z (fun _=>some true) [true] (fun bs=>?_) (fun bs=>?_)
 ·and_intros<;> first|exact trivial|exact rfl
 refine A5 [] C4f (fun _ _=>?_);refine A3 A1z [] (fun bs=>?_);exact B3 A1z () trivial []
def uF:D9:=⟨T,C9,A7,A9,137,[],none,.f⟩
theorem B3m:B1 Tryz.prog uF:=⟨B7,A2,A4⟩
theorem A2A:F0 Tryz.prog uF:=⟨tOk,B3m⟩
theorem C6J (n:Nat) (hn:n≤255) (cs:Bs) (hcs:30<cs.length):C5 Tryz.prog 5 [lst .byt cs,int .u8 n] [] (fun _=>True) (fun _:Unit=>bool true) (fun _=>[]):=by
 refine I6 (E:=uF) Tryz.func5 (fun M0 W hM0=>?_);refine J3 A2A (fun _=>some false) [true] (fun bs=>?_) (fun bs=>?_)
 ·and_intros<;> first|exact trivial|exact rfl|exact decide_eq_false (by omega)|(show(decide ((cs.length:Int)=0) || decide (30<(cs.length:Int)))=true;rw[decide_eq_true (show 30<(cs.length:Int) by omega)];exact Bool.or_true _)
 refine A5 [] C4f (fun _ _=>?_);refine A3 A2A [] (fun bs=>?_);exact B3 A2A () trivial []
theorem C6K (n:Nat) (hn:n≤255) (cs:Bs):C5 (X:=Unit) Tryz.prog 5 [lst .byt cs,int .u8 n] [] (fun _=>True) (fun _=>bool true) (fun _=>[]):=by
 by_cases h:cs.length=0
 ·rw[List.eq_nil_of_length_eq_zero h];exact C6I n hn
 ·by_cases h2:30<cs.length
  ·exact C6J n hn cs h2
  ·exact C7a n hn cs ⟨by omega,by omega⟩
theorem C6O (cs:Bs) (n:Int) (h:L1 .u8 n):aA Tryz.prog 5 true [lst .byt cs,int .u8 n] (.x (.c (bv true))):=by
 obtain⟨a,b⟩:=h;have b':n≤255:=by simpa[IntKind.max]using b
 obtain⟨m,rfl⟩:=Int.eq_ofNat_of_zero_le (show 0≤n by simpa[IntKind.min]using a);exact C5.toC (C6K m (by omega) cs) (fun _ M v B w hv=>B1C hv)
end
end Go.Proofs.YtgmeedgkjlfpeaaGreat
