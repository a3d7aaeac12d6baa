/-
  The program library and the walks of this claim, part 6 of 6.
-/
import Derived.Test.YtgmeedgkjlfpeaaGreatQ5
set_option linter.unusedSimpArgs false
set_option linter.unusedVariables false
set_option maxHeartbeats 4000000
namespace Go.Proofs.YtgmeedgkjlfpeaaGreat
open Go.Mt
noncomputable section
theorem C4U {cl sz:Int} {bk:Bs} (hc:0≤cl∧cl≤6) (hs:0≤sz∧sz≤4096) (hd:sz%2 ^ cl.toNat=0) (hb:bk=[]∨Nm bk):MOk (Q3 cl sz bk):=by
 have hp:=P3 hc;refine⟨rfl,rfl,hc,hs,hd,hb,aX.2 ⟨?_,fun i hi=>absurd hi (Nat.not_lt_zero _)⟩,Nat.zero_le _,fun x hx=>by cases hx⟩;have h0:0≤sz / 2 ^ cl.toNat:=Int.ediv_nonneg hs.1 (by omega);have h1:sz / 2 ^ cl.toNat≤sz:=Int.ediv_le_self _ hs.1;exact⟨h0,by show sz / 2 ^ cl.toNat≤4096;omega,hc.1,hc.2⟩
theorem F9.nil {d:G4} (h:d.files=[]):F9 d []:=⟨h,List.nodup_nil,fun _ h=>(by cases h),fun _ h=>(by cases h),fun _ h=>(by cases h),Nat.zero_le _⟩
def A2J:E4:=⟨T,D6,A7,A9,30,[],none,.f⟩
theorem B8p:B3 Tryz.prog A2J:=⟨C0,A2,A4⟩
theorem lW:F3 Tryz.prog A2J:=⟨tOk,B8p⟩
theorem B3m:C5 Tryz.prog 6 [] [] (fun _=>True) (fun _:Unit=>bool true) (fun _=>[]):=by
 refine I4 (E:=A2J) Tryz.func6 (fun M0 W hM0=>?_);refine A3 lW [] (fun bs=>?_);refine A5 [] (C5y 1000 (by decide) (by decide)) (fun y _=>?_);refine A3 lW [false] (fun bs=>?_);obtain⟨⟨ba,bd,bm,n⟩,T,S⟩:=y;have hc0:=F9.nil (d:=⟨1000,[],0⟩) rfl;have hok:MOk (Q3 0 4 []):=C4U (by decide) (by decide) (by decide) (.inl rfl);have hd0:DOk ⟨1000,[],0⟩:=⟨fun p hp=>(by cases hp),by decide,by decide,by decide,by decide⟩
 refine A5 [0,1,2,3] (C5n ba bd bm ⟨1000,[],0⟩ [] hc0 n T S 97 (by decide) (fun _ h=>by cases h) 0 4 hok (by decide) (by decide) hd0 0 []) (fun z hz=>?_);obtain⟨⟨T1,S1⟩,k,lg1,n1⟩:=z;have hz:B8W ⟨1000,[],0⟩ 97 0 4 [] k lg1:=hz;have hlg1:lg1≤60:=hz.lg;have hnm:k.i.nm=[97]:=hz.nm;have hkm:k.i.m=Q3 0 4 []:=hz.m;have hkn:k.n=1:=hz.n;have hsz:k.i.m.size=4:=by rw[hkm];rfl
 have hbk:k.i.m.bk=[]:=by rw[hkm];rfl
 have hc1:F9 ⟨1000,B4 [] k.i.nm k.f,lg1⟩ ([]++[k]):=hc0.new (fun _ h=>(by cases h)) hz.ok hz.hd (by rw[hnm];simp) (by decide) lg1;have hp1:eI ([]++[k]) k.i.nm [k]:= .cons (by simp) (by rw[hbk];exact .nil);have hr1:W4 ⟨1000,B4 [] k.i.nm k.f,lg1⟩ ([]++[k]) 1 2 130:=⟨by show(1000:Int)≤1048576;decide,by show(1:Int)*130+70≤1000;decide,by simp,fun x hx=>by simp at hx;rw[hx,hkn];decide,by decide,⟨by decide,by decide⟩,by show lg1≤_;omega⟩
 obtain⟨bx,hbx⟩:∃bx:Bs,bx=[102,101,100,99,98,97,57,56,55,54,53,52,51,50,49,48]:=⟨_,rfl⟩
 have hbl:bx.length=16:=by rw[hbx];rfl
 refine A3 lW [] (fun bs=>?_);refine A5 [0,1,2,3] (oWr ba bd bm ⟨1000,B4 [] k.i.nm k.f,lg1⟩ [] [] k [] hc1 n1 T1 S1 hp1 (fun x hx=>by simp at hx;rw[hx,hbk,hnm];simp) 2 1 (by rw[hsz];decide) [] bx (by rw[hbl]) 1 2 130 hr1 (by rw[hkn];exact Nat.le_refl _) 0 0) (fun u hu=>?_) (hsim:=?hs1) (hl:=?hl1)
 case hs1=>
  rw[hbx,hnm]
  and_intros<;> (first|exact wk_|refine A6 ?_|skip)
 case hl1=>
  rw[hnm]
  and_intros<;> (first|exact wk_|refine A6 ?_|skip)
 obtain⟨⟨T2,S2⟩,k2,lg2,n2⟩:=u;have hu:Wrt ⟨1000,B4 [] k.i.nm k.f,lg1⟩ k [] 2 1 bx k2 lg2:=hu;have hnm2:k2.i.nm=k.i.nm:=hu.sm.nm;have hbk2:k2.i.m.bk=[]:=hu.sm.bk.trans hbk;have hc2:F9 ⟨1000,B4 (B4 [] k.i.nm k.f) k.i.nm k2.f,lg2⟩ ([]++k2::[]):=hc1.upd hnm2 hu.ok (hu.sm.hd.trans hz.hd) lg2;have hp2:eI ([]++k2::[]) k2.i.nm [k2]:= .cons (by simp) (by rw[hbk2];exact .nil);have hsec:W5 [k2] 2 1=bx:=by
  show[]++K4 [k2] (2+0)=bx;rw[List.nil_append,hu.sec,if_pos (by omega)];show(bx.drop 0).take 16=bx;rw[List.drop_zero,List.take_of_length_le (by omega)]
 refine A3 lW [] (fun bs=>?_);refine A5 [0,1,2,3] (oRd ba bd bm ⟨1000,B4 (B4 [] k.i.nm k.f) k.i.nm k2.f,lg2⟩ ([]++k2::[]) hc2 n2 T2 S2 k2 [] hp2 2 1 (by rw[hu.sm.sz,hsz];decide) [] [] 0) (fun v _=>?_) (hsim:=?hs2)
 case hs2=>
  rw[hnm2,hnm]
  and_intros<;> (first|exact wk_|refine A6 ?_|skip)
 rw[hsec];refine G0 lW (fun _=>some true) [] (fun bs=>?_) (fun bs=>?_)
 ·and_intros<;> first|exact trivial|exact rfl
 refine B6 lW () trivial [] (hr:=?hr)
 case hr=>
  rw[hbx]
  and_intros<;> (first|exact wk_|refine A6 ?_|skip)
  all_goals first|rfl
theorem A2d {α:Type} (c:List α):c=[]∨∃c0 k,c=c0++[k]:=B1E (p:=fun c=>c=[]∨∃c0 k,c=c0++[k]) (.inl rfl) (fun l x _=> .inr ⟨l,x,rfl⟩) c
theorem A9r {i:Nat} (h:i<16):97≤(UInt8.ofNat (97+i)).toNat∧(UInt8.ofNat (97+i)).toNat≤122:=by
 rw[UInt8.toNat_ofNat'];omega
structure C5z (cs:Bs) (c:List Lk) (d':G4) (c':List Lk):Prop where
 h:Hs2 cs c.length d' c'
 n:c'.length=c.length+1
 top:∀c0 k,c'=c0++[k]→k.n=1
 lg:d'.lg≤1000*c.length+200
def fil (v:UInt8) (j:Nat):Bs:=List.replicate j v++List.replicate (16-j) 0
theorem C1x {v:UInt8} {j:Nat} (h:j<16):(fil v j).set j v=fil v (j+1):=by
 unfold fil;rw[List.set_append_right _ _ (by simp),List.length_replicate,Nat.sub_self,show 16-j=(16-(j+1))+1 by omega,List.replicate_succ,List.set_cons_zero,List.replicate_succ',List.append_assoc];rfl
theorem C1y {v:UInt8} {j:Nat} (h:j≤16):(fil v j).length=16:=by simp[fil];omega
theorem B3n {i:Nat} (h:i<16):[UInt8.ofNat (IntKind.u8.wrap (97+(i:Int))).toNat]=gO i:=by
 rw[IntKind.wrap_u8,show((97+(i:Int))%256).toNat=97+i by omega];rfl
theorem C6A {c:List Lk} {d:G4} (h:xE d c) (h0:0<c.length):[UInt8.ofNat (IntKind.u8.wrap (97+(c.length:Int)-1)).toNat]=fL c:=by
 have h8:=h.ok.n;rcases A2d c with rfl|⟨c0,k,rfl⟩
 ·cases h0
 ·rw[U0,h.last.2];simp only[List.length_append,List.length_cons,List.length_nil]at h8⊢;rw[show(97:Int)+((c0.length+(0+1):Nat):Int)-1=97+(c0.length:Int) by omega];exact B3n (by omega)
theorem C7M (ba bd bm:Nat) (d:G4) (c:List Lk) (n:Int) (T S:Nat→Prop) (cs:Bs) (h:Hs2 cs c.length d c) (h7:c.length≤7) (cl:Int) (X7:0≤cl∧cl≤2) (b:Bs):
 C5 (X:=((Nat→Prop)×(Nat→Prop))×G4×List Lk×Int) Tryz.prog 8 [.c (.ptr 0 ba 0),kZ 1 (gO c.length) (fL c) 0 cl 16 b] (aF ba bd bm d c n T S) (fun y=>C5z cs c y.2.1 y.2.2.1) (fun _=>A5W 0) (fun y=>aF ba bd bm y.2.1 y.2.2.1 y.2.2.2 y.1.1 y.1.2):=by
 have hcl6:0≤cl∧cl≤6:=by omega
 have hdv:(16:Int)%2 ^ cl.toNat=0:=by
  have:cl=0∨cl=1∨cl=2:=by omega
  rcases this with rfl|rfl|rfl<;> decide
 have hlg:=h.lg;rcases A2d c with rfl|⟨c0,k,rfl⟩
 ·have hr:=h.h.roomy (fun k hk=>by cases hk) (by simp at hlg;omega);refine C5.imp (C5n ba bd bm d [] h.h.ok n T S (UInt8.ofNat (97+0)) (A9r (by decide)) (fun _ h=>(by cases h)) cl 16 (C4U hcl6 (by decide) hdv (.inl rfl)) (by decide) h7 (hr.dok h.h.ok) 0 b) (fun y=>(y.1,⟨d.room,B4 d.files [UInt8.ofNat (97+0)] y.2.1.f,y.2.2.1⟩,[]++[y.2.1],y.2.2.2)) (fun y hy=>?_) (fun _=>rfl) (fun _ _=>rfl);have hn:=hy.lg;refine⟨h.new0 hy rfl,rfl,fun a k e=>?_,by simp at hlg⊢;omega⟩;have:=(List.append_inj' e rfl).2;cases this;exact hy.n
 ·have h8:=h.h.ok.n;have hr:=h.h.roomy (fun x hx=>by have:=h.n x hx;omega) (by simp at hlg h8;omega);have hl:=h.h.last;have hp:=h.h.pth;have hpl:=hp.len h.h.ok;rw[U0];refine C5.imp (C7I ba bd bm d c0 [] k h.h.ok n T S (UInt8.ofNat (97+(c0++[k]).length)) (A9r (by omega)) (h.h.no (Nat.le_refl _) (by omega)) cl 16 (C4U hcl6 (by decide) hdv (.inr ?_)) (by decide) h7 8 60 4000 hr (by have:=h.n k (by simp);omega) (by simp at hlg h8;omega) (k::c0.reverse) hp (by omega) 0 b) (fun y=>(y.1,⟨d.room,B4 (B4 d.files k.i.nm y.2.1.f) [UInt8.ofNat (97+(c0++[k]).length)] y.2.2.1.f,y.2.2.2.1⟩,(c0++y.2.1::[])++[y.2.2.1],y.2.2.2.2)) (fun y hy=>?_) (fun _=>rfl) (fun _ _=>rfl)
  ·rw[hl.2];have h9:=A9r (i:=c0.length) (by simp at h7;omega);exact⟨rfl,h9.1,h9.2⟩
  ·have hn:=hy.new.lg;refine⟨h.new1 hy rfl h7,by simp,fun a x e=>?_,by simp at hlg hn⊢;omega⟩;have:=(List.append_inj' e rfl).2;cases this;exact hy.new.n
theorem Twr.free {d:G4} {c:List Lk} {k:Lk} (h:xE d (c++[k])):∀x∈c++[k],x.i.m.bk≠k.i.nm:=by
 have h8:=h.ok.n;intro x hx;obtain⟨a,b,e⟩:=List.append_of_mem hx;rw[h.tw a x b e,h.last.2];rcases A2d a with rfl|⟨a0,y,rfl⟩
 ·simp[fL,gO]
 ·rw[U0];have hl:(c++[k]).length=(a0++[y]++x::b).length:=by rw[e]
  intro e2;have h2:=h.nm;have h3:(bY (c++[k]))[a0.length]? =some (gO a0.length):=by
   rw[h2,List.getElem?_map,List.getElem?_range (by rw[hl];simp<;> omega)];rfl
  rw[e]at h3;simp[bY]at h3;rw[h3]at e2;have hl2:c.length+1=a0.length+1+(b.length+1):=by have:=hl;simp at this;omega
  have h9:c.length+1≤8:=by have:=h8;simp at this;omega
  have:=xD (by omega) (by omega) e2;omega
theorem C7N (ba bd bm:Nat) (d:G4) (c:List Lk) (k:Lk) (n:Int) (T S:Nat→Prop) (cs:Bs) (h:Hs2 cs c.length d (c++[k])) (hk:k.n=1) (hl:d.lg≤1000*c.length+200):
 C5 (X:=((Nat→Prop)×(Nat→Prop))×G4×List Lk×Int) Tryz.prog 8 [.c (.ptr 0 ba 0),kZ 4 (gO c.length) [] c.length 0 0 (hB cs c.length)] (aF ba bd bm d (c++[k]) n T S) (fun y=>Hs2 cs (c.length+1) y.2.1 y.2.2.1∧y.2.2.1.length=c.length+1) (fun _=>A5W 0) (fun y=>aF ba bd bm y.2.1 y.2.2.1 y.2.2.2 y.1.1 y.1.2):=by
 have h8:=h.h.ok.n;simp only[List.length_append,List.length_cons,List.length_nil]at h8;have hr:=h.h.roomy (fun x hx=>by have:=h.n x hx;omega) (by omega);have hsz:=h.h.sz k (by simp);have hnm:=h.h.last.2;rw[←hnm];refine C5.imp (oWr ba bd bm d c [] k c.reverse h.h.ok n T S h.h.pth (Twr.free h.h) c.length 1 (by rw[hsz];omega) [] (hB cs c.length) (by simp[hB]) 8 60 4000 hr (by omega) 0 0) (fun y=>(y.1,⟨d.room,B4 d.files k.i.nm y.2.1.f,y.2.2.1⟩,c++y.2.1::[],y.2.2.2)) (fun y hy=>⟨h.write hk (by omega) hl hy,by simp⟩) (fun _=>rfl) (fun _ _=>rfl)
def A2K:E4:=⟨T,D6,A7,A9,76,[],none,.f⟩
theorem B8q:B3 Tryz.prog A2K:=⟨C0,A2,A4⟩
theorem U6:F3 Tryz.prog A2K:=⟨tOk,B8q⟩
theorem C6B (K:Nat) (hK:1≤K∧K≤8) (cs:Bs) (hcs:0<cs.length∧cs.length≤100):C5 Tryz.prog 7 [int .i64 K,lst .byt cs] [] (fun y:(Nat×Nat×Nat×Int)×((Nat→Prop)×(Nat→Prop))×G4×List Lk=>Hs2 cs K y.2.2.1 y.2.2.2∧y.2.2.2.length=K) (fun y=> .t [.c (.ptr 0 y.1.1 0),bool true]) (fun y=>aF y.1.1 y.1.2.1 y.1.2.2.1 y.2.2.1 y.2.2.2 y.1.2.2.2 y.2.1.1 y.2.1.2):=by
 refine I4 (E:=A2K) Tryz.func7 (fun M0 W hM0=>?_);refine A3 U6 [] (fun bs=>?_);refine A5 [] (C5y 1048576 (by decide) (by decide)) (fun y _=>?_);refine A3 U6 [false] (fun bs=>?_);obtain⟨⟨ba,bd,bm,n⟩,T,S⟩:=y;have h0:Hs2 cs 0 ⟨1048576,[],0⟩ []:=⟨⟨F9.nil rfl,fun c1 k c2 e=>by simp at e,rfl,fun _ h=>(by cases h),rfl⟩,fun q _=>rfl,fun _ h=>(by cases h),fun c0 k e=>by simp at e,Nat.zero_le _⟩
 refine L5 (fun q:((Nat→Prop)×(Nat→Prop))×G4×List Lk×Int=>[(0,int .i64 K),(1,lst .byt cs),(7,.c (.ptr 0 ba 0)),(8,int .i64 q.2.2.1.length)]) (fun q=>aF ba bd bm q.2.1 q.2.2.1 q.2.2.2 q.1.1 q.1.2) (fun q=>Hs2 cs q.2.2.1.length q.2.1 q.2.2.1∧q.2.2.1.length≤K) (fun q=>K-q.2.2.1.length) [0,1,2,3] ((T,S),⟨1048576,[],0⟩,[],n) ⟨h0,Nat.zero_le _⟩ ?wk1 (fun q hq=>?_)
 case wk1=>
  and_intros<;> (first|exact wk_|refine A6 ?_|skip)
 obtain⟨⟨T1,S1⟩,d,c,n1⟩:=q;obtain⟨hq1,hq2⟩:=hq;simp only at hq1 hq2;refine A3 U6 [] (fun bs=>?_);refine I6 rfl rfl (fun hk2=>?_) (fun hk2=>?_)
 ·have hk2:(c.length:Int)<(K:Nat):=hk2;have hiK:c.length<K:=by omega
  refine A3 U6 [] (fun bs=>?_);have hw1:=B3n (i:=c.length) (by omega);refine xZ (fun b9:Nat=>[(0,int .i64 K),(1,lst .byt cs),(7,.c (.ptr 0 ba 0)),(8,int .i64 c.length),(9,.c (.ptr 4 b9 0))]) (fun b9=>aF ba bd bm d c n1 T1 S1++[.blk b9 34 [.pv (i64 1),.pv (sv (gO c.length)),.pv (sv (fL c)),.pv (i64 0),.pv (i64 ((c.length:Int)%3)),.pv (i64 16),.pv (.lst .byt [])]]) (fun _=>True) rfl ?_ (fun b9 _=>?_)
  ·refine I6 rfl rfl (fun hk3=>?_) (fun hk3=>?_)
   ·have hk3:(0:Int)<c.length:=hk3;have hw2:=C6A hq1.h (by omega);refine A3 U6 [] (fun bs=>?_);refine H3 [0,1,2,3,5] ?bb1 trivial (h:=?wk2)
    case wk2=>
     rw[←hw1,←hw2]
     and_intros<;> (first|exact wk_|refine A6 ?_|skip)
   ·have hk3:¬((0:Int)<c.length):=hk3;have hcn:c=[]:=List.eq_nil_of_length_eq_zero (by omega);refine A3 U6 [] (fun bs=>?_);refine H3 [0,1,2,3,5] ?bb2 trivial (h:=?wk3)
    case wk3=>
     rw[←hw1,show fL c=[] by rw[hcn];rfl]
     and_intros<;> (first|exact wk_|refine A6 ?_|skip)
  refine A3 U6 [] (fun bs=>?_);refine A5 [0,1,2,3] (C7M ba bd bm d c n1 T1 S1 cs hq1 (by omega) ((c.length:Int)%3) (by omega) []) (fun z hz=>?_);obtain⟨⟨T2,S2⟩,d2,c2,n2⟩:=z;have hz:C5z cs c d2 c2:=hz;refine A3 U6 [] (fun bs=>?_);obtain⟨v,hv⟩:∃v,v=cs.getD (c.length%cs.length) 0:=⟨_,rfl⟩
  refine L5 (fun q:Nat×Value×Nat=>[(0,int .i64 K),(1,lst .byt cs),(7,.c (.ptr 0 ba 0)),(8,int .i64 c.length),(9,.c (.ptr 4 b9 0)),(10,.c (.ptr 5 q.2.2 0)),(11,.c (.own 6 q.2.1)),(12,int .i64 q.1)]) (fun q=>aF ba bd bm d2 c2 n2 T2 S2++[.blk b9 34 [.pv (i64 1),.pv (sv (gO c.length)),.pv (sv (fL c)),.pv (i64 0),.pv (i64 ((c.length:Int)%3)),.pv (i64 16),.pv (.lst .byt [])],.blk q.2.2 31 [.pv (i64 0),.pv (.nil .byt),.pv (.nil .str),.pv (.nil .spn),.pv (i64 0),.pv (i64 0)],.own q.2.1 5 .byt (fil v q.1)]) (fun q=>q.1≤16) (fun q=>16-q.1) [0,1,2,3,4,5,6] (0,?ov,?b10) (Nat.zero_le _) ?wk4 (fun q hq=>?_)
  case wk4=>
   and_intros<;> (first|exact wk_|refine A6 ?_|skip)
  obtain⟨j,ov,b10⟩:=q;simp only at hq;refine A3 U6 [] (fun bs=>?_);refine I6 rfl rfl (fun hk4=>?_) (fun hk4=>?_)
  ·have hk4:(j:Int)<16:=hk4;refine X9 U6 [] (fun bs=>?_) (fun bs=>?_)
   ·and_intros<;> first|exact trivial|exact rfl|omega|(rw[C1y (by omega)];omega)|exact Int.emod_lt_of_pos _ (by omega)|exact yM _
   refine H3 [0,1,2,3,4,5,6] (j+1,ov,b10) ⟨by simp only;omega,by simp only;omega⟩ (h:=?wk5)
   case wk5=>
    and_intros<;> (first|exact wk_|refine A6 ?_|skip)
    all_goals
     show(fil v j).set (j:Int).toNat (UInt8.ofNat ((cs.getD ((c.length:Int)%(cs.length:Nat)).toNat LK.byt.dft).toNat:Int).toNat)=fil v (j+1);rw[←Int.natCast_emod,Int.toNat_natCast,Int.toNat_natCast,Int.toNat_natCast,UInt8.ofNat_toNat,show cs.getD (c.length%cs.length) LK.byt.dft=v from hv.symm];exact C1x (by omega)
  ·have hk4:¬((j:Int)<16):=hk4;have hj:j=16:=by omega
   subst hj;refine I1 6 [11] rfl ⟨rfl,trivial⟩ ?_;rw[show fil v 16=hB cs c.length from by rw[hv];simp[fil,hB]];refine A3 U6 [] (fun bs=>?_);obtain⟨c3,k,hck⟩:∃c3 k,c2=c3++[k]:=by
    rcases A2d c2 with h|h
    ·have:=hz.n;rw[h]at this;simp at this
    ·exact h
   have hl3:c3.length=c.length:=by have:=hz.n;rw[hck]at this;simpa using this
   subst hck;have hz1:=hz.h;have hz2:=hz.lg;rw[←hl3]at hz1 hz2;refine A5 [0,1,2,3] (C7N ba bd bm d2 c3 k n2 T2 S2 cs hz1 (hz.top c3 k rfl) hz2) (fun u hu=>?_) (hsim:=?hs6)
   case hs6=>
    rw[hl3]
    and_intros<;> (first|exact wk_|refine A6 ?_|skip)
   obtain⟨⟨T3,S3⟩,d3,c4,n3⟩:=u;obtain⟨hu1,hu2⟩:=hu;simp only at hu1 hu2;refine N0 U6 (fun _=>some false) [false] (fun bs=>?_);refine H3 [0,1,2,3] ((T3,S3),d3,c4,n3) ⟨⟨by rw[hu2];exact hu1,by simp only[hu2,hl3];omega⟩,by simp only[hu2,hl3];omega⟩ (h:=?wk6)
   case wk6=>
    and_intros<;> (first|exact wk_|refine A6 ?_|skip)
    all_goals first|(show(c.length:Int)+1=(c4.length:Nat);rw[hu2,hl3];rfl)
 ·refine A3 U6 [] (fun bs=>?_);have hk2:¬((c.length:Int)<(K:Nat)):=hk2;have hce:c.length=K:=by omega
  exact B6 U6 ((ba,bd,bm,n1),(T1,S1),d,c) ⟨by rw[←hce];exact hq1,hce⟩ [0,1,2,3]
theorem Twr.free2 {c:List Lk} {k:Lk} (ht:Twr (c++[k])) (hn:bY (c++[k])=(List.range (c++[k]).length).map gO) (h8:(c++[k]).length≤8):k.i.nm=gO c.length∧∀x∈c++[k],x.i.m.bk≠k.i.nm:=by
 have hk:k.i.nm=gO c.length:=by
  have:=hn;rw[iV,List.length_append,List.length_cons,List.length_nil,Nat.zero_add,List.range_succ,List.map_append]at this;have:=(List.append_inj' this rfl).2;simpa using this
 refine⟨hk,fun x hx=>?_⟩;obtain⟨a,b,e⟩:=List.append_of_mem hx;rw[ht a x b e,hk];rcases A2d a with rfl|⟨a0,y,rfl⟩
 ·simp[fL,gO]
 ·rw[U0];have hl:(c++[k]).length=(a0++[y]++x::b).length:=by rw[e]
  intro e2;have h3:(bY (c++[k]))[a0.length]? =some (gO a0.length):=by
   rw[hn,List.getElem?_map,List.getElem?_range (by rw[hl];simp<;> omega)];rfl
  rw[e]at h3;simp[bY]at h3;rw[h3]at e2;have hl2:c.length+1=a0.length+1+(b.length+1):=by have:=hl;simp at this;omega
  have h9:c.length+1≤8:=by have:=h8;simp at this;omega
  have:=xD (by omega) (by omega) e2;omega
theorem Twr.oth {d:G4} {c:List Lk} {k:Lk} (h:xE d (c++[k])):∀x∈c++[k],x.i.nm≠k.i.nm→∃p,eI (c++[k]) x.i.nm p∧k.i.nm∉bY p:=by
 intro x hx hne;obtain⟨a,b,e⟩:=List.append_of_mem hx;have hp:=h.tw.pth (a++[x]) b (by rw[e];simp);rw[U0]at hp;refine⟨_,hp,fun hm=>?_⟩;obtain⟨z,hz,e2⟩:=List.mem_map.1 hm;have hz:z∈a++[x]:=List.mem_reverse.1 hz;have hkk:z=k:=h.ok.one (hp.mem z (List.mem_reverse.2 hz)) (by simp) e2;subst hkk;have hb:b=[]:=by
  rcases A2d b with rfl|⟨b0,y,rfl⟩
  ·rfl
  ·exfalso;have e3:c++[z]=(a++x::b0)++[y]:=by rw[e];simp
   obtain⟨e4,e5⟩:=List.append_inj' e3 rfl;have hnd:=h.ok.nd;rw[iV]at hnd;have:=(List.nodup_append.1 hnd).2.2 z.i.nm (List.mem_map.2 ⟨z,by
    rw[e4];simp only[List.mem_append,List.mem_cons,List.mem_singleton,List.not_mem_nil,or_false]at hz⊢;rcases hz with hz|hz
    ·exact .inl hz
    ·exact .inr (.inl hz),rfl⟩) z.i.nm (by simp)
   exact this rfl
 subst hb;have:=(List.append_inj' e rfl).2;cases this;exact hne rfl
theorem C1z {d:G4} {L:oN} {c:List Lk} (h:∀k∈c,R7 d L k) {m n:Nat} (hm:m<n):(W5 c 0 n).getD (16*m) 0=(K4 c m).getD 0 0:=by
 have h1:=A9j h 0 n m hm;rw[Nat.zero_add]at h1;rw[←h1];simp[List.getD,List.getElem?_take,List.getElem?_drop]
def A2L:E4:=⟨T,D6,A7,A9,84,[],none,.f⟩
theorem B8r:B3 Tryz.prog A2L:=⟨C0,A2,A4⟩
theorem lX:F3 Tryz.prog A2L:=⟨tOk,B8r⟩
theorem C7O (ba bd bm:Nat) (d:G4) (c:List Lk) (hc:F9 d c) (h1:c.length≤1) (hnl:∀k∈c,k.i.nm.length≤1000) (n:Int) (T S:Nat→Prop) (nm to b:Bs) (cA cN cM:Int):C5 Tryz.prog 8 [.c (.ptr 0 ba 0),kZ 26 nm to cA cN cM b] (aF ba bd bm d c n T S) (fun _=>True) (fun _:((Nat→Prop)×(Nat→Prop))×Int=> .g [.pv (i64 0),.pv (.nil .byt),.pv (.lst .str (bY c)),.pv (.nil .spn),.pv (i64 0),.pv (i64 0)]) (fun y=>aF ba bd bm d c y.2 y.1.1 y.1.2):=by
 refine I4 (E:=A2L) Tryz.func8 (fun M0 W hM0=>?_);refine A3 lX [false] (fun bs=>?_);refine A5 [3] (A5Q bd d S (hc.nf hc.ne)) (fun S1 _=>?_);refine A3 lX [false] (fun bs=>?_);refine A5 [0,1,2,3] (vZ ba 49 2 [.ptr 3 bd 0,.mpt 1 bm,.pv (i64 n)] [.mp bm .str .ptr (Z0 c),O8 (Y5 bd) (J5 c) T,C6 bd d S1] n 1 rfl) (fun n2 _=>?_);refine A3 lX [false,false,false,true] (fun bs=>?_);refine A5 [1] (C5s bm (Z0 c)) (fun bc _=>?_);refine A3 lX [] (fun bs=>?_);refine A5 [1,6] (C5u bm bc (Z0 c) (by simpa[Z0]using h1) (fun p hp=>by obtain⟨k,hk,rfl⟩:=List.mem_map.1 hp;exact hnl k hk)) (fun _ _=>?_);rw[show((Z0 c).map fun p=>p.1)=bY c from by simp[Z0,bY]]
 refine A3 lX [] (fun bs=>?_);exact B6 lX ((T,S1),n2) trivial [0,1,2,3]
def uO:E4:=⟨T,D6,A7,A9,127,[],none,.f⟩
theorem B3o:B3 Tryz.prog uO:=⟨C0,A2,A4⟩
theorem M6:F3 Tryz.prog uO:=⟨tOk,B3o⟩
theorem C6C (n:Nat) (hn:n≤255) (cs:Bs) (hcs:0<cs.length∧cs.length≤20):C5 Tryz.prog 3 [int .u8 n,lst .byt cs] [] (fun _=>True) (fun _:Unit=>bool true) (fun _=>[]):=by
 refine I4 (E:=uO) Tryz.func3 (fun M0 W hM0=>?_);obtain⟨K,hK⟩:∃K:Nat,K=1+n%8:=⟨_,rfl⟩
 have hK8:1≤K∧K≤8:=by omega
 refine G0 M6 (fun _=>some false) [false] (fun bs=>?_) (fun bs=>?_)
 ·and_intros<;> first|exact trivial|exact rfl|omega|exact decide_eq_false (by omega)|(show(decide ((cs.length:Int)=0) || decide (20<(cs.length:Int)))=false;rw[decide_eq_false (by omega),decide_eq_false (by omega)];rfl)
 refine A5 [] (C6B K hK8 cs ⟨hcs.1,by omega⟩) (fun y hy=>?_) (hsim:=?hs1)
 case hs1=>
  rw[hK]
  and_intros<;> (first|exact wk_|refine A6 ?_|skip)
 obtain⟨⟨ba,bd,bm,na⟩,⟨T,S⟩,d,c⟩:=y;obtain⟨hy1,hy2⟩:=hy;simp only at hy1 hy2;obtain⟨c0,k,hck⟩:∃c0 k,c=c0++[k]:=by
  rcases A2d c with h|h
  ·rw[h]at hy2;simp at hy2;omega
  ·exact h
 subst hck;have hl0:c0.length+1=K:=by simpa using hy2
 have hH:=hy1.h;have hnm:=hH.last.2;have hsz:k.i.m.size=16:=hH.sz k (by simp);have hpt:=hH.pth;have hlg:=hy1.lg;have hKi:((K:Nat):Int)=1+(n:Int)%8:=by omega
 have hname:[UInt8.ofNat (IntKind.u8.wrap (97+(1+(n:Int)%8)-1)).toNat]=gO c0.length:=by
  rw[show(97:Int)+(1+(n:Int)%8)-1=97+(c0.length:Int) by omega];exact B3n (by omega)
 refine A3 M6 [false] (fun bs=>?_);refine A5 [0,1,2,3] (oRd ba bd bm d (c0++[k]) hH.ok na T S k c0.reverse hpt 0 16 (by rw[hsz];decide) [] [] 0) (fun u _=>?_) (hsim:=?hs2)
 case hs2=>
  rw[hnm,←hname]
  and_intros<;> (first|exact wk_|refine A6 ?_|skip)
 obtain⟨X,hX⟩:∃X,X=W5 (k::c0.reverse) 0 16:=⟨_,rfl⟩
 have hXl:X.length=256:=by rw[hX];exact X3 (fun x hx=>hH.ok.lk (hpt.mem x hx)) 0 16
 rw[←hX];refine G0 M6 (fun _=>some false) [false] (fun bs=>?_) (fun bs=>?_)
 ·and_intros<;> first|exact trivial|exact rfl|(show(!decide ((0:Int)=0) || !decide ((X.length:Int)=256))=false;rw[hXl];rfl)
 refine L5 (fun q:Nat×Nat=>[(1,lst .byt cs),(5,int .i64 K),(6,.c (.ptr 0 ba 0)),(8,str (gO c0.length)),(9,.c (.ptr 4 q.2 0)),(10,int .i64 q.1)]) (fun q=>aF ba bd bm d (c0++[k]) u.2 u.1.1 u.1.2++[.blk q.2 31 [.pv (i64 0),.pv (.lst .byt X),.pv (.nil .str),.pv (.nil .spn),.pv (i64 0),.pv (i64 0)]]) (fun q=>q.1≤16) (fun q=>16-q.1) [0,1,2,3,5] (0,?b9) (Nat.zero_le _) ?wk1 (fun q hq=>?_)
 case wk1=>
  rw[←hname,hKi]
  and_intros<;> (first|exact wk_|refine A6 ?_|skip)
 obtain⟨j,b9⟩:=q;simp only at hq;refine A3 M6 [] (fun bs=>?_);refine I6 rfl rfl (fun hk2=>?_) (fun hk2=>?_)
 ·have hk2:(j:Int)<16:=hk2;have hj16:j<16:=by omega
  have hrow:X.getD (16*j) 0=(K4 (k::c0.reverse) j).getD 0 0:=by rw[hX];exact C1z (fun x hx=>hH.ok.lk (hpt.mem x hx)) hj16
  have hsec:=hy1.sec j hj16;rw[Z1]at hsec;rw[hsec]at hrow;have hidx:((16:Int)*(j:Int)).toNat=16*j:=by omega
  have hmod:((j:Int)%(cs.length:Nat)).toNat=j%cs.length:=by rw[←Int.natCast_emod];rfl
  have hml:=Nat.mod_lt j hcs.1;refine A3 M6 [] (fun bs=>?_);refine I6 rfl rfl (fun hk3=>?_) (fun hk3=>?_)
  ·have hk3:(j:Int)<(K:Nat):=hk3;rw[if_pos (by omega),show(hB cs j).getD 0 0=cs.getD (j%cs.length) 0 from rfl]at hrow;refine G0 M6 (fun _=>some false) [false] (fun bs=>?_) (fun bs=>?_)
   ·and_intros<;> first|exact trivial|exact rfl|omega|exact yM _|exact Int.emod_lt_of_pos _ (by omega)|(show(!decide (((X.getD ((16:Int)*(j:Int)).toNat LK.byt.dft).toNat:Int)=((cs.getD ((j:Int)%(cs.length:Nat)).toNat LK.byt.dft).toNat:Int)))=false;rw[hidx,hmod,show X.getD (16*j) LK.byt.dft=cs.getD (j%cs.length) LK.byt.dft from hrow];simp)
   refine H3 [0,1,2,3,4] (j+1,b9) ⟨by simp only;omega,by simp only;omega⟩
  ·have hk3:¬((j:Int)<(K:Nat)):=hk3;rw[if_neg (by omega)]at hrow;refine G0 M6 (fun _=>some false) [false] (fun bs=>?_) (fun bs=>?_)
   ·and_intros<;> first|exact trivial|exact rfl|omega|exact yM _|exact Int.emod_lt_of_pos _ (by omega)|(show(!decide (((X.getD ((16:Int)*(j:Int)).toNat LK.byt.dft).toNat:Int)=0))=false;rw[hidx,show X.getD (16*j) LK.byt.dft=0 from hrow];rfl)
   refine H3 [0,1,2,3,4] (j+1,b9) ⟨by simp only;omega,by simp only;omega⟩
 ·have hk2:¬((j:Int)<16):=hk2;refine A3 M6 [] (fun bs=>?_);have hr:=hH.roomy (fun x hx=>by have:=hy1.n x hx;omega) (by simp at hlg;omega);have hkn:=hy1.n k (by simp);have hn16:=(hH.ok.ok k (by simp)).gm.n.2.1;refine A5 [0,1,2,3] (C7G ba bd bm d c0 [] k c0.reverse hH.ok u.2 u.1.1 u.1.2 hpt (Twr.oth hH) (2 ^ k.i.m.cl.toNat) rfl 8 60 4000 hr (by omega) [] [] 0 0 0) (fun z hz=>?_) (hsim:=?hs3)
  case hs3=>
   rw[hnm]
   and_intros<;> (first|exact wk_|refine A6 ?_|skip)
  obtain⟨⟨T2,S2⟩,k2,lg2,n2⟩:=z;have hz:Rbs d k c0.reverse (2 ^ k.i.m.cl.toNat) k2 lg2:=hz;have hc2:F9 ⟨d.room,B4 d.files k.i.nm k2.f,lg2⟩ (c0++k2::[]):=hH.ok.upd hz.nm hz.ok (hz.hd.trans (hH.ok.hd k (by simp))) lg2;have hlg2:=hz.lg;refine A3 M6 [false] (fun bs=>?_);have hT:=hH.tw;have hNm:=hH.nm;have h8:=hH.ok.n;have hl8:c0.length+1≤8:=by simpa using h8
  refine L5 (fun q:((Nat→Prop)×(Nat→Prop))×G4×Nat×Int=>[(6,.c (.ptr 0 ba 0)),(8,str (gO c0.length)),(9,.c (.ptr 4 b9 0)),(12,int .i64 ((q.2.2.1:Int)-1))]) (fun q=>aF ba bd bm q.2.1 (c0.take q.2.2.1++[k2]) q.2.2.2 q.1.1 q.1.2++[.blk b9 31 [.pv (i64 0),.pv (.lst .byt X),.pv (.nil .str),.pv (.nil .spn),.pv (i64 0),.pv (i64 0)]]) (fun q=>F9 q.2.1 (c0.take q.2.2.1++[k2])∧q.2.2.1≤c0.length∧q.2.1.lg=lg2) (fun q=>q.2.2.1) [0,1,2,3,4] ((T2,S2),⟨d.room,B4 d.files k.i.nm k2.f,lg2⟩,c0.length,n2) ⟨by simp only[List.take_length];exact hc2,Nat.le_refl _,rfl⟩ ?wk2 (fun q hq=>?_)
  case wk2=>
   simp only[List.take_length]
   and_intros<;> (first|exact wk_|refine A6 ?_|skip)
   all_goals first|omega
  obtain⟨⟨T3,S3⟩,d3,m,n3⟩:=q;obtain⟨hq1,hq2,hq3⟩:=hq;simp only at hq1 hq2 hq3;refine A3 M6 [] (fun bs=>?_);refine I6 rfl rfl (fun hk4=>?_) (fun hk4=>?_)
  ·have hk4:0≤(m:Int)-1:=hk4;obtain⟨p,rfl⟩:∃p,m=p+1:=⟨m-1,by omega⟩
   have hp:p<c0.length:=by omega
   have ht1:c0.take (p+1)=c0.take p++[c0[p]]:=by rw[List.take_add_one,gE_ hp];rfl
   have he:c0.take (p+1)++[k2]=c0.take p++c0[p]::[k2]:=by rw[ht1,List.append_assoc];rfl
   have hcut:c0++[k]=(c0.take p++[c0[p]])++(c0.drop (p+1)++[k]):=by
    have h1:c0.take p++[c0[p]]=c0.take (p+1):=by rw[List.take_add_one,gE_ hp];rfl
    rw[h1,←List.append_assoc,List.take_append_drop]
   have htp:Twr (c0.take p++[c0[p]]):=by rw[hcut]at hT;exact hT.pre
   have hnp:bY (c0.take p++[c0[p]])=(List.range (c0.take p++[c0[p]]).length).map gO:=by
    have h1:(bY (c0++[k])).take (p+1)=bY (c0.take p++[c0[p]]):=by
     have h2:(c0++[k]).take (p+1)=c0.take p++[c0[p]]:=by rw[List.take_append_of_le_length (by omega),List.take_add_one,gE_ hp];rfl
     rw[←h2];simp[bY,List.map_take]
    rw[←h1,hNm,←List.map_take,List.take_range]
    congr 2
    simp;omega
   obtain⟨hf1,hf2⟩:=Twr.free2 htp hnp (by simp;omega);have hf1:c0[p].i.nm=gO p:=by rw[hf1];simp;rw[Nat.min_eq_left (by omega)]
   have hfr:∀x∈c0.take p++c0[p]::[k2],x.i.m.bk≠c0[p].i.nm:=fun x hx=>by
    simp only[List.mem_append,List.mem_cons,List.not_mem_nil,or_false]at hx;rcases hx with hx|hx|hx
    ·exact hf2 x (List.mem_append.2 (.inl hx))
    ·exact hf2 x (List.mem_append.2 (.inr (List.mem_singleton.2 hx)))
    ·rw[hx,hz.bk,hf1];simp[gO]
   rw[he]at hq1;have hw3:[UInt8.ofNat (IntKind.u8.wrap (97+(((p+1:Nat):Int)-1))).toNat]=gO p:=by
    rw[show(97:Int)+(((p+1:Nat):Int)-1)=97+(p:Int) by omega];exact B3n (by omega)
   have hdel:F9 ⟨d3.room,X8 d3.files c0[p].i.nm,d3.lg⟩ (c0.take p++[k2]):=hq1.del;refine A3 M6 [] (fun bs=>?_);refine A5 [0,1,2,3] (C5m ba bd bm d3 (c0.take p) [k2] c0[p] hq1 n3 T3 S3 hfr (by rw[hq3];simp at hlg;omega) [] [] 0 0 0) (fun v _=>?_) (hsim:=?hs4) (hl:=?hl4)
   case hs4=>
    rw[hf1,←hw3]
    and_intros<;> (first|exact wk_|refine A6 ?_|skip)
   case hl4=>
    rw[←he]
    and_intros<;> (first|exact wk_|refine A6 ?_|skip)
   refine A3 M6 [false] (fun bs=>?_);refine H3 [0,1,2,3,4] (v.1,⟨d3.room,X8 d3.files c0[p].i.nm,d3.lg⟩,p,v.2) ⟨⟨hdel,by simp only;omega,hq3⟩,by simp only;omega⟩ (h:=?wk5)
   case wk5=>
    and_intros<;> (first|exact wk_|refine A6 ?_|skip)
    all_goals first|(show((p+1:Nat):Int)-1-1=(p:Int)-1;omega)
  ·have hk4:¬(0≤(m:Int)-1):=hk4;have hm0:m=0:=by omega
   subst hm0;rw[List.take_zero]at hq1;have hbk2:k2.i.m.bk=[]:=hz.bk;have hp2:eI ([]++[k2]) k2.i.nm [k2]:= .cons (by simp) (by rw[hbk2];exact .nil);have hX2:W5 [k2] 0 16=X:=by
    rw[hX];exact B8i fun q hq=>hz.sec (hH.ok.ok k (by simp)) (fun x hx=>hH.ok.lk (hpt.mem x (by simp[hx]))) rfl q (by rw[hsz];omega)
   have hnm2:k2.i.nm=gO c0.length:=hz.nm.trans hnm;refine A3 M6 [] (fun bs=>?_);refine A5 [0,1,2,3] (oRd ba bd bm d3 ([]++[k2]) hq1 n3 T3 S3 k2 [] hp2 0 16 (by rw[hz.sz,hsz];decide) [] [] 0) (fun v _=>?_) (hsim:=?hs5)
   case hs5=>
    rw[hnm2]
    and_intros<;> (first|exact wk_|refine A6 ?_|skip)
   rw[hX2];refine A3 M6 [] (fun bs=>?_);refine A5 [0,1,2,3] (C7O ba bd bm d3 ([]++[k2]) hq1 (by simp) (fun x hx=>by simp at hx;rw[hx,hnm2];show 1≤1000;decide) v.2 v.1.1 v.1.2 [] [] [] 0 0 0) (fun w _=>?_);refine G0 M6 (fun _=>some true) [] (fun bs=>?_) (fun bs=>?_)
   ·and_intros<;> first|exact trivial|exact rfl|(simp;done)
   have hall:(decide ((0:Int)=0) && decide (X=X) && decide (((bY ([]++[k2])).length:Int)=1))=true:=by simp[bY]
   refine A5 [] B3m (fun _ _=>?_) (hg:=by exact⟨_,rfl,congrArg (fun b=>some (Go.Mt.Ent.u (bool b))) hall⟩);refine G0 M6 (fun _=>some true) [] (fun bs=>?_) (fun bs=>?_)
   ·and_intros<;> first|exact trivial|exact rfl|(simp[bY];done)
   refine B6 M6 () trivial [] (hr:=?hr)
   case hr=>
    and_intros<;> (first|exact wk_|refine A6 ?_|skip)
    all_goals first|(show rF (bool (decide ((0:Int)=0) && decide (X=X) && decide (((bY ([]++[k2])).length:Int)=1) && true)) (bool true);rw[hall];exact rfl)
def oL:E4:=⟨T,D6,A7,A9,127,[],none,.f⟩
theorem A9s:B3 Tryz.prog oL:=⟨C0,A2,A4⟩
theorem uP:F3 Tryz.prog oL:=⟨tOk,A9s⟩
theorem C4V (n:Nat) (hn:n≤255):C5 Tryz.prog 3 [int .u8 n,lst .byt []] [] (fun _=>True) (fun _:Unit=>bool true) (fun _=>[]):=by
 refine I4 (E:=oL) Tryz.func3 (fun M0 W hM0=>?_);refine G0 uP (fun _=>some true) [true] (fun bs=>?_) (fun bs=>?_)
 ·and_intros<;> first|exact trivial|exact rfl
 refine A5 [] B3m (fun _ _=>?_);refine A3 uP [] (fun bs=>?_);exact B6 uP () trivial []
def oM:E4:=⟨T,D6,A7,A9,127,[],none,.f⟩
theorem A9t:B3 Tryz.prog oM:=⟨C0,A2,A4⟩
theorem uQ:F3 Tryz.prog oM:=⟨tOk,A9t⟩
theorem C4W (n:Nat) (hn:n≤255) (cs:Bs) (hcs:20<cs.length):C5 Tryz.prog 3 [int .u8 n,lst .byt cs] [] (fun _=>True) (fun _:Unit=>bool true) (fun _=>[]):=by
 refine I4 (E:=oM) Tryz.func3 (fun M0 W hM0=>?_);refine G0 uQ (fun _=>some false) [true] (fun bs=>?_) (fun bs=>?_)
 ·and_intros<;> first|exact trivial|exact rfl|exact decide_eq_false (by omega)|(show(decide ((cs.length:Int)=0) || decide (20<(cs.length:Int)))=true;rw[decide_eq_true (show 20<(cs.length:Int) by omega)];exact Bool.or_true _)
 refine A5 [] B3m (fun _ _=>?_);refine A3 uQ [] (fun bs=>?_);exact B6 uQ () trivial []
theorem C4X (n:Nat) (hn:n≤255) (cs:Bs):C5 (X:=Unit) Tryz.prog 3 [int .u8 n,lst .byt cs] [] (fun _=>True) (fun _=>bool true) (fun _=>[]):=by
 by_cases h:cs.length=0
 ·rw[List.eq_nil_of_length_eq_zero h];exact C4V n hn
 ·by_cases h2:20<cs.length
  ·exact C4W n hn cs h2
  ·exact C6C n hn cs ⟨by omega,by omega⟩
theorem xE.bkI {d:G4} {c:List Lk} (h:xE d c) {i:Nat} {x:Lk} (hx:c[i]? =some x):x.i.m.bk=if i=0 then[]else gO (i-1):=by
 obtain⟨hi,hxe⟩:=gS_.1 hx;have e:c=c.take i++x::c.drop (i+1):=by rw[←hxe,←List.drop_eq_getElem_cons hi,List.take_append_drop]
 rw[h.tw _ _ _ e];cases i with
 |zero=>rfl
 |succ i=>
  have h1:c.take (i+1)=c.take i++[c[i]]:=by rw[List.take_add_one,gE_ (by omega)];rfl
  rw[h1,U0,if_neg (by omega)];have h2:=h.nm;have h3:(bY c)[i]? =some (gO i):=by rw[h2,List.getElem?_map,List.getElem?_range (by omega)];rfl
  simp[bY,gE_ (show i<c.length by omega)]at h3;exact h3
theorem xE.abv1 {d:G4} {c:List Lk} (h:xE d c) (j:Nat) (hj:j<16):abv c (gO j) (List.range c.length)≤1:=by
 have h8:=h.ok.n;have key:∀i:Nat,(c.map fun k:Lk=>k.i.m.bk)[i]? =some (gO j)→i=j+1:=fun i hi=>by
  rw[List.getElem?_map]at hi;cases hx:c[i]? with
  |none=>rw[hx]at hi;cases hi
  |some x=>
   rw[hx]at hi;have hlt:=(gS_.1 hx).1;have h1:=h.bkI hx;have h2:x.i.m.bk=gO j:=by simpa using hi
   rw[h2]at h1;split at h1
   ·simp[gO]at h1
   ·have:=xD hj (by omega) h1;omega
 exact C1v fun a b ha hb=>(key a ha).trans (key b hb).symm
structure Cms (S:Nat→Bs) (d:G4) (c:List Lk):Prop where
 h:xE d c
 sec:∀q,q<16→K4 c.reverse q=S q
 n:∀k∈c,k.n≤20
 lo:∀c1 k,c=c1++[k]→∀x∈c1,x.n≤3
 lg:d.lg+2000*c.length≤100000
theorem C2A {l D n:Nat} (h:l≤D+64*19) (h0:D+2000*(n+2)≤100000):l+2000*(n+1)≤100000:=by
 have h1:D+64*19+2000*(n+1)≤D+2000*(n+2):=by
  rw[Nat.add_assoc];refine Nat.add_le_add_left ?_ _;rw[show n+2=n+1+1 from rfl,Nat.mul_succ,Nat.add_comm];exact Nat.add_le_add_left (by decide) _
 exact Nat.le_trans (Nat.add_le_add_right h _) (Nat.le_trans h1 h0)
theorem Cms.two {S:Nat→Bs} {d:G4} {a:List Lk} {k1 k k' k1':Lk} {lg:Nat} (h:Cms S d ((a++[k1])++[k])) (hz:Cmt d k k1 a.reverse k' k1' lg):
 F9 ⟨d.room,B4 (B4 d.files k1.i.nm k1'.f) k.i.nm k'.f,lg⟩ ((a++[k1'])++k'::[])∧(∀x∈(a++[k1'])++k'::[],x.i.m.bk≠k'.i.nm)∧Cms S ⟨d.room,X8 (B4 (B4 d.files k1.i.nm k1'.f) k.i.nm k'.f) k'.i.nm,lg⟩ ((a++[k1'])++[]):=by
 have e1:(a++[k1])++[k]=a++k1::[k]:=by simp
 have e2:a++k1'::[k]=(a++[k1'])++k::[]:=by simp
 have hok:=h.h.ok;have hk1m:k1∈(a++[k1])++[k]:=by simp
 have hkm:k∈(a++[k1])++[k]:=by simp
 have hh1:=hok.hd k1 hk1m;have hh:=hok.hd k hkm;have hA:F9 ⟨d.room,B4 (B4 d.files k1.i.nm k1'.f) k.i.nm k'.f,lg⟩ ((a++[k1'])++k'::[]):=by
  have hok':=hok;rw[e1]at hok';have h1:=hok'.upd (k':=k1') hz.s1.nm hz.o1 (hz.s1.hd.trans hh1) lg;rw[e2]at h1;exact h1.upd (k':=k') hz.sm.nm hz.ok (hz.sm.hd.trans hh) lg
 have hfree:=Twr.free h.h;have hF:∀x∈(a++[k1'])++k'::[],x.i.m.bk≠k'.i.nm:=fun x hx=>by
  rw[hz.sm.nm];simp only[List.mem_append,List.mem_cons,List.not_mem_nil,or_false]at hx;rcases hx with(hx|hx)|hx
  ·exact hfree x (by simp[hx])
  ·rw[hx,hz.s1.bk];exact hfree k1 hk1m
  ·rw[hx,hz.sm.bk];exact hfree k hkm
 refine⟨hA,hF,?_⟩;have ht:Twr (a++[k1']):=by
  have h1:Twr (a++[k1]):=h.h.tw.pre;exact h1.pre.app (hz.s1.bk.trans (h1 a k1 [] rfl))
 have hlg:=hz.lg;have hlg0:=h.lg;refine⟨⟨hA.del,by rw[List.append_nil];exact ht,?_,fun x hx=>?_,h.h.rm⟩,fun q hq=>?_,fun x hx=>?_,fun c1 x e y hy=>?_,?_⟩
 ·rw[List.append_nil];have h1:=h.h.last.1;rw[iV]at h1⊢;rw[hz.s1.nm,h1];simp
 ·simp only[List.mem_append,List.mem_cons,List.not_mem_nil,or_false]at hx;rcases hx with hx|hx
  ·exact h.h.sz x (by simp[hx])
  ·rw[hx,hz.s1.sz];exact h.h.sz k1 hk1m
 ·rw[List.append_nil,Z1,hz.sec q,←h.sec q hq,Z1,Z1]
 ·simp only[List.mem_append,List.mem_cons,List.not_mem_nil,or_false]at hx;rcases hx with hx|hx
  ·exact h.n x (by simp[hx])
  ·have h1:=hz.n1;have h2:=h.lo (a++[k1]) k rfl k1 (by simp);rw[hx];omega
 ·rw[List.append_nil]at e;have h1:=(List.append_inj' e rfl).1;subst h1;exact h.lo (a++[k1]) k rfl y (by simp[hy])
 ·have h1:((a++[k1'])++([]:List Lk)).length=a.length+1:=by simp
  have h2:((a++[k1])++[k]).length=a.length+2:=by simp
  rw[h2]at hlg0;rw[h1];exact C2A hlg hlg0
def A2M:E4:=⟨T,D6,A7,A9,90,[],none,.f⟩
theorem B8s:B3 Tryz.prog A2M:=⟨C0,A2,A4⟩
theorem bB:F3 Tryz.prog A2M:=⟨tOk,B8s⟩
theorem C7P (n:Nat) (hn:n≤255) (cs:Bs) (hcs:0<cs.length∧cs.length≤20):C5 Tryz.prog 4 [int .u8 n,lst .byt cs] [] (fun _=>True) (fun _:Unit=>bool true) (fun _=>[]):=by
 refine I4 (E:=A2M) Tryz.func4 (fun M0 W hM0=>?_);obtain⟨K,hK⟩:∃K:Nat,K=1+n%8:=⟨_,rfl⟩
 have hK8:1≤K∧K≤8:=by omega
 refine G0 bB (fun _=>some false) [false] (fun bs=>?_) (fun bs=>?_)
 ·and_intros<;> first|exact trivial|exact rfl|omega|exact decide_eq_false (by omega)|(show(decide ((cs.length:Int)=0) || decide (20<(cs.length:Int)))=false;rw[decide_eq_false (by omega),decide_eq_false (by omega)];rfl)
 refine A5 [] (C6B K hK8 cs ⟨hcs.1,by omega⟩) (fun y hy=>?_) (hsim:=?hs1)
 case hs1=>
  rw[hK]
  and_intros<;> (first|exact wk_|refine A6 ?_|skip)
 obtain⟨⟨ba,bd,bm,na⟩,⟨T,S⟩,d,c⟩:=y;obtain⟨hy1,hy2⟩:=hy;simp only at hy1 hy2;obtain⟨c0,k,hck⟩:∃c0 k,c=c0++[k]:=by
  rcases A2d c with h|h
  ·rw[h]at hy2;simp at hy2;omega
  ·exact h
 subst hck;have hl0:c0.length+1=K:=by simpa using hy2
 have hH:=hy1.h;have hnm:=hH.last.2;have hsz:k.i.m.size=16:=hH.sz k (by simp);have hpt:=hH.pth;have hlg:=hy1.lg;have hKi:((K:Nat):Int)=1+(n:Int)%8:=by omega
 have hname:[UInt8.ofNat (IntKind.u8.wrap (97+(1+(n:Int)%8)-1)).toNat]=gO c0.length:=by
  rw[show(97:Int)+(1+(n:Int)%8)-1=97+(c0.length:Int) by omega];exact B3n (by omega)
 refine A3 bB [false] (fun bs=>?_);refine A5 [0,1,2,3] (oRd ba bd bm d (c0++[k]) hH.ok na T S k c0.reverse hpt 0 16 (by rw[hsz];decide) [] [] 0) (fun u _=>?_) (hsim:=?hs2)
 case hs2=>
  rw[hnm,←hname]
  and_intros<;> (first|exact wk_|refine A6 ?_|skip)
 obtain⟨X,hX⟩:∃X,X=W5 (k::c0.reverse) 0 16:=⟨_,rfl⟩
 rw[←hX];refine A3 bB [] (fun bs=>?_);have hC0:Cms (K4 (k::c0.reverse)) d (c0++[k]):=by
  refine⟨hH,fun q _=>by rw[Z1],fun x hx=>by have:=hy1.n x hx;omega,fun c1 x e y hy=>?_,?_⟩
  ·have h1:=(List.append_inj' e rfl).1;subst h1;exact hy1.n y (by simp[hy])
  ·have h8:=hH.ok.n;have:d.lg≤1000*8:=Nat.le_trans hlg (Nat.mul_le_mul_left _ h8);have h3:2000*(c0++[k]).length≤2000*8:=Nat.mul_le_mul_left _ h8;exact Nat.le_trans (Nat.add_le_add this h3) (by decide)
 refine L5 (fun q:((Nat→Prop)×(Nat→Prop))×G4×List Lk×Int×Nat=>[(6,.c (.ptr 0 ba 0)),(8,.c (.ptr 4 q.2.2.2.2 0)),(9,int .i64 ((q.2.2.1.length:Int)-1))]) (fun q=>aF ba bd bm q.2.1 q.2.2.1 q.2.2.2.1 q.1.1 q.1.2++[.blk q.2.2.2.2 31 [.pv (i64 0),.pv (.lst .byt X),.pv (.nil .str),.pv (.nil .spn),.pv (i64 0),.pv (i64 0)]]) (fun q=>Cms (K4 (k::c0.reverse)) q.2.1 q.2.2.1∧0<q.2.2.1.length) (fun q=>q.2.2.1.length) [0,1,2,3,5] (u.1,d,c0++[k],u.2,?b8) ⟨hC0,by simp⟩ ?wk2 (fun q hq=>?_)
 case wk2=>
  and_intros<;> (first|exact wk_|refine A6 ?_|skip)
  all_goals first|(show 1+(n:Int)%8-1=(((c0++[k]).length:Nat):Int)-1;rw[show(c0++[k]).length=K from hy2];omega)
 clear hlg hC0;obtain⟨⟨T3,S3⟩,d3,c,n3,b8⟩:=q;obtain⟨hq1,hq2⟩:=hq;simp only at hq1 hq2;have h8:=hq1.h.ok.n;refine A3 bB [] (fun bs=>?_);refine I6 rfl rfl (fun hk4=>?_) (fun hk4=>?_)
 ·have hk4:0<(c.length:Int)-1:=hk4;obtain⟨a,k1,kk,rfl⟩:∃a k1 kk,c=(a++[k1])++[kk]:=by
   rcases A2d c with h|⟨c1,x,h⟩
   ·rw[h]at hq2;cases hq2
   ·rcases A2d c1 with h2|⟨c2,y,h2⟩
    ·rw[h,h2]at hk4;simp at hk4
    ·exact⟨c2,y,x,by rw[h,h2]⟩
  have ha8:a.length+2≤8:=by have:=h8;simp at this;omega
  have hnk:=hq1.h.last.2;have hnk1:k1.i.nm=gO a.length:=by
   have:=hq1.h.last.1;rw[iV,List.length_append,List.length_cons,List.length_nil,Nat.zero_add,List.range_succ,List.map_append]at this;have:=(List.append_inj' this rfl).2;simpa using this
  have hle:(a++[k1])++[kk]=a++k1::([]++kk::[]):=by simp
  have hlen:((a++[k1])++[kk]).length=a.length+2:=by simp
  have hpk:eI (a++k1::([]++kk::[])) kk.i.nm (kk::k1::a.reverse):=by
   have:=hq1.h.pth;rw[Z1,hle]at this;exact this
  have hw3:[UInt8.ofNat (IntKind.u8.wrap (97+((((a++[k1])++[kk]).length:Int)-1))).toNat]=kk.i.nm:=by
   rw[hnk,hlen,show(97:Int)+(((a.length+2:Nat):Int)-1)=97+((a.length+1:Nat):Int) by omega,show(a++[k1]).length=a.length+1 by simp];exact B3n (by omega)
  have hlg3:=hq1.lg;have hlg4:d3.lg≤100000:=Nat.le_trans (Nat.le_add_right _ _) hlg3;have hr:=hq1.h.roomy (fun x hx=>by have:=hq1.n x hx;omega) (by omega);have hn1:k1.n≤3:=hq1.lo (a++[k1]) kk rfl k1 (by simp);have hn2:kk.n≤20:=hq1.n kk (by simp);have hcom:=C7H ba bd bm d3 a [] [] k1 kk a.reverse (by rw[←hle];exact hq1.h.ok) n3 T3 S3 hpk (by rw[←hle];exact Twr.free hq1.h) ((hq1.h.tw (a++[k1]) kk [] rfl).trans (U0 a k1)) (by rw[←hle,hnk1];exact hq1.h.abv1 _ (by omega)) (by rw[hq1.h.sz kk (by simp),hq1.h.sz k1 (by simp)]) 8 60 (by rw[←hle];exact hr) (by omega) (by omega) (by omega) [] [] 0 0 0;rw[←hle]at hcom
  refine A3 bB [] (fun bs=>?_);refine A5 [0,1,2,3] hcom (fun z hz=>?_) (hsim:=?hs4)
  case hs4=>
   rw[←hw3]
   and_intros<;> (first|exact wk_|refine A6 ?_|skip)
  obtain⟨⟨T4,S4⟩,k',k1',lg',n4⟩:=z;have hz:Cmt d3 kk k1 a.reverse k' k1' lg':=hz;obtain⟨hA,hF,hC⟩:=hq1.two hz;have hle2:a++k1'::([]++k'::[])=(a++[k1'])++k'::[]:=by simp
  have hlgC:=hC.lg;have hrem:=C5m ba bd bm ⟨d3.room,B4 (B4 d3.files k1.i.nm k1'.f) kk.i.nm k'.f,lg'⟩ (a++[k1']) [] k' hA n4 T4 S4 hF (Nat.le_trans (Nat.le_trans (Nat.le_add_right _ _) hlgC) (by decide)) [] [] 0 0 0;rw[←hle2]at hrem;refine N0 bB (fun _=>some false) [] (fun bs=>?_);refine A5 [0,1,2,3] hrem (fun v _=>?_) (hg:=by exact⟨_,rfl,rfl⟩) (hsim:=?hs5)
  case hs5=>
   rw[hz.sm.nm,←hw3]
   and_intros<;> (first|exact wk_|refine A6 ?_|skip)
  refine N0 bB (fun _=>some false) [false] (fun bs=>?_);have hlen3:((a++[k1'])++([]:List Lk)).length=a.length+1:=by simp
  refine H3 [0,1,2,3,4] (v.1,⟨d3.room,X8 (B4 (B4 d3.files k1.i.nm k1'.f) kk.i.nm k'.f) k'.i.nm,lg'⟩,(a++[k1'])++[],v.2,b8) ⟨⟨hC,by simp only[hlen3];omega⟩,by simp only[hlen3,hlen];omega⟩ (h:=?wk5)
  case wk5=>
   and_intros<;> (first|exact wk_|refine A6 ?_|skip)
   all_goals first|(show(((a++[k1])++[kk]).length:Int)-1-1=(((a++[k1'])++([]:List Lk)).length:Int)-1;rw[hlen,hlen3];omega)
 ·have hk4:¬(0<(c.length:Int)-1):=hk4;obtain⟨kk,rfl⟩:∃kk,c=[kk]:=by
   match c,hq2,hk4 with
   |[x],_,_=>exact⟨x,rfl⟩
   |x::y::l,_,h=>exact absurd (show 0<(((x::y::l).length:Nat):Int)-1 by simp only[List.length_cons];omega) h
  have hnk:kk.i.nm=gO 0:=(hq1.h.last (c:=[])).2;have hbk:kk.i.m.bk=[]:=hq1.h.tw [] kk [] rfl;have hp2:eI [kk] kk.i.nm [kk]:= .cons (by simp) (by rw[hbk];exact .nil);have hX2:W5 [kk] 0 16=X:=by
   rw[hX];exact B8i fun q hq=>hq1.sec q hq
  refine A3 bB [] (fun bs=>?_);refine A5 [0,1,2,3] (oRd ba bd bm d3 [kk] hq1.h.ok n3 T3 S3 kk [] hp2 0 16 (by rw[hq1.h.sz kk (by simp)];decide) [] [] 0) (fun v _=>?_) (hsim:=?hs6)
  case hs6=>
   rw[hnk]
   and_intros<;> (first|exact wk_|refine A6 ?_|skip)
  rw[hX2];refine G0 bB (fun _=>some true) [] (fun bs=>?_) (fun bs=>?_)
  ·and_intros<;> first|exact trivial|exact rfl|(simp;done)
  have hall:(decide ((0:Int)=0) && decide ((0:Int)=0) && decide (X=X))=true:=by simp
  refine A5 [] B3m (fun _ _=>?_) (hg:=by exact⟨_,rfl,congrArg (fun b=>some (Go.Mt.Ent.u (bool b))) hall⟩);refine G0 bB (fun _=>some true) [] (fun bs=>?_) (fun bs=>?_)
  ·and_intros<;> first|exact trivial|exact rfl|(simp;done)
  refine B6 bB () trivial [] (hr:=?hr)
  case hr=>
   and_intros<;> (first|exact wk_|refine A6 ?_|skip)
   all_goals first|(show rF (bool (decide ((0:Int)=0) && decide ((0:Int)=0) && decide (X=X) && true)) (bool true);rw[hall];exact rfl)
def uR:E4:=⟨T,D6,A7,A9,90,[],none,.f⟩
theorem B3p:B3 Tryz.prog uR:=⟨C0,A2,A4⟩
theorem A2N:F3 Tryz.prog uR:=⟨tOk,B3p⟩
theorem C6D (n:Nat) (hn:n≤255):C5 Tryz.prog 4 [int .u8 n,lst .byt []] [] (fun _=>True) (fun _:Unit=>bool true) (fun _=>[]):=by
 refine I4 (E:=uR) Tryz.func4 (fun M0 W hM0=>?_);refine G0 A2N (fun _=>some true) [true] (fun bs=>?_) (fun bs=>?_)
 ·and_intros<;> first|exact trivial|exact rfl
 refine A5 [] B3m (fun _ _=>?_);refine A3 A2N [] (fun bs=>?_);exact B6 A2N () trivial []
def uS:E4:=⟨T,D6,A7,A9,90,[],none,.f⟩
theorem B3q:B3 Tryz.prog uS:=⟨C0,A2,A4⟩
theorem A2O:F3 Tryz.prog uS:=⟨tOk,B3q⟩
theorem C6E (n:Nat) (hn:n≤255) (cs:Bs) (hcs:20<cs.length):C5 Tryz.prog 4 [int .u8 n,lst .byt cs] [] (fun _=>True) (fun _:Unit=>bool true) (fun _=>[]):=by
 refine I4 (E:=uS) Tryz.func4 (fun M0 W hM0=>?_);refine G0 A2O (fun _=>some false) [true] (fun bs=>?_) (fun bs=>?_)
 ·and_intros<;> first|exact trivial|exact rfl|exact decide_eq_false (by omega)|(show(decide ((cs.length:Int)=0) || decide (20<(cs.length:Int)))=true;rw[decide_eq_true (show 20<(cs.length:Int) by omega)];exact Bool.or_true _)
 refine A5 [] B3m (fun _ _=>?_);refine A3 A2O [] (fun bs=>?_);exact B6 A2O () trivial []
theorem C6F (n:Nat) (hn:n≤255) (cs:Bs):C5 (X:=Unit) Tryz.prog 4 [int .u8 n,lst .byt cs] [] (fun _=>True) (fun _=>bool true) (fun _=>[]):=by
 by_cases h:cs.length=0
 ·rw[List.eq_nil_of_length_eq_zero h];exact C6D n hn
 ·by_cases h2:20<cs.length
  ·exact C6E n hn cs h2
  ·exact C7P n hn cs ⟨by omega,by omega⟩
theorem B8t {b:Bool} {M:B8} {v:Value} {B:Nat→Prop} {w:World} (h:RA M (bool b) v):A5k M B w (.x (.c (bv b))) v:=by
 cases h with
 |c h=>cases h with
  |pv h=>exact h
theorem C6G (n:Int) (cs:Bs) (h:L8 .u8 n):aE Tryz.prog 3 true [int .u8 n,lst .byt cs] (.x (.c (bv true))):=by
 obtain⟨a,b⟩:=h;have b':n≤255:=by simpa[IntKind.max]using b
 obtain⟨m,rfl⟩:=Int.eq_ofNat_of_zero_le (show 0≤n by simpa[IntKind.min]using a);exact C5.toC (C4X m (by omega) cs) (fun _ M v B w hv=>B8t hv)
theorem C6K (n:Int) (cs:Bs) (h:L8 .u8 n):aE Tryz.prog 4 true [int .u8 n,lst .byt cs] (.x (.c (bv true))):=by
 obtain⟨a,b⟩:=h;have b':n≤255:=by simpa[IntKind.max]using b
 obtain⟨m,rfl⟩:=Int.eq_ofNat_of_zero_le (show 0≤n by simpa[IntKind.min]using a);exact C5.toC (C6F m (by omega) cs) (fun _ M v B w hv=>B8t hv)
end
end Go.Proofs.YtgmeedgkjlfpeaaGreat
