/-
  The program library and the walks of this claim, part 4 of 6.
-/
import Derived.Test.YtgmeedgkjlfpeaaGreatQ3
import Derived.Tactics
import Derived.Tactics2
import Derived.Laws.Pointers
import Derived.Laws.LoneSync
set_option linter.unusedSimpArgs false
set_option linter.unusedVariables false
set_option maxHeartbeats 4000000
namespace Go.Proofs.YtgmeedgkjlfpeaaGreat
open Go.Mt
noncomputable section
def b8 (n:Nat):UInt8:=UInt8.ofNat n
def V7 (n:Nat):Bs:=if n<15 then[]else List.replicate ((n-15) / 255) 255++[b8 ((n-15)%255)]
def jH (l n:Nat):UInt8:=b8 (min l 15*16+(if n=0 then 0 else min (n-4) 15))
def pO (p:Bs) (d n:Nat):Bs:=jH p.length n::(V7 p.length++p++(if n=0 then[]else b8 d::b8 (d / 256)::V7 (n-4)))
def A0G:D9:=⟨T,aN,A7,A9,22,[],none,.f⟩
theorem B6O:B1 Tryz.prog A0G:=⟨Q8,A2,A4⟩
theorem eU:F0 Tryz.prog A0G:=⟨tOk,B6O⟩
theorem C3r (v:Value) (l:Bs) (n:Nat) (hn:n≤1000000000) (hl:l.length≤1000000000):C5 Tryz.prog 307 [.c (.own 0 v),int .i64 n] [.own v 5 .byt l] (fun _=>True) (fun v':Value=> .c (.own 0 v')) (fun v'=>[.own v' 5 .byt (l++V7 n)]):=by
 refine I6 (E:=A0G) Tryz.func307 (fun M0 W hM0=>?_);refine A3 eU [] (fun bs=>?_);refine I4 rfl rfl (fun h=>?_) (fun h=>?_)
 ·have e:V7 n=[]:=by unfold V7;rw[if_pos (by omega)]
  rw[e,List.append_nil];refine A3 eU [] (fun bs=>?_);exact B3 eU v trivial [0]
 ·have hn15:15≤n:=by omega
  have e:V7 n=List.replicate ((n-15) / 255) 255++[b8 ((n-15)%255)]:=by unfold V7;rw[if_neg (by omega)]
  refine A3 eU [] (fun bs=>?_);refine V3 (fun p:Nat×Value=>[(0,.c (.own 0 p.2)),(1,int .i64 ((n-15-255*p.1:Nat):Int))]) (fun p=>[.own p.2 5 .byt (l++List.replicate p.1 255)]) (fun p=>p.1≤(n-15) / 255) (fun p=>(n-15) / 255-p.1) [0] (0,v) (Nat.zero_le _) (fun p hp=>?_);obtain⟨j,v1⟩:=p;simp only at hp;refine A3 eU [] (fun bs=>?_);refine I4 rfl rfl (fun hk=>?_) (fun hk=>?_)
  ·have hj:j<(n-15) / 255:=by omega
   refine A3 eU [] (fun bs=>?_);refine G3 [2] (j+1,?vn) ?ok1 ?wk1
   case ok1=>exact⟨hj,by simp only;omega⟩
   case wk1=>
    and_intros<;> (first|exact wk_|refine A6 ?_|skip)
    all_goals first|(simp;omega)|(rw[List.replicate_succ',←List.append_assoc];rfl)
  ·have hj:j=(n-15) / 255:=by omega
   subst hj;have hw:IntKind.u8.wrap ((n-15-255*((n-15) / 255):Nat):Int)=(((n-15)%255:Nat):Int):=by rw[IntKind.wrap_u8];omega
   have h1:=uG ((n-15-255*((n-15) / 255):Nat):Int);have h2:=uH ((n-15-255*((n-15) / 255):Nat):Int);refine A3 eU [] (fun bs=>?_);refine B3 eU ?v3 trivial [2] (hl:=?hl)
   case hl=>
    and_intros<;> (first|exact wk_|refine A6 ?_|skip)
    all_goals(rw[e,←List.append_assoc];exact congrArg (fun t=>(l++List.replicate ((n-15) / 255) 255)++[t]) (congrArg UInt8.ofNat (by rw[hw];rfl)))
theorem C0l:∀a:Fin 16,∀b:Fin 16,ior .i64 ((a.val:Int)*2 ^ (4:Int).toNat) (b.val:Int)=((a.val*16+b.val:Nat):Int):=by decide+kernel
theorem C3s {x y:Nat} (hy:4≤y):ior .i64 (min (x:Int) 15*2 ^ (4:Int).toNat) (min ((y:Int)-4) 15)=((min x 15*16+min (y-4) 15:Nat):Int):=by
 have:=C0l ⟨min x 15,by omega⟩ ⟨min (y-4) 15,by omega⟩;rw[←this]
 congr 2<;> simp<;> omega
theorem B6P {x:Nat} (h:x<256):UInt8.ofNat (IntKind.u8.wrap (x:Int)).toNat=b8 x:=by
 have:IntKind.u8.wrap (x:Int)=x:=by rw[IntKind.wrap_u8];omega
 rw[this];rfl
theorem B0c (x:Nat):UInt8.ofNat (IntKind.u8.wrap (x:Int)).toNat=b8 x:=by
 have:IntKind.u8.wrap (x:Int)=((x%256:Nat):Int):=by rw[IntKind.wrap_u8];omega
 rw[this];apply UInt8.toNat_inj.1;simp[b8];omega
def A0H:D9:=⟨T,aN,A7,A9,46,[],none,.f⟩
theorem B6Q:B1 Tryz.prog A0H:=⟨Q8,A2,A4⟩
theorem iF:F0 Tryz.prog A0H:=⟨tOk,B6Q⟩
theorem C5E (v:Value) (l p:Bs) (d n:Nat) (hd:d≤65535) (hn:n≤100000000) (hn4:n=0∨4≤n) (hp:p.length≤100000000) (hl:l.length≤100000000):C5 Tryz.prog 295 [.c (.own 0 v),lst .byt p,int .i64 d,int .i64 n] [.own v 5 .byt l] (fun _=>True) (fun v':Value=> .c (.own 0 v')) (fun v'=>[.own v' 5 .byt (l++pO p d n)]):=by
 refine I6 (E:=A0H) Tryz.func295 (fun M0 W hM0=>?_);have hal:(V7 p.length).length≤100000000:=by unfold V7;split<;> simp<;> omega
 rcases hn4 with rfl|hn4
 ·have et:UInt8.ofNat (IntKind.u8.wrap (min (p.length:Int) 15*2 ^ (4:Int).toNat)).toNat=jH p.length 0:=by
   rw[show min (p.length:Int) 15*2 ^ (4:Int).toNat=((min p.length 15*16:Nat):Int) by simp;omega,B6P (by omega)];simp[jH]
  refine A3 iF [false] (fun bs=>?_);refine A5 [2] (C3r ?v1 (l++[jH p.length 0]) p.length (by omega) (by simp;omega)) (fun v2 _=>?_) (hl:=?hl1)
  case hl1=>
   and_intros<;> (first|exact wk_|refine A6 ?_|skip)
   all_goals rw[et]
  refine A3 iF [true] (fun bs=>?_);refine B3 iF ?v3 trivial [3] (hl:=?hl2)
  case hl2=>
   and_intros<;> (first|exact wk_|refine A6 ?_|skip)
   all_goals simp[pO]
 ·have et:UInt8.ofNat (IntKind.u8.wrap (ior .i64 (min (p.length:Int) 15*2 ^ (4:Int).toNat) (min ((n:Int)-4) 15))).toNat=jH p.length n:=by
   rw[C3s hn4,B6P (by omega)];unfold jH;rw[if_neg (by omega)]
  refine A3 iF [true] (fun bs=>?_);refine A5 [2] (C3r ?v4 (l++[jH p.length n]) p.length (by omega) (by simp;omega)) (fun v2 _=>?_) (hl:=?hl3)
  case hl3=>
   and_intros<;> (first|exact wk_|refine A6 ?_|skip)
   all_goals rw[et]
  refine A3 iF [false] (fun bs=>?_);have e1:UInt8.ofNat (IntKind.u8.wrap (d:Int)).toNat=b8 d:=B0c d;have e2:UInt8.ofNat (IntKind.u8.wrap ((d:Int) / 2 ^ (8:Int).toNat)).toNat=b8 (d / 256):=by rw[show((d:Int) / 2 ^ (8:Int).toNat)=((d / 256:Nat):Int) by simp];exact B0c _
  refine A5 [5] (C3r ?v5 (l++[jH p.length n]++V7 p.length++p++[b8 d,b8 (d / 256)]) (n-4) (by omega) (by simp;omega)) (fun v3 _=>?_) (hl:=?hl4)
  case hl4=>
   and_intros<;> (first|exact wk_|refine A6 ?_|skip)
   all_goals rw[e1,e2]
  refine A3 iF [] (fun bs=>?_);refine B3 iF v3 trivial [5] (hl:=?hl5)
  case hl5=>
   and_intros<;> (first|exact wk_|refine A6 ?_|skip)
   all_goals(
    have:n≠0:=by omega
    simp[pO,this])
def cpy (o:Bs) (d:Nat):Nat→Bs
 |0=>o
 |n+1=>cpy o d n++[(cpy o d n).getD ((cpy o d n).length-d) 0]
theorem wL (o:Bs) (d:Nat):∀n,(cpy o d n).length=o.length+n:=by
 intro n
 induction n with
 |zero=>rfl
 |succ n ih=>simp[cpy,ih];omega
inductive Pk:Bs→Bs→Bs→Prop
 |last (o p:Bs):Pk o (pO p 0 0) (o++p)
 |step (o p:Bs) (d n:Nat) (r x:Bs) (h1:0<d) (h2:d≤(o++p).length) (h3:d≤65535) (h4:4≤n) (h:Pk (cpy (o++p) d n) r x):Pk o (pO p d n++r) x
theorem Pk.le {o r x:Bs} (h:Pk o r x):o.length≤x.length:=by
 induction h with
 |last o p=>simp
 |step o p d n r x _ _ _ _ _ ih=>rw[wL]at ih;simp at ih;omega
theorem Pk.ne {o r x:Bs} (h:Pk o r x):r≠[]:=by
 cases h<;> simp[pO]
theorem A4V (n:Nat):(V7 n).length≤n:=by unfold V7;split<;> simp<;> omega
theorem C0m (p:Bs) (d n:Nat) (h:4≤n):(pO p d n).length≤2*(p.length+n):=by
 have h1:=A4V p.length;have h2:=A4V (n-4);unfold pO;rw[if_neg (by omega)];simp;omega
theorem B6R (p:Bs) (d:Nat):(pO p d 0).length≤2*p.length+1:=by
 have h1:=A4V p.length;simp[pO];omega
def sF (b:Bs) (a:Nat) (m:List (KK.byt.T×VK.int.T)):Prop:=∀k p,H9 m k=some p→∃q:Nat,p=q∧q<a∧q+4≤b.length∧(b.drop q).take 4=k
theorem sF.set {b:Bs} {a:Nat} {m:List (KK.byt.T×VK.int.T)} (h:sF b a m) (ha:a+4≤b.length) {a':Nat} (h':a<a'):sF b a' (C1 m ((b.drop a).take 4) (a:Int)):=by
 intro k p hp;rw[U3]at hp;split at hp
 ·rename_i e;cases hp;exact⟨a,rfl,h',ha,e.symm⟩
 ·obtain⟨q,e,q1,q2,q3⟩:=h k p hp;exact⟨q,e,by omega,q2,q3⟩
theorem C0n {b:Bs} {a q:Nat} (hq:q<a):∀n,(∀i,i<n→b[q+i]? =b[a+i]?)→a+n≤b.length→cpy (b.take a) (a-q) n=b.take (a+n):=by
 intro n
 induction n with
 |zero=>intro _ _;rfl
 |succ n ih=>
  intro h1 h2;have e:=ih (fun i hi=>h1 i (by omega)) (by omega);have hl:(b.take (a+n)).length=a+n:=by simp;omega
  simp only[cpy,e,hl];rw[show a+(n+1)=(a+n)+1 by omega,List.take_add_one]
  congr 1
  have h3:=h1 n (by omega);rw[gE_ (by omega:a+n<b.length)]at h3;have e4:(List.take (a+n) b)[q+n]? =b[q+n]? :=by rw[List.getElem?_take,if_pos (by omega)]
  rw[List.getD,show a+n-(a-q)=q+n by omega,e4,h3,gE_ (by omega:a+n<b.length)];rfl
def lV (l:Bs):Bs:=[UInt8.ofNat ((l.getD 0 0).toNat:Int).toNat,UInt8.ofNat ((l.getD (0+1) 0).toNat:Int).toNat,UInt8.ofNat ((l.getD (0+1+1) 0).toNat:Int).toNat,UInt8.ofNat ((l.getD (0+1+1+1) 0).toNat:Int).toNat]
theorem C0o {l:Bs} (h:l.length=4):lV l=l:=by
 match l,h with
 |[a0,a1,a2,a3],_=>simp[lV]
def sG:D9:=⟨T,aN,A7,A9,86,[],none,.f⟩
theorem B2d:B1 Tryz.prog sG:=⟨Q8,A2,A4⟩
theorem K5:F0 Tryz.prog sG:=⟨tOk,B2d⟩
theorem C5F (b:Bs) (hb:b.length≤1000000):C5 Tryz.prog 283 [lst .byt b] [] (fun x:Value×Bs=>Pk [] x.2 b∧x.2.length≤2000001) (fun x=> .c (.own 0 x.1)) (fun x=>[.own x.1 5 .byt x.2]):=by
 refine I6 (E:=sG) Tryz.func283 (fun M0 W hM0=>?_);refine A3 K5 [false] (fun bs=>?_);refine lZ 4 5 rfl ?_;refine V3 (fun p:Nat×Nat×Bs×Value×List (KK.byt.T×VK.int.T)×Nat=>[(0,lst .byt b),(3,.c (.mpt 0 p.2.2.2.2.2)),(4,.c (.own 1 p.2.2.2.1)),(5,int .i64 p.2.1),(6,int .i64 p.1)]) (fun p=>[.mp p.2.2.2.2.2 .byt .int p.2.2.2.2.1,.own p.2.2.2.1 5 .byt p.2.2.1])
  (fun p=>(p.2.1≤p.1∧p.1≤b.length)∧p.2.2.1.length≤2*p.2.1∧sF b p.1 p.2.2.2.2.1∧∀r x,Pk (b.take p.2.1) r x→Pk [] (p.2.2.1++r) x) (fun p=>b.length-p.1) [0,1] (0,0,[],.slice none 0 0,[],_) ⟨⟨Nat.le_refl _,Nat.zero_le _⟩,Nat.le_refl _,(fun k p h=>by cases h),fun r x h=>h⟩ (fun p hp=>?_)
 obtain⟨a,f,out,v,m,bm⟩:=p;obtain⟨⟨h1,h2⟩,h3,h4,h5⟩:=hp;simp only at h1 h2 h3 h4 h5;refine A3 K5 [] (fun bs=>?_);refine I4 rfl rfl (fun hk=>?_) (fun hk=>?_)
 ·have ha:a+4≤b.length:=by omega
  refine A3 K5 [] (fun bs=>?_);refine vR 5 ?_;refine X4 1 ?_;refine X4 2 ?_;refine C4u 3 K5 ?_;refine F7 0 K5 (fun _=>?_);refine F7 4 K5 (fun _=>?_);refine iV ?_;refine C8 K5 1 (fun _=>none) (fun bs=>?_);refine X3 [0,1,2] [(0,lst .byt b),(3,.c (.mpt 0 bm)),(4,.c (.own 1 v)),(5,int .i64 f),(6,int .i64 a),(7,.c (.ptr 2 ?bb 0))] [.mp bm .byt .int m,.own v 5 .byt out,.own (.slice (some ⟨?bb,0,none⟩) 4 4) 424 .byt ((b.drop a).take 4)] ?_ (h:=?wk1)
  case wk1=>
   and_intros<;> (first|exact wk_|refine A6 ?_|skip)
   all_goals(simp;omega)
  have hk4:((b.drop a).take 4).length=4:=by simp;omega
  have hkr:=C0o hk4;obtain⟨w,hwe,hw0,hw1⟩:∃w:Int,O8 VK.int.dft (H9 m (lV ((b.drop a).take 4)))=w∧0≤w∧w≤a:=by
   cases hm:H9 m (lV ((b.drop a).take 4))with
   |none=>exact⟨0,rfl,by omega,by omega⟩
   |some p=>obtain⟨q,e,q1,_⟩:=h4 _ p hm;subst e;exact⟨q,rfl,by omega,by omega⟩
  refine Q2 K5 [] (fun bs=>?_) (fun bs=>?_)
  ·and_intros<;> first|exact trivial|omega|exact rfl|exact A2I _|(intro _;first|exact trivial|(show L1 .i64 ((a:Int)-O8 VK.int.dft (H9 m (lV ((b.drop a).take 4))));rw[hwe];simp only[L1];omega))
  refine C6 rfl rfl (fun h=>?_) (fun h=>?_)
  ·refine A3 K5 [] (fun bs=>?_);refine G3 [0,1] (a+1,f,out,v,C1 m (lV ((b.drop a).take 4)) (a:Int),bm) ⟨⟨⟨by show f≤a+1;omega,by show a+1≤b.length;omega⟩,h3,by show sF b (a+1) (C1 m (lV _) (a:Int));rw[hkr];exact h4.set ha (Nat.lt_succ_self a),h5⟩,by simp only;omega⟩ ?wk2
   case wk2=>
    and_intros<;> (first|exact wk_|refine A6 ?_|skip)
  ·have hh:A5V (H9 m (lV ((b.drop a).take 4)))=true∧(a:Int)-O8 VK.int.dft (H9 m (lV ((b.drop a).take 4)))≤65535:=by
    have h':((!A5V (H9 m (lV ((b.drop a).take 4)))) || decide (65535<(a:Int)-O8 VK.int.dft (H9 m (lV ((b.drop a).take 4)))))=false:=h;simpa using h'
   cases hm:H9 m (lV ((b.drop a).take 4))with
   |none=>rw[hm]at hh;cases hh.1
   |some p=>
   obtain⟨q,e,q1,q2,q3⟩:=h4 _ p hm;subst e;have hqd:a-q≤65535:=by have:=hh.2;rw[hm]at this;simp[O8]at this;omega
   rw[hkr]at q3;have hm4:∀i,i<4→b[q+i]? =b[a+i]? :=fun i hi=>by
    have:=congrArg (fun l:Bs=>l[i]?) q3;simpa only[List.getElem?_take,hi,if_true,List.getElem?_drop]using this
   refine A3 K5 [] (fun bs=>?_);refine K3 (fun n:Nat=>[(0,lst .byt b),(3,.c (.mpt 0 bm)),(4,.c (.own 1 v)),(5,int .i64 f),(6,int .i64 a),(8,int .i64 q),(10,int .i64 n)]) (fun n=>[.mp bm .byt .int (C1 m (lV ((b.drop a).take 4)) (a:Int)),.own v 5 .byt out])
    (fun n=>4≤n∧a+n≤b.length∧∀i,i<n→b[q+i]? =b[a+i]?) (fun n=>b.length-(a+n)) [0,1] 4 ⟨Nat.le_refl _,ha,hm4⟩ ?wk3 (fun n hn=>?_)
   case wk3=>
    and_intros<;> (first|exact wk_|refine A6 ?_|skip)
    all_goals(show O8 VK.int.dft (H9 m (lV ((b.drop a).take 4)))=_;rw[hm];rfl)
   obtain⟨n1,n2,n3⟩:=hn;refine A3 K5 [] (fun bs=>?_);refine R3 K5 19 [0,0,3,0,8,31,63,127,127,127,895,2047,4095,127,127,127,49279,123007,254079,524287,1048575] [] (fun bs=>?_);refine A3 K5 [] (fun bs=>?_);refine C6 rfl rfl (fun h=>?_) (fun h=>?_)
   ·have hl:a+n<b.length∧b.getD (q+n) 0=b.getD (a+n) 0:=by
     have h':(decide ((a:Int)+n<b.length) && decide (((b.getD ((q:Int)+n).toNat 0).toNat:Int)=((b.getD ((a:Int)+n).toNat 0).toNat:Int)))=true:=h;rw[show((q:Int)+n).toNat=q+n by omega,show((a:Int)+n).toNat=a+n by omega]at h';simp only[Bool.and_eq_true,decide_eq_true_eq]at h';exact⟨by omega,UInt8.toNat_inj.1 (by omega)⟩
    refine A3 K5 [] (fun bs=>?_);exact I0 [0,1] (n+1) ⟨⟨by omega,by omega,fun i hi=>by
     by_cases hin:i<n
     ·exact n3 i hin
     ·have:i=n:=by omega
      subst this;have h2:=hl.2;rw[List.getD,List.getD,gE_ (by omega:q+i<b.length),gE_ hl.1]at h2;rw[gE_ (by omega:q+i<b.length),gE_ hl.1];exact congrArg some h2⟩,by omega⟩
   ·have hsl:out.length≤100000000:=by omega
    have hP:((b.take a).drop f).length=a-f:=by simp;omega
    have hcat:b.take f++(b.take a).drop f=b.take a:=by
     rw[show b.take f=(b.take a).take f by rw[List.take_take,Nat.min_eq_left h1]];exact List.take_append_drop f (b.take a)
    refine A3 K5 [] (fun bs=>?_);refine A5 [1] (C5E v out ((b.take a).drop f) (a-q) n hqd (by omega) (.inr n1) (by omega) hsl) (fun v2 _=>?_);refine A3 K5 [] (fun bs=>?_);refine G3 [0,1] (a+n,a+n,out++pO ((b.take a).drop f) (a-q) n,v2,C1 m (lV ((b.drop a).take 4)) (a:Int),bm) ⟨⟨⟨Nat.le_refl _,n2⟩,?len,?seen,?enc⟩,by simp only;omega⟩ ?wk4
    case len=>
     have:=C0m ((b.take a).drop f) (a-q) n n1;show(out++_).length≤2*(a+n);rw[List.length_append];omega
    case seen=>
     show sF b (a+n) (C1 m (lV _) (a:Int));rw[hkr];exact h4.set ha (by omega)
    case enc=>
     intro r x hx;have hx':Pk (b.take (a+n)) r x:=hx;rw[←C0n q1 n n3 n2,←hcat]at hx';have:=h5 _ _ (Pk.step (b.take f) ((b.take a).drop f) (a-q) n r x (by omega) (by rw[hcat];simp;omega) hqd n1 hx');show Pk [] ((out++_)++r) x;rw[List.append_assoc];exact this
    case wk4=>
     and_intros<;> (first|exact wk_|refine A6 ?_|skip)
 ·have hsl:out.length≤100000000:=by omega
  have hbt:b.take ((b.length:Nat):Int).toNat=b:=by simp
  refine A3 K5 [] (fun bs=>?_);refine A5 [1] (C5E v out ((b.take ((b.length:Nat):Int).toNat).drop f) 0 0 (by omega) (by omega) (.inl rfl) (by rw[hbt];simp;omega) hsl) (fun v2 _=>?_);refine A3 K5 [] (fun bs=>?_);refine B3 K5 (v2,out++pO ((b.take ((b.length:Nat):Int).toNat).drop f) 0 0) ⟨?enc2,?len2⟩ [1]
  case enc2=>
   have:=h5 _ _ (Pk.last (b.take f) (b.drop f));rw[List.take_append_drop]at this;simp only[hbt];exact this
  case len2=>
   have:=B6R (b.drop f) 0;simp only[hbt,List.length_append];simp at this;omega
def sH:D9:=⟨T,aN,A7,A9,15,[],none,.f⟩
theorem B2e:B1 Tryz.prog sH:=⟨Q8,A2,A4⟩
theorem A6q:F0 Tryz.prog sH:=⟨tOk,B2e⟩
theorem A6r (ba bb:Nat) (b:Bs) (i:Nat) (hi:i<b.length) (hb:b.length≤100000000):C5 Tryz.prog 261 [.c (.ptr 0 ba 0),.c (.ptr 1 bb 0)] [.blk ba 3 [.pv (i64 i)],.blk bb 22 [.pv (.lst .byt b)]] (fun _=>True) (fun _:Unit=> .t [int .u8 (b.getD i LK.byt.dft).toNat,bool true]) (fun _=>[.blk ba 3 [.pv (i64 (i+1:Nat))],.blk bb 22 [.pv (.lst .byt b)]]):=by
 refine I6 (E:=sH) Tryz.func261 (fun M0 W hM0=>?_);have e:((i:Int)+1-1).toNat=i:=by omega
 refine A3 A6q [false] (fun bs=>?_);refine B3 A6q () trivial [0,1] (hr:=?hr)
 case hr=>
  and_intros<;> (first|exact wk_|refine A6 ?_|skip)
  all_goals(rw[e])
def vG (ba bb bn:Nat) (b:Bs) (i:Nat):List HB:=[.blk ba 3 [.pv (i64 i)],.blk bb 22 [.pv (.lst .byt b)],.blk bn 392 [.clo 261 [.ptr 0 ba 0,.ptr 1 bb 0]]]
def A0I:D9:=⟨T,aN,A7,A9,27,[],none,.f⟩
theorem B6S:B1 Tryz.prog A0I:=⟨Q8,A2,A4⟩
theorem eV:F0 Tryz.prog A0I:=⟨tOk,B6S⟩
theorem C5G (ba bb bn:Nat) (b:Bs) (i m:Nat) (r:Bs) (h:b.drop i=V7 m++r) (hb:b.length≤100000000) (hm:m≤100000000):C5 Tryz.prog 262 [int .i64 (min m 15:Nat),.c (.ptr 2 bn 0)] (vG ba bb bn b i) (fun _=>True) (fun _:Unit=> .t [int .i64 m,bool true]) (fun _=>vG ba bb bn b (i+(V7 m).length)):=by
 refine I6 (E:=A0I) Tryz.func262 (fun M0 W hM0=>?_);by_cases h15:m<15
 ·have e:V7 m=[]:=by unfold V7;rw[if_pos h15]
  rw[e];refine A3 eV [] (fun bs=>?_);refine V3 (fun j:Nat=>[(0,int .i64 (min m 15:Nat)),(1,.c (.ptr 2 bn 0)),(5,int .u8 255)]) (fun j=>vG ba bb bn b i) (fun _=>True) (fun _=>0) [0,1,2] 0 trivial (fun j _=>?_);refine L7 eV (fun _=>some false) [false] (fun bs=>?_);refine B3 eV () trivial [0,1,2] (hr:=?hr)
  case hr=>
   and_intros<;> (first|exact wk_|refine A6 ?_|skip)
   all_goals omega
 ·obtain⟨q,hq⟩:∃q,q=(m-15) / 255:=⟨_,rfl⟩
  obtain⟨t,ht⟩:∃t,t=(m-15)%255:=⟨_,rfl⟩
  have hmq:m=15+255*q+t:=by omega
  have ht2:t<255:=by omega
  have e:V7 m=List.replicate q 255++[b8 t]:=by unfold V7;rw[if_neg h15,hq,ht]
  have hbl:i+(q+1)≤b.length:=by have:=congrArg List.length h;rw[e]at this;simp at this;omega
  have hat:∀j,j≤q→b.getD (i+j) LK.byt.dft=if j<q then 255 else b8 t:=fun j hj=>by
   have h2:(b.drop i)[j]? =(V7 m++r)[j]? :=by rw[h]
   rw[List.getElem?_drop,e]at h2;rw[List.getD,h2];split
   ·rename_i hl;rw[List.getElem?_append_left (by simp;omega),List.getElem?_append_left (by simpa using hl)];simp[hl]
   ·have:j=q:=by omega
    subst this;rw[List.getElem?_append_left (by simp),List.getElem?_append_right (by simp)];simp
  have ht8:((b8 t).toNat:Int)=t:=by simp[b8];omega
  rw[show min m 15=15 by omega,show i+(V7 m).length=i+(q+1) by rw[e];simp];refine A3 eV [] (fun bs=>?_);refine V3 (fun p:Nat×Nat×Int=>[(0,int .i64 p.2.1),(1,.c (.ptr 2 bn 0)),(5,int .u8 p.2.2)]) (fun p=>vG ba bb bn b (i+p.1)) (fun p=>(p.1≤q∧p.2.1=15+255*p.1∧p.2.2=255)∨(p.1=q+1∧p.2.1=m∧p.2.2=t)) (fun p=>q+1-p.1) [0,1,2] (0,15,255) (.inl ⟨Nat.zero_le _,rfl,rfl⟩) (fun p hp=>?_);obtain⟨j,n,x⟩:=p;simp only at hp;rcases hp with⟨hj,rfl,rfl⟩|⟨rfl,rfl,rfl⟩
  ·refine L7 eV (fun _=>some true) [true] (fun bs=>?_);refine A5 [0,1] (A6r ba bb b (i+j) (by omega) hb) (fun _ _=>?_);have hu:=(b.getD (i+j) LK.byt.dft).toNat_lt;have hv:=hat j hj;refine A3 eV [false] (fun bs=>?_);by_cases hjq:j<q
   ·rw[if_pos hjq]at hv;refine G3 [0,1,2] (j+1,15+255*(j+1),255) ⟨.inl ⟨hjq,rfl,rfl⟩,by simp only;omega⟩ ?wk1
    case wk1=>
     and_intros<;> (first|exact wk_|refine A6 ?_|skip)
     all_goals first|(rw[hv];simp;omega)|(rw[hv];rfl)
   ·rw[if_neg hjq]at hv;refine G3 [0,1,2] (j+1,m,t) ⟨.inr ⟨by simp only;omega,rfl,rfl⟩,by simp only;omega⟩ ?wk2
    case wk2=>
     and_intros<;> (first|exact wk_|refine A6 ?_|skip)
     all_goals first|(rw[hv];simp only[ht8];omega)|(rw[hv];exact ht8)
  ·refine L7 eV (fun _=>some true) [false] (fun bs=>?_);exact B3 eV () trivial [0,1,2]
theorem C0p {a b:Nat} (ha:a<256) (hb:b<256):ior .i64 (a:Int) ((b:Int)*2 ^ (8:Int).toNat)=((a+b*256:Nat):Int):=by
 rw[show(b:Int)*2 ^ (8:Int).toNat=((b*256:Nat):Int) by simp];simp only[ior];have h1:BitVec.ofInt IntKind.i64.bits ((b*256:Nat):Int)=BitVec.ofNat 64 (b*256):=BitVec.ofInt_natCast ..;have h2:BitVec.ofInt IntKind.i64.bits (a:Int)=BitVec.ofNat 64 a:=BitVec.ofInt_natCast ..;rw[h1,h2];have h3:(BitVec.ofNat 64 a ||| BitVec.ofNat 64 (b*256)).toNat=a+b*256:=by
  rw[BitVec.toNat_or,BitVec.toNat_ofNat,BitVec.toNat_ofNat,Nat.mod_eq_of_lt (by omega),Nat.mod_eq_of_lt (by omega)];have:=Nat.two_pow_add_eq_or_of_lt (i:=8) (b:=a) (by omega) b;rw[Nat.or_comm,show b*256=2 ^ 8*b by omega,←this];omega
 have key:∀n:Nat,n=a+b*256→IntKind.i64.wrap (n:Int)=((a+b*256:Nat):Int):=by
  intro n hn;subst hn;apply bH;simp only[L1];omega
 exact key _ h3
theorem C5H {d:Nat} (h:d≤65535):ior .i64 ((b8 d).toNat:Int) (((b8 (d / 256)).toNat:Int)*2 ^ (8:Int).toNat)=(d:Int):=by
 rw[C0p (b8 d).toNat_lt (b8 (d / 256)).toNat_lt];simp[b8];omega
theorem A6s (l n:Nat):(jH l n).toNat=min l 15*16+(if n=0 then 0 else min (n-4) 15):=by
 unfold jH b8;simp;split<;> omega
theorem C3t (l n:Nat):((jH l n).toNat:Int) / 2 ^ (4:Int).toNat=((min l 15:Nat):Int):=by
 rw[A6s];simp;split<;> omega
theorem C5I:∀a:Fin 256,B3o .u8 (a.val:Int) 15=((a.val%16:Nat):Int):=by decide+kernel
theorem B6T (l n:Nat) (h:4≤n):B3o .u8 ((jH l n).toNat:Int) 15=((min (n-4) 15:Nat):Int):=by
 have:=C5I ⟨(jH l n).toNat,(jH l n).toNat_lt⟩;simp only at this;rw[this,A6s,if_neg (by omega)]
 congr 1;omega
theorem A4W {b r:Bs} {i:Nat} {c:UInt8} (h:b.drop i=c::r):i<b.length∧b.getD i LK.byt.dft=c∧b.drop (i+1)=r:=by
 have h1:i<b.length:=by
  rcases Nat.lt_or_ge i b.length with h2|h2
  ·exact h2
  ·rw[List.drop_eq_nil_of_le h2]at h;cases h
 rw[List.drop_eq_getElem_cons h1]at h;cases h;exact⟨h1,by rw[List.getD,gE_ h1];rfl,rfl⟩
theorem A6t {b l r:Bs} {i:Nat} (h:b.drop i=l++r):b.drop (i+l.length)=r∧i+l.length≤b.length∨b.length≤i∧l=[]∧r=[]:=by
 rcases Nat.lt_or_ge i b.length with h2|h2
 ·refine .inl ⟨by rw[←List.drop_drop,h];simp,?_⟩;have:=congrArg List.length h;simp at this;omega
 ·rw[List.drop_eq_nil_of_le h2]at h;have:=List.append_eq_nil_iff.1 h.symm;exact .inr ⟨h2,this.1,this.2⟩
theorem Pk.next {o r x:Bs} (h:Pk o r x):∃(p:Bs) (n:Nat) (tl:Bs),r=jH p.length n::(V7 p.length++(p++tl))∧(o++p).length≤x.length∧
 ((tl=[]∧x=o++p)∨∃(d:Nat) (r':Bs),tl=b8 d::b8 (d / 256)::(V7 (n-4)++r')∧0<d∧d≤(o++p).length∧d≤65535∧4≤n∧Pk (cpy (o++p) d n) r' x):=by
 cases h with
 |last _ p=>exact⟨p,0,[],by simp[pO],Nat.le_refl _,.inl ⟨rfl,rfl⟩⟩
 |step _ p d n r' _ q1 q2 q3 q4 hp=>
  have hl:=hp.le;rw[wL]at hl;exact⟨p,n,b8 d::b8 (d / 256)::(V7 (n-4)++r'),by unfold pO;rw[if_neg (by omega)];simp,by omega,.inr ⟨d,r',rfl,q1,q2,q3,q4,hp⟩⟩
theorem C3u {p:Bs} {k:Nat} (h:k<p.length):p.take (k+1)=p.take k++[p.getD k 0]:=by rw[List.take_add_one,List.getD,gE_ h];rfl
def A0J:D9:=⟨T,aN,A7,A9,132,[],none,.f⟩
theorem B6U:B1 Tryz.prog A0J:=⟨Q8,A2,A4⟩
theorem N7:F0 Tryz.prog A0J:=⟨tOk,B6U⟩
theorem C6Y (b x:Bs) (hx:Pk [] b x) (hb:b.length≤2000001) (hxl:x.length≤1000000):C5 Tryz.prog 226 [lst .byt b,int .i64 x.length] [] (fun _=>True) (fun v:Value=> .t [.c (.own 0 v),int .i64 0]) (fun v=>[.own v 5 .byt x]):=by
 refine I6 (E:=A0J) Tryz.func226 (fun M0 W hM0=>?_);refine L7 N7 (fun _=>some false) [false] (fun bs=>?_);refine lZ 9 5 rfl ?_;refine K3 (fun p:Nat×Bs×Value×Nat×Nat×Nat=>[(1,int .i64 x.length),(2,.c (.ptr 1 p.2.2.2.2.1 0)),(6,.c (.ptr 0 p.2.2.2.1 0)),(7,.c (.ptr 2 p.2.2.2.2.2 0)),(8,.c (.clo 262 [.ptr 2 p.2.2.2.2.2 0])),(9,.c (.own 3 p.2.2.1))]) (fun p=>vG p.2.2.2.1 p.2.2.2.2.1 p.2.2.2.2.2 b p.1++[.own p.2.2.1 5 .byt p.2.1])
  (fun p=>Pk p.2.1 (b.drop p.1) x) (fun p=>b.length-p.1) [1,0,2,3] (0,[],.slice none 0 0,?ba,?bb,?bn) hx ?wk0 (fun p hp=>?_)
 case wk0=>
  and_intros<;> (first|exact wk_|refine A6 ?_|skip)
 obtain⟨i,o,v,ba,bb,bn⟩:=p;simp only at hp;have hle:=hp.le;generalize hr:b.drop i=rr at hp;obtain⟨p,n,tl,rfl,hpl,hend⟩:=hp.next;obtain⟨t1,t2,t3⟩:=A4W hr;rw[List.length_append]at hpl;have hu:=(b.getD i LK.byt.dft).toNat_lt;refine A3 N7 [] (fun bs=>?_);refine A5 [0,1] (A6r ba bb b i t1 (by omega)) (fun _ _=>?_);refine A3 N7 [false] (fun bs=>?_);refine A5 [0,1,2] (C5G ba bb bn b (i+1) p.length (p++tl) t3 (by omega) (by omega)) (fun _ _=>?_) (hsim:=?hs1)
 case hs1=>
  and_intros<;> (first|exact wk_|refine A6 ?_|skip)
  all_goals(rw[t2];exact C3t _ _)
 have hi2:b.drop (i+1+(V7 p.length).length)=p++tl:=by rw[←List.drop_drop,t3];simp
 have hi2b:i+1+(V7 p.length).length≤b.length:=by
  rcases A6t t3 with h|h
  ·exact h.2
  ·rw[h.2.1];simp;omega
 have hi2g:i<i+1+(V7 p.length).length:=by omega
 generalize i+1+(V7 p.length).length=i2 at hi2 hi2b hi2g⊢;have hi2l:i2+p.length≤b.length∨p=[]:=by
  rcases A6t hi2 with h|h
  ·exact .inl h.2
  ·exact .inr h.2.1
 refine A3 N7 [false] (fun bs=>?_);refine V3 (fun q:Nat×Value=>[(1,int .i64 x.length),(2,.c (.ptr 1 bb 0)),(6,.c (.ptr 0 ba 0)),(7,.c (.ptr 2 bn 0)),(8,.c (.clo 262 [.ptr 2 bn 0])),(9,.c (.own 3 q.2)),(10,int .u8 (b.getD i LK.byt.dft).toNat),(44,int .i64 p.length),(45,int .i64 q.1)]) (fun q=>vG ba bb bn b (i2+q.1)++[.own q.2 5 .byt (o++p.take q.1)])
  (fun q=>q.1≤p.length) (fun q=>p.length-q.1) [0,1,2,3] (0,v) (Nat.zero_le _) (fun q hq=>?_)
 obtain⟨k,v1⟩:=q;simp only at hq;refine A3 N7 [] (fun bs=>?_);refine I4 rfl rfl (fun hk=>?_) (fun hk=>?_)
 ·have hk':k<p.length:=by omega
  have hb1:i2+k<b.length:=by
   rcases hi2l with h|h
   ·omega
   ·subst h;simp at hk'
  have hbk:b.getD (i2+k) LK.byt.dft=p.getD k 0:=by
   have:(b.drop i2)[k]? =(p++tl)[k]? :=by rw[hi2]
   rw[List.getElem?_drop,List.getElem?_append_left hk']at this;rw[List.getD,List.getD,this];rfl
  have htl:(o++p.take k).length=o.length+k:=by simp;omega
  refine A3 N7 [] (fun bs=>?_);refine A5 [0,1] (A6r ba bb b (i2+k) hb1 (by omega)) (fun _ _=>?_);refine A3 N7 [false,false] (fun bs=>?_);refine G3 [0,1,2,5] (k+1,?vn) ?ok1 ?wk1
  case ok1=>exact⟨hk',by simp only;omega⟩
  case wk1=>
   and_intros<;> (first|exact wk_|refine A6 ?_|skip)
   all_goals(show _=o++p.take (k+1);rw[hbk,List.append_assoc,C3u hk'];simp)
 ·have hk':k=p.length:=by omega
  subst hk';have htk:o++p.take p.length=o++p:=by rw[List.take_length]
  have hd:b.drop (i2+p.length)=tl:=by rw[←List.drop_drop,hi2];simp
  refine A3 N7 [] (fun bs=>?_);refine C6 rfl rfl (fun h=>?_) (fun h=>?_)
  ·have hb2:i2+p.length=b.length:=by simp only[decide_eq_true_eq]at h;omega
   have htl:tl=[]:=by rw[←hd,hb2,List.drop_length]
   rcases hend with⟨_,e⟩|⟨d,r',e,_⟩
   ·subst e;refine A3 N7 [] (fun bs=>?_);refine B3 N7 v1 trivial [3] (hl:=?hl)
    case hl=>
     and_intros<;> (first|exact wk_|refine A6 ?_|skip)
     all_goals exact htk
   ·rw[htl]at e;cases e
  ·have hb2:i2+p.length≠b.length:=by simp only[decide_eq_false_iff_not]at h;omega
   rcases hend with⟨e,_⟩|⟨d,r',e,q1,q2,q3,q4,hp2⟩
   ·exfalso;have:=congrArg List.length hi2;rw[e]at this;simp at this;omega
   rw[e]at hd;obtain⟨u1,u2,u3⟩:=A4W hd;obtain⟨w1,w2,w3⟩:=A4W u3;have hd2:ior .i64 ((b.getD (i2+p.length) LK.byt.dft).toNat:Int) (((b.getD (i2+p.length+1) LK.byt.dft).toNat:Int)*2 ^ (8:Int).toNat)=(d:Int):=by rw[u2,w2];exact C5H q3
   refine A3 N7 [] (fun bs=>?_);refine A5 [0,1] (A6r ba bb b (i2+p.length) u1 (by omega)) (fun _ _=>?_);refine A3 N7 [] (fun bs=>?_);refine A5 [0,1] (A6r ba bb b (i2+p.length+1) w1 (by omega)) (fun _ _=>?_);have hu2:=(b.getD (i2+p.length) LK.byt.dft).toNat_lt;have hu3:=(b.getD (i2+p.length+1) LK.byt.dft).toNat_lt;refine C8 N7 6 (fun _=>none) (fun bs=>?_);refine X3 [0,1,2,3] [(1,int .i64 x.length),(2,.c (.ptr 1 bb 0)),(6,.c (.ptr 0 ba 0)),(7,.c (.ptr 2 bn 0)),(8,.c (.clo 262 [.ptr 2 bn 0])),(9,.c (.own 3 v1)),(10,int .u8 (b.getD i LK.byt.dft).toNat),(11,bool true),(18,int .i64 d)] (vG ba bb bn b (i2+p.length+1+1)++[.own v1 5 .byt (o++p)]) ?_ (h:=?wk5)
   case wk5=>
    and_intros<;> (first|exact wk_|refine A6 ?_|skip)
    all_goals first|exact hd2|exact htk
   have hopl:(o++p).length=o.length+p.length:=List.length_append;have hxn:=hp2.le;rw[wL]at hxn;have hlo:=B6T p.length n q4;rw[←t2]at hlo;refine L7 N7 (fun _=>some false) [false] (fun bs=>?_);refine A5 [0,1,2] (C5G ba bb bn b (i2+p.length+1+1) (n-4) r' w3 (by omega) (by omega)) (fun _ _=>?_) (hsim:=?hs2)
   case hs2=>
    and_intros<;> (first|exact wk_|refine A6 ?_|skip)
    all_goals(rw[t2];exact B6T _ _ q4)
   have hi3:b.drop (i2+p.length+1+1+(V7 (n-4)).length)=r':=by rw[←List.drop_drop,w3];simp
   have hi3g:i<i2+p.length+1+1+(V7 (n-4)).length:=by omega
   have hi3l:i2+p.length+1+1+(V7 (n-4)).length<b.length:=by
    rcases Nat.lt_or_ge (i2+p.length+1+1+(V7 (n-4)).length) b.length with h|h
    ·exact h
    ·exact absurd (hi3.symm.trans (List.drop_eq_nil_of_le h)) hp2.ne
   generalize i2+p.length+1+1+(V7 (n-4)).length=i3 at hi3 hi3g hi3l⊢;refine A3 N7 [false] (fun bs=>?_);refine V3 (fun q:Nat×Value=>[(1,int .i64 x.length),(2,.c (.ptr 1 bb 0)),(6,.c (.ptr 0 ba 0)),(7,.c (.ptr 2 bn 0)),(8,.c (.clo 262 [.ptr 2 bn 0])),(9,.c (.own 3 q.2)),(18,int .i64 d),(109,int .i64 n),(110,int .i64 q.1)]) (fun q=>vG ba bb bn b i3++[.own q.2 5 .byt (cpy (o++p) d q.1)])
    (fun q=>q.1≤n) (fun q=>n-q.1) [0,1,2,3] (0,v1) (Nat.zero_le _) (fun q hq=>?_)
   obtain⟨k,v2⟩:=q;simp only at hq;have hcl:=wL (o++p) d k;refine A3 N7 [] (fun bs=>?_);refine I4 rfl rfl (fun hk=>?_) (fun hk=>?_)
   ·have hk':k<n:=by omega
    refine A3 N7 [false] (fun bs=>?_);refine G3 [0,1,2,5] (k+1,?vn2) ?ok2 ?wk6
    case ok2=>exact⟨hk',by simp only;omega⟩
    case wk6=>
     and_intros<;> (first|exact wk_|refine A6 ?_|skip)
     all_goals(show cpy (o++p) d k++[_]=cpy (o++p) d k++[_];congr 2;rw[show(((cpy (o++p) d k).length:Nat)-(d:Int)).toNat=(cpy (o++p) d k).length-d by omega];simp;rfl)
   ·have hk':k=n:=by omega
    subst hk';refine A3 N7 [false] (fun bs=>?_);refine G3 [0,1,2,3] (i3,cpy (o++p) d k,v2,ba,bb,bn) ⟨by show Pk _ (b.drop i3) x;rw[hi3];exact hp2,by simp only;omega⟩ ?wk7
    case wk7=>and_intros<;> (first|exact wk_|refine A6 ?_|skip)
def Z7 (e:B0):Bool:=decide (e.kind=2) || decide (e.kind=3)
def iG (sh:Int) (t:List (List B0)):Nat→List bQ
 |0=>[]
 |i+1=>iG sh t i++(if Z7 (L2 t i)=true then[⟨sh,i,L2 t i⟩]else[])
theorem B0d (sh:Int) (t:List (List B0)) {i n:Nat} (h:i≤n):∃r,iG sh t n=iG sh t i++r:=by
 induction n with
 |zero=>exact⟨[],by rw[show i=0 by omega];rfl⟩
 |succ n ih=>
  rcases Nat.lt_or_ge n i with h2|h2
  ·exact⟨[],by rw[show i=n+1 by omega];simp⟩
  ·obtain⟨r,hr⟩:=ih h2;exact⟨r++_,by rw[iG,hr,List.append_assoc]⟩
theorem B0e (sh:Int) (t:List (List B0)) {i n:Nat} (h:i<n) (hs:Z7 (L2 t i)=true):(iG sh t n)[(iG sh t i).length]? =some ⟨sh,i,L2 t i⟩:=by
 obtain⟨r,hr⟩:=B0d sh t (i:=i+1) h;rw[hr];simp[iG,hs]
theorem sI (sh:Int) (t:List (List B0)):∀n,(iG sh t n).length≤n:=by
 intro n
 induction n with
 |zero=>exact Nat.le_refl _
 |succ n ih=>simp only[iG];split<;> simp<;> omega
def evL (y:bQ):List Value:=[.agg #[.int .i64 y.shot,.int .i64 y.cl,.int .i64 y.e.kind,.int .i64 y.e.start,.int .i64 y.e.count,.int .i64 y.e.size,.int .u32 y.e.sum]]
def eaL (y:bQ):List A:=[.g [.pv (i64 y.shot),.pv (i64 y.cl),.pv (i64 y.e.kind),.pv (i64 y.e.start),.pv (i64 y.e.count),.pv (i64 y.e.size),.pv (.val (.int .u32 y.e.sum))]]
theorem C3v (M:B5) (y:bQ) (vs:Array Value) (h:cY M (eaL y) vs):vs=(evL y).toArray:=by
 obtain⟨h1,h2⟩:=h;obtain⟨vs⟩:=vs
 match vs,h1,h2 with
 |[u],_,h2=>
  have:=h2 0 _ u rfl rfl;cases this with| @g _ us hr=>
  obtain⟨g1,g2⟩:=hr;obtain⟨us⟩:=us
  match us,g1,g2 with
  |[u0,u1,u2,u3,u4,u5,u6],_,g2=>
   have c0:=g2 0 _ u0 rfl rfl;have c1:=g2 1 _ u1 rfl rfl;have c2:=g2 2 _ u2 rfl rfl;have c3:=g2 3 _ u3 rfl rfl;have c4:=g2 4 _ u4 rfl rfl;have c5:=g2 5 _ u5 rfl rfl;have c6:=g2 6 _ u6 rfl rfl;cases c0 with|pv c0=>cases c1 with|pv c1=>cases c2 with|pv c2=>cases c3 with|pv c3=>cases c4 with|pv c4=>cases c5 with|pv c5=>cases c6 with|pv c6=>
   rw[c0.val_eq,c1.val_eq,c2.val_eq,c3.val_eq,c4.val_eq,c5.val_eq,c6.val_eq];rfl
theorem C3w (M:B5) (y:bQ):cY M (eaL y) (evL y).toArray:=by
 refine⟨rfl,fun j a v e1 e2=>?_⟩
 match j,e1,e2 with
 |0,e1,e2=>
  cases e1;cases e2;refine .g ⟨rfl,fun j c u e1 e2=>?_⟩
  match j,e1,e2 with
  |0,e1,e2=>cases e1;cases e2;exact .pv (.val rfl)
  |1,e1,e2=>cases e1;cases e2;exact .pv (.val rfl)
  |2,e1,e2=>cases e1;cases e2;exact .pv (.val rfl)
  |3,e1,e2=>cases e1;cases e2;exact .pv (.val rfl)
  |4,e1,e2=>cases e1;cases e2;exact .pv (.val rfl)
  |5,e1,e2=>cases e1;cases e2;exact .pv (.val rfl)
  |6,e1,e2=>cases e1;cases e2;exact .pv (.val rfl)
def A8w:D9:=⟨T,V6,A7,A9,34,[],some 0,.f⟩
theorem C3x:B1 Tryz.prog A8w:=⟨M7,A2,A4⟩
theorem A0K:F0 Tryz.prog A8w:=⟨tOk,C3x⟩
theorem C0q (sh:Int) (t:List (List B0)) (hl:t.length≤1000000) (hf:∀i,(leaf t i).length≤1000000000):B4i Tryz.prog 246 [.cel [.lst .tbl t],.cel [i64 sh]] evL (iG sh t (t.length*8)):=by
 refine xZ (E:=A8w) Tryz.func246 (by decide) rfl rfl rfl rfl rfl (fun args w=>?_) (fun M lid J Jx w hJ hJx h0 hy=>?_)
 ·simp[callFunc,Tryz.func246,Tryz.f246]
 refine A3 A0K [] (fun bs=>?_);have hJ2:cH (fun M i w=>J M (iG sh t i).length w):=fun M M' i W W'=>hJ M M' _ W W'
 refine xY (J:=fun M i w=>J M (iG sh t i).length w) (n:=t.length*8) rfl hJ2 (fun i=>[(0,pv (.val (.func (.yield lid) #[] #[]))),(1,.c (.cel [.lst .tbl t])),(2,.c (.cel [i64 sh])),(9,int .i64 (t.length*8:Nat)),(10,int .i64 i)]) rfl h0 ?wk (fun i w' M' hi hJi=>?_)
 case wk=>
  and_intros<;> (first|exact wk_|refine A6 ?_|skip)
 refine A3 A0K [] (fun bs=>?_);refine I4 rfl rfl (fun hk=>?_) (fun hk=>?_)
 ·have hk':i<t.length*8:=by omega
  cases hs:Z7 (L2 t i)with
  |false=>
   have h2:¬(L2 t i).kind=2∧¬(L2 t i).kind=3:=by simpa[Z7]using hs
   have e:iG sh t (i+1)=iG sh t i:=by simp[iG,hs]
   refine L7 A0K (fun _=>some false) [false] (fun bs=>?_);refine A3h (J:=fun M i w=>J M (iG sh t i).length w) rfl hJ2 hk' (by rw[e];exact hJi) ?wk2
   case wk2=>and_intros<;> (first|exact wk_|refine A6 ?_|skip)
  |true=>
   have e:iG sh t (i+1)=iG sh t i++[⟨sh,i,L2 t i⟩]:=by simp[iG,hs]
   have el:(iG sh t (i+1)).length=(iG sh t i).length+1:=by rw[e];simp
   have h2:(decide ((L2 t i).kind=2) || decide ((L2 t i).kind=3))=true:=hs;refine J3 A0K (fun n=>match n with|8=>some true|_=>none) [] (fun bs=>?_) (fun bs=>?_)
   ·and_intros<;> (intros;first|exact trivial|exact rfl|exact hf _|omega|exact h2)
   refine W8 24 (y:=bool true) rfl (fun M v h=>by rw[h2]at h;exact h) ?_;have hg:=B0e sh t hk' hs;refine A3n (J:=J) (Jx:=Jx) (i:=(iG sh t i).length) rfl rfl hJ (by exact⟨_,rfl,rfl⟩) rfl evL eaL C3v (y:=⟨sh,i,L2 t i⟩) rfl rfl hJi (hy _ _ hg) (fun b=>rfl) (fun W2 M2 h3=>?_) (fun W2 M2 h3=>?_)
   ·refine A3 A0K [false] (fun bs=>?_);refine A3h (J:=fun M i w=>J M (iG sh t i).length w) rfl hJ2 hk' (by rw[el];exact h3) ?wk3
    case wk3=>and_intros<;> (first|exact wk_|refine A6 ?_|skip)
   ·refine A3 A0K [true] (fun bs=>?_);exact A3f rfl hJ hJx rfl (.inr ⟨(iG sh t i).length+1,by rw[←el];exact(by obtain⟨r,hr⟩:=B0d sh t (i:=i+1) hk';rw[hr];simp),h3⟩)
 ·have hk':i=t.length*8:=by omega
  subst hk';refine A3 A0K [] (fun bs=>?_);exact A3g rfl hJ hJx (.inl hJi)
abbrev B6V (sh:Int) (t:List (List B0)):A:= .c (.clo 246 [.cel [.lst .tbl t],.cel [i64 sh]])
def A0L:D9:=⟨T,V6,A7,A9,6,[],none,.f⟩
theorem B6W:B1 Tryz.prog A0L:=⟨M7,A2,A4⟩
theorem B0f:F0 Tryz.prog A0L:=⟨tOk,B6W⟩
theorem C6Z (sh:Int) (t:List (List B0)):C5 Tryz.prog 200 [int .i64 sh,.g [.pv (.lst .tbl t)]] [] (fun _=>True) (fun _:Unit=>B6V sh t) (fun _=>[]):=by
 refine I6 (E:=A0L) Tryz.func200 (fun M0 W hM0=>?_);refine A3 B0f [] (fun bs=>?_);refine rE 4 1 0 (ys:=[.lst .tbl t]) rfl rfl rfl ?_;refine rE 4 0 1 (ys:=[i64 sh]) rfl rfl rfl ?_;exact B3 B0f () trivial []
def wM:D9:=⟨T,V6,A7,A9,13,[],none,.t⟩
theorem B0g:B1 Tryz.prog wM:=⟨M7,A2,A4⟩
theorem B6X:F0 Tryz.prog wM:=⟨tOk,B0g⟩
theorem B6Y (l:Nat):F0 Tryz.prog (rd wM l):=⟨tOk,B4j B0g⟩
theorem apS (sh:Int) (t:List (List B0)) (hl:t.length≤1000000) (hf:∀i,(leaf t i).length≤1000000000):aA Tryz.prog 201 false [pv (.nil .lin),B6V sh t] (.o 216 .lin (iG sh t (t.length*8))):=by
 have hn:=sI sh t (t.length*8);refine cJ (E:=wM) Tryz.func201 (fun M0 W hM0=>?_);refine A3 B6X [] (fun bs=>?_);refine bZ 0 0 216 rfl rfl ?_;refine A3e (C0q sh t hl hf) eaL C3w rfl rfl (c:=_) (o:=_) (ps:=[7]) rfl (by decide) (by decide) (fun _=>rfl) rfl [(2,.c (.ptr 0 ?bb 0))] (fun p:Value×List bQ=>[.blk ?bb 213 [.own 1 p.1],.own p.1 216 .lin p.2]) (fun i p=>p.2=(iG sh t (t.length*8)).take i) (fun _ _=>False) [0,1] (.slice none 0 0,[]) rfl ?wk rfl (fun lid M1 M2 J1 i x y hy hok hb=>?_) (fun x hx=>?_) (fun i x hi hx=>hx.elim)
 case wk=>and_intros<;> (first|exact wk_|refine A6 ?_|skip)
 ·obtain⟨v,out⟩:=x;dsimp only at hok⊢;subst hok;refine A3 (B6Y lid) [] (fun bs=>?_);refine hb _ ?_;have hlt:i<(iG sh t (t.length*8)).length:=(gS_.1 hy).1;have htk:(iG sh t (t.length*8)).take (i+1)=(iG sh t (t.length*8)).take i++[y]:=by rw[List.take_add_one,hy];rfl
  refine A3 (B6Y lid) [] (fun bs=>?_);refine G3 [0,4] (?v1,(iG sh t (t.length*8)).take i++[y]) ?ok1 ?wk1
  case ok1=>exact htk.symm
  case wk1=>and_intros<;> (first|exact wk_|refine A6 ?_|skip)
 ·obtain⟨v,out⟩:=x;dsimp only at hx⊢;subst hx;refine A3 B6X [] (fun bs=>?_);exact D5 tOk hM0 rfl rfl ⟨trivial,trivial⟩ ⟨rfl,rfl,rfl,A6 (List.take_length)⟩
def F3 (t:List (List B0)):List bQ:=iG (-1) t (t.length*8)
def A0M:D9:=⟨T,V6,A7,A9,5,[],none,.f⟩
theorem B6Z:B1 Tryz.prog A0M:=⟨M7,A2,A4⟩
theorem A4X:F0 Tryz.prog A0M:=⟨tOk,B6Z⟩
theorem C6a (sh:Int) (t:List (List B0)) (hl:t.length≤1000000) (hf:∀i,(leaf t i).length≤1000000000):C5 Tryz.prog 199 [B6V sh t] [] (fun _=>True) (fun v:Value=> .c (.own 0 v)) (fun v=>[.own v 216 .lin (iG sh t (t.length*8))]):=by
 refine I6 (E:=A0M) Tryz.func199 (fun M0 W hM0=>?_);refine A3 A4X [] (fun bs=>?_);refine A5 [] (apS sh t hl hf).toH (fun v _=>?_);refine A3 A4X [] (fun bs=>?_);exact B3 A4X v trivial [0]
abbrev A2N (m:X7):A:= .g [.pv (i64 m.cl),.pv (i64 m.size),.pv (sv m.bk),.pv (.lst .tbl m.t),.pv (.lst .sht m.sh),.pv (.lst .bms m.mp),.pv (.lst (.ints .i64) m.ct)]
structure pQ (m:X7):Prop where
 sh:m.sh=[]
 mp:m.mp=[]
 tl:m.t.length≤512
 tf:∀i,(leaf m.t i).length≤8
theorem pQ.hf {m:X7} (h:pQ m) (i:Nat):(leaf m.t i).length≤1000000000:=Nat.le_trans (h.tf i) (by omega)
def A0N:D9:=⟨T,V6,A7,A9,26,[],none,.f⟩
theorem B6a:B1 Tryz.prog A0N:=⟨M7,A2,A4⟩
theorem pR:F0 Tryz.prog A0N:=⟨tOk,B6a⟩
theorem B6b (m:X7) (h:pQ m):C5 Tryz.prog 116 [A2N m] [] (fun _=>True) (fun v:Value=> .c (.own 0 v)) (fun v=>[.own v 216 .lin (F3 m.t)]):=by
 refine I6 (E:=A0N) Tryz.func116 (fun M0 W hM0=>?_);obtain⟨cl,size,bk,t,sh,mp,ct⟩:=m;obtain⟨h1,h2,h3,h4⟩:=h;dsimp only at h1 h2 h3 h4⊢;subst h1 h2;refine A3 pR [] (fun bs=>?_);refine A5 [] (C6Z (-1) t) (fun _ _=>?_);refine A3 pR [] (fun bs=>?_);refine A5 [] (C6a (-1) t (by omega) (fun i=>Nat.le_trans (h4 i) (by omega))) (fun v _=>?_);refine A3 pR [] (fun bs=>?_);refine V3 (fun _:Unit=>[(3,.c (.own 0 v)),(12,int .i64 0),(13,int .i64 0)]) (fun _=>[.own v 216 .lin (F3 t)]) (fun _=>True) (fun _=>0) [1] () trivial (fun _ _=>?_);refine A3 pR [false] (fun bs=>?_);exact B3 pR v trivial [0]
def M6 (n:Nat) (f:Nat→Int):List Int:=(List.range n).map f
theorem L0 (n:Nat) (f:Nat→Int):(M6 n f).length=n:=by simp[M6]
theorem aO {n:Nat} {f:Nat→Int} {i:Nat} (h:i<n) (d:Int):(M6 n f).getD i d=f i:=by simp[M6,List.getD,h]
theorem pT {n:Nat} {f g:Nat→Int} {i:Nat} (v:Int) (h1:g i=v) (h2:∀k,k≠i→g k=f k):(M6 n f).set i v=M6 n g:=by
 refine List.ext_getElem (by simp[M6]) (fun k h3 h4=>?_);simp only[M6,List.length_map,List.length_range]at h4;simp only[List.getElem_set,M6,List.getElem_map,List.getElem_range];split
 ·rename_i e;subst e;exact h1.symm
 ·rename_i e;exact(h2 k (fun h=>e h.symm)).symm
theorem L3 {n:Nat} {f g:Nat→Int} (h:∀k,k<n→f k=g k):M6 n f=M6 n g:=by
 refine List.map_congr_left (fun k hk=>h k (List.mem_range.1 hk))
theorem pU {n:Nat} {f g:Nat→Int} {i:Nat} (hi:i<n) (h1:g i=f i+1) (h2:∀k,k≠i→g k=f k):(M6 n f).set i ((M6 n f).getD i 0+1)=M6 n g:=pT _ (by rw[aO hi];exact h1) h2
theorem wN {n:Nat} {f:Nat→Int} {i:Nat} (hi:i<n) (h:0≤f i∧f i≤100000):L1 .i64 ((M6 n f).getD i 0+1):=by rw[aO hi];simp only[L1];omega
def kI (e:B0) (k:Nat):Bool:=decide (e.start≤k) && decide ((k:Int)<e.start+e.count)
def fN (b:Bool):Int:=if b=true then 1 else 0
def fM (ls:List bQ) (k:Nat):Int:=((ls.map fun l=>fN (kI l.e k))).sum
def I5 (ls:List bQ) (k:Nat):Int:=(if k<2 then 1 else 0)+fM ls k
def aP (ls:List bQ) (n:Nat):List Int:=M6 n (I5 ls)
structure pV (e:B0):Prop where
 st:2≤e.start
 ct:1≤e.count
 en:e.start+e.count≤65536
theorem B2f (ls:List bQ) (l:bQ) (k:Nat):fM (ls++[l]) k=fM ls k+fN (kI l.e k):=by
 simp[fM]
theorem lK (ls:List bQ) (k:Nat):0≤fM ls k∧fM ls k≤ls.length:=by
 induction ls with
 |nil=>simp[fM]
 |cons l ls ih=>
  have e:fM (l::ls) k=fN (kI l.e k)+fM ls k:=by simp[fM]
  rw[e];simp only[List.length_cons,fN];split<;> omega
theorem C2a {t:List (List B0)} (h:∀i:Nat,Z7 (L2 t i)=true→pV (L2 t i)) (sh:Int):∀n,∀l∈iG sh t n,pV l.e:=by
 intro n
 induction n with
 |zero=>intro l hl;cases hl
 |succ n ih=>
  intro l hl;rw[iG]at hl;rcases List.mem_append.1 hl with hl|hl
  ·exact ih l hl
  ·split at hl
   ·rename_i hs;rw[List.mem_singleton.1 hl];exact h n hs
   ·cases hl
def A2O (m:X7):List C:=[.pv (i64 m.cl),.pv (i64 m.size),.pv (sv m.bk),.pv (.lst .tbl m.t),.pv (.lst .sht m.sh),.pv (.lst .bms m.mp),.pv (.lst (.ints .i64) m.ct)]
def A4Y:D9:=⟨T,V6,A7,A9,97,[],none,.f⟩
theorem C0r:B1 Tryz.prog A4Y:=⟨M7,A2,A4⟩
theorem P3:F0 Tryz.prog A4Y:=⟨tOk,C0r⟩
theorem cOf (m:X7) (h:pQ m) (hg:∀i:Nat,Z7 (L2 m.t i)=true→pV (L2 m.t i)) (n:Nat) (hn:n≤65536):C5 Tryz.prog 58 [A2N m,int .i64 n] [] (fun _=>True) (fun v:Value=> .c (.own 0 v)) (fun v=>[.own v 3 (.ints .i64) (aP (F3 m.t) n)]):=by
 refine I6 (E:=A4Y) Tryz.func58 (fun M0 W hM0=>?_);obtain⟨L,hL⟩:∃L,L=F3 m.t:=⟨_,rfl⟩
 have hLg:∀l∈L,pV l.e:=fun l hl=>C2a hg (-1) _ l (by rw[hL]at hl;exact hl)
 have hLn:L.length≤4096:=by have:=sI (-1) m.t (m.t.length*8);have:=h.tl;rw[hL,F3];omega
 refine L7 P3 (fun _=>some false) [false] (fun bs=>?_);refine K3 (fun p:Nat×Nat×Value=>[(1,int .i64 n),(2,.c (.ptr 0 p.2.1 0)),(5,.c (.own 1 p.2.2)),(21,int .i64 (min n 2:Nat)),(22,int .i64 p.1)]) (fun p=>[.blk p.2.1 82 (A2O m),.own p.2.2 3 (.ints .i64) (M6 n fun k=>if k<p.1 then 1 else 0)]) (fun p=>p.1≤min n 2) (fun p=>min n 2-p.1) [0,1] (0,?bm,?v0) (Nat.zero_le _) ?wk (fun p hp=>?_)
 case wk=>
  and_intros<;> (first|exact wk_|refine A6 ?_|skip)
  all_goals first|(simp[M6];done)|(simp[M6,LK.dft,List.map_const'];done)|omega
 obtain⟨i,bm,v⟩:=p;simp only at hp;refine A3 P3 [] (fun bs=>?_);refine I4 rfl rfl (fun hk=>?_) (fun hk=>?_)
 ·have hi:i<min n 2:=by omega
  have hl:=L0 n (fun k=>if k<i then 1 else 0);have hin:L1 .i64 ((M6 n fun k=>if k<i then 1 else 0).getD i 0+1):=wN (by omega) (by simp);refine Q2 P3 [] (fun bs=>?_) (fun bs=>?_)
  ·and_intros<;> first|exact trivial|omega|exact rfl|exact hin.1|exact hin.2|(simp only[L0];omega)
  refine G3 [0,1] (i+1,bm,v) ⟨hi,by simp only;omega⟩ ?wk1
  case wk1=>
   and_intros<;> (first|exact wk_|refine A6 ?_|skip)
   all_goals exact pU (by omega) (by simp) (fun k hk=>by have:(k<i+1)=(k<i):=propext ⟨fun h=>by omega,fun h=>by omega⟩;simp only[this])
 ·have hi:i=min n 2:=by omega
  have e0:(M6 n fun k=>if k<i then 1 else 0)=aP (L.take 0) n:=L3 (fun k hk=>by
   simp only[I5,fM,List.take_zero,List.map_nil,List.sum_nil,Int.add_zero];have:(k<i)=(k<2):=propext ⟨fun h=>by omega,fun h=>by omega⟩;simp only[this])
  refine A3 P3 [] (fun bs=>?_);refine A5 [] (B6b m h) (fun lv _=>?_);refine A3 P3 [] (fun bs=>?_);refine K3 (fun j:Nat=>[(1,int .i64 n),(5,.c (.own 0 v)),(33,.c (.own 1 lv)),(34,int .i64 L.length),(35,int .i64 j)]) (fun j=>[.own v 3 (.ints .i64) (aP (L.take j) n),.own lv 216 .lin L]) (fun j=>j≤L.length) (fun j=>L.length-j) [1,2] 0 (Nat.zero_le _) ?wk2 (fun j hj=>?_)
  case wk2=>
   rw[hL]
   and_intros<;> (first|exact wk_|refine A6 ?_|skip)
   all_goals first|(rw[←hL];exact e0)
  refine A3 P3 [] (fun bs=>?_);refine I4 rfl rfl (fun hk=>?_) (fun hk=>?_)
  ·have hj':j<L.length:=by omega
   have hmem:L.getD j LK.lin.dft∈L:=by rw[List.getD,gE_ hj'];exact List.getElem_mem hj'
   have hge:=hLg _ hmem;have htk:L.take (j+1)=L.take j++[L.getD j LK.lin.dft]:=by rw[List.take_add_one,List.getD,gE_ hj'];rfl
   refine C8 P3 11 (fun _=>none) (fun bs=>?_);generalize hx:L.getD j LK.lin.dft=x at hge htk;obtain⟨s,hs⟩:=Int.eq_ofNat_of_zero_le (show 0≤x.e.start by have:=hge.st;omega);obtain⟨c,hc⟩:=Int.eq_ofNat_of_zero_le (show 0≤x.e.count by have:=hge.ct;omega);have g1:=hge.st;have g2:=hge.ct;have g3:=hge.en;have hcv:∀k:Nat,kI x.e k=(decide (s≤k) && decide (k<s+c)):=fun k=>by
    simp only[kI,hs,hc];congr 1<;> (apply decide_eq_decide.2;omega)
   have hnx:∀k:Nat,I5 (L.take (j+1)) k=I5 (L.take j) k+fN (decide (s≤k) && decide (k<s+c)):=fun k=>by
    rw[htk,I5,B2f,hcv,I5];omega
   refine X3 [0,1,3] [(1,int .i64 n),(5,.c (.own 0 v)),(9,.c (.ptr 2 ?be 0)),(33,.c (.own 1 lv)),(34,int .i64 L.length),(35,int .i64 j)] [.own v 3 (.ints .i64) (aP (L.take j) n),.own lv 216 .lin L,.blk ?be 185 [.pv (i64 x.e.kind),.pv (i64 s),.pv (i64 c),.pv (i64 x.e.size),.pv (.val (.int .u32 x.e.sum))]] ?_ (h:=?wk3)
   case wk3=>
    and_intros<;> (first|exact wk_|refine A6 ?_|skip)
    all_goals first|(rw[←hs,←hx];rfl)|(rw[←hc,←hx];rfl)|(rw[←hx];rfl)
   refine L7 P3 (fun _=>some false) [] (fun bs=>?_);refine C6 rfl rfl (fun hq=>?_) (fun hq=>?_)
   ·have hsn:n≤s:=by simp at hq;omega
    refine A3 P3 [] (fun bs=>?_);refine G3 [0,1] (j+1) ⟨hj',by omega⟩ ?wk4
    case wk4=>
     and_intros<;> (first|exact wk_|refine A6 ?_|skip)
     all_goals exact L3 (fun k hk=>by rw[hnx,show decide (s≤k)=false from decide_eq_false (by omega)];simp[fN])
   ·have hsn:s<n:=by simp at hq;omega
    refine A3 P3 [] (fun bs=>?_);refine A2g (fun be:Nat=>[(1,int .i64 n),(5,.c (.own 0 v)),(9,.c (.ptr 2 be 0)),(10,int .i64 (min n (s+c):Nat)),(33,.c (.own 1 lv)),(34,int .i64 L.length),(35,int .i64 j)]) (fun be=>[.own v 3 (.ints .i64) (aP (L.take j) n),.own lv 216 .lin L,.blk be 185 [.pv (i64 x.e.kind),.pv (i64 s),.pv (i64 c),.pv (i64 x.e.size),.pv (.val (.int .u32 x.e.sum))]]) (fun _=>True) rfl ?_ (fun be _=>?_)
    ·refine C6 rfl rfl (fun hb=>?_) (fun hb=>?_)
     ·refine A3 P3 [] (fun bs=>?_);refine G3 [0,1,2] ?b1 trivial ?wk5
      case wk5=>
       and_intros<;> (first|exact wk_|refine A6 ?_|skip)
       all_goals omega
     ·have hcn:n≤c:=by simp at hb;omega
      refine A3 P3 [] (fun bs=>?_);refine G3 [0,1,2] ?b2 trivial ?wk6
      case wk6=>
       and_intros<;> (first|exact wk_|refine A6 ?_|skip)
       all_goals omega
    refine A3 P3 [] (fun bs=>?_);refine A2g (fun be:Nat=>[(1,int .i64 n),(5,.c (.own 0 v)),(9,.c (.ptr 2 be 0)),(10,int .i64 (min n (s+c):Nat)),(33,.c (.own 1 lv)),(34,int .i64 L.length),(35,int .i64 j)]) (fun be=>[.own v 3 (.ints .i64) (aP (L.take j) n),.own lv 216 .lin L,.blk be 185 [.pv (i64 x.e.kind),.pv (i64 s),.pv (i64 c),.pv (i64 x.e.size),.pv (.val (.int .u32 x.e.sum))]]) (fun _=>True) rfl ?_ (fun be _=>?_)
    ·refine C6 rfl rfl (fun hb=>?_) (fun hb=>?_)
     ·have hcn:n≤s+c:=by simp at hb;omega
      refine A3 P3 [] (fun bs=>?_);refine G3 [0,1,2] ?b3 trivial ?wk7
      case wk7=>
       and_intros<;> (first|exact wk_|refine A6 ?_|skip)
       all_goals omega
     ·refine A3 P3 [] (fun bs=>?_);exact I0 [0,1,2] be trivial
    refine A3 P3 [] (fun bs=>?_);refine K3 (fun i:Nat=>[(1,int .i64 n),(5,.c (.own 0 v)),(10,int .i64 (min n (s+c):Nat)),(11,int .i64 i),(33,.c (.own 1 lv)),(34,int .i64 L.length),(35,int .i64 j)]) (fun i=>[.own v 3 (.ints .i64) (M6 n fun k=>I5 (L.take j) k+fN (decide (s≤k) && decide (k<i))),.own lv 216 .lin L]) (fun i=>s≤i∧i≤min n (s+c)) (fun i=>min n (s+c)-i) [0,1] s ⟨Nat.le_refl _,by omega⟩ ?wk8 (fun i hi=>?_)
    case wk8=>
     and_intros<;> (first|exact wk_|refine A6 ?_|skip)
     all_goals first|omega|exact L3 (fun k hk=>by
      have:(decide (s≤k) && decide (k<s))=false:=by simp
      rw[this];simp[fN])
    refine A3 P3 [] (fun bs=>?_);refine I4 rfl rfl (fun hb=>?_) (fun hb=>?_)
    ·have hi2:i<min n (s+c):=by omega
     have hcb:=lK (L.take j) i;have hcl:(L.take j).length≤4096:=by simp;omega
     have hin:L1 .i64 ((M6 n fun k=>I5 (L.take j) k+fN (decide (s≤k) && decide (k<i))).getD i 0+1):=wN (by omega) (by simp only[I5,fN];constructor<;> split<;> split<;> omega);refine Q2 P3 [] (fun bs=>?_) (fun bs=>?_)
     ·and_intros<;> first|exact trivial|omega|exact rfl|exact hin.1|exact hin.2|(simp only[L0];omega)
     refine G3 [0,1] (i+1) ⟨⟨by omega,by omega⟩,by omega⟩ ?wk9
     case wk9=>
      and_intros<;> (first|exact wk_|refine A6 ?_|skip)
      all_goals exact pU (i:=i) (by omega) (by
       have h1:(decide (s≤i) && decide (i<i+1))=true:=by simpa using hi.1
       have h2:(decide (s≤i) && decide (i<i))=false:=by simp
       rw[h1,h2];simp[fN]) (fun k hk=>by
       have:decide (k<i+1)=decide (k<i):=decide_eq_decide.2 (by omega);rw[this])
    ·have hi2:i=min n (s+c):=by omega
     refine A3 P3 [] (fun bs=>?_);refine G3 [0,1] (j+1) ⟨hj',by omega⟩ ?wk10
     case wk10=>
      and_intros<;> (first|exact wk_|refine A6 ?_|skip)
      all_goals exact L3 (fun k hk=>by
       rw[hnx];have:decide (k<i)=decide (k<s+c):=decide_eq_decide.2 (by omega);rw[this])
  ·have hj':j=L.length:=by omega
   have e1:aP (L.take j) n=aP (F3 m.t) n:=by rw[hj',List.take_length,hL]
   refine A3 P3 [] (fun bs=>?_);refine B3 P3 v trivial [0] (hl:=?hl)
   case hl=>
    and_intros<;> (first|exact wk_|refine A6 ?_|skip)
    all_goals exact e1
def frG (u:List Int) (n:Nat):Nat→Nat→Nat→Nat
 |0,s,run=>s-run
 |f+1,s,run=>if u.getD s 0=0 then(if run+1=n then s+1-n else frG u n f (s+1) (run+1))else frG u n f (s+1) 0
def eW (u:List Int) (n fr:Nat):Nat:=frG u n (u.length-fr) fr 0
def A8x (u:List Int) (p n:Nat):Prop:=∀k,p≤k→k<p+n→u.getD k 0=0
theorem C3y {u:List Int} {n:Nat} (hn:1≤n):∀f s run,u.length≤s+f→run≤s→run<n→(∀k,s-run≤k→k<s→u.getD k 0=0)→
 s-run≤frG u n f s run∧frG u n f s run≤s+f∧A8x u (frG u n f s run) n∧∀q,s-run≤q→A8x u q n→frG u n f s run≤q:=by
 intro f
 induction f with
 |zero=>
  intro s run h1 h2 h3 h4;refine⟨Nat.le_refl _,Nat.sub_le _ _,fun k hk1 hk2=>?_,fun q hq _=>hq⟩;rcases Nat.lt_or_ge k s with h|h
  ·exact h4 k hk1 h
  ·rw[List.getD,List.getElem?_eq_none (by omega)];rfl
 |succ f ih=>
  intro s run h1 h2 h3 h4;unfold frG;split
  ·rename_i h0;split
   ·rename_i hr;refine⟨by omega,by omega,fun k hk1 hk2=>?_,fun q hq _=>by omega⟩;rcases Nat.lt_or_ge k s with h|h
    ·exact h4 k (by omega) h
    ·rw[show k=s by omega];exact h0
   ·obtain⟨a,b,c,d⟩:=ih (s+1) (run+1) (by omega) (by omega) (by omega) (fun k hk1 hk2=>by
     rcases Nat.lt_or_ge k s with h|h
     ·exact h4 k (by omega) h
     ·rw[show k=s by omega];exact h0)
    exact⟨by omega,by omega,c,fun q hq hz=>d q (by omega) hz⟩
  ·rename_i h0;obtain⟨a,b,c,d⟩:=ih (s+1) 0 (by omega) (by omega) (by omega) (fun k hk1 hk2=>by omega);refine⟨by omega,by omega,c,fun q hq hz=>?_⟩;rcases Nat.lt_or_ge s q with h|h
   ·exact d q (by omega) hz
   ·exact absurd (hz s h (by omega)) h0
theorem A0O {u:List Int} {n fr:Nat} (hn:1≤n):fr≤eW u n fr∧eW u n fr≤max fr u.length∧A8x u (eW u n fr) n∧∀q,fr≤q→A8x u q n→eW u n fr≤q:=by
 obtain⟨a,b,c,d⟩:=C3y (u:=u) hn (u.length-fr) fr 0 (by omega) (by omega) (by omega) (fun k h1 h2=>by omega);exact⟨by unfold eW;simpa using a,by unfold eW;omega,c,fun q hq=>d q (by omega)⟩
def A0P:D9:=⟨T,V6,A7,A9,14,[],none,.t⟩
theorem B6c:B1 Tryz.prog A0P:=⟨M7,A2,A4⟩
theorem C0s:F0 Tryz.prog A0P:=⟨tOk,B6c⟩
theorem C0t (s:Int) (n:Int) (m:Int) (h:0≤s∧0≤n∧s+n≤m∧m≤1000000):aA Tryz.prog 253 false [int .i64 s,int .i64 n,int .i64 m] (.t [.c (i64 s),.c (bv true)]):=by
 refine cJ (E:=A0P) Tryz.func253 (fun M0 W hM0=>?_);refine A3 C0s [false] (fun bs=>?_);exact D5 tOk hM0 rfl rfl ⟨trivial,trivial,trivial⟩ ⟨⟨rfl,rfl⟩,rfl,trivial⟩
def A8y:C3
 |[.c (.pv (.val (.int .i64 s))),.c (.pv (.val (.int .i64 n))),.c (.pv (.val (.int .i64 m)))]=>some ((0≤s∧0≤n∧s+n≤m∧m≤1000000),false,.t [.c (i64 s),.c (bv true)])
 |_=>none
theorem B2g:E9 Tryz.prog 253 A8y:=by
 intro args pre sh rv h hp;unfold A8y at h;split at h
 ·cases h;have h:=hp;exact C0t _ _ _ h
 ·cases h
def A6u:FuncId→Option C3:=D6 253 A8y V6
theorem A6v:G4 Tryz.prog A6u:=B8 B2g M7
def sJ:D9:=⟨T,A6u,A7,A9,72,[],none,.f⟩
theorem B2h:B1 Tryz.prog sJ:=⟨A6v,A2,A4⟩
theorem Q4:F0 Tryz.prog sJ:=⟨tOk,B2h⟩
theorem C2b (u:List Int) (n fr m:Nat) (hu:u.length≤65536) (hn:1≤n) (hf:fr≤65536) (hm:eW u n fr+n≤m) (hm2:m≤1000000):C5 Tryz.prog 206 [lst (.ints .i64) u,int .i64 n,int .i64 fr,int .i64 m] [] (fun _=>True) (fun _:Unit=> .t [int .i64 (eW u n fr),bool true]) (fun _=>[]):=by
 refine I6 (E:=sJ) Tryz.func206 (fun M0 W hM0=>?_);refine L7 Q4 (fun _=>some false) [false] (fun bs=>?_);refine V3 (fun p:Nat×Nat=>[(0,lst (.ints .i64) u),(1,int .i64 n),(2,int .i64 fr),(3,int .i64 m),(10,int .i64 p.2),(11,int .i64 p.1)]) (fun _=>[]) (fun p=>eW u n fr=frG u n (u.length-p.1) p.1 p.2∧fr+p.2≤p.1∧p.2<n∧p.1≤max fr u.length) (fun p=>u.length-p.1) [] (fr,0) ⟨rfl,by omega,by omega,by omega⟩ (fun p hp=>?_);obtain⟨s,r⟩:=p;obtain⟨e,h1,h2,h3⟩:=hp;simp only at e h1 h2 h3;refine A3 Q4 [] (fun bs=>?_);refine I4 rfl rfl (fun hk=>?_) (fun hk=>?_)
 ·have hs:s<u.length:=by omega
  have hf1:u.length-s=(u.length-(s+1))+1:=by omega
  rw[hf1,frG]at e;refine A3 Q4 [] (fun bs=>?_);refine C6 rfl rfl (fun hq=>?_) (fun hq=>?_)
  ·have h0:¬u.getD s 0=0:=by
    have hq':(!decide (u.getD s 0=0))=true:=hq;simpa using hq'
   rw[if_neg h0]at e;refine A3 Q4 [] (fun bs=>?_);exact I0 [] (s+1,0) ⟨⟨e,by simp only;omega,by simp only;omega,by simp only;omega⟩,by simp only;omega⟩
  ·have h0:u.getD s 0=0:=by
    have hq':(!decide (u.getD s 0=0))=false:=hq;simpa using hq'
   rw[if_pos h0]at e;refine A3 Q4 [] (fun bs=>?_);refine C6 rfl rfl (fun hr=>?_) (fun hr=>?_)
   ·have hr':r+1=n:=by simp at hr;omega
    rw[if_pos hr']at e;refine A3 Q4 [] (fun bs=>?_);refine B3 Q4 () trivial [] (hr:=?hrr)
    case hrr=>
     and_intros<;> (first|exact wk_|refine A6 ?_|skip)
     all_goals omega
   ·have hr':¬r+1=n:=by simp at hr;omega
    rw[if_neg hr']at e;refine A3 Q4 [] (fun bs=>?_);exact I0 [] (s+1,r+1) ⟨⟨e,by simp only;omega,by simp only;omega,by simp only;omega⟩,by simp only;omega⟩
 ·have hs:u.length≤s:=by omega
  have e0:eW u n fr=s-r:=by rw[e,show u.length-s=0 by omega];rfl
  refine A3 Q4 [] (fun bs=>?_);refine C6 rfl rfl (fun hq=>?_) (fun hq=>?_)
  ·have hq':u.length≤fr:=by simp at hq;omega
   refine A3 Q4 [] (fun bs=>?_);refine B3 Q4 () trivial [] (hr:=?hr2)
   case hr2=>
    and_intros<;> (first|exact wk_|refine A6 ?_|skip)
    all_goals omega
  ·have hq':fr<u.length:=by simp at hq;omega
   refine A3 Q4 [] (fun bs=>?_);refine B3 Q4 () trivial [] (hr:=?hr3)
   case hr3=>
    and_intros<;> (first|exact wk_|refine A6 ?_|skip)
    all_goals omega
def sK:D9:=⟨T,aN,A7,A9,47,[],none,.t⟩
theorem B2i:B1 Tryz.prog sK:=⟨Q8,A2,A4⟩
theorem pW:F0 Tryz.prog sK:=⟨tOk,B2i⟩
theorem B6d (s:List UInt8) (h:s.length=1∧97≤(s.getD 0 0).toNat∧(s.getD 0 0).toNat≤122):aA Tryz.prog 24 false [str s] (.x (.c (bv true))):=by
 refine cJ (E:=sK) Tryz.func24 (fun M0 W hM0=>?_)
 match s,h with
 |[c],h=>
 have h1:97≤c.toNat∧c.toNat≤122:=h.2;refine L7 pW (fun _=>some false) [false] (fun bs=>?_);refine V3 (fun i:Nat=>[(0,str [c]),(13,int .i64 1),(14,int .i64 i)]) (fun _=>[]) (fun i=>i≤1) (fun i=>1-i) [] 0 (Nat.zero_le _) (fun i hi=>?_);refine A3 pW [] (fun bs=>?_);refine I4 rfl rfl (fun hk=>?_) (fun hk=>?_)
 ·have hi0:i=0:=by omega
  subst hi0;refine L7 pW (fun _=>some false) [false] (fun bs=>?_);exact I0 [] 1 ⟨Nat.le_refl _,by omega⟩
 ·refine A3 pW [] (fun bs=>?_);exact D5 tOk hM0 rfl rfl ⟨trivial,trivial⟩ rfl
def A4Z:C3
 |[.c (.pv (.val (.string ⟨⟨s⟩⟩)))]=>some ((s.length=1∧97≤(s.getD 0 0).toNat∧(s.getD 0 0).toNat≤122),false,.x (.c (bv true)))
 |_=>none
theorem A8z:E9 Tryz.prog 24 A4Z:=by
 intro args pre sh rv h hp;unfold A4Z at h;split at h
 ·cases h;have h:=hp;exact B6d _ h
 ·cases h
def sL:FuncId→Option C3:=D6 24 A4Z aN
theorem pX:G4 Tryz.prog sL:=B8 A8z Q8
def sM:D9:=⟨T,sL,A7,A9,18,[],none,.t⟩
theorem B2j:B1 Tryz.prog sM:=⟨pX,A2,A4⟩
theorem B6e:F0 Tryz.prog sM:=⟨tOk,B2j⟩
theorem B6f (n:Int) (c:Int) (h:(0≤n∧n≤4096)∧(0≤c∧c≤6)∧n%2 ^ c.toNat=0):aA Tryz.prog 131 false [int .i64 n,int .i64 c] (.x (.c (bv true))):=by
 refine cJ (E:=sM) Tryz.func131 (fun M0 W hM0=>?_);obtain⟨h1,h2,h3⟩:=h;have hp:=P5 h2;have h4:n%(1*2 ^ c.toNat)=0:=by rw[Int.one_mul];exact h3
 have h5:(1:Int)*2 ^ c.toNat=2 ^ c.toNat:=Int.one_mul _;refine L7 B6e (fun _=>some true) [] (fun bs=>?_);exact D5 tOk hM0 rfl rfl ⟨trivial,trivial⟩ (by show(_ && decide (n%(1*2 ^ c.toNat)=0))=true;simp[h4];omega)
def A4a:C3
 |[.c (.pv (.val (.int .i64 n))),.c (.pv (.val (.int .i64 c)))]=>some (((0≤n∧n≤4096)∧(0≤c∧c≤6)∧n%2 ^ c.toNat=0),false,.x (.c (bv true)))
 |_=>none
theorem A9A:E9 Tryz.prog 131 A4a:=by
 intro args pre sh rv h hp;unfold A4a at h;split at h
 ·cases h;have h:=hp;exact B6f _ _ h
 ·cases h
def sN:FuncId→Option C3:=D6 131 A4a sL
theorem pY:G4 Tryz.prog sN:=B8 A9A pX
def A0Q:D9:=⟨T,sN,A7,A9,27,[],none,.t⟩
theorem B6g:B1 Tryz.prog A0Q:=⟨pY,A2,A4⟩
theorem B0h:F0 Tryz.prog A0Q:=⟨tOk,B6g⟩
theorem C0u (l:List (List UInt8)) (h:l=[]):aA Tryz.prog 134 false [lst .str l] (.x (.c (bv true))):=by
 refine cJ (E:=A0Q) Tryz.func134 (fun M0 W hM0=>?_);subst h;refine A3 B0h [] (fun bs=>?_);refine V3 (fun _:Unit=>[(8,int .i64 0),(9,int .i64 0)]) (fun _=>[]) (fun _=>True) (fun _=>0) [] () trivial (fun _ _=>?_);refine A3 B0h [false] (fun bs=>?_);exact D5 tOk hM0 rfl rfl ⟨trivial,trivial⟩ rfl
def A9B:C3
 |[.c (.pv (.lst .str l))]=>some ((l=[]),false,.x (.c (bv true)))
 |_=>none
theorem B2k:E9 Tryz.prog 134 A9B:=by
 intro args pre sh rv h hp;unfold A9B at h;split at h
 ·cases h;have h:=hp;exact C0u _ h
 ·cases h
def aQ:FuncId→Option C3:=D6 134 A9B sN
theorem Q9:G4 Tryz.prog aQ:=B8 B2k pY
def Nm (s:Bs):Prop:=s.length=1∧97≤(s.getD 0 0).toNat∧(s.getD 0 0).toNat≤122
structure MOk (m:X7):Prop where
 sh:m.sh=[]
 mp:m.mp=[]
 c:0≤m.cl∧m.cl≤6
 s:0≤m.size∧m.size≤4096
 d:m.size%2 ^ m.cl.toNat=0
 b:m.bk=[]∨Nm m.bk
 t:E8 m.t (m.size / 2 ^ m.cl.toNat) m.cl=true
 n:m.ct.length≤65536
 k:∀x∈m.ct,0≤x∧x≤65535
theorem MOk.plain {m:X7} (h:MOk m):pQ m:=⟨h.sh,h.mp,rY h.t,nE h.t⟩
def iH:D9:=⟨T,aQ,A7,A9,154,[],none,.f⟩
theorem A9C:B1 Tryz.prog iH:=⟨Q9,A2,A4⟩
theorem T7:F0 Tryz.prog iH:=⟨tOk,A9C⟩
theorem A9D (m:X7) (h:MOk m):C5 Tryz.prog 61 [A2N m] [] (fun _=>True) (fun _:Unit=>bool true) (fun _=>[]):=by
 refine I6 (E:=iH) Tryz.func61 (fun M0 W hM0=>?_);have hp:=h.plain;obtain⟨cl,size,bk,t,sh,mp,ct⟩:=m;obtain⟨h1,h2,h3,h4,h5,h6,h7,h8,h9⟩:=h;dsimp only at h1 h2 h3 h4 h5 h6 h7 h8 h9 hp⊢;subst h1 h2;have hpow:=P5 h3;have hfl:=hp.hf;have htl:=hp.tl;dsimp only at hfl htl;have hb:bk=[]∨∃c,bk=[c]∧97≤c.toNat∧c.toNat≤122:=by
  rcases h6 with h|⟨q1,q2⟩
  ·exact .inl h
  ·match bk,q1,q2 with
   |[c],_,q2=>exact .inr ⟨c,rfl,q2⟩
 have tail:∀(bk:Bs) (b:Nat),G Tryz.prog iH (fH W []) W M0 (aU Tryz.prog Tryz.f61 (R2 (X:=Unit) M0 W [] (fun _=>True) (fun _=>bool true) (fun _=>[])))
  [.code (lft (lft (jQ (jQ (N8 Tryz.f61))))),.code (jQ (lft (jQ (jQ (N8 Tryz.f61))))),.code (jQ (jQ (jQ (N8 Tryz.f61))))]
  (mk [(1,.c (.ptr 0 b 0))] [.blk b 82 (A2O ⟨cl,size,bk,t,[],[],ct⟩)]):=by
  intro bk b;refine R3 T7 9 [0,1,0,4,0,16,60,0,128,511,1023,2047,4095,8191,16383,32767,65535,131071,262143,524287,1048575,2097151,4194303,8388607,16777215,33554431,67108863,134217727,268435455] [] (fun bs=>?_);refine Q2 T7 [false] (fun bs=>?_) (fun bs=>?_)
  ·and_intros<;> dsimp only<;> first|exact trivial|exact hfl|(intro _;first|exact trivial|rfl)|(simp only[h7,List.length_nil];simp;omega)|omega
  refine V3 (fun _:Unit=>[(1,.c (.ptr 0 b 0)),(3,pv (.nil .str)),(4,pv (.nil .str)),(69,int .i64 0),(70,int .i64 0)]) (fun _=>[.blk b 82 (A2O ⟨cl,size,bk,t,[],[],ct⟩)]) (fun _=>True) (fun _=>0) [0] () trivial (fun _ _=>?_);refine A3 T7 [false] (fun bs=>?_);refine V3 (fun _:Unit=>[(1,.c (.ptr 0 b 0)),(3,pv (.nil .str)),(4,pv (.nil .str)),(101,int .i64 0),(102,int .i64 0)]) (fun _=>[.blk b 82 (A2O ⟨cl,size,bk,t,[],[],ct⟩)]) (fun _=>True) (fun _=>0) [0] () trivial (fun _ _=>?_);refine A3 T7 [false] (fun bs=>?_);refine V3 (fun i:Nat=>[(3,pv (.nil .str)),(4,pv (.nil .str)),(135,lst (.ints .i64) ct),(136,int .i64 ct.length),(137,int .i64 i)]) (fun _=>[]) (fun i=>i≤ct.length) (fun i=>ct.length-i) [] 0 (Nat.zero_le _) (fun i hi=>?_)
  refine A3 T7 [] (fun bs=>?_);refine I4 rfl rfl (fun hk=>?_) (fun hk=>?_)
  ·have hi':i<ct.length:=by omega
   have hx:0≤ct.getD i 0∧ct.getD i 0≤65535:=h9 _ (by rw[List.getD,gE_ hi'];exact List.getElem_mem hi');refine J3 T7 (fun _=>some false) [false] (fun bs=>?_) (fun bs=>?_)
   ·and_intros<;> first|exact trivial|exact rfl|exact decide_eq_false (Int.not_lt.2 hx.1)|omega|(simp;exact hx)
   exact I0 [] (i+1) ⟨hi',by omega⟩
  ·refine L7 T7 (fun _=>some true) [] (fun bs=>?_);exact B3 T7 () trivial []
 rcases hb with rfl|⟨c,rfl,hc1,hc2⟩
 ·refine J3 T7 (fun _=>some false) [false] (fun bs=>?_) (fun bs=>?_)
  ·and_intros<;> first|exact trivial|exact rfl|omega|exact decide_eq_false (by omega)|(simp;omega)
  refine X3 [0] [(1,.c (.ptr 0 _ 0))] [.blk _ 82 (A2O ⟨cl,size,[],t,[],[],ct⟩)] (tail [] _)
 ·have hc1':97≤(([c]:Bs).getD 0 0).toNat:=hc1;have hc2':(([c]:Bs).getD 0 0).toNat≤122:=hc2;refine J3 T7 (fun n=>match n with|20=>some true|_=>some false) [false] (fun bs=>?_) (fun bs=>?_)
  ·and_intros<;> first|exact trivial|exact rfl|omega|exact decide_eq_false (by omega)|(simp;omega)
  refine X3 [0] [(1,.c (.ptr 0 _ 0))] [.blk _ 82 (A2O ⟨cl,size,[c],t,[],[],ct⟩)] (tail [c] _)
def wrP (b N:Nat):Ob (Value×Bs):=⟨fun x=>x.2.length≤N∧(0<N→0<x.2.length),fun x=>[.blk b 366 [.own 1 x.1],.own x.1 5 .byt x.2]⟩
abbrev wrO (b N:Nat) (S:Nat→Prop):HB:=ThO (wrP b N) S
theorem B2l {n v:Nat} (h1:1≤n) (h2:n≤8) (hv:v<256):jF n v=0:=by
 unfold jF;have hd:(v:Int) / 2 ^ (8*(n:Int)).toNat=0:=by
  apply Int.ediv_eq_zero_of_lt (by omega);have h3:(256:Int)≤2 ^ (8*(n:Int)).toNat:=by
   rw[show(8*(n:Int)).toNat=8+(8*n-8) by omega,Int.pow_add];have:(1:Int)≤2 ^ (8*n-8):=by have:=Nat.one_le_two_pow (n:=8*n-8);exact_mod_cast this
   have e:(2:Int) ^ 8=256:=by decide
   rw[e];omega
  omega
 rw[if_neg (by omega),if_neg (fun h=>h.2 hd)]
def A0R:D9:=⟨T,aQ,A7,A9,24,[],none,.f⟩
theorem B6h:B1 Tryz.prog A0R:=⟨Q9,A2,A4⟩
theorem B0i:F0 Tryz.prog A0R:=⟨tOk,B6h⟩
theorem A9E (b N:Nat) (S:Nat→Prop) (n v:Nat) (h1:1≤n) (h2:n≤8) (hv:v≤1000000000) (hN:N≤100000000) (hp:0<N∨v<256):C5 Tryz.prog 248 [.c (.ptr 0 b 0),int .i64 n,int .i64 v] [wrO b N S] (fun _=>True) (fun _:Nat→Prop=> .t []) (fun S=>[wrO b (N+n) S]):=by
 refine I6 (E:=A0R) Tryz.func248 (fun M0 W hM0=>?_);have hl:=hO [] n false v;simp only[List.length_nil,Nat.zero_add,Int.toNat_natCast]at hl;refine N0 0 (fun x hx=>?_);have hx':x.2.length≤N∧(0<N→0<x.2.length):=hx;have hpos:0<N∨0<(T9 [] n false v).length:=hp.imp id fun h=>by rw[B6A (B2l h1 h2 h)];simp;omega
 refine A3 B0i [] (fun bs=>?_);refine J8 0 (wrP b (N+n)) [0,3] (_,x.2++T9 [] n false v) (by show(x.2++_).length≤_∧(_→0<(x.2++_).length);rw[List.length_append];omega) (fun S1=>?_);exact Y6 B0i S1 trivial [0]
def sO:D9:=⟨T,aQ,A7,A9,20,[],none,.f⟩
theorem B2m:B1 Tryz.prog sO:=⟨Q9,A2,A4⟩
theorem A6w:F0 Tryz.prog sO:=⟨tOk,B2m⟩
theorem C5J (b N:Nat) (S:Nat→Prop) (s:Bs) (hs:s.length≤1) (hN:N≤100000000) (hp:0<N):C5 Tryz.prog 249 [.c (.ptr 0 b 0),str s] [wrO b N S] (fun _=>True) (fun _:Nat→Prop=> .t []) (fun S=>[wrO b (N+3) S]):=by
 refine I6 (E:=sO) Tryz.func249 (fun M0 W hM0=>?_);have hl:(uT [] s).length≤3:=by
  unfold uT;split
  ·have:=hO [] 2 false s.length;simp at this⊢;omega
  ·simp
 refine N0 0 (fun x hx=>?_);have hx':x.2.length≤N∧(0<N→0<x.2.length):=hx;refine A3 A6w [] (fun bs=>?_);refine J8 0 (wrP b (N+3)) [0,3] (_,x.2++uT [] s) (by show(x.2++_).length≤_∧(_→0<(x.2++_).length);rw[List.length_append];omega) (fun S1=>?_);exact Y6 A6w S1 trivial [0]
theorem B6i (t:List (List B0)) (c:Int):(A4O t c).length≤2+130*t.length:=by
 unfold A4O;split
 ·have:=pJ (vT t t.length);have:=A6n c t t.length;rw[List.length_append];omega
 ·simp
def A0S:D9:=⟨T,aQ,A7,A9,23,[],none,.f⟩
theorem B6j:B1 Tryz.prog A0S:=⟨Q9,A2,A4⟩
theorem B0j:F0 Tryz.prog A0S:=⟨tOk,B6j⟩
theorem C6b (b N:Nat) (S:Nat→Prop) (t:List (List B0)) (c:Int) (hl:t.length≤512) (hf:∀i,(leaf t i).length≤1000000000) (hu:∀i k,L1 .u32 ((leaf t i).getD k K4).sum) (hN:N≤100000000) (hp:0<N):C5 Tryz.prog 250 [.c (.ptr 0 b 0),.g [.pv (.lst .tbl t)],int .i64 c] [wrO b N S] (fun _=>True) (fun _:Nat→Prop=> .t []) (fun S=>[wrO b (N+(2+130*t.length)) S]):=by
 refine I6 (E:=A0S) Tryz.func250 (fun M0 W hM0=>?_);have htl:=B6i t c;refine N0 0 (fun x hx=>?_);have hx':x.2.length≤N∧(0<N→0<x.2.length):=hx;refine Q2 B0j [] (fun bs=>?_) (fun bs=>?_)
 ·and_intros<;> first|exact trivial|exact rfl|omega|exact hf|exact hu
 refine J8 0 (wrP b (N+(2+130*t.length))) [0,4] (_,x.2++A4O t c) (by show(x.2++_).length≤_∧(_→0<(x.2++_).length);rw[List.length_append];omega) (fun S1=>?_);exact Y6 B0j S1 trivial [0]
def nz (l:List Int):Nat:=l.countP fun x=>decide (x≠0)
theorem B0k {l:List Int} {i j:Nat} (h:i≤j):nz (l.take i)≤nz (l.take j):=by
 have:l.take j=l.take i++(l.take j).drop i:=by
  rw[show l.take i=(l.take j).take i by rw[List.take_take,Nat.min_eq_left h]];exact(List.take_append_drop i _).symm
 rw[nz,nz,this,List.countP_append];omega
theorem C0v {l:List Int} {i j:Nat} (h:i<j) (hj:j≤l.length) (hx:l.getD i 0≠0):nz (l.take i)+1≤nz (l.take j):=by
 have h1:=B0k (l:=l) (show i+1≤j by omega);have h2:l.take (i+1)=l.take i++[l.getD i 0]:=by rw[List.take_add_one,List.getD,gE_ (by omega)];rfl
 have h3:nz (l.take (i+1))=nz (l.take i)+1:=by rw[nz,nz,h2,List.countP_append,List.countP_cons_of_pos (p:=fun x:Int=>decide (x≠0)) (decide_eq_true hx)];rfl
 omega
def B6k (l:List Int) (i it:Nat):Prop:=∃a z:Nat,it≤2*nz (l.take i)+a+z∧a≤1∧65535*z≤i∧(a=1→i<l.length→l.getD i 0≠0)
theorem B6k.next {l:List Int} {i it n:Nat} (h:B6k l i it) (hn:1≤n) (hi:i+n≤l.length) (he:n=65535∨(i+n<l.length→l.getD (i+n) 0≠l.getD i 0)):B6k l (i+n) (it+1):=by
 obtain⟨a,z,h1,h2,h3,h4⟩:=h;by_cases hx:l.getD i 0=0
 ·have ha:a=0:=by
   rcases Nat.lt_or_ge 0 a with h|h
   ·exact absurd hx (h4 (by omega) (by omega))
   ·omega
  have hz:=B0k (l:=l) (show i≤i+n by omega);rcases he with he|he
  ·exact⟨0,z+1,by omega,by omega,by omega,by omega⟩
  ·exact⟨1,z,by omega,by omega,by omega,fun _ h e=>he h (e.trans hx.symm)⟩
 ·have hz:=C0v (l:=l) (show i<i+n by omega) hi hx;exact⟨0,z,by omega,by omega,by omega,by omega⟩
theorem C5K (l:List Int):nz l≤l.length:=List.countP_le_length
theorem B2n {l:List Int} {i it:Nat} (h:B6k l i it) (hi:i<l.length):it≤2*l.length+1+l.length:=by
 obtain⟨a,z,h1,h2,h3,h4⟩:=h;have:=C5K (l.take i);simp at this;omega
def A0T:D9:=⟨T,aQ,A7,A9,51,[],none,.f⟩
theorem B6l:B1 Tryz.prog A0T:=⟨Q9,A2,A4⟩
theorem W6:F0 Tryz.prog A0T:=⟨tOk,B6l⟩
theorem C6c (b N:Nat) (S:Nat→Prop) (l:List Int) (hl:l.length≤65536) (h9:∀x∈l,0≤x∧x≤65535) (hN:N≤1000000) (hp:0<N):C5 Tryz.prog 252 [.c (.ptr 0 b 0),lst (.ints .i64) l] [wrO b N S] (fun _=>True) (fun _:Nat→Prop=> .t []) (fun S=>[wrO b (N+(4+4*(2*nz l+2))) S]):=by
 refine I6 (E:=A0T) Tryz.func252 (fun M0 W hM0=>?_);refine A3 W6 [] (fun bs=>?_);refine A5 [0] (A9E b N S 4 l.length (by omega) (by omega) (by omega) (by omega) (.inl hp)) (fun S1 _=>?_);refine A3 W6 [] (fun bs=>?_);refine V3 (fun p:Nat×Nat×(Nat→Prop)=>[(0,.c (.ptr 0 b 0)),(1,lst (.ints .i64) l),(4,int .i64 p.1)]) (fun p=>[wrO b (N+4+4*p.2.1) p.2.2]) (fun p=>p.1≤l.length∧B6k l p.1 p.2.1) (fun p=>l.length-p.1) [0] (0,0,S1) ⟨Nat.zero_le _,⟨0,0,by simp,by omega,by simp,fun h=>by omega⟩⟩ (fun p hp=>?_);obtain⟨i,it,S2⟩:=p;obtain⟨h1,h2⟩:=hp;simp only at h1 h2;refine A3 W6 [] (fun bs=>?_);refine I4 rfl rfl (fun hk=>?_) (fun hk=>?_)
 ·have hi:i<l.length:=by omega
  refine A3 W6 [] (fun bs=>?_);refine V3 (fun n:Nat=>[(0,.c (.ptr 0 b 0)),(1,lst (.ints .i64) l),(4,int .i64 i),(5,int .i64 n)]) (fun n=>[wrO b (N+4+4*it) S2]) (fun n=>1≤n∧i+n≤l.length∧n≤65535) (fun n=>l.length-n) [0] 1 ⟨Nat.le_refl _,hi,by omega⟩ (fun n hn=>?_);obtain⟨n1,n2,n3⟩:=hn;refine A3 W6 [] (fun bs=>?_);refine R3 W6 21 [0,1,3,7,7,31,7,71,255,511,1023,2047,2047,2047,14335,32767,65535,2047,2047,395263,919551,2097151,4194303] [] (fun bs=>?_);refine A3 W6 [] (fun bs=>?_);refine C6 rfl rfl (fun h=>?_) (fun h=>?_)
  ·have h':n<65535∧i+n<l.length:=by
    have h3:((decide ((n:Int)<65535) && decide ((i:Int)+n<l.length)) && decide (l.getD ((i:Int)+n).toNat 0=l.getD i 0))=true:=h;simp only[Bool.and_eq_true,decide_eq_true_eq]at h3;omega
   refine A3 W6 [] (fun bs=>?_);exact I0 [0] (n+1) ⟨⟨by omega,by omega,by omega⟩,by omega⟩
  ·have h':n=65535∨(i+n<l.length→l.getD (i+n) 0≠l.getD i 0):=by
    have h3:((decide ((n:Int)<65535) && decide ((i:Int)+n<l.length)) && decide (l.getD ((i:Int)+n).toNat 0=l.getD i 0))=false:=h;rcases Nat.lt_or_ge n 65535 with q|q
    ·refine .inr fun q2 q3=>?_
     rw[show((i:Int)+n).toNat=i+n by omega,decide_eq_true (show(n:Int)<65535 by omega),decide_eq_true (show(i:Int)+n<l.length by omega),decide_eq_true q3]at h3;cases h3
    ·exact .inl (by omega)
   clear h;have hnb:=(B2n h2 hi)
   have hx:=h9 (l.getD i 0) (by rw[List.getD,gE_ hi];exact List.getElem_mem hi);refine A3 W6 [] (fun bs=>?_);refine A5 [0] (A9E b (N+4+4*it) S2 2 n (by omega) (by omega) (by omega) (by omega) (.inl (by omega))) (fun S3 _=>?_);refine A3 W6 [] (fun bs=>?_);obtain⟨w,hw⟩:=Int.eq_ofNat_of_zero_le hx.1;refine A5 [0] (A9E b (N+4+4*it+2) S3 2 w (by omega) (by omega) (by omega) (by omega) (.inl (by omega))) (fun S4 _=>?_) (hsim:=?hs1)
   case hs1=>
    and_intros<;> (first|exact wk_|refine A6 ?_|skip)
    all_goals exact hw
   refine A3 W6 [] (fun bs=>?_);refine G3 [0] (i+n,it+1,S4) ⟨⟨n2,h2.next n1 n2 h'⟩,by simp only;omega⟩ ?wk1
   case wk1=>
    and_intros<;> (first|exact wk_|refine A6 ?_|skip)
 ·have hi:i=l.length:=by omega
  obtain⟨a,z,q1,q2,q3,q4⟩:=h2;rw[hi,List.take_length]at q1;refine A3 W6 [] (fun bs=>?_);refine N0 0 (fun x hx=>?_);have hx':x.2.length≤N+4+4*it∧(0<N+4+4*it→0<x.2.length):=hx;refine J8 0 (wrP b (N+(4+4*(2*nz l+2)))) [0,1] x (by show x.2.length≤_∧(_→0<x.2.length);omega) (fun S5=>?_);exact Y6 W6 S5 trivial [0]
def A4b (m:X7):Nat:=25+130*m.t.length+8*nz m.ct
def A0U:D9:=⟨T,aQ,A7,A9,89,[],none,.f⟩
theorem B6m:B1 Tryz.prog A0U:=⟨Q9,A2,A4⟩
theorem Y1:F0 Tryz.prog A0U:=⟨tOk,B6m⟩
theorem C5L (m:X7) (h:MOk m) (hu:∀i k,L1 .u32 ((leaf m.t i).getD k K4).sum) (hz:nz m.ct≤1000):C5 Tryz.prog 203 [A2N m] [] (fun x:Value×Bs=>x.2.length≤A4b m∧0<x.2.length) (fun x=> .t [.c (.own 0 x.1),int .i64 0]) (fun x=>[.own x.1 5 .byt x.2]):=by
 refine I6 (E:=A0U) Tryz.func203 (fun M0 W hM0=>?_);have hpl:=h.plain;have hz2:A4b m≤100000:=by have:=hpl.tl;unfold A4b;omega
 have hcl:=h.c;have hsz:=h.s;have hbk:m.bk.length≤1:=by
  rcases h.b with e|e; ·rw[e];simp
  ·rw[e.1];omega
 have hmp:=h.mp;have hsh:=h.sh;obtain⟨c,hc⟩:=Int.eq_ofNat_of_zero_le hcl.1;obtain⟨s,hs⟩:=Int.eq_ofNat_of_zero_le hsz.1;refine A3 Y1 [] (fun bs=>?_);refine A5 [] (A9D m h) (fun _ _=>?_);refine A3 Y1 [false] (fun bs=>?_);refine bZ 1 0 5 rfl rfl ?_;refine J8 1 (wrP ?bw 0) [1,2] (.slice none 0 0,[]) ⟨Nat.zero_le _,fun h=>absurd h (Nat.lt_irrefl 0)⟩ (fun S0=>?_);refine A5 [1] (A9E ?bw 0 S0 1 c (by omega) (by omega) (by omega) (by omega) (.inr (by omega))) (fun S1 _=>?_) (hsim:=?hs1)
 case hs1=>
  and_intros<;> (first|exact wk_|refine A6 ?_|skip)
  all_goals exact hc
 refine A3 Y1 [] (fun bs=>?_);refine A5 [1] (A9E ?bw (0+1) S1 2 s (by omega) (by omega) (by omega) (by omega) (.inl (by omega))) (fun S2 _=>?_) (hsim:=?hs2)
 case hs2=>
  and_intros<;> (first|exact wk_|refine A6 ?_|skip)
  all_goals exact hs
 refine A3 Y1 [] (fun bs=>?_);refine A5 [1] (C5J ?bw (0+1+2) S2 m.bk hbk (by omega) (by omega)) (fun S3 _=>?_);refine A3 Y1 [] (fun bs=>?_);refine A5 [1] (C6b ?bw (0+1+2+3) S3 m.t m.cl hpl.tl hpl.hf hu (by omega) (by omega)) (fun S4 _=>?_);have hN1:0+1+2+3+(2+130*m.t.length)=8+130*m.t.length:=by omega
 refine A3 Y1 [] (fun bs=>?_);refine A5 [1] (A9E ?bw (0+1+2+3+(2+130*m.t.length)) S4 1 0 (by omega) (by omega) (by omega) (by have:=hpl.tl;omega) (.inl (by omega))) (fun S5 _=>?_) (hsim:=?hs3)
 case hs3=>
  and_intros<;> (first|exact wk_|refine A6 ?_|skip)
  all_goals(rw[hsh];rfl)
 refine A3 Y1 [] (fun bs=>?_);refine K3 (fun p:Nat×Nat×(Nat→Prop)=>[(1,.c (.ptr 0 p.2.1 0)),(4,.c (.ptr 1 p.1 0)),(39,int .i64 0),(40,int .i64 0)]) (fun p=>[.blk p.2.1 82 (A2O m),wrO p.1 (0+1+2+3+(2+130*m.t.length)+1) p.2.2]) (fun _=>True) (fun _=>0) [0,1] (?bw,?bm,S5) trivial ?wk1 (fun p _=>?_)
 case wk1=>
  and_intros<;> (first|exact wk_|refine A6 ?_|skip)
  all_goals(rw[hsh];rfl)
 obtain⟨bw,bm,S6⟩:=p;refine A3 Y1 [false] (fun bs=>?_);refine A5 [1] (A9E bw (0+1+2+3+(2+130*m.t.length)+1) S6 1 0 (by omega) (by omega) (by omega) (by have:=hpl.tl;omega) (.inl (by omega))) (fun S7 _=>?_) (hsim:=?hs4)
 case hs4=>
  and_intros<;> (first|exact wk_|refine A6 ?_|skip)
  all_goals(rw[hmp];rfl)
 refine A3 Y1 [] (fun bs=>?_);refine K3 (fun _:Unit=>[(1,.c (.ptr 0 bm 0)),(4,.c (.ptr 1 bw 0)),(66,int .i64 0),(67,int .i64 0)]) (fun _=>[.blk bm 82 (A2O m),wrO bw (0+1+2+3+(2+130*m.t.length)+1+1) S7]) (fun _=>True) (fun _=>0) [0,1] () trivial ?wk2 (fun _ _=>?_)
 case wk2=>
  and_intros<;> (first|exact wk_|refine A6 ?_|skip)
  all_goals(rw[hmp];rfl)
 refine A3 Y1 [false] (fun bs=>?_);refine A5 [1] (C6c bw (0+1+2+3+(2+130*m.t.length)+1+1) S7 m.ct h.n h.k (by have:=hpl.tl;omega) (by omega)) (fun S8 _=>?_);refine N0 1 (fun x hx=>?_);have hx':x.2.length≤A4b m∧0<x.2.length:=by
  have:x.2.length≤0+1+2+3+(2+130*m.t.length)+1+1+(4+4*(2*nz m.ct+2))∧(0<0+1+2+3+(2+130*m.t.length)+1+1+(4+4*(2*nz m.ct+2))→0<x.2.length):=hx;refine⟨by unfold A4b;omega,this.2 (by omega)⟩
 have hx2:=hx'.1;refine A3 Y1 [false] (fun bs=>?_);exact B3 Y1 x hx' [2]
def A0V:D9:=⟨T,aQ,A7,A9,7,[],none,.t⟩
theorem B6n:B1 Tryz.prog A0V:=⟨Q9,A2,A4⟩
theorem C0w:F0 Tryz.prog A0V:=⟨tOk,B6n⟩
theorem C0x (n:Int) (h:0≤n∧n≤1000000000):aA Tryz.prog 118 false [int .i64 n] (.x (.c (i64 ((n+16-1) / 16)))):=by
 refine cJ (E:=A0V) Tryz.func118 (fun M0 W hM0=>?_);refine A3 C0w [] (fun bs=>?_);exact D5 tOk hM0 rfl rfl ⟨trivial,trivial⟩ ⟨rfl,rfl⟩
def A9F:C3
 |[.c (.pv (.val (.int .i64 n)))]=>some ((0≤n∧n≤1000000000),false,.x (.c (i64 ((n+16-1) / 16))))
 |_=>none
theorem B2o:E9 Tryz.prog 118 A9F:=by
 intro args pre sh rv h hp;unfold A9F at h;split at h
 ·cases h;have h:=hp;exact C0x _ h
 ·cases h
def R9:FuncId→Option C3:=D6 118 A9F aQ
theorem L4:G4 Tryz.prog R9:=B8 B2o Q9
def svC (m:X7) (size:Nat) (u:List Int):List C:=A2O m++[.pv (i64 size),.pv (.lst (.ints .i64) u)]
abbrev svH (b:Nat) (m:X7) (size:Nat) (u:List Int):List HB:=[.blk b 223 (svC m size u)]
def B0l (u:List Int) (p r:Nat):Prop:=A8x u p r∧p+r≤65536∧(p+r=65536∨(p+r<u.length∧u.getD (p+r) 0≠0))
theorem B0m {u:List Int} {p n:Nat} (h1:p+n<65536) (h2:¬u.length≤p+n):(decide ((p:Int)+n<65536) && (decide ((u.length:Int)≤(p:Int)+n) || decide (u.getD ((p:Int)+n).toNat 0=0)))=decide (u.getD (p+n) 0=0):=by
 rw[show((p:Int)+n).toNat=p+n by omega,decide_eq_true (show(p:Int)+n<65536 by omega),decide_eq_false (show¬(u.length:Int)≤(p:Int)+n by omega)];rfl
def nI:D9:=⟨T,R9,A7,A9,36,[],none,.f⟩
theorem A9G:B1 Tryz.prog nI:=⟨L4,A2,A4⟩
theorem aZ:F0 Tryz.prog nI:=⟨tOk,A9G⟩
theorem C3z (b:Nat) (m:X7) (size:Nat) (u:List Int) (hu:u.length≤65536) (p:Nat) (hp:p≤65536):C5 Tryz.prog 204 [.c (.ptr 0 b 0),int .i64 p] (svH b m size u) (fun r:Nat=>B0l u p r) (fun r=>int .i64 r) (fun _=>svH b m size u):=by
 refine I6 (E:=nI) Tryz.func204 (fun M0 W hM0=>?_);refine A3 aZ [] (fun bs=>?_);refine V3 (fun n:Nat=>[(0,.c (.ptr 0 b 0)),(1,int .i64 p),(5,int .i64 n)]) (fun _=>svH b m size u) (fun n=>p+n≤65536∧A8x u p n) (fun n=>65536-(p+n)) [0] 0 ⟨hp,fun k h1 h2=>by omega⟩ (fun n hn=>?_);obtain⟨h1,h2⟩:=hn;by_cases hq:p+n<65536
 ·by_cases hq2:u.length≤p+n
  ·refine J3 aZ (fun n=>match n with|4=>some true|14=>some true|_=>none) [true] (fun bs=>?_) (fun bs=>?_)
   ·and_intros<;> first|exact trivial|omega|(simp;omega)
   exact I0 [0] (n+1) ⟨⟨by omega,fun k k1 k2=>by
    rcases Nat.lt_or_ge k (p+n)with h|h
    ·exact h2 k k1 h
    ·rw[List.getD,List.getElem?_eq_none (by omega)];rfl⟩,by omega⟩
  ·by_cases h0:u.getD (p+n) 0=0
   ·have h0':u.getD ((p:Int)+n).toNat 0=0:=by rw[show((p:Int)+n).toNat=p+n by omega];exact h0
    refine J3 aZ (fun n=>match n with|4=>some true|14=>some false|_=>none) [true] (fun bs=>?_) (fun bs=>?_)
    ·and_intros<;> first|exact trivial|omega|(simp;omega)|(simp;done)|(refine Eq.trans ?_ (decide_eq_true h0);exact B0m hq hq2)
    exact I0 [0] (n+1) ⟨⟨by omega,fun k k1 k2=>by
     rcases Nat.lt_or_ge k (p+n)with h|h
     ·exact h2 k k1 h
     ·rw[show k=p+n by omega];exact h0⟩,by omega⟩
   ·refine J3 aZ (fun n=>match n with|4=>some true|14=>some false|_=>none) [false] (fun bs=>?_) (fun bs=>?_)
    ·and_intros<;> first|exact trivial|omega|(simp;omega)|(simp;done)|(refine Eq.trans ?_ (decide_eq_false h0);exact B0m hq hq2)
    exact B3 aZ n ⟨h2,h1,.inr ⟨by omega,h0⟩⟩ [0]
 ·refine J3 aZ (fun _=>some false) [false] (fun bs=>?_) (fun bs=>?_)
  ·and_intros<;> first|exact trivial|omega|(simp;omega)|(simp;done)
  exact B3 aZ n ⟨h2,h1,.inl (by omega)⟩ [0]
structure A2P (m:X7):Prop where
 ok:MOk m
 ct:m.ct=[]
 u:∀i k,L1 .u32 ((leaf m.t i).getD k K4).sum
 g:∀i:Nat,Z7 (L2 m.t i)=true→pV (L2 m.t i)
 tl:m.t.length≤2
 s:(((F3 m.t).map fun l=>l.e.count.toNat).sum)≤64
def pZ (m:X7) (N:Nat):X7:=⟨m.cl,m.size,m.bk,m.t,m.sh,m.mp,aP (F3 m.t) N⟩
theorem A9H {l:List Nat} {p q r:Nat→Bool} (h:∀x∈l,p x=true→q x=true∨r x=true):l.countP p≤l.countP q+l.countP r:=by
 induction l with
 |nil=>simp
 |cons x l ih=>
  have h1:=ih (fun y hy=>h y (by simp[hy]));have h2:=h x (by simp);simp only[List.countP_cons];cases hp:p x with
  |false=>simp;omega
  |true=>
   rcases h2 hp with e|e
   ·simp[e];omega
   ·simp[e];omega
theorem B2p (e:B0) (N:Nat) (h:pV e):(List.range N).countP (fun k=>kI e k)≤e.count.toNat:=by
 obtain⟨s,hs⟩:=Int.eq_ofNat_of_zero_le (show 0≤e.start by have:=h.st;omega);obtain⟨c,hc⟩:=Int.eq_ofNat_of_zero_le (show 0≤e.count by have:=h.ct;omega);have key:(List.range N).countP (fun k=>kI e k)=min N (s+c)-min N s:=by
  induction N with
  |zero=>simp
  |succ N ih=>
   rw[List.range_succ,List.countP_append,ih];have:kI e N=(decide (s≤N) && decide (N<s+c)):=by
    simp only[kI,hs,hc];congr 1<;> (apply decide_eq_decide.2;omega)
   simp only[List.countP_cons,List.countP_nil,this];by_cases h1:s≤N<;> by_cases h2:N<s+c<;> simp[h1,h2]<;> omega
 rw[key,hc];omega
theorem C4A (ls:List bQ) (hg:∀l∈ls,pV l.e) (N:Nat):nz (aP ls N)≤2+(ls.map fun l=>l.e.count.toNat).sum:=by
 have e:∀ls,nz (aP ls N)=(List.range N).countP (fun k=>decide (I5 ls k≠0)):=fun ls=>by
  unfold nz aP M6;rw[List.countP_map];rfl
 rw[e]
 induction ls with
 |nil=>
  simp only[List.map_nil,List.sum_nil];have h0:(List.range N).countP (fun k=>decide (I5 [] k≠0))=min N 2:=by
   clear hg e
   induction N with
   |zero=>simp
   |succ N ih=>
    rw[List.range_succ,List.countP_append,ih];by_cases h:N<2
    ·simp[I5,fM,h];omega
    ·simp[I5,fM,h];omega
  omega
 |cons l ls ih=>
  have h1:=ih (fun x hx=>hg x (by simp[hx]));have h2:=B2p l.e N (hg l (by simp));have h3:(List.range N).countP (fun k=>decide (I5 (l::ls) k≠0))≤(List.range N).countP (fun k=>decide (I5 ls k≠0))+(List.range N).countP (fun k=>kI l.e k):=A9H fun k _ hk=>by
   have hk':=of_decide_eq_true hk;cases hc:kI l.e k with
   |true=>exact .inr rfl
   |false=>
    refine .inl (decide_eq_true fun h=>hk' ?_);simp only[I5,fM,List.map_cons,List.sum_cons,hc,fN]at h⊢;simp at h⊢;omega
  simp only[List.map_cons,List.sum_cons];omega
theorem A2P.mok {m:X7} (h:A2P m) {N:Nat} (hN:N≤65536):MOk (pZ m N):=by
 have hl:(F3 m.t).length≤4096:=by have:=sI (-1) m.t (m.t.length*8);have:=h.tl;unfold F3;omega
 refine⟨h.ok.sh,h.ok.mp,h.ok.c,h.ok.s,h.ok.d,h.ok.b,h.ok.t,by simp[pZ,aP,L0];exact hN,fun x hx=>?_⟩;simp only[pZ,aP,M6]at hx;obtain⟨k,_,rfl⟩:=List.mem_map.1 hx;have:=lK (F3 m.t) k;simp only[I5];split<;> omega
theorem A2P.put {m:X7} (h:A2P m) {N:Nat}:nz (pZ m N).ct≤66∧A4b (pZ m N)≤815:=by
 have h1:=C4A (F3 m.t) (C2a h.g (-1) _) N;have h2:=h.s;have h3:=h.tl;have:nz (pZ m N).ct≤66:=by simp only[pZ];omega
 exact⟨this,by unfold A4b;simp only[pZ]at this⊢;omega⟩
def A0W:D9:=⟨T,R9,A7,A9,45,[],none,.f⟩
theorem B6o:B1 Tryz.prog A0W:=⟨L4,A2,A4⟩
theorem bL:F0 Tryz.prog A0W:=⟨tOk,B6o⟩
theorem C6d (b:Nat) (m:X7) (h:A2P m) (size:Nat) (hs:size≤65536) (u:List Int) (p:Nat) (hp:p≤65536):C5 Tryz.prog 205 [.c (.ptr 0 b 0),int .i64 p] (svH b m size u) (fun x:Value×Bs×Nat=>1≤x.2.2∧x.2.2≤52∧x.2.1.length≤16*x.2.2∧0<x.2.1.length) (fun x=> .t [.c (.own 1 x.1),int .i64 x.2.2,int .i64 0]) (fun x=>svH b m size u++[.own x.1 5 .byt x.2.1]):=by
 refine I6 (E:=A0W) Tryz.func205 (fun M0 W hM0=>?_);refine A3 bL [] (fun bs=>?_);refine V3 (fun n:Nat=>[(0,.c (.ptr 0 b 0)),(1,int .i64 p),(7,int .i64 n)]) (fun _=>svH b m size u) (fun n=>1≤n∧n≤52) (fun n=>52-n) [0] 1 ⟨Nat.le_refl _,by omega⟩ (fun n hn=>?_);obtain⟨h1,h2⟩:=hn;refine A3 bL [] (fun bs=>?_);refine R3 bL 10 [0,0,2,6,14,0,0,96,254,510,1023,2047,4095] [] (fun bs=>?_);refine A3 bL [] (fun bs=>?_);obtain⟨N,hN⟩:∃N,N=min (max size (p+n)) 65536:=⟨_,rfl⟩
 refine A5 [] (cOf m h.ok.plain h.g N (by omega)) (fun v _=>?_) (hsim:=?hs1)
 case hs1=>
  and_intros<;> (first|exact wk_|refine A6 ?_|skip)
  all_goals omega
 refine C8 bL 1 (fun _=>none) (fun bs=>?_);refine K7 1 6 12 rfl rfl rfl ?_;refine A3 bL [] (fun bs=>?_);have hput:=h.put (N:=N);refine A5 [] (C5L (pZ m N) (h.mok (by omega)) h.u (by omega)) (fun x hx=>?_);have hx1:=hx.1;have hx2:=hx.2;refine A3 bL [false] (fun bs=>?_);refine C6 rfl rfl (fun hq=>?_) (fun hq=>?_)
 ·obtain⟨k,hk⟩:∃k,k=(x.2.length+15) / 16:=⟨_,rfl⟩
  have hq':n<k:=by simp at hq;omega
  refine A3 bL [] (fun bs=>?_);refine G3 [0] k ⟨⟨by omega,by omega⟩,by omega⟩ ?wk1
  case wk1=>
   and_intros<;> (first|exact wk_|refine A6 ?_|skip)
   all_goals omega
 ·have hq':x.2.length≤16*n:=by simp at hq;omega
  refine A3 bL [] (fun bs=>?_);exact B3 bL (x.1,x.2,n) ⟨h1,h2,hq',hx2⟩ [0,13]
theorem A2P.bare {m:X7} (h:A2P m):A4b m≤815:=by
 have:=h.tl;unfold A4b;rw[h.ct];simp[nz];omega
def nJ:D9:=⟨T,R9,A7,A9,81,[],none,.f⟩
theorem A9I:B1 Tryz.prog nJ:=⟨L4,A2,A4⟩
theorem L8:F0 Tryz.prog nJ:=⟨tOk,A9I⟩
theorem C4B (b:Nat) (m:X7) (h:A2P m) (size:Nat) (hs:size≤60000) (u:List Int) (hu:u.length=65536) (hz:∀k,size≤k→2≤k→u.getD k 0=0):C5 Tryz.prog 119 [.c (.ptr 0 b 0)] (svH b m size u) (fun x:Value×Bs×Nat×Nat=>(1≤x.2.2.1∧x.2.2.1≤52∧x.2.1.length≤16*x.2.2.1∧0<x.2.1.length)∧2≤x.2.2.2∧x.2.2.2≤max 2 size∧A8x u x.2.2.2 x.2.2.1) (fun x=> .t [int .i64 x.2.2.2,.c (.own 1 x.1),int .i64 x.2.2.1,int .i64 0]) (fun x=>svH b m size u++[.own x.1 5 .byt x.2.1]):=by
 refine I6 (E:=nJ) Tryz.func119 (fun M0 W hM0=>?_);have hb:=h.bare;have hct:=h.ct;refine A3 L8 [] (fun bs=>?_);refine A5 [] (C5L m h.ok h.u (by rw[h.ct];simp[nz])) (fun x hx=>?_) (hsim:=?hs1)
 case hs1=>
  and_intros<;> (first|exact wk_|refine A6 ?_|skip)
 have hx1:=hx.1;have hx2:=hx.2;refine A3 L8 [false] (fun bs=>?_);obtain⟨L,hL⟩:∃L,L=(x.2.length+15) / 16:=⟨_,rfl⟩
 have hsz:∀p R,2≤p→p≤60000→B0l u p R→R≤60→p+R<size:=fun p R h1 h2 h3 h4=>by
  rcases h3.2.2 with h|h
  ·omega
  ·rcases Nat.lt_or_ge (p+R) size with h5|h5
   ·exact h5
   ·exact absurd (hz _ h5 (by omega)) h.2
 have hfit:∀p n,2≤p→p≤max 2 size→1≤n→eW u n p≤max 2 size:=fun p n h1 h2 h3=>by
  have:=(A0O (u:=u) (n:=n) (fr:=p) h3).2.2.2 (max 2 size) h2 (fun k k1 k2=>hz k (by omega) (by omega));exact this
 refine K3 (fun q:Nat×Nat=>[(0,.c (.ptr 0 b 0)),(9,int .i64 L),(10,int .i64 q.2),(11,int .i64 q.1)]) (fun _=>svH b m size u) (fun q=>(2≤q.1∧q.1≤max 2 size)∧q.2≤65536∧(q.2≤1∨B0l u q.1 (q.2-1))) (fun q=>65536-q.1) [0] (2,0) ⟨⟨by omega,by omega⟩,by omega,.inl (by omega)⟩ ?wk (fun q hq=>?_)
 case wk=>
  and_intros<;> (first|exact wk_|refine A6 ?_|skip)
  all_goals omega
 obtain⟨p,r⟩:=q;obtain⟨⟨p1,p2⟩,r1,r2⟩:=hq;simp only at p1 p2 r1 r2;refine Q2 L8 [true] (fun bs=>?_) (fun bs=>?_)
 ·and_intros<;> first|exact trivial|(simp;omega)
 refine A2g (fun R:Nat=>[(0,.c (.ptr 0 b 0)),(9,int .i64 L),(10,int .i64 R),(11,int .i64 p)]) (fun _=>svH b m size u) (fun R=>B0l u p R) rfl ?_ (fun R hR=>?_)
 ·refine C6 rfl rfl (fun hc=>?_) (fun hc=>?_)
  ·refine A3 L8 [] (fun bs=>?_);refine A5 [0] (C3z b m size u (by omega) p (by omega)) (fun R hR=>?_);refine A3 L8 [] (fun bs=>?_);exact I0 [0] R hR
  ·have hr:1<r:=by simp at hc;omega
   refine A3 L8 [] (fun bs=>?_);refine G3 [0] (r-1) (r2.resolve_left (by omega)) ?wk2
   case wk2=>
    and_intros<;> (first|exact wk_|refine A6 ?_|skip)
    all_goals omega
 have hR2:=hR.2.1;refine A3 L8 [] (fun bs=>?_);refine C6 rfl rfl (fun hc=>?_) (fun hc=>?_)
 ·have hRL:R<L:=by simp at hc;omega
  have hps:=hsz p R p1 (by omega) hR (by omega);refine A3 L8 [] (fun bs=>?_);refine G3 [0] (p+(R-1)+1,0) ⟨⟨⟨by simp only;omega,by simp only;omega⟩,by simp only;omega,.inl (by simp only;omega)⟩,by simp only;omega⟩ ?wk3
  case wk3=>
   and_intros<;> (first|exact wk_|refine A6 ?_|skip)
   all_goals(simp only;omega)
 ·have hRL:L≤R:=by simp at hc;omega
  refine A3 L8 [] (fun bs=>?_);refine A5 [0] (C6d b m h size (by omega) u p (by omega)) (fun y hy=>?_);obtain⟨v,bts,n⟩:=y;obtain⟨y1,y2,y3,y4⟩:=hy;dsimp only at y1 y2 y3 y4;have hf:=hfit p n p1 p2 y1;have hfo:=A0O (u:=u) (n:=n) (fr:=p) y1;refine A3 L8 [false] (fun bs=>?_);refine A5 [] (C2b u n p 65536 (by omega) y1 (by omega) (by omega) (by omega)) (fun _ _=>?_);refine L7 L8 (fun _=>some true) [] (fun bs=>?_);refine C6 rfl rfl (fun he=>?_) (fun he=>?_)
  ·have he':eW u n p=p:=by simp at he;omega
   refine A3 L8 [] (fun bs=>?_);refine B3 L8 (v,bts,n,p) ⟨⟨y1,y2,y3,y4⟩,p1,p2,?zz⟩ [0,1]
   case zz=>have:=hfo.2.2.1;rw[he']at this;exact this
  ·have he':eW u n p≠p:=by simp at he;omega
   have hps:p<size:=by
    rcases Nat.lt_or_ge p size with h5|h5
    ·exact h5
    ·have:=hfo.2.2.2 p (Nat.le_refl _) (fun k k1 k2=>hz k (by omega) (by omega));omega
   refine A3 L8 [] (fun bs=>?_);refine G3 [0] (p+1,R) ⟨⟨⟨by simp only;omega,by simp only;omega⟩,by simp only;omega,?rr⟩,by simp only;omega⟩ ?wk4
   case rr=>
    rcases Nat.lt_or_ge 1 R with h5|h5
    ·refine .inr ⟨fun k k1 k2=>hR.1 k (by simp only at k1;omega) (by simp only at k2;omega),by simp only;omega,?_⟩;rw[show(p+1,R).1+((p+1,R).2-1)=p+R by simp only;omega];exact hR.2.2
    ·exact .inl h5
   case wk4=>and_intros<;> (first|exact wk_|refine A6 ?_|skip)
theorem C0y {l:List Bs} (h2:2≤l.length) (hl:∀s∈l,s.length=16):(gV l 0 2).take 16=l.getD 0 []∧(gV l 0 2).drop 16=l.getD 1 []∧(gV l 0 2).length=32:=by
 match l,h2 with
 |a::b::l,_=>
  have ha:=hl a (by simp);have hb:=hl b (by simp);have e:gV (a::b::l) 0 2=a++b:=by simp[gV]
  rw[e];refine⟨?_,?_,by simp[ha,hb]⟩
  ·rw[←ha,List.take_left];rfl
  ·rw[←ha,List.drop_left];rfl
def nK:D9:=⟨T,R9,A7,A9,38,[],none,.f⟩
theorem A9J:B1 Tryz.prog nK:=⟨L4,A2,A4⟩
theorem Z4:F0 Tryz.prog nK:=⟨tOk,A9J⟩
theorem C4C (b:Nat) (d:H8) (S:Nat→Prop) (nm:Bs) (f:P7) (hf:H9 d.files nm=some f) (hm:f.now.length≤1000000) (hl:∀s∈f.now,s.length=16):C5 Tryz.prog 117 [.c (.ptr 0 b 0),str nm] [D3 b d S] (fun x:(Nat→Prop)×Value×List iZ×Int=>x.2.2.1=[]∨(2≤f.now.length∧x.2.2.1=nH (f.now.getD 0 []) (f.now.getD 1 []))) (fun x=> .t [.c (.own 1 x.2.1),int .i64 x.2.2.2]) (fun x=>[D3 b d x.1,.own x.2.1 135 .slt x.2.2.1]):=by
 refine I6 (E:=nK) Tryz.func117 (fun M0 W hM0=>?_);refine A3 Z4 [] (fun bs=>?_);refine A5 [0] (B0R b d S nm f hf) (fun S1 _=>?_);refine A3 Z4 [false] (fun bs=>?_);by_cases h2:f.now.length<2
 ·refine A5 [0] (A6R b d S1 nm f hf 0 f.now.length (by omega) (by omega)) (fun x _=>?_) (hsim:=?hs1)
  case hs1=>
   and_intros<;> (first|exact wk_|refine A6 ?_|skip)
   all_goals omega
  refine A3 Z4 [false,true] (fun bs=>?_);refine lZ 4 135 rfl ?_;exact B3 Z4 (x.1,.slice none 0 0,[],3) (.inl rfl) [0,2]
 ·have h2':2≤f.now.length:=by omega
  obtain⟨c1,c2,c3⟩:=C0y h2' hl;refine A5 [0] (A6R b d S1 nm f hf 0 2 (by omega) hm) (fun x _=>?_) (hsim:=?hs2)
  case hs2=>
   and_intros<;> (first|exact wk_|refine A6 ?_|skip)
   all_goals omega
  refine A3 Z4 [false,false] (fun bs=>?_);refine G1 1 [8] rfl ⟨rfl,trivial⟩ ?_;refine R3 Z4 4 [0,1,0,4,15,31,63] [] (fun bs=>?_);refine A3 Z4 [] (fun bs=>?_);refine B3 Z4 (x.1,?v,nH (f.now.getD 0 []) (f.now.getD 1 []),0) (.inr ⟨h2',rfl⟩) [0,6] (hl:=?hl)
  case hl=>
   and_intros<;> (first|exact wk_|refine A6 ?_|skip)
   all_goals(show nH (((gV f.now 0 2).take 16).drop 0) (((gV f.now 0 2).take ((gV f.now 0 2).length:Int).toNat).drop 16)=_;rw[List.drop_zero,show(((gV f.now 0 2).length:Nat):Int).toNat=(gV f.now 0 2).length by omega,List.take_length,c1,c2])
structure C0z (d:H8) (f:P7) (a n:Nat):Prop where
 np:0<n
 ap:a+n≤65536
 l:∀p∈d.files,p.2.now.length≤65536
 c:d.files.length≤32
 r:((a+n:Nat):Int)-f.now.length≤d.room-aK d.files
 u:aK d.files≤d.room
 m:d.room≤1048576
 g:d.lg+n≤1000000000
def wrD (d:H8) (nm:Bs) (f:P7) (a n:Nat) (dat:Bs):H8:=⟨d.room,C1 d.files nm ⟨f.b,fK f.now a dat n⟩,d.lg+n⟩
abbrev A6x (b5 b6 bd:Nat) (nm:Bs) (d:H8) (S:Nat→Prop):List HB:=[.blk b5 37 [.ptr 2 bd 0],.blk b6 9 [.pv (sv nm)],D3 bd d S]
def A0X:D9:=⟨T,R9,A7,A9,17,[],none,.f⟩
theorem B6p:B1 Tryz.prog A0X:=⟨L4,A2,A4⟩
theorem qA:F0 Tryz.prog A0X:=⟨tOk,B6p⟩
theorem C6e (b5 b6 b26 b27 b28 bd:Nat) (nm:Bs) (d:H8) (S:Nat→Prop) (f:P7) (hf:H9 d.files nm=some f) (pl n:Nat) (v:Value) (bts:Bs) (hw:C0z d f pl n) (hb:bts.length≤16*n) (hn:n≤1000):C5 Tryz.prog 122 [.c (.ptr 0 b5 0),.c (.ptr 1 b6 0),.c (.ptr 3 b26 0),.c (.ptr 4 b27 0),.c (.ptr 5 b28 0)] (A6x b5 b6 bd nm d S++[.blk b26 3 [.pv (i64 pl)],.blk b27 22 [.own 6 v],.blk b28 3 [.pv (i64 n)],.own v 5 .byt bts]) (fun _=>True) (fun _:Nat→Prop=>int .i64 0) (fun S=>A6x b5 b6 bd nm (wrD d nm f pl n (bts++List.replicate (16*n-bts.length) 0)) S):=by
 refine I6 (E:=A0X) Tryz.func122 (fun M0 W hM0=>?_);refine A3 qA [] (fun bs=>?_);refine jD 7 rfl ?_;refine R3 qA 10 [0,0,0,0,0,16,0,64,240,504,1023,2047] [(9,6)] (fun bs=>?_);have hz:((n:Int)*16-(bts.length:Int)).toNat=16*n-bts.length:=by omega
 refine A3 qA [] (fun bs=>?_);refine G1 16 [15] rfl ⟨rfl,trivial⟩ ?_;refine A5 [2] (A8P bd d S nm f hf pl n (bts++List.replicate ((n:Int)*16-(bts.length:Int)).toNat 0) (by rw[hz];simp;omega) hw.np hw.ap hw.l hw.c hw.r hw.u hw.m hw.g) (fun S1 _=>?_);refine A3 qA [] (fun bs=>?_);refine B3 qA S1 trivial [0,1,2] (hl:=?hl)
 case hl=>
  unfold wrD;rw[←hz]
  and_intros<;> (first|exact wk_|refine A6 ?_|skip)
def A0Y:D9:=⟨T,R9,A7,A9,6,[],none,.f⟩
theorem B6q:B1 Tryz.prog A0Y:=⟨L4,A2,A4⟩
theorem A4c:F0 Tryz.prog A0Y:=⟨tOk,B6q⟩
theorem C6f (b5 b6 bd:Nat) (nm:Bs) (d:H8) (S:Nat→Prop) (f:P7) (hf:H9 d.files nm=some f) (hg:d.lg≤1000000000) (hm:f.now.length≤1000000):C5 Tryz.prog 124 [.c (.ptr 0 b5 0),.c (.ptr 1 b6 0)] (A6x b5 b6 bd nm d S) (fun _=>True) (fun _:Nat→Prop=>int .i64 0) (fun S=>A6x b5 b6 bd nm d S):=by
 refine I6 (E:=A0Y) Tryz.func124 (fun M0 W hM0=>?_);refine A3 A4c [] (fun bs=>?_);refine A5 [2] (B5V bd d S nm f hf hg hm) (fun S1 _=>?_);refine A3 A4c [] (fun bs=>?_);exact B3 A4c S1 trivial [0,1,2]
def A0Z:D9:=⟨T,R9,A7,A9,6,[],none,.f⟩
theorem B6r:B1 Tryz.prog A0Z:=⟨L4,A2,A4⟩
theorem A4d:F0 Tryz.prog A0Z:=⟨tOk,B6r⟩
theorem C6g (b5 b6 bd:Nat) (nm:Bs) (d:H8) (S:Nat→Prop) (f:P7) (hf:H9 d.files nm=some f) (hg:d.lg≤1000000000) (hm:f.now.length≤1000000):C5 Tryz.prog 127 [.c (.ptr 0 b5 0),.c (.ptr 1 b6 0)] (A6x b5 b6 bd nm d S) (fun _=>True) (fun _:Nat→Prop=>int .i64 0) (fun S=>A6x b5 b6 bd nm d S):=by
 refine I6 (E:=A0Z) Tryz.func127 (fun M0 W hM0=>?_);refine A3 A4d [] (fun bs=>?_);refine A5 [2] (B5V bd d S nm f hf hg hm) (fun S1 _=>?_);refine A3 A4d [] (fun bs=>?_);exact B3 A4d S1 trivial [0,1,2]
def A0a:D9:=⟨T,R9,A7,A9,10,[],none,.f⟩
theorem B6s:B1 Tryz.prog A0a:=⟨L4,A2,A4⟩
theorem A4e:F0 Tryz.prog A0a:=⟨tOk,B6s⟩
theorem C6h (b5 b6 b31 b30 bd:Nat) (nm:Bs) (d:H8) (S:Nat→Prop) (f:P7) (hf:H9 d.files nm=some f) (at_:Nat) (hd:Bs) (hh:hd.length=16) (hw:C0z d f at_ 1):C5 Tryz.prog 126 [.c (.ptr 0 b5 0),.c (.ptr 1 b6 0),.c (.ptr 3 b31 0),.c (.ptr 4 b30 0)] (A6x b5 b6 bd nm d S++[.blk b31 3 [.pv (i64 at_)],.blk b30 22 [.pv (.lst .byt hd)]]) (fun _=>True) (fun _:Nat→Prop=>int .i64 0) (fun S=>A6x b5 b6 bd nm (wrD d nm f at_ 1 hd) S++[.blk b31 3 [.pv (i64 at_)],.blk b30 22 [.pv (.lst .byt hd)]]):=by
 refine I6 (E:=A0a) Tryz.func126 (fun M0 W hM0=>?_);refine A3 A4e [] (fun bs=>?_);refine A5 [2] (A8P bd d S nm f hf at_ 1 hd hh hw.np hw.ap hw.l hw.c hw.r hw.u hw.m hw.g) (fun S1 _=>?_);refine A3 A4e [] (fun bs=>?_);exact B3 A4e S1 trivial [0,1,2,3,4]
theorem B6t (l:List Bs) (n k:Nat):(grown l n).getD k jV=l.getD k jV:=by
 unfold grown;rcases Nat.lt_or_ge k l.length with h|h
 ·rw[List.getD,List.getD,List.getElem?_append_left h]
 ·rw[List.getD,List.getD,List.getElem?_append_right h,List.getElem?_eq_none h,List.getElem?_replicate];split<;> rfl
theorem B2q (l:List Bs) (a k:Nat) (s:Bs):(Y8 l a s).getD k jV=if k=a then s else l.getD k jV:=by
 unfold Y8;split
 ·rename_i h;subst h;have:k<(grown l (k+1)).length:=by simp[grown];omega
  simp[List.getD,this]
 ·rename_i h;rw[List.getD,List.getElem?_set,if_neg (fun e=>h e.symm)];exact B6t l (a+1) k
theorem A4f (l:List Bs) (a:Nat) (dat:Bs) (k:Nat):∀n,(fK l a dat n).getD k jV=if a≤k∧k<a+n then(dat.drop (16*(k-a))).take 16 else l.getD k jV:=by
 intro n
 induction n with
 |zero=>rw[if_neg (by omega)];rfl
 |succ n ih=>
  rw[fK,B2q,ih];by_cases h:k=a+n
  ·subst h;rw[if_pos rfl,if_pos (by omega),show a+n-a=n by omega]
  ·rw[if_neg h];by_cases h2:a≤k∧k<a+n
   ·rw[if_pos h2,if_pos (by omega)]
   ·rw[if_neg h2,if_neg (by omega)]
theorem dO (l:List Bs) (a:Nat) (dat:Bs):∀n,0<n→(fK l a dat n).length=max l.length (a+n):=by
 intro n
 induction n with
 |zero=>intro h;omega
 |succ n ih=>
  intro _;rw[fK,yM];rcases Nat.eq_zero_or_pos n with h|h
  ·subst h;rfl
  ·rw[ih h];omega
theorem A4g {l:List Bs} (hl:∀s∈l,s.length=16) {a:Nat} {dat:Bs} {n:Nat} (hd:dat.length=16*n):∀i,i≤n→∀s∈fK l a dat i,s.length=16:=by
 intro i
 induction i with
 |zero=>intro _;exact hl
 |succ i ih=>
  intro hi s hs;rw[fK,Y8]at hs;rcases List.mem_or_eq_of_mem_set hs with h|h
  ·rcases List.mem_append.1 h with h|h
   ·exact ih (by omega) s h
   ·rw[(List.mem_replicate.1 h).2];rfl
  ·rw[h];simp;omega
def eX (s:Bs) (q:Int):Prop:=gE s=0→(gX s).seq≤q
def A9K (l:List Bs) (q:Int):Prop:=eX (l.getD 0 jV) q∧eX (l.getD 1 jV) q
theorem eX.zero (q:Int):eX jV q:=by
 intro h;exact absurd h (by decide)
theorem eX.mono {s:Bs} {q r:Int} (h:eX s q) (hq:q≤r):eX s r:=fun e=>Int.le_trans (h e) hq
def A2Q (n:Nat):Nat:=(n+15) / 16
structure vH (d:H8) (f:P7) (m:X7) (last:iZ) (kept:List Int):Prop where
 mo:A2P m
 len:f.now.length≤60000
 sec:∀s∈f.now,s.length=16
 head:A9K f.now last.seq
 seq:0≤last.seq∧last.seq<2147483647
 kl:kept.length=65536
 kz:∀k,f.now.length≤k→2≤k→kept.getD k 0=0
 ez:∀l∈F3 m.t,l.e.start+l.e.count≤f.now.length
 ls:last.seq≠0→2≤last.start∧0≤last.count∧last.count≤1000∧last.start+A2Q last.count.toNat≤f.now.length
 fl:∀p∈d.files,p.2.now.length≤65000
 fc:d.files.length≤32
 room:aK d.files+60≤d.room
 rm:d.room≤1048576
 lg:d.lg+100≤1000000000
structure A6y (d:H8) (f:P7) (m:X7) (last:iZ) (kept:List Int) (f':P7) (s:iZ) (lg:Nat):Prop where
 b:f'.b=f.b
 len:f.now.length≤f'.now.length∧f'.now.length≤max 2 f.now.length+60
 sec:∀s∈f'.now,s.length=16
 head:A9K f'.now s.seq
 seq:s.seq=last.seq+1
 st:2≤s.start∧1≤s.count∧s.count≤1000∧s.start+A2Q s.count.toNat≤f'.now.length
 keep:∀k,2≤k→k<f.now.length→(I5 (F3 m.t) k≠0∨kept.getD k 0≠0)→f'.now.getD k jV=f.now.getD k jV
 lg:lg≤d.lg+60
theorem C1A {a b:Bs} {q:Int} (ha:eX a q) (hb:eX b q):∀s∈nH a b,s.seq≤q:=by
 intro s hs;unfold nH at hs;by_cases h1:gE a=0
 ·by_cases h2:gE b=0
  ·simp only[h1,h2,ne_eq,not_true,and_self,if_false]at hs;split at hs
   ·simp only[List.mem_cons,List.not_mem_nil,or_false]at hs;rcases hs with rfl|rfl
    ·exact hb h2
    ·exact ha h1
   ·simp only[List.mem_cons,List.not_mem_nil,or_false]at hs;rcases hs with rfl|rfl
    ·exact ha h1
    ·exact hb h2
  ·simp only[h1,h2,ne_eq,not_true,not_false_iff,false_and,if_false,if_true,List.mem_singleton]at hs;rw[hs];exact ha h1
 ·by_cases h2:gE b=0
  ·simp only[h1,h2,ne_eq,not_true,not_false_iff,and_false,if_false,if_true,List.mem_singleton]at hs;rw[hs];exact hb h2
  ·simp only[h1,h2,ne_eq,not_false_iff,and_self,if_true]at hs;cases hs
theorem C2c {a b:Bool} (h:(a && b)=false) (ha:a=true):b=false:=by rw[ha,Bool.true_and]at h;exact h
theorem A3E {ls:List bQ} {k:Nat} (h:∀l∈ls,kI l.e k=false):fM ls k=0:=by
 induction ls with
 |nil=>rfl
 |cons l ls ih=>
  have h1:=ih (fun x hx=>h x (by simp[hx]));have h2:=h l (by simp);unfold fM at h1⊢;rw[List.map_cons,List.sum_cons,h1,h2];rfl
theorem B0n {l:List Bs} {k:Nat} (h:k<l.length):l.getD k []=l.getD k jV:=by
 rw[List.getD,List.getD,gE_ h];rfl
theorem RC.caps {M:B5} (f:Nat) (ps:List (Nat×Nat)):RC M (.clo f (ps.map fun p=> .ptr p.1 p.2 0)) (.func (.func f) #[] ((ps.map fun p=>p.2).map fun b=>vL (some b)).toArray):=by
 refine .clo (by simp) (fun j c u e1 e2=>?_);rw[List.getElem?_map]at e1;simp only[List.getElem?_toArray,List.getElem?_map]at e2;cases hp:ps[j]? with
 |none=>rw[hp]at e1;cases e1
 |some p=>
  rw[hp]at e1 e2;cases e1;cases e2;exact .ptr
theorem set_set {l:vS} {nm:Bs} {f1 f2:P7}:C1 (kk:= .str) (C1 (kk:= .str) l nm f1) nm f2=C1 (kk:= .str) l nm f2:=by
 induction l with
 |nil=>
  have:KK.str.eqb nm nm=true:=KK.eqb_iff.2 rfl;simp[C1,this]
 |cons p l ih=>
  simp only[C1];cases hb:KK.str.eqb nm p.1 with
  |true=>simp only[C1,hb]
  |false=>simp only[C1,hb,ih]
theorem B6u {l:vS} {nm:Bs} {f f':P7} (h:H9 l nm=some f):aK (C1 l nm f')=aK l-f.now.length+f'.now.length:=by
 obtain⟨l1,l2,e1,e2,_⟩:=aX h;rw[e2 f',e1];simp only[aK,szs,List.map_append,List.map_cons,List.sum_append,List.sum_cons];omega
theorem C1B {l:vS} {nm:Bs} {f f':P7} (h:H9 l nm=some f):(C1 l nm f').length=l.length:=by
 obtain⟨l1,l2,e1,e2,_⟩:=aX h;rw[e2 f',e1];simp
theorem C1C {l:vS} {nm:Bs} {f f':P7} {n:Nat} (h:H9 l nm=some f) (hl:∀p∈l,p.2.now.length≤n) (hf:f'.now.length≤n):∀p∈C1 l nm f',p.2.now.length≤n:=by
 obtain⟨l1,l2,e1,e2,_⟩:=aX h;intro p hp;rw[e2 f']at hp;rw[e1]at hl;rcases List.mem_append.1 hp with hp|hp
 ·exact hl p (by simp[hp])
 ·rcases List.mem_cons.1 hp with rfl|hp
  ·exact hf
  ·exact hl p (by simp[hp])
section
variable {d : H8} {f : P7} {m : X7} {last : iZ} {kept : List Int} {nm : Bs} {pl n a : Nat}
theorem vH.w1 (h:vH d f m last kept) (n1:1≤n) (n2:n≤52) (p1:2≤pl) (p2:pl≤max 2 f.now.length):C0z d f pl n:=by
 have:=h.len;have:=h.room;have:=h.rm;have:=h.lg;exact⟨n1,by omega,fun p hp=>by have:=h.fl p hp;omega,h.fc,by omega,by omega,h.rm,by omega⟩
theorem vH.w2 (h:vH d f m last kept) (hf:H9 d.files nm=some f) (n1:1≤n) (n2:n≤52) (p1:2≤pl) (p2:pl≤max 2 f.now.length) (ha:a≤1) (dat:Bs):C0z (wrD d nm f pl n dat) ⟨f.b,fK f.now pl dat n⟩ a 1:=by
 have:=h.len;have:=h.room;have:=h.rm;have:=h.lg;have h1:=B0S d.files;have hl:=dO f.now pl dat n n1;have hu:=B6u (f':=⟨f.b,fK f.now pl dat n⟩) hf;simp only[hl]at hu;refine⟨by omega,by omega,?_,?_,?_,?_,h.rm,?_⟩
 ·exact C1C hf (fun p hp=>by have:=h.fl p hp;omega) (by simp only[hl];omega)
 ·simp only[wrD,C1B hf];exact h.fc
 ·simp only[wrD,hl,hu];omega
 ·simp only[wrD,hu];omega
 ·simp only[wrD];omega
theorem vH.done (h:vH d f m last kept) (n1:1≤n) (n2:n≤52) (p1:2≤pl) (p2:pl≤max 2 f.now.length) (ha:a≤1) {bts dat hd:Bs} {sm:Int} (hsm:0≤sm∧sm≤4294967295) (b1:0<bts.length) (b2:bts.length≤16*n) (hdt:dat.length=16*n)
 (hm:iD (last.seq+1) pl bts.length=true) (hhd:hd=slL (last.seq+1) pl bts.length sm) (hz:∀k,pl≤k→k<pl+n→k<65536→I5 (F3 m.t) k=0∧kept.getD k 0=0):
 A6y d f m last kept ⟨f.b,fK (fK f.now pl dat n) a hd 1⟩ ⟨last.seq+1,pl,bts.length,sm⟩ (d.lg+n+1):=by
 obtain⟨_,g1,g2,g3⟩:=get_put hm hsm;rw[←hhd]at g1 g2 g3;have:=h.len;have hl:=dO f.now pl dat n n1;have hl2:=dO (fK f.now pl dat n) a hd 1 (by omega);have hd0:(hd.drop (16*(a-a))).take 16=hd:=by rw[Nat.sub_self,Nat.mul_zero,List.drop_zero,←g1,List.take_length]
 have hso:eX hd (last.seq+1):=fun _=>by rw[g3];exact Int.le_refl _
 have hat:∀k,(fK (fK f.now pl dat n) a hd 1).getD k jV=if k=a then hd else if pl≤k∧k<pl+n then(dat.drop (16*(k-pl))).take 16 else f.now.getD k jV:=fun k=>by
  rw[A4f,A4f];by_cases hk:k=a
  ·subst hk;rw[if_pos (by omega),if_pos rfl,hd0]
  ·rw[if_neg (by omega),if_neg hk]
 refine⟨rfl,⟨by simp only[hl2,hl];omega,by simp only[hl2,hl];omega⟩,?_,⟨?_,?_⟩,rfl,⟨by simp only;omega,by simp only;omega,by simp only;omega,?_⟩,?_,by omega⟩
 ·exact A4g (A4g h.sec hdt n (Nat.le_refl _)) (n:=1) (by omega) 1 (Nat.le_refl _)
 ·simp only[hat];split
  ·exact hso
  ·rw[if_neg (by omega)];exact h.head.1.mono (by omega)
 ·simp only[hat];split
  ·exact hso
  ·rw[if_neg (by omega)];exact h.head.2.mono (by omega)
 ·simp only[hl2,hl,A2Q,Int.toNat_natCast];omega
 ·intro k k1 k2 k3;simp only[hat];rw[if_neg (by omega)];by_cases hk:pl≤k∧k<pl+n
  ·have:=hz k hk.1 hk.2 (by omega);rcases k3 with k3|k3
   ·exact absurd this.1 k3
   ·exact absurd this.2 k3
  ·rw[if_neg hk]
end
abbrev svB (x:(Nat→Prop)×Nat×Nat×Nat×Nat×Nat) (b:Nat) (d:H8) (nm:Bs) (m:X7) (last:iZ):List HB:=
 [D3 b d x.1,.blk x.2.1 37 [.ptr 0 b 0],.blk x.2.2.1 9 [.pv (sv nm)],
  .blk x.2.2.2.1 82 [.pv (i64 m.cl),.pv (i64 m.size),.pv (sv m.bk),.pv (.lst .tbl m.t),.pv (.lst .sht m.sh),.pv (.lst .bms m.mp),.pv (.nil (.ints .i64))],
  .blk x.2.2.2.2.1 135 [.pv (i64 last.seq),.pv (i64 last.start),.pv (i64 last.count),.pv (.val (.int .u32 last.sum))],
  .blk x.2.2.2.2.2 135 [.pv (i64 0),.pv (i64 0),.pv (i64 0),.pv (.val (.int .u32 0))]]
abbrev svN (x:(Nat→Prop)×Nat×Nat×Nat×Nat×Nat):List (Nat×A):=
 [(5,.c (.ptr 1 x.2.1 0)),(6,.c (.ptr 2 x.2.2.1 0)),(7,.c (.ptr 3 x.2.2.2.1 0)),(8,.c (.ptr 4 x.2.2.2.2.1 0)),(10,.c (.ptr 5 x.2.2.2.2.2 0))]
structure SvX where
 S:Nat→Prop
 i:Nat
 b26:Nat
 b27:Nat
 b28:Nat
 b29:Nat
 b30:Nat
 b31:Nat
 fv:Value
def sv4 {α:Type} (a b c:α):Nat→α
 |0=>a
 |1=>b
 |2=>b
 |_=>c
def sP:D9:=⟨T,R9,A7,A9,196,[],none,.f⟩
theorem A3F:B1 Tryz.prog sP:=⟨L4,A2,A4⟩
theorem F1:F0 Tryz.prog sP:=⟨tOk,A3F⟩
theorem C2d (b:Nat) (d:H8) (S:Nat→Prop) (nm:Bs) (f:P7) (hf:H9 d.files nm=some f) (m:X7) (last:iZ) (kept:List Int) (h:vH d f m last kept):C5 Tryz.prog 59 [.c (.ptr 0 b 0),str nm,A2N m,.g [.pv (i64 last.seq),.pv (i64 last.start),.pv (i64 last.count),.pv (.val (.int .u32 last.sum))],lst (.ints .i64) kept] [D3 b d S] (fun x:(Nat→Prop)×P7×iZ×Nat=>A6y d f m last kept x.2.1 x.2.2.1 x.2.2.2) (fun x=> .t [.g [.pv (i64 x.2.2.1.seq),.pv (i64 x.2.2.1.start),.pv (i64 x.2.2.1.count),.pv (.val (.int .u32 x.2.2.1.sum))],int .i64 0]) (fun x=>[D3 b ⟨d.room,C1 d.files nm x.2.1,x.2.2.2⟩ x.1]):=by
 refine I6 (E:=sP) Tryz.func59 (fun M0 W hM0=>?_);have hlen:=h.len;have hseq:=h.seq;have hmok:=h.mo.ok;have hct:=h.mo.ct;refine A3 F1 [] (fun bs=>?_);refine A5 [0] (A6R b d S nm f hf 0 0 (by omega) (by omega)) (fun x _=>?_);refine A3 F1 [false] (fun bs=>?_);refine A5 [] (A9D m hmok) (fun _ _=>?_) (hsim:=?hs1)
 case hs1=>
  and_intros<;> (first|exact wk_|refine A6 ?_|skip)
 refine A3 F1 [false] (fun bs=>?_);refine A5 [0] (B0R b d x.1 nm f hf) (fun S1 _=>?_);refine A3 F1 [false] (fun bs=>?_);refine A5 [0] (C4C b d S1 nm f hf (by omega) h.sec) (fun y hy=>?_);have hyl:y.2.2.1.length≤2:=by
  rcases hy with e|⟨_,e⟩
  ·rw[e];simp
  ·rw[e];exact B6E _ _
 have hle:∀s∈y.2.2.1,s.seq≤last.seq:=by
  rcases hy with e|⟨e1,e2⟩
  ·intro s hs;rw[e]at hs;cases hs
  ·intro s hs;rw[e2,B0n (by omega),B0n (by omega)]at hs;exact C1A h.head.1 h.head.2 s hs
 refine A3 F1 [] (fun bs=>?_);refine A2g (fun x:(Nat→Prop)×Nat×Nat×Nat×Nat×Nat=>svN x++[(4,lst (.ints .i64) kept),(14,int .i64 f.now.length),(16,int .i64 last.seq)]) (fun x=>svB x b d nm m last) (fun _=>True) rfl ?_ (fun x _=>?_)
 ·refine C6 rfl rfl (fun hc=>?_) (fun hc=>?_)
  ·refine A3 F1 [] (fun bs=>?_);refine K3 (fun q:((Nat→Prop)×Nat×Nat×Nat×Nat×Nat)×Value×Nat=>svN q.1++[(4,lst (.ints .i64) kept),(14,int .i64 f.now.length),(16,int .i64 last.seq),(70,.c (.own 6 q.2.1)),(71,int .i64 y.2.2.1.length),(72,int .i64 q.2.2)]) (fun q=>svB q.1 b d nm m last++[.own q.2.1 135 .slt y.2.2.1]) (fun q=>q.2.2≤y.2.2.1.length) (fun q=>y.2.2.1.length-q.2.2) [0,1,2,3,4,5,7] ((y.1,?q1,?q2,?q3,?q4,?q5),?q6,0) (Nat.zero_le _) ?wk1 (fun q hq=>?_)
   case wk1=>and_intros<;> (first|exact wk_|refine A6 ?_|skip)
   obtain⟨x,v,i⟩:=q;simp only at hq;refine A3 F1 [] (fun bs=>?_);refine I4 rfl rfl (fun hk=>?_) (fun hk=>?_)
   ·have hk:(i:Int)<(y.2.2.1.length:Nat):=hk;have hi:i<y.2.2.1.length:=by omega
    have hmx:(y.2.2.1.getD i LK.slt.dft).seq≤last.seq:=by
     rw[List.getD,gE_ hi];exact hle _ (List.getElem_mem hi)
    refine Q2 F1 [] (fun bs=>?_) (fun bs=>?_)
    ·and_intros<;> first|exact trivial|(dsimp only;omega)|exact rfl
    refine G3 [0,1,2,3,4,5,6] (x,v,i+1) ⟨by simp only;omega,by simp only;omega⟩ ?wk2
    case wk2=>
     and_intros<;> (first|exact wk_|refine A6 ?_|skip)
     all_goals(show max last.seq (List.getD y.2.2.1 ((i:Nat):Int).toNat LK.slt.dft).seq=last.seq;rw[Int.toNat_natCast];omega)
   ·refine A3 F1 [] (fun bs=>?_);exact I0 [0,1,2,3,4,5] x trivial
  ·refine A3 F1 [] (fun bs=>?_);refine G3 [0,1,2,3,4,5] (y.1,?r1,?r2,?r3,?r4,?r5) trivial ?wk3
   case wk3=>and_intros<;> (first|exact wk_|refine A6 ?_|skip)
 refine L7 F1 (fun _=>some false) [false] (fun bs=>?_);obtain⟨N,hN⟩:∃N:Nat,N=65536:=⟨_,rfl⟩
 refine A5 [] (cOf m hmok.plain h.mo.g N (by omega)) (fun v _=>?_) (hsim:=?hs2)
 case hs2=>
  and_intros<;> (first|exact wk_|refine A6 ?_|skip)
  all_goals omega
 refine A3 F1 [] (fun bs=>?_);have hkl:kept.length=N:=by rw[h.kl,hN]
 obtain⟨L,hL⟩:∃L,L=F3 m.t:=⟨_,rfl⟩
 have hLn:L.length≤4096:=by have:=sI (-1) m.t (m.t.length*8);have:=h.mo.tl;rw[hL,F3];omega
 have hct2:=lK L;refine K3 (fun i:Nat=>svN x++[(14,int .i64 f.now.length),(16,int .i64 last.seq),(21,.c (.own 6 v)),(90,lst (.ints .i64) kept),(91,int .i64 kept.length),(92,int .i64 i)]) (fun i=>svB x b d nm m last++[.own v 3 (.ints .i64) (M6 N fun k=>I5 L k+fN (decide (k<i) && decide (kept.getD k 0≠0)))]) (fun i=>i≤N) (fun i=>N-i) [0,1,2,3,4,5,6] 0 (Nat.zero_le _) ?wk4 (fun i hi=>?_)
 case wk4=>
  rw[hL]
  and_intros<;> (first|exact wk_|refine A6 ?_|skip)
  all_goals first|omega|exact L3 (fun k hk=>by simp[fN])
 refine A3 F1 [] (fun bs=>?_);refine I4 rfl rfl (fun hk=>?_) (fun hk=>?_)
 ·have hk:(i:Int)<(kept.length:Nat):=hk;have hi2:i<N:=by omega
  have htl:(M6 N fun k=>I5 L k+fN (decide (k<i) && decide (kept.getD k 0≠0))).length=N:=L0 _ _;have hin:L1 .i64 ((M6 N fun k=>I5 L k+fN (decide (k<i) && decide (kept.getD k 0≠0))).getD i 0+1):=wN hi2 (by have:=hct2 i;simp only[I5,fN];constructor<;> split<;> split<;> omega);refine J3 F1 (fun _=>some true) [] (fun bs=>?_) (fun bs=>?_)
  ·and_intros<;> first|exact trivial|omega|exact decide_eq_true (by rw[htl];omega)|(simp;omega)|exact rfl
  refine C6 rfl rfl (fun hb=>?_) (fun hb=>?_)
  ·refine Q2 F1 [] (fun bs=>?_) (fun bs=>?_)
   ·and_intros<;> first|exact trivial|omega|exact hin.1|exact hin.2|(simp only[L0];omega)|exact rfl
   refine G3 [0,1,2,3,4,5,6] (i+1) ⟨hi2,by omega⟩ ?wk5
   case wk5=>
    and_intros<;> (first|exact wk_|refine A6 ?_|skip)
    all_goals exact pU (i:=i) hi2 (by
     have hb3:(!decide (kept.getD i 0=0))=true:=(Bool.and_eq_true_iff.1 hb).2;have hb':kept.getD i 0≠0:=by simpa using hb3
     have h1:(decide (i<i+1) && decide (kept.getD i 0≠0))=true:=by simpa using hb'
     have h2:(decide (i<i) && decide (kept.getD i 0≠0))=false:=by simp
     rw[h1,h2];simp[fN]) (fun k hk=>by
     have:decide (k<i+1)=decide (k<i):=decide_eq_decide.2 (by omega);rw[this])
  ·refine Q2 F1 [] (fun bs=>?_) (fun bs=>?_)
   ·and_intros<;> first|exact trivial|omega
   refine G3 [0,1,2,3,4,5,6] (i+1) ⟨hi2,by omega⟩ ?wk6
   case wk6=>
    and_intros<;> (first|exact wk_|refine A6 ?_|skip)
    all_goals exact L3 (fun k _=>by
     have hb3:(!decide (kept.getD i 0=0))=false:=C2c hb (decide_eq_true (by rw[htl];omega));have hb':kept.getD i 0=0:=by simpa using hb3
     by_cases he:k=i
     ·subst he;have h1:(decide (k<k+1) && decide (kept.getD k 0≠0))=false:=by simpa using hb'
      have h2:(decide (k<k) && decide (kept.getD k 0≠0))=false:=by simp
      rw[h1,h2]
     ·have:decide (k<i+1)=decide (k<i):=decide_eq_decide.2 (by omega);rw[this])
 ·have hk:¬(i:Int)<(kept.length:Nat):=hk;have hi2:i=N:=by omega
  refine A3 F1 [] (fun bs=>?_);obtain⟨uB,huB⟩:∃uB:Nat→Int,uB=fun k=>I5 L k+fN (decide (kept.getD k 0≠0)):=⟨_,rfl⟩
  have hub:∀k,0≤uB k∧uB k≤5000:=fun k=>by
   have:=hct2 k;rw[huB];simp only[I5,fN]
   constructor<;> split<;> split<;> omega
  have hu0:(M6 N fun k=>I5 L k+fN (decide (k<i) && decide (kept.getD k 0≠0)))=M6 N uB:=L3 (fun k hk=>by rw[huB,decide_eq_true (show k<i by omega),Bool.true_and]);rw[hu0];obtain⟨U,hU⟩:∃U,U=(M6 N fun k=>uB k+fN (decide (last.seq≠0) && (decide (last.start≤(k:Int)) && decide ((k:Int)<last.start+A2Q last.count.toNat)))):=⟨_,rfl⟩
  refine A2g (fun _:Unit=>svN x++[(14,int .i64 f.now.length),(16,int .i64 last.seq),(21,.c (.own 6 v))]) (fun _=>svB x b d nm m last++[.own v 3 (.ints .i64) U]) (fun _=>True) rfl ?_ (fun _ _=>?_)
  ·refine C6 rfl rfl (fun hq=>?_) (fun hq=>?_)
   ·have hq':last.seq≠0:=by simpa using hq
    obtain⟨s1,s2,s3,s4⟩:=h.ls hq';obtain⟨s,hs⟩:=Int.eq_ofNat_of_zero_le (show 0≤last.start by omega);obtain⟨c,hc⟩:∃c,c=A2Q last.count.toNat:=⟨_,rfl⟩
    have hcv:(c:Int)=(last.count+15) / 16:=by rw[hc,A2Q];omega
    refine A3 F1 [] (fun bs=>?_);refine K3 (fun j:Nat=>svN x++[(14,int .i64 f.now.length),(16,int .i64 last.seq),(21,.c (.own 6 v)),(24,int .i64 j)]) (fun j=>svB x b d nm m last++[.own v 3 (.ints .i64) (M6 N fun k=>uB k+fN (decide (s≤k) && decide (k<j)))]) (fun j=>s≤j∧j≤s+c) (fun j=>s+c-j) [0,1,2,3,4,5,6] s ⟨Nat.le_refl _,by omega⟩ ?wk7 (fun j hj=>?_)
    case wk7=>
     and_intros<;> (first|exact wk_|refine A6 ?_|skip)
     all_goals first|omega|exact L3 (fun k hk=>by
      have:(decide (s≤k) && decide (k<s))=false:=by simp
      rw[this];simp[fN])
    have hjN:j<N:=by omega
    have htl:(M6 N fun k=>uB k+fN (decide (s≤k) && decide (k<j))).length=N:=L0 _ _;refine A3 F1 [] (fun bs=>?_);refine bY tOk A3F rfl (fun _=>some true) 13 [0,0,2,7,15,31,31,95,255,31,543,1567,3615,8191,16383] [] rfl (by decide+kernel) (fun bs=>rfl) (fun bs=>?_) (fun bs=>?_)
    ·and_intros<;> first|exact trivial|omega|exact decide_eq_true (by rw[htl];omega)|exact rfl
    refine J3 F1 (fun _=>some true) [] (fun bs=>?_) (fun bs=>?_)
    ·and_intros<;> first|exact trivial|omega|exact decide_eq_true (by rw[htl];omega)|exact rfl
    refine C6 rfl rfl (fun hb=>?_) (fun hb=>?_)
    ·have hb3:decide ((j:Int)-last.start<(min last.count 1048576+16-1) / 16)=true:=(Bool.and_eq_true_iff.1 hb).2;have hjc:j<s+c:=by have:=of_decide_eq_true hb3;omega
     have hin:L1 .i64 ((M6 N fun k=>uB k+fN (decide (s≤k) && decide (k<j))).getD j 0+1):=wN hjN (by have:=hub j;simp only[fN];constructor<;> split<;> omega);refine Q2 F1 [] (fun bs=>?_) (fun bs=>?_)
     ·and_intros<;> first|exact trivial|omega|exact hin.1|exact hin.2|(simp only[L0];omega)|exact rfl
     refine G3 [0,1,2,3,4,5,6] (j+1) ⟨⟨by omega,by omega⟩,by omega⟩ ?wk9
     case wk9=>
      and_intros<;> (first|exact wk_|refine A6 ?_|skip)
      all_goals exact pU (i:=j) hjN (by
       have h1:(decide (s≤j) && decide (j<j+1))=true:=by simpa using hj.1
       have h2:(decide (s≤j) && decide (j<j))=false:=by simp
       rw[h1,h2];simp[fN]) (fun k hk=>by
       have:decide (k<j+1)=decide (k<j):=decide_eq_decide.2 (by omega);rw[this])
    ·have hb3:decide ((j:Int)-last.start<(min last.count 1048576+16-1) / 16)=false:=C2c hb (decide_eq_true (by rw[htl];omega));have hjc:j=s+c:=by have:=of_decide_eq_false hb3;omega
     refine A3 F1 [] (fun bs=>?_);refine G3 [0,1,2,3,4,5,6] () trivial ?wk10
     case wk10=>
      and_intros<;> (first|exact wk_|refine A6 ?_|skip)
      all_goals exact Eq.trans (L3 (fun k hk=>by
       rw[decide_eq_true hq',Bool.true_and,hs,←hc];have h1:decide ((s:Int)≤(k:Int))=decide (s≤k):=decide_eq_decide.2 (by omega);have h2:decide ((k:Int)<(s:Int)+(c:Int))=decide (k<j):=decide_eq_decide.2 (by omega);rw[h1,h2])) hU.symm
   ·have hq':last.seq=0:=by simpa using hq
    refine A3 F1 [] (fun bs=>?_);refine G3 [0,1,2,3,4,5,6] () trivial ?wk8
    case wk8=>
     and_intros<;> (first|exact wk_|refine A6 ?_|skip)
     all_goals exact Eq.trans (L3 (fun k hk=>by rw[decide_eq_false (show¬last.seq≠0 by omega)];simp[fN])) hU.symm
  have hUl:U.length=65536:=by rw[hU,L0,hN]
  have hUa:∀k,k<N→U.getD k 0=uB k+fN (decide (last.seq≠0) && (decide (last.start≤(k:Int)) && decide ((k:Int)<last.start+A2Q last.count.toNat))):=fun k hk=>by rw[hU,aO hk]
  have hUn:∀k,2≤k→k<N→U.getD k 0=0→I5 L k=0∧kept.getD k 0=0:=fun k h2 hk h0=>by
   rw[hUa k hk,huB]at h0;have:=hct2 k;simp only[I5,fN]at h0⊢;rw[if_neg (by omega)]at h0⊢;by_cases hz:kept.getD k 0=0
   ·refine⟨?_,hz⟩;simp only[hz]at h0;split at h0<;> simp at h0<;> omega
   ·rw[if_pos (decide_eq_true hz)]at h0;split at h0<;> omega
  have hUz:∀k,f.now.length≤k→2≤k→U.getD k 0=0:=fun k h1 h2=>by
   rcases Nat.lt_or_ge k N with hk|hk
   ·rw[hUa k hk,huB];have e1:I5 L k=0:=by
     rw[I5,if_neg (by omega),A3E (fun l hl=>?_)];rfl;have:=h.ez l (by rw[←hL];exact hl);unfold kI;rw[decide_eq_false (show¬((k:Int)<l.e.start+l.e.count) by omega),Bool.and_false]
    have e2:kept.getD k 0=0:=h.kz k h1 h2;have e3:(decide (last.seq≠0) && (decide (last.start≤(k:Int)) && decide ((k:Int)<last.start+A2Q last.count.toNat)))=false:=by
     by_cases hq:last.seq=0
     ·rw[decide_eq_false (show¬last.seq≠0 by omega),Bool.false_and]
     ·have:=(h.ls hq).2.2.2;rw[decide_eq_false (show¬((k:Int)<last.start+A2Q last.count.toNat) by omega),Bool.and_false,Bool.and_false]
    rw[e3];simp only[e1,e2];rfl
   ·rw[List.getD,List.getElem?_eq_none (by omega)];rfl
  refine G1 6 [21] rfl ⟨rfl,trivial⟩ ?_;refine X3 [0,1,2,4,5,3] [(5,.c (.ptr 1 x.2.1 0)),(6,.c (.ptr 2 x.2.2.1 0)),(7,.c (.ptr 5 x.2.2.2.1 0)),(10,.c (.ptr 4 x.2.2.2.2.2 0)),(14,int .i64 f.now.length),(16,int .i64 last.seq),(21,lst (.ints .i64) U)] [D3 b d x.1,.blk x.2.1 37 [.ptr 0 b 0],.blk x.2.2.1 9 [.pv (sv nm)],.blk x.2.2.2.2.1 135 [.pv (i64 last.seq),.pv (i64 last.start),.pv (i64 last.count),.pv (.val (.int .u32 last.sum))],
  .blk x.2.2.2.2.2 135 [.pv (i64 0),.pv (i64 0),.pv (i64 0),.pv (.val (.int .u32 0))],.blk x.2.2.2.1 82 (A2O m)] ?_ (h:=?wk11)
  case wk11=>
   and_intros<;> (first|exact wk_|refine A6 ?_|skip)
  refine A3 F1 [] (fun bs=>?_);refine A5 [6] (C4B _ m h.mo f.now.length (by omega) U hUl hUz) (fun w hw=>?_);obtain⟨wv,bts,n,pl⟩:=w;obtain⟨⟨w1,w2,w3,w4⟩,w5,w6,w7⟩:=hw;dsimp only at w1 w2 w3 w4 w5 w6 w7;refine A3 F1 [false] (fun bs=>?_);refine X3 [0,1,2,4,7,8,9,10] [(5,.c (.ptr 1 x.2.1 0)),(6,.c (.ptr 2 x.2.2.1 0)),(10,.c (.ptr 3 x.2.2.2.2.2 0)),(16,int .i64 last.seq),(26,.c (.ptr 5 ?b26 0)),(27,.c (.ptr 6 ?b27 0)),(28,.c (.ptr 7 ?b28 0))] [D3 b d x.1,.blk x.2.1 37 [.ptr 0 b 0],.blk x.2.2.1 9 [.pv (sv nm)],
   .blk x.2.2.2.2.2 135 [.pv (i64 0),.pv (i64 0),.pv (i64 0),.pv (.val (.int .u32 0))],.own wv 5 .byt bts,.blk ?b26 3 [.pv (i64 pl)],.blk ?b27 22 [.own 4 wv],.blk ?b28 3 [.pv (i64 n)]] ?_ (h:=?wk12)
  case wk12=>and_intros<;> (first|exact wk_|refine A6 ?_|skip)
  refine jD 8 rfl ?_;refine R3 F1 9 [0,1,0,0,8,0,32,127,0,511] [(9,16)] (fun bs=>?_);have hsm:=bK wd 0 bts;have hmS:iD (last.seq+1) pl bts.length=true:=pL.2 ⟨⟨by omega,by omega⟩,⟨by omega,by omega⟩,by omega,by omega⟩;have hE:slE (last.seq+1) pl bts.length=0:=by unfold slE;rw[if_pos hmS]
  refine Q2 F1 [false] (fun bs=>?_) (fun bs=>?_)
  ·and_intros<;> first|exact trivial|exact hsm.1|exact hsm.2|omega|exact rfl|(rw[hE];rfl)
  have hN2:∀k,pl≤k→k<pl+n→k<65536→I5 (F3 m.t) k=0∧kept.getD k 0=0:=fun k k1 k2 k3=>by rw[←hL];exact hUn k (by omega) (by omega) (w7 k k1 k2)
  obtain⟨hd,hhd⟩:∃hd,hd=slL (last.seq+1) pl bts.length (H4 wd 0 bts):=⟨_,rfl⟩
  have hd16:hd.length=16:=by rw[hhd];exact(get_put hmS hsm).2.1
  obtain⟨at_,hat,hat1⟩:∃a:Nat,(a:Int)=1-(last.seq+1)%2∧a≤1:=⟨(1-(last.seq+1)%2).toNat,by omega,by omega⟩
  have hw1:=h.w1 w1 w2 w5 w6;have hw2:=h.w2 hf w1 w2 w5 w6 hat1 (bts++List.replicate (16*n-bts.length) 0);have hdn:=h.done w1 w2 w5 w6 hat1 hsm w4 w3 (dat:=bts++List.replicate (16*n-bts.length) 0) (by simp;omega) hmS hhd hN2;have c1:=fun b5 b6 b26 b27 b28 S=>C6e b5 b6 b26 b27 b28 b nm d S f hf pl n wv bts hw1 w3 (by omega)
  have hl1:=dO f.now pl (bts++List.replicate (16*n-bts.length) 0) n w1;obtain⟨D1,hD1⟩:∃D1,D1=wrD d nm f pl n (bts++List.replicate (16*n-bts.length) 0):=⟨_,rfl⟩
  obtain⟨f1,hf1⟩:∃f1:P7,f1=⟨f.b,fK f.now pl (bts++List.replicate (16*n-bts.length) 0) n⟩:=⟨_,rfl⟩
  have hm1:H9 D1.files nm=some f1:=by rw[hD1,wrD,U3,if_pos rfl,hf1]
  have hg1:D1.lg=d.lg+n:=by rw[hD1];rfl
  have hn1:f1.now.length≤60100:=by rw[hf1];simp only[hl1];omega
  rw[←hD1,←hf1]at hw2;simp only[←hD1]at c1;have c2:=fun b5 b6 S=>C6f b5 b6 b nm D1 S f1 hm1 (by have:=h.lg;omega) (by omega)
  have c3:=fun b5 b6 b31 b30 S=>C6h b5 b6 b31 b30 b nm D1 S f1 hm1 at_ hd hd16 hw2
  have hl2:=dO f1.now at_ hd 1 (by omega);obtain⟨D2,hD2⟩:∃D2,D2=wrD D1 nm f1 at_ 1 hd:=⟨_,rfl⟩
  obtain⟨f2,hf2⟩:∃f2:P7,f2=⟨f1.b,fK f1.now at_ hd 1⟩:=⟨_,rfl⟩
  have hm2:H9 D2.files nm=some f2:=by rw[hD2,wrD,U3,if_pos rfl,hf2]
  simp only[←hD2]at c3;have c4:=fun b5 b6 S=>C6g b5 b6 b nm D2 S f2 hm2 (by rw[hD2];simp only[wrD,hg1];have:=h.lg;omega) (by rw[hf2];simp only[hl2];omega)
  refine K7 18 0 17 rfl rfl rfl ?_;refine K3 (fun q:SvX=>[(10,.c (.ptr 3 x.2.2.2.2.2 0)),(29,.c (.ptr 4 q.b29 0)),(182,.c (.own 7 q.fv)),(183,int .i64 4),(184,int .i64 q.i)])
   (fun q=>[D3 b (sv4 d D1 D2 q.i) q.S,.blk x.2.1 37 [.ptr 0 b 0],.blk x.2.2.1 9 [.pv (sv nm)],.blk x.2.2.2.2.2 135 [.pv (i64 0),.pv (i64 0),.pv (i64 0),.pv (.val (.int .u32 0))],
    .blk q.b29 135 [.pv (i64 (last.seq+1)),.pv (i64 pl),.pv (i64 bts.length),.pv (.val (.int .u32 (H4 wd 0 bts)))],.blk q.b30 22 [.pv (.lst .byt hd)],.blk q.b31 3 [.pv (i64 at_)],
    .own q.fv 71 .fn [(122,[x.2.1,x.2.2.1,q.b26,q.b27,q.b28]),(124,[x.2.1,x.2.2.1]),(126,[x.2.1,x.2.2.1,q.b31,q.b30]),(127,[x.2.1,x.2.2.1])]]++
    sv4 [.own wv 5 .byt bts,.blk q.b26 3 [.pv (i64 pl)],.blk q.b27 22 [.own 8 wv],.blk q.b28 3 [.pv (i64 n)]] [] [] q.i)
   (fun q=>q.i≤4) (fun q=>4-q.i) [0,1,2,3,16,18,19,20,4,5,6,7] ⟨x.1,0,?c26,?c27,?c28,?c29,?c30,?c31,?cv⟩ (Nat.zero_le _) ?wk13 (fun q hq=>?_)
  case wk13=>
   and_intros<;> (first|exact wk_|refine A6 ?_|skip)
   all_goals first|exact rfl|exact congrArg (PV.lst LK.byt) hhd.symm|exact hat.symm|exact congrArg (fun z=>PV.val (Value.int .i64 z)) hat.symm|(conv=>whnf)
   all_goals first|exact rfl|skip
   all_goals and_intros<;> (first|exact wk_|refine A6 ?_|skip)
  obtain⟨S2,i,b26,b27,b28,b29,b30,b31,fv⟩:=q;have hq:i≤4:=hq;obtain rfl|rfl|rfl|rfl|rfl:i=0∨i=1∨i=2∨i=3∨i=4:=by omega
  ·refine A3 F1 [true] (fun bs=>?_);refine W8 188 (y:= .c (.clo 122 [.ptr 1 x.2.1 0,.ptr 2 x.2.2.1 0,.ptr 9 b26 0,.ptr 10 b27 0,.ptr 11 b28 0])) rfl (fun M v h=>by rw[h.val_inv];exact .c (RC.caps 122 [(1,x.2.1),(2,x.2.2.1),(9,b26),(10,b27),(11,b28)])) ?_;refine A5 [1,2,0,9,10,11,8] (c1 _ _ b26 b27 b28 S2) (fun S3 _=>?_);refine A3 F1 [false] (fun bs=>?_);refine G3 [0,1,2,3,4,5,6,7] ⟨S3,1,b26,b27,b28,b29,b30,b31,fv⟩ ⟨by simp only;omega,by simp only;omega⟩ ?wl0
   case wl0=>
    and_intros<;> (first|exact wk_|refine A6 ?_|skip)
    all_goals first|exact rfl|(conv=>whnf)
    all_goals first|exact rfl
  ·refine A3 F1 [true] (fun bs=>?_);refine W8 188 (y:= .c (.clo 124 [.ptr 1 x.2.1 0,.ptr 2 x.2.2.1 0])) rfl (fun M v h=>by rw[h.val_inv];exact .c (RC.caps 124 [(1,x.2.1),(2,x.2.2.1)])) ?_;refine A5 [1,2,0] (c2 _ _ S2) (fun S3 _=>?_);refine A3 F1 [false] (fun bs=>?_);refine G3 [0,1,2,3,4,5,6,7] ⟨S3,2,b26,b27,b28,b29,b30,b31,fv⟩ ⟨by simp only;omega,by simp only;omega⟩ ?wl1
   case wl1=>
    and_intros<;> (first|exact wk_|refine A6 ?_|skip)
    all_goals first|exact rfl|(conv=>whnf)
    all_goals first|exact rfl
  ·refine A3 F1 [true] (fun bs=>?_);refine W8 188 (y:= .c (.clo 126 [.ptr 1 x.2.1 0,.ptr 2 x.2.2.1 0,.ptr 6 b31 0,.ptr 5 b30 0])) rfl (fun M v h=>by rw[h.val_inv];exact .c (RC.caps 126 [(1,x.2.1),(2,x.2.2.1),(6,b31),(5,b30)])) ?_;refine A5 [1,2,0,6,5] (c3 _ _ b31 b30 S2) (fun S3 _=>?_);refine A3 F1 [false] (fun bs=>?_);refine G3 [0,1,2,3,4,5,6,7] ⟨S3,3,b26,b27,b28,b29,b30,b31,fv⟩ ⟨by simp only;omega,by simp only;omega⟩ ?wl2
   case wl2=>
    and_intros<;> (first|exact wk_|refine A6 ?_|skip)
    all_goals first|exact rfl|(conv=>whnf)
    all_goals first|exact rfl
  ·refine A3 F1 [true] (fun bs=>?_);refine W8 188 (y:= .c (.clo 127 [.ptr 1 x.2.1 0,.ptr 2 x.2.2.1 0])) rfl (fun M v h=>by rw[h.val_inv];exact .c (RC.caps 127 [(1,x.2.1),(2,x.2.2.1)])) ?_;refine A5 [1,2,0] (c4 _ _ S2) (fun S3 _=>?_);refine A3 F1 [false] (fun bs=>?_);refine G3 [0,1,2,3,4,5,6,7] ⟨S3,4,b26,b27,b28,b29,b30,b31,fv⟩ ⟨by simp only;omega,by simp only;omega⟩ ?wl3
   case wl3=>
    and_intros<;> (first|exact wk_|refine A6 ?_|skip)
    all_goals first|exact rfl|(conv=>whnf)
    all_goals first|exact rfl
  ·refine A3 F1 [false] (fun bs=>?_);have hfin:A6y d f m last kept f2 ⟨last.seq+1,pl,bts.length,H4 wd 0 bts⟩ (d.lg+n+1):=by
    rw[hf2,hf1];exact hdn
   refine B3 F1 (S2,f2,⟨last.seq+1,pl,bts.length,H4 wd 0 bts⟩,d.lg+n+1) hfin [0] (hl:=?hl9)
   case hl9=>
    have e:D2=⟨d.room,C1 d.files nm f2,d.lg+n+1⟩:=by
     rw[hD2,hD1];simp only[wrD,set_set,←hf2]
    dsimp only;rw[←e]
    and_intros<;> (first|exact wk_|refine A6 ?_|skip)
def nL:D9:=⟨T,R9,A7,A9,8,[],none,.t⟩
theorem A9L:B1 Tryz.prog nL:=⟨L4,A2,A4⟩
theorem sQ:F0 Tryz.prog nL:=⟨tOk,A9L⟩
theorem B2r (l:List UInt8) (hl:l.length≤1000000000):aA Tryz.prog 90 true [lst .byt l] (.x (.c (.lst .byt l))):=by
 refine cJ (E:=nL) Tryz.func90 (fun M0 W hM0=>?_);refine A3 sQ [] (fun bs=>?_);refine C6 rfl rfl (fun h=>?_) (fun h=>?_)
 ·have:=jM h;subst this;refine A3 sQ [] (fun bs=>?_);refine D5 tOk hM0 rfl rfl ⟨trivial,trivial⟩ ?_;exact⟨rfl,rfl⟩
 ·refine A3 sQ [] (fun bs=>?_);refine G1 1 [2] rfl ⟨rfl,trivial⟩ ?_;exact D5 tOk hM0 rfl rfl ⟨trivial,trivial⟩ rfl
abbrev Pgs:=List (KK.int.T×Nat)
def A0b:C3
 |[.c (.pv (.lst .byt l))]=>some ((l.length≤1000000000),true,.x (.c (.lst .byt l)))
 |_=>none
theorem A6z:E9 Tryz.prog 90 A0b:=by
 intro args pre sh rv h hp;unfold A0b at h;split at h
 ·cases h;have hl:=hp;exact B2r _ hl
 ·cases h
def bB:FuncId→Option C3:=D6 90 A0b R9
theorem X6:G4 Tryz.prog bB:=B8 A6z L4
def kJ (l:Pgs):List (KK.int.T×VK.ptr.T):=l.map fun p=>(p.1,some p.2)
def pgP (p:KK.int.T×Nat):Ob (Bs×Int):=⟨fun _=>True,fun x=>[.blk p.2 389 [.pv (.lst .byt x.1),.pv (bv false),.pv (i64 x.2),.pv (.nil (.ints .i64))]]⟩
abbrev pgO (p:KK.int.T×Nat) (S:Nat→Prop):HB:=ThO (pgP p) S
structure LX where
 bm:Nat
 S:Nat→Prop
 n:Int
def C1D (b:Nat) (l:Pgs):Ob LX:=⟨fun _=>True,fun x=>[.blk b 325 [.pv (i64 64),.mpt 1 x.bm,.pv (i64 x.n)],.mp x.bm .int .ptr (kJ l),U2 pgO l x.S]⟩
abbrev B2s (b:Nat) (l:Pgs) (S:Nat→Prop):HB:=ThO (C1D b l) S
theorem lkL {l:Pgs} {k:Int} {b:Nat} (h:H9 l k=some b):O8 VK.ptr.dft (H9 (kJ l) k)=some b:=by unfold kJ;rw[oV (fun b:Nat=>some b),h];rfl
theorem C5M {l:Pgs} {k:Int} (h:H9 l k=none):O8 VK.ptr.dft (H9 (kJ l) k)=none:=by unfold kJ;rw[oV (fun b:Nat=>some b),h];rfl
theorem B6v {l:Pgs} {k:Int} {b:Nat} (h:H9 l k=none):C1 (kk:=KK.int) (kJ l) k (some b)=kJ (l++[(k,b)]):=by
 rw[kJ,B5E (fun b:Nat=>some b),dL h];rfl
def A0c:D9:=⟨T,bB,A7,A9,14,[],none,.f⟩
theorem B6w:B1 Tryz.prog A0c:=⟨X6,A2,A4⟩
theorem B0o:F0 Tryz.prog A0c:=⟨tOk,B6w⟩
theorem C6i:C5 Tryz.prog 135 [int .i64 64] [] (fun _=>True) (fun p:Nat×(Nat→Prop)=> .t [.c (.ptr 0 p.1 0),int .i64 0]) (fun p=>[B2s p.1 [] p.2]):=by
 refine I6 (E:=A0c) Tryz.func135 (fun M0 W hM0=>?_);refine L7 B0o (fun _=>some false) [false] (fun bs=>?_);refine A3o 2 pgO ?_;refine J8 1 (C1D ?bb []) [1,0,2] ⟨_,fun _=>False,0⟩ trivial (fun S1=>?_);exact B3 B0o (_,S1) trivial [1]
def C5N (bm:Nat) (n:Int):List C:=[.pv (i64 64),.mpt 2 bm,.pv (i64 n)]
def pgC (x:Bs×Int):List C:=[.pv (.lst .byt x.1),.pv (bv false),.pv (i64 x.2),.pv (.nil (.ints .i64))]
def A0d:D9:=⟨T,bB,A7,A9,11,[],none,.f⟩
theorem B6x:B1 Tryz.prog A0d:=⟨X6,A2,A4⟩
theorem A4h:F0 Tryz.prog A0d:=⟨tOk,B6x⟩
theorem C5O (b bp bm:Nat) (n:Int) (x:Bs×Int) (mp:List (KK.int.T×VK.ptr.T)):C5 Tryz.prog 257 [.c (.ptr 0 b 0),.c (.ptr 1 bp 0)] [.blk b 325 (C5N bm n),.blk bp 389 (pgC x),.mp bm .int .ptr mp] (fun _=>True) (fun _:Int=> .t []) (fun r=>[.blk b 325 (C5N bm r),.blk bp 389 (pgC (x.1,r)),.mp bm .int .ptr mp]):=by
 refine I6 (E:=A0d) Tryz.func257 (fun M0 W hM0=>?_);refine A3 A4h [] (fun bs=>?_);refine A5 [0,1,2] (A2J b 325 2 [.pv (i64 64),.mpt 2 bm,.pv (i64 n)] [.blk bp 389 (pgC x),.mp bm .int .ptr mp] n 1 rfl) (fun r _=>?_);refine A3 A4h [] (fun bs=>?_);exact Y6 A4h r trivial [0,1,2]
def A0e:D9:=⟨T,bB,A7,A9,73,[],none,.f⟩
theorem B6y:B1 Tryz.prog A0e:=⟨X6,A2,A4⟩
theorem W7:F0 Tryz.prog A0e:=⟨tOk,B6y⟩
theorem C6j (b:Nat) (l:Pgs) (S:Nat→Prop) (k:Int) (bts:Bs) (hb:bts.length≤1000000) (hl:l.length≤63):C5 Tryz.prog 222 [.c (.ptr 0 b 0),int .i64 k,lst .byt bts,bool false] [B2s b l S] (fun x:Pgs×(Nat→Prop)=>x.1=l∨(H9 l k=none∧∃bp,x.1=l++[(k,bp)])) (fun _=> .c (.pv (.nil (.ints .i64)))) (fun x=>[B2s b x.1 x.2]):=by
 refine I6 (E:=A0e) Tryz.func222 (fun M0 W hM0=>?_);refine N0 0 (fun x hx=>?_);refine A3 W7 [false] (fun bs=>?_);cases hk:H9 l k with
 |none=>
  have hpl:(kJ l).length≤63:=by simp[kJ];omega
  refine jU 9 (C5M hk) ?_;refine jU 20 (C5M hk) ?_;refine L7 W7 (fun _=>some false) [true] (fun bs=>?_);refine A5 [0,3,1] (C5O b _ x.bm x.n (bts,0) _) (fun r _=>?_);refine A3 W7 [] (fun bs=>?_);refine J8 3 (pgP (k,?bb)) [3] (bts,r) trivial (fun S3=>?_);refine yE 2 3 (l:=l++[(k,?bb)]) (l0:=l) (l1:=l) (l2:=[]) rfl (by simp) (fun S4=>?_);refine K3 (fun bb:Nat=>[(0,.c (.ptr 0 b 0)),(10,.c (.pv (.nil (.ints .i64))))]) (fun bb=>[.blk b 325 [.pv (i64 64),.mpt 1 x.bm,.pv (i64 r)],.mp x.bm .int .ptr (kJ (l++[(k,bb)])),U2 pgO (l++[(k,bb)]) S4]) (fun _=>True) (fun _=>0) [0,1,2] ?bb trivial ?wk1 (fun bb _=>?_)
  case wk1=>
   and_intros<;> (first|exact wk_|refine A6 ?_|skip)
   all_goals exact congrArg (fun z=>HB.mp x.bm .int .ptr z) (B6v hk)
  have hpl2:(kJ (l++[(k,bb)])).length≤64:=by simp[kJ];omega
  refine A3 W7 [] (fun bs=>?_);refine R3 W7 9 [0,1,3,7,15,0,32,96,224,511] [] (fun bs=>?_);refine A3 W7 [false] (fun bs=>?_);refine J8 0 (C1D b (l++[(k,bb)])) [0,1,2] ⟨x.bm,S4,r⟩ trivial (fun S5=>?_);exact B3 W7 (l++[(k,bb)],S5) (.inr ⟨rfl,bb,rfl⟩) [0]
 |some bp=>
  obtain⟨l1,l2,e1,e2,e3⟩:=aX hk;have hpl:(kJ l).length≤64:=by simp[kJ];omega
  refine Z3 9 3 (lkL hk) ?_;refine Z3 20 3 (lkL hk) ?_;refine aJ 2 3 e1 (fun S1 S2=>?_);refine N0 3 (fun y hy=>?_);refine L7 W7 (fun _=>some false) [false] (fun bs=>?_);refine A5 [0,3,1] (C5O b _ x.bm x.n (bts,y.2) (kJ l)) (fun r _=>?_);refine A3 W7 [] (fun bs=>?_);refine J8 3 (pgP (k,bp)) [3] (bts,r) trivial (fun S3=>?_);refine gU 2 3 e1 (fun S4=>?_);refine V3 (fun _:Unit=>[(0,.c (.ptr 0 b 0)),(10,.c (.pv (.nil (.ints .i64))))]) (fun _=>[.blk b 325 [.pv (i64 64),.mpt 1 x.bm,.pv (i64 r)],.mp x.bm .int .ptr (kJ l),U2 pgO l S4]) (fun _=>True) (fun _=>0) [0,1,2] () trivial (fun _ _=>?_);refine A3 W7 [] (fun bs=>?_)
  refine R3 W7 9 [0,1,3,7,15,0,32,96,224,511] [] (fun bs=>?_);refine A3 W7 [false] (fun bs=>?_);refine J8 0 (C1D b l) [0,1,2] ⟨x.bm,S4,r⟩ trivial (fun S5=>?_);exact B3 W7 (l,S5) (.inl rfl) [0]
def fgN (b:List UInt8):Nat→Int
 |0=>14695981039346656037
 |k+1=>IntKind.u64.wrap (fG .u64 (fgN b k) ((b.getD k 0).toNat:Int)*1099511628211)
def fg (b:List UInt8):Int:=fG .u64 (fgN b b.length) (fgN b b.length / 2 ^ 32)
def A0f:D9:=⟨T,bB,A7,A9,22,[],none,.t⟩
theorem B6z:B1 Tryz.prog A0f:=⟨X6,A2,A4⟩
theorem wO:F0 Tryz.prog A0f:=⟨tOk,B6z⟩
theorem C1E (b:List UInt8) (hb:b.length≤1000000):aA Tryz.prog 282 false [lst .byt b] (.x (.c (.val (.int .u64 (fg b))))):=by
 refine cJ (E:=A0f) Tryz.func282 (fun M0 W hM0=>?_);refine C8 wO 60 (fun _=>none) (fun bs=>?_);refine P1 (fun i:Nat=>[(3,int .u64 (fgN b i)),(6,lst .byt b),(7,int .i64 b.length),(8,int .i64 i)]) (fun i=>[]) (fun i=>i≤b.length) (fun i=>b.length-i) rfl [] 0 (Nat.zero_le _) ?wk (fun i hx=>?_)
 case wk=>and_intros<;> (first|exact wk_|refine A6 ?_|skip)
 refine C8 wO 60 (fun _=>none) (fun bs=>?_);refine I4 rfl rfl (fun hk=>?_) (fun hk=>?_)
 ·have hk':i<b.length:=by omega
  refine C8 wO 60 (fun _=>none) (fun bs=>?_);refine G3 [] (i+1) ?ok ?wk1
  case ok=>exact⟨hk',by omega⟩
  case wk1=>and_intros<;> (first|exact wk_|refine A6 ?_|skip)
 ·have hk':i=b.length:=by omega
  subst hk';refine C8 wO 60 (fun _=>none) (fun bs=>?_);exact D5 tOk hM0 rfl rfl ⟨trivial,trivial⟩ ⟨rfl,rfl⟩
def A9M:C3
 |[.c (.pv (.lst .byt b))]=>some ((b.length≤1000000),false,.x (.c (.val (.int .u64 (fg b)))))
 |_=>none
theorem B2t:E9 Tryz.prog 282 A9M:=by
 intro args pre sh rv h hp;unfold A9M at h;split at h
 ·cases h;have hb:=hp;exact C1E _ hb
 ·cases h
def A0g:FuncId→Option C3:=D6 282 A9M bB
theorem vI:G4 Tryz.prog A0g:=B8 B2t X6
def ixN (l:List cE) (x:cE):Nat→Int
 |0=> -1
 |k+1=>match decide (0≤ixN l x k)with
  |true=>ixN l x k
  |false=>match decide (x=l.getD k LK.knw.dft)with
   |true=>k
   |false=> -1
theorem B7A {l:List cE} {x:cE} {i j:Nat} (h:0≤ixN l x i) (hj:i≤j):ixN l x j=ixN l x i:=by
 induction j with
 |zero=>
  have:i=0:=by omega
  subst this;rfl
 |succ j ih=>
  by_cases e:i=j+1
  ·subst e;rfl
  ·have:=ih (by omega);simp only[ixN,this,decide_eq_true h]
def C4D (l:List cE) (x:cE):Bool:=decide (0≤ixN l x l.length)
theorem C5P (x y:cE):(decide (x.finger=y.finger) && (decide (x.e.kind=y.e.kind) && (decide (x.e.start=y.e.start) && (decide (x.e.count=y.e.count) && (decide (x.e.size=y.e.size) && (decide (x.e.sum=y.e.sum) && true))))))=decide (x=y):=by
 obtain⟨f,k,s,c,z,m⟩:=x;obtain⟨f',k',s',c',z',m'⟩:=y;rw[Bool.eq_iff_iff];simp[and_assoc]
theorem C4E (x y:cE):EqS Tryz.prog 354 (((LK.enc .knw x)).map C.pv) ((LK.enc .knw y).map C.pv) (decide (x=y)):=by
 rw[←C5P];obtain⟨inf,z,h1,h2,_⟩:=(tOk 185 _ rfl).info;exact B9a (t0:=0) (t1:=0) (m:=5) (by kernel_rfl) Tryz.underlying354 (by kernel_rfl) (by kernel_rfl) rfl (by decide) Tryz.underlying185 rfl (by decide) (by kernel_rfl) h1 h2 (zs:=[.pv (.val (.int .i64 0)),.pv (.val (.int .i64 0)),.pv (.val (.int .i64 0)),.pv (.val (.int .i64 0)),.pv (.val (.int .u32 0))]) (by kernel_rfl) rfl rfl rfl
def A0h:D9:=⟨T,A0g,A7,A9,19,[],none,.t⟩
theorem A7A:B1 Tryz.prog A0h:=⟨vI,A2,A4⟩
theorem iI:F0 Tryz.prog A0h:=⟨tOk,A7A⟩
theorem C1F (l:List cE) (v0:Int) (v1:Int) (v2:Int) (v3:Int) (v4:Int) (v5:Int) (hl:l.length≤1000000):aA Tryz.prog 308 false [lst .knw l,.g [.pv (.val (.int .u64 v0)),.pv (.val (.int .i64 v1)),.pv (.val (.int .i64 v2)),.pv (.val (.int .i64 v3)),.pv (.val (.int .i64 v4)),.pv (.val (.int .u32 v5))]] (.x (.c (i64 (ixN l ⟨v0,⟨v1,v2,v3,v4,v5⟩⟩ l.length)))):=by
 refine cJ (E:=A0h) Tryz.func308 (fun M0 W hM0=>?_);generalize hX:(⟨v0,⟨v1,v2,v3,v4,v5⟩⟩:cE)=X;refine C8 iI 60 (fun _=>none) (fun bs=>?_);refine yA (ns:=[0]) (fs:=fun b=>[(3,.c (.ptr 0 b 0)),(6,lst .knw l),(7,int .i64 l.length),(0,lst .knw l),(8,int .i64 0)]) (hs:=fun b=>[.blk b 354 ((LK.enc .knw X).map C.pv)]) ?b1 rfl ?wk0 (fun b=>?_)
 case wk0=>
  and_intros<;> (first|exact wk_|refine A6 ?_|skip)
  all_goals(subst hX;rfl)
 refine P1 (fun i:Nat=>[(3,.c (.ptr 0 b 0)),(0,lst .knw l),(7,int .i64 l.length),(8,int .i64 i)]) (fun i=>[.blk b 354 ((LK.enc .knw X).map C.pv)]) (fun i=>i≤l.length∧ixN l X i= -1) (fun i=>l.length-i) rfl [0] 0 ⟨Nat.zero_le _,rfl⟩ ?wk (fun i hx=>?_)
 case wk=>and_intros<;> (first|exact wk_|refine A6 ?_|skip)
 obtain⟨hx1,hx2⟩:=hx;refine C8 iI 60 (fun _=>none) (fun bs=>?_);refine I4 rfl rfl (fun hk=>?_) (fun hk=>?_)
 ·have hk':i<l.length:=by omega
  refine C8 iI 60 (fun _=>none) (fun bs=>?_);refine jD 1 rfl ?_;refine bY tOk A7A rfl (fun _=>none) 5 [0,0,0,6,14,31] [] rfl (by decide+kernel) (fun bs=>rfl) (fun bs=>?_) (fun bs=>?_)
  ·and_intros<;> (intros;first|exact U0|omega|skip)
  refine C4r (C4E X (l.getD i LK.knw.dft)) rfl rfl rfl rfl rfl rfl ?_;refine C8 iI 60 (fun _=>none) (fun bs=>?_);refine C6 (b:=decide (X=l.getD i LK.knw.dft)) rfl rfl (fun h=>?_) (fun h=>?_)
  ·have h1:ixN l X (i+1)=i:=by simp only[ixN,hx2,h];rfl
   have h2:ixN l X l.length=i:=by rw[B7A (i:=i+1) (by omega) (by omega),h1]
   refine C8 iI 60 (fun _=>none) (fun bs=>?_);exact D5 tOk hM0 rfl rfl ⟨trivial,trivial⟩ ⟨rfl,h2.symm⟩
  ·have h1:ixN l X (i+1)= -1:=by simp only[ixN,hx2,h];rfl
   refine C8 iI 60 (fun _=>none) (fun bs=>?_);refine G3 [0] (i+1) ?ok ?wk1
   case ok=>exact⟨⟨hk',h1⟩,by omega⟩
   case wk1=>and_intros<;> (first|exact wk_|refine A6 ?_|skip)
 ·have hk':i=l.length:=by omega
  subst hk';refine C8 iI 60 (fun _=>none) (fun bs=>?_);exact D5 tOk hM0 rfl rfl ⟨trivial,trivial⟩ ⟨rfl,hx2.symm⟩
def A9N:C3
 |[.c (.pv (.lst .knw l)),.g [.pv (.val (.int .u64 v0)),.pv (.val (.int .i64 v1)),.pv (.val (.int .i64 v2)),.pv (.val (.int .i64 v3)),.pv (.val (.int .i64 v4)),.pv (.val (.int .u32 v5))]]=>some ((l.length≤1000000),false,.x (.c (i64 (ixN l ⟨v0,⟨v1,v2,v3,v4,v5⟩⟩ l.length))))
 |_=>none
theorem B2u:E9 Tryz.prog 308 A9N:=by
 intro args pre sh rv h hp;unfold A9N at h;split at h
 ·cases h;have hl:=hp;exact C1F _ _ _ _ _ _ _ hl
 ·cases h
def A0i:FuncId→Option C3:=D6 308 A9N A0g
theorem vJ:G4 Tryz.prog A0i:=B8 B2u vI
def sR:D9:=⟨T,A0i,A7,A9,9,[],none,.t⟩
theorem B2v:B1 Tryz.prog sR:=⟨vJ,A2,A4⟩
theorem B7B:F0 Tryz.prog sR:=⟨tOk,B2v⟩
theorem B7C (l:List cE) (v0:Int) (v1:Int) (v2:Int) (v3:Int) (v4:Int) (v5:Int) (hl:l.length≤1000000):aA Tryz.prog 296 false [lst .knw l,.g [.pv (.val (.int .u64 v0)),.pv (.val (.int .i64 v1)),.pv (.val (.int .i64 v2)),.pv (.val (.int .i64 v3)),.pv (.val (.int .i64 v4)),.pv (.val (.int .u32 v5))]] (.x (.c (bv (C4D l ⟨v0,⟨v1,v2,v3,v4,v5⟩⟩)))):=by
 refine cJ (E:=sR) Tryz.func296 (fun M0 W hM0=>?_);refine C8 B7B 60 (fun _=>none) (fun bs=>?_);exact D5 tOk hM0 rfl rfl ⟨trivial,trivial⟩ rfl
def A4i:C3
 |[.c (.pv (.lst .knw l)),.g [.pv (.val (.int .u64 v0)),.pv (.val (.int .i64 v1)),.pv (.val (.int .i64 v2)),.pv (.val (.int .i64 v3)),.pv (.val (.int .i64 v4)),.pv (.val (.int .u32 v5))]]=>some ((l.length≤1000000),false,.x (.c (bv (C4D l ⟨v0,⟨v1,v2,v3,v4,v5⟩⟩))))
 |_=>none
theorem A9O:E9 Tryz.prog 296 A4i:=by
 intro args pre sh rv h hp;unfold A4i at h;split at h
 ·cases h;have hl:=hp;exact B7C _ _ _ _ _ _ _ hl
 ·cases h
def sS:FuncId→Option C3:=D6 296 A4i A0i
theorem qB:G4 Tryz.prog sS:=B8 A9O vJ
def nM:D9:=⟨T,sS,A7,A9,8,[],none,.t⟩
theorem A9P:B1 Tryz.prog nM:=⟨qB,A2,A4⟩
theorem sU:F0 Tryz.prog nM:=⟨tOk,A9P⟩
theorem B2w (l:List cE) (hl:l.length≤1000000):aA Tryz.prog 236 false [lst .knw l] (.o 354 .knw l):=by
 refine cJ (E:=nM) Tryz.func236 (fun M0 W hM0=>?_);refine C8 sU 60 (fun _=>none) (fun bs=>?_);refine C6 rfl rfl (fun h=>?_) (fun h=>?_)
 ·have e:=jM h;subst e;refine C8 sU 60 (fun _=>none) (fun bs=>?_);exact D5 tOk hM0 rfl rfl ⟨trivial,trivial⟩ rfl
 ·refine C8 sU 60 (fun _=>none) (fun bs=>?_);exact D5 tOk hM0 rfl rfl ⟨trivial,trivial⟩ ⟨rfl,rfl,rfl,A6 (List.nil_append l)⟩
def A0j:C3
 |[.c (.pv (.lst .knw l))]=>some ((l.length≤1000000),false,.o 354 .knw l)
 |_=>none
theorem A7B:E9 Tryz.prog 236 A0j:=by
 intro args pre sh rv h hp;unfold A0j at h;split at h
 ·cases h;have hl:=hp;exact B2w _ hl
 ·cases h
def R4:FuncId→Option C3:=D6 236 A0j sS
theorem M8:G4 Tryz.prog R4:=B8 A7B qB
structure IxX where
 v:Value
 l:List cE
 n:Int
def A7C (b k:Nat):Ob IxX:=⟨fun x=>x.l.length≤k,fun x=>[.blk b 328 [.own 1 x.v,.pv (i64 x.n)],.own x.v 354 .knw x.l]⟩
abbrev iJ (b k:Nat) (S:Nat→Prop):HB:=ThO (A7C b k) S
def A9Q (e:B0):A:= .g [.pv (i64 e.kind),.pv (i64 e.start),.pv (i64 e.count),.pv (i64 e.size),.pv (.val (.int .u32 e.sum))]
def A0k:D9:=⟨T,R4,A7,A9,3,[],none,.f⟩
theorem B7D:B1 Tryz.prog A0k:=⟨M8,A2,A4⟩
theorem B0p:F0 Tryz.prog A0k:=⟨tOk,B7D⟩
theorem C6k:C5 Tryz.prog 136 [] [] (fun _=>True) (fun p:Nat×(Nat→Prop)=> .c (.ptr 0 p.1 0)) (fun p=>[iJ p.1 0 p.2]):=by
 refine I6 (E:=A0k) Tryz.func136 (fun M0 W hM0=>?_);refine A3 B0p [] (fun bs=>?_);refine bZ 0 0 354 rfl rfl ?_;refine J8 0 (A7C ?bb 0) [0,1] ⟨.slice none 0 0,[],0⟩ (Nat.zero_le _) (fun S1=>?_);exact B3 B0p (_,S1) trivial [0]
def A0l:D9:=⟨T,R4,A7,A9,50,[],none,.f⟩
theorem B7E:B1 Tryz.prog A0l:=⟨M8,A2,A4⟩
theorem aR:F0 Tryz.prog A0l:=⟨tOk,B7E⟩
theorem C6l (b k:Nat) (S:Nat→Prop) (bl:Bs) (e:B0) (hb:bl.length≤1000000) (hk:k≤62):C5 Tryz.prog 285 [.c (.ptr 0 b 0),lst .byt bl,A9Q e] [iJ b k S] (fun _=>True) (fun _:Nat→Prop=> .t []) (fun S=>[iJ b (k+1) S]):=by
 refine I6 (E:=A0l) Tryz.func285 (fun M0 W hM0=>?_);refine N0 0 (fun x hx=>?_);have hx':x.l.length≤k:=hx;refine A3 aR [false] (fun bs=>?_);refine jD 3 rfl ?_;refine R3 aR 5 [0,1,0,7,0,31] [(5,7)] (fun bs=>?_);refine A3 aR [] (fun bs=>?_);refine jD 8 rfl ?_;refine R3 aR 5 [0,1,3,7,0,31] [] (fun bs=>?_);refine A3 aR [] (fun bs=>?_);refine C6 (b:=C4D x.l ⟨fg bl,⟨e.kind,e.start,e.count,e.size,e.sum⟩⟩) rfl rfl (fun h=>?_) (fun h=>?_)
 ·refine A3 aR [] (fun bs=>?_);refine J8 0 (A7C b (k+1)) [0,1] x (Nat.le_succ_of_le hx') (fun S1=>?_);exact B3 aR S1 trivial [0]
 ·refine A3 aR [false] (fun bs=>?_);refine jD 13 rfl ?_;refine R3 aR 8 [0,0,2,6,14,0,32,126,255,511,1023] [(7,1)] (fun bs=>?_);refine A3 aR [] (fun bs=>?_);refine J8 0 (A7C b (k+1)) [0,20] ⟨?vv,x.l++[⟨fg bl,⟨e.kind,e.start,e.count,e.size,e.sum⟩⟩],x.n⟩ ?ok (fun S1=>?_)
  case ok=>simp[A7C];omega
  exact Y6 aR S1 trivial [0]
def sV:D9:=⟨T,R4,A7,A9,37,[],none,.f⟩
theorem B2x:B1 Tryz.prog sV:=⟨M8,A2,A4⟩
theorem bV:F0 Tryz.prog sV:=⟨tOk,B2x⟩
theorem C5Q (b k:Nat) (S:Nat→Prop) (bl:Bs) (hb:bl.length≤1000000) (hk:k≤1000):C5 Tryz.prog 264 [.c (.ptr 0 b 0),lst .byt bl] [iJ b k S] (fun x:(Nat→Prop)×Value×List B0=>x.2.2.length≤k) (fun x=> .c (.own 1 x.2.1)) (fun x=>[iJ b k x.1,.own x.2.1 185 .ent x.2.2]):=by
 refine I6 (E:=sV) Tryz.func264 (fun M0 W hM0=>?_);refine N0 0 (fun x hx=>?_);have hx':x.l.length≤k:=hx;refine A3 bV [false] (fun bs=>?_);refine lZ 6 185 rfl ?_;refine K3 (fun q:Nat×Int×Value×List B0=>[(0,.c (.ptr 0 b 0)),(5,int .u64 (fg bl)),(6,.c (.own 2 q.2.2.1)),(16,.c (.own 1 x.v)),(17,int .i64 x.l.length),(18,int .i64 q.1)]) (fun q=>[.blk b 328 [.own 1 x.v,.pv (i64 q.2.1)],.own x.v 354 .knw x.l,.own q.2.2.1 185 .ent q.2.2.2]) (fun q=>q.1≤x.l.length∧q.2.2.2.length≤q.1) (fun q=>x.l.length-q.1) [0,1,2] (0,x.n,?v0,[]) ⟨Nat.zero_le _,Nat.le_refl _⟩ ?wk (fun q hq=>?_)
 case wk=>and_intros<;> (first|exact wk_|refine A6 ?_|skip)
 obtain⟨i,n,v,out⟩:=q;obtain⟨h1,h2⟩:=hq;dsimp only at h1 h2;refine A3 bV [] (fun bs=>?_);refine I4 rfl rfl (fun hk=>?_) (fun hk=>?_)
 ·have hk:(i:Int)<(x.l.length:Nat):=hk;have hi:i<x.l.length:=by omega
  refine A3 bV [] (fun bs=>?_);refine C6 rfl rfl (fun hc=>?_) (fun hc=>?_)
  ·refine A3 bV [] (fun bs=>?_);refine A5 [0,1] (A2J b 328 1 [.own 1 x.v,.pv (i64 n)] [.own x.v 354 .knw x.l] n 1 rfl) (fun r _=>?_);refine Q2 bV [] (fun bs=>?_) (fun bs=>?_)
   ·and_intros<;> first|exact trivial|(simp only;omega)|(simp only[List.length_singleton];omega)|exact rfl
   refine G3 [0,1,5] (i+1,r,?v1,out++[(x.l.getD i LK.knw.dft).e]) ⟨⟨by simp only;omega,by simp;omega⟩,by simp only;omega⟩ ?wk1
   case wk1=>
    and_intros<;> (first|exact wk_|refine A6 ?_|skip)
  ·refine Q2 bV [] (fun bs=>?_) (fun bs=>?_)
   ·and_intros<;> first|exact trivial|(simp only;omega)|(simp only[List.length_singleton];omega)|exact rfl
   refine G3 [0,1,2] (i+1,n,v,out) ⟨⟨by simp only;omega,by simp only;omega⟩,by simp only;omega⟩ ?wk2
   case wk2=>and_intros<;> (first|exact wk_|refine A6 ?_|skip)
 ·have hk:¬(i:Int)<(x.l.length:Nat):=hk;refine A3 bV [] (fun bs=>?_);refine J8 0 (A7C b k) [0,1] ⟨x.v,x.l,n⟩ hx' (fun S1=>?_);exact B3 bV (S1,v,out) (by simp only;omega) [0,2]
section
open Go.RowKit
theorem A3G {M:B5} {n:Nat} {v:Value} {x:Int} {us:Array Value} (h:R8 M [.own n v,.pv (i64 x)] us.toList):us= #[v,.int .i64 x]:=by
 obtain⟨h1,h2⟩:=h;obtain⟨l⟩:=us
 match l,h1,h2 with
 |[u0,u1],h1,h2=>
  have e0:=h2 0 _ u0 rfl rfl;have e1:=h2 1 _ u1 rfl rfl;cases e0 with|own=>cases e1 with|pv r=>cases r;rfl
theorem B2y {M:B5} {n:Nat} {v:Value} (hv:v.oneCell'=true) (y:Int):R8 M [.own n v,.pv (i64 y)] (#[v,.int .i64 y]:Array Value).toList:=by
 refine⟨rfl,fun j c u e1 e2=>?_⟩
 match j,e1,e2 with
 |0,e1,e2=>cases e1;cases e2;exact .own hv
 |1,e1,e2=>cases e1;cases e2;exact .pv (.val rfl)
theorem C1G {M:B5} {B:Nat→Prop} {w:World} {v:Value} {ty:TypeId} {k:LK} {l:List k.T} (h:F6 M B w v ty k l):v.oneCell'=true:=by
 rcases h with⟨rfl,rfl⟩|⟨b,cap,us,rfl,_⟩<;> rfl
theorem C1H (x:Int) (v0:Value) (w:World) (b:Nat) (hb:w.heap[b]? =some (.cells #[v0,.int .i64 x] 328 (0,0))):
 Calls Tryz.prog 238 #[.pointer (some ⟨b,1,none⟩)] w fun e w'=>e= .returned (.int .i64 x)∧w'=w:=by
 have hc:w.cell? ⟨b,1,none⟩=some (.int .i64 x):=by simp[World.cell?,hb]
 have hld:=run_call_load (P:=Tryz.prog) Tryz.func268 (by kernel_rfl) (by kernel_rfl) (by kernel_rfl) .i64 (by kernel_rfl) hc
 go_enter Tryz.func238,Tryz.ntmps238
 go_wp2
 go_ret
 exact⟨rfl,rfl⟩
theorem C1I (x d:Int) (v0:Value) (w:World) (b:Nat) (hb:w.heap[b]? =some (.cells #[v0,.int .i64 x] 328 (0,0))):
 Calls Tryz.prog 237 #[.pointer (some ⟨b,1,none⟩),.int .i64 d] w fun e w'=>e= .returned (.tuple #[])∧w'=w.setCell ⟨b,1,none⟩ (.int .i64 d):=by
 have hc:w.cell? ⟨b,1,none⟩=some (.int .i64 x):=by simp[World.cell?,hb]
 have hz:w.frozen? ⟨b,1,none⟩=false:=by simp[World.frozen?,hb]
 have hst:=run_call_store (P:=Tryz.prog) Tryz.func267 (by kernel_rfl) (by kernel_rfl) (by kernel_rfl) (by kernel_rfl) (k:= .i64) (y:=d) hc hz
 go_enter Tryz.func237,Tryz.ntmps237
 go_wp2
 go_end0
 exact⟨rfl,rfl⟩
theorem C5R (b:Nat) (v:Value) (c:Int) (l:List cE):C5 Tryz.prog 238 [.c (.ptr 0 b 1)] [.blk b 328 [.own 1 v,.pv (i64 c)],.own v 354 .knw l]
 (fun _:Unit=>True) (fun _=>pv (i64 c)) (fun _=>[.blk b 328 [.own 1 v,.pv (i64 c)],.own v 354 .knw l]):=by
 refine⟨⟨_,Tryz.func238,rfl,by decide⟩,fun M w vs hS hra=>?_⟩;obtain⟨q1,q2,us,q3,q4⟩:=hS.ok 0 _ rfl;have hus:=A3G q4;subst hus;obtain⟨vs⟩:=vs;obtain⟨h1,h2⟩:=hra
 match vs,h1,h2 with
 |[u0],h1,h2=>
  have e0:=h2 0 _ u0 rfl rfl;cases e0 with|c e0=>cases e0 with|ptr=>
  refine(C1H c v w b q3).mono fun e w' ⟨he,hw⟩=>⟨_,M,(),he,B5.ext_refl _ _,trivial,.c (.pv (.val rfl)),?_⟩
  rw[hw];exact hS
theorem C4F (b:Nat) (v:Value) (c d:Int) (l:List cE):C5 Tryz.prog 237 [.c (.ptr 0 b 1),int .i64 d] [.blk b 328 [.own 1 v,.pv (i64 c)],.own v 354 .knw l]
 (fun _:Unit=>True) (fun _=> .t []) (fun _=>[.blk b 328 [.own 1 v,.pv (i64 d)],.own v 354 .knw l]):=by
 refine⟨⟨_,Tryz.func237,rfl,by decide⟩,fun M w vs hS hra=>?_⟩;obtain⟨q1,q2,us,q3,q4⟩:=hS.ok 0 _ rfl;have hus:=A3G q4;subst hus;have hv:=C1G (M:=M) (w:=w) (ty:=354) (k:= .knw) (l:=l) (hS.ok 1 _ rfl);obtain⟨vs⟩:=vs;obtain⟨h1,h2⟩:=hra
 match vs,h1,h2 with
 |[u0,u1],h1,h2=>
  have e0:=h2 0 _ u0 rfl rfl;have e1:=h2 1 _ u1 rfl rfl;cases e0 with|c e0=>cases e0 with|ptr=>
  have:=e1.val_inv;subst this;refine(C1I c d v w b q3).mono fun e w' ⟨he,hw⟩=>⟨_,M,(),he,B5.ext_refl _ _,trivial,.t rfl (by simp),?_⟩
  have hsr:=setCell_eq_setRow w b 1 #[v,.int .i64 c] 328 (0,0) (.int .i64 d) q3;rw[hw,hsr];refine hS.step (row:=some b) (I8 w b _) (fun b' hb'=>by cases hb';exact⟨q1,q2⟩) (nn:=0) (xx:= .blk b 328 [.own 1 v,.pv (i64 d)]) (fun n x hn hx=>?_) rfl ⟨q1,q2, #[v,.int .i64 d],?_,B2y hv _⟩ (fun b' hb'=> .inr hb')
  ·match n,hn,hx with
   |1,_,hx=>cases hx;exact⟨rfl,fun b' hb'=>by cases hb';exact hS.inj 0 1 _ _ b (by decide) rfl rfl rfl⟩
  ·exact setRow_heap w b _ _ _ _ q3
def sW:D9:=⟨T,R4,A7,A9,22,[],none,.f⟩
theorem B2z:B1 Tryz.prog sW:=⟨M8,A2,A4⟩
theorem qC:F0 Tryz.prog sW:=⟨tOk,B2z⟩
theorem U4 (b k:Nat) (S:Nat→Prop) (hk:k≤1000):C5 Tryz.prog 182 [.c (.ptr 0 b 0)] [iJ b k S] (fun _=>True) (fun x:(Nat→Prop)×Nat×(Nat→Prop)=> .c (.ptr 1 x.2.1 0)) (fun x=>[iJ b k x.1,iJ x.2.1 k x.2.2]):=by
 refine I6 (E:=sW) Tryz.func182 (fun M0 W hM0=>?_);refine N0 0 (fun x hx=>?_);have hx':x.l.length≤k:=hx;refine A3 qC [false] (fun bs=>?_);refine C3P 10 2 rfl rfl ?_;refine A3 qC [] (fun bs=>?_);refine B9c 3 0 2 rfl rfl rfl ?_;refine C3Q (ns:=[0,1,3,2]) (fs:=fun cb u=>[(0,.c (.ptr 0 b 0)),(3,.c (.ptr 2 cb 0))]) (hs:=fun cb u=>[.blk b 328 [.own 1 x.v,.pv (i64 x.n)],.own x.v 354 .knw x.l,.blk cb 328 [.own 3 u,.pv (i64 0)],.own u 354 .knw x.l]) ?b1 ?v1 rfl ?wk0 (fun cb u=>?_)
 case wk0=>and_intros<;> (first|exact wk_|refine A6 ?_|skip)
 refine vR 8 ?_;refine A3j 0 rfl rfl rfl rfl (by decide+kernel) rfl (by decide+kernel) rfl rfl ?_;refine A3k 1 rfl rfl rfl rfl (by decide+kernel) rfl (by decide+kernel) rfl rfl ?_;refine A8G 2 tOk rfl rfl rfl rfl rfl rfl rfl (by decide+kernel) rfl (by decide+kernel) rfl rfl ?_;refine A3j 3 rfl rfl rfl rfl (by decide+kernel) rfl (by decide+kernel) rfl rfl ?_;refine A3k 4 rfl rfl rfl rfl (by decide+kernel) rfl (by decide+kernel) rfl rfl ?_;refine A8G 5 tOk rfl rfl rfl rfl rfl rfl rfl (by decide+kernel) rfl (by decide+kernel) rfl rfl ?_;refine E4 6 rfl ?_;refine E7 [0,1] id (C5R b x.v x.n x.l) rfl rfl trivial rfl rfl rfl rfl (by decide) rfl rfl (fun x=>rfl) (fun _ _=>?_)
 refine E4 7 rfl ?_;refine E7 [2,3] (fun n=>n-2) (C4F cb u 0 x.n x.l) rfl rfl trivial rfl rfl rfl rfl (by decide) rfl rfl (fun x=>rfl) (fun _ _=>?_);refine iV ?_;refine A3 qC [] (fun bs=>?_);refine J8 0 (A7C b k) [0,1] x hx (fun S1=>?_);refine J8 2 (A7C cb k) [2,3] ⟨u,x.l,x.n⟩ hx' (fun S2=>?_);exact B3 qC (S1,cb,S2) trivial [0,2]
end
structure C4G (e:B0) (fl:Bs) (cl:Nat) (x:Bs):Prop where
 c:cl≤6
 may:U6 e.kind e.start e.count e.size e.sum cl=true
 st:0≤e.start∧0≤e.count∧(e.start+e.count)*16≤fl.length
 fll:fl.length≤100000
 u:L1 .u32 e.sum
 xl:x.length=16*2 ^ cl
 s:e.sum=H4 wd 0 x
def A0m:D9:=⟨T,R4,A7,A9,76,[],none,.f⟩
theorem A7D:B1 Tryz.prog A0m:=⟨M8,A2,A4⟩
theorem A4j:F0 Tryz.prog A0m:=⟨tOk,A7D⟩
theorem C6m (s n:Nat) (z sm:Int) (fl:Bs) (cl:Nat) (x:Bs) (h:C4G ⟨2,s,n,z,sm⟩ fl cl x) (hx:(fl.drop (s*16)).take (n*16)=x):C5 Tryz.prog 159 [.g [.pv (i64 2),.pv (i64 s),.pv (i64 n),.pv (i64 z),.pv (.val (.int .u32 sm))],lst .byt fl,int .i64 cl] [] (fun _=>True) (fun _:Unit=> .t [lst .byt x,int .i64 0]) (fun _=>[]):=by
 refine I6 (E:=A0m) Tryz.func159 (fun M0 W hM0=>?_);have h1:=h.c;have h2:(0:Int)≤s∧(0:Int)≤n∧((s:Int)+n)*16≤fl.length:=h.st;have h3:=h.fll;have h4:L1 .u32 sm:=h.u;have h5:U6 2 s n z sm cl=true:=h.may;have hp:=P5 (c:=(cl:Int)) ⟨by omega,by omega⟩;refine J3 A4j (fun _=>some false) [false,false,false,false] (fun bs=>?_) (fun bs=>?_)
 ·and_intros<;> first|exact trivial|omega|(show(cl:Int)≤64;omega)|exact decide_eq_false (by omega)|exact h4.1|exact h4.2|(rw[h5];rfl)|exact rfl|(simp;omega)
 have hxx:(fl.take (((s:Int)+n)*16).toNat).drop ((s:Int)*16).toNat=x:=by
  rw[List.drop_take,show(((s:Int)+n)*16).toNat-((s:Int)*16).toNat=n*16 by omega,show((s:Int)*16).toNat=s*16 by omega];exact hx
 have hxl:=h.xl;have hx8:(16*2 ^ ((cl:Int)).toNat:Int)=(x.length:Int):=by rw[hxl];simp
 have hs:sm=H4 wd 0 x:=h.s;refine X3 [0] [(3,.c (.ptr 0 ?bb 0)),(8,int .i64 x.length),(9,lst .byt x)] [.blk ?bb 185 [.pv (i64 2),.pv (i64 s),.pv (i64 n),.pv (i64 z),.pv (.val (.int .u32 sm))]] ?_ (h:=?wk)
 case wk=>
  and_intros<;> (first|exact wk_|refine A6 ?_|skip)
  all_goals first|exact hxx|exact hx8|exact congrArg (fun z=>PV.val (Value.int .i64 z)) hx8|exact congrArg (PV.lst LK.byt) hxx
 refine bY tOk A7D rfl (fun _=>some false) 9 [0,1,0,7,15,31,63,31,159,511,1023] [] rfl (by decide+kernel) (fun bs=>rfl) (fun bs=>?_) (fun bs=>?_)
 ·and_intros<;> first|exact trivial|omega|exact h4.1|exact h4.2|exact rfl|(simp;done)|(simp;omega)
 refine J3 A4j (fun _=>some false) [false] (fun bs=>?_) (fun bs=>?_)
 ·and_intros<;> first|exact trivial|omega|exact h4.1|exact h4.2|exact rfl|(simp;done)|(rw[←hs];simp;done)
 exact B3 A4j () trivial []
def A0n:D9:=⟨T,R4,A7,A9,76,[],none,.f⟩
theorem A7E:B1 Tryz.prog A0n:=⟨M8,A2,A4⟩
theorem wP:F0 Tryz.prog A0n:=⟨tOk,A7E⟩
theorem C6n (s n:Nat) (z sm:Int) (fl:Bs) (cl:Nat) (x:Bs) (h:C4G ⟨3,s,n,z,sm⟩ fl cl x) (hz:0≤z∧z≤n*16) (hx:Pk [] (((fl.drop (s*16)).take (n*16)).take z.toNat) x):C5 Tryz.prog 159 [.g [.pv (i64 3),.pv (i64 s),.pv (i64 n),.pv (i64 z),.pv (.val (.int .u32 sm))],lst .byt fl,int .i64 cl] [] (fun _=>True) (fun _:Unit=> .t [lst .byt x,int .i64 0]) (fun _=>[]):=by
 refine I6 (E:=A0n) Tryz.func159 (fun M0 W hM0=>?_);have h1:=h.c;have h2:(0:Int)≤s∧(0:Int)≤n∧((s:Int)+n)*16≤fl.length:=h.st;have h3:=h.fll;have h4:L1 .u32 sm:=h.u;have h5:U6 3 s n z sm cl=true:=h.may;have hp:=P5 (c:=(cl:Int)) ⟨by omega,by omega⟩;have hxx:(fl.take (((s:Int)+n)*16).toNat).drop ((s:Int)*16).toNat=(fl.drop (s*16)).take (n*16):=by
  rw[List.drop_take,show(((s:Int)+n)*16).toNat-((s:Int)*16).toNat=n*16 by omega,show((s:Int)*16).toNat=s*16 by omega]
 have hll:((fl.take (((s:Int)+n)*16).toNat).drop ((s:Int)*16).toNat).length=n*16:=by rw[hxx];simp;omega
 have hxl:=h.xl;have hx8:(16*2 ^ ((cl:Int)).toNat:Int)=(x.length:Int):=by rw[hxl];simp
 have hs:sm=H4 wd 0 x:=h.s;refine J3 wP (fun _=>some false) [false,false,false,true] (fun bs=>?_) (fun bs=>?_)
 ·and_intros<;> first|exact trivial|omega|(show(cl:Int)≤64;omega)|exact decide_eq_false (by omega)|exact h4.1|exact h4.2|(rw[h5];rfl)|exact rfl|(simp;omega)
 refine A5 [] (C6Y (((fl.drop (s*16)).take (n*16)).take z.toNat) x hx (by simp;omega) (by omega)) (fun v _=>?_) (hsim:=?hs1)
 case hs1=>
  and_intros<;> (first|exact wk_|refine A6 ?_|skip)
  all_goals(rw[hxx];and_intros<;> (first|exact wk_|refine A6 ?_|skip))
 refine A3 wP [false] (fun bs=>?_);refine G1 1 [9] rfl ⟨rfl,trivial⟩ ?_;refine X3 [0] [(3,.c (.ptr 0 ?bb 0)),(8,int .i64 x.length),(9,lst .byt x)] [.blk ?bb 185 [.pv (i64 3),.pv (i64 s),.pv (i64 n),.pv (i64 z),.pv (.val (.int .u32 sm))]] ?_ (h:=?wk)
 case wk=>
  and_intros<;> (first|exact wk_|refine A6 ?_|skip)
  all_goals first|exact hx8|exact congrArg (fun z=>PV.val (Value.int .i64 z)) hx8
 refine bY tOk A7E rfl (fun _=>some false) 9 [0,1,0,7,15,31,63,31,159,511,1023] [] rfl (by decide+kernel) (fun bs=>rfl) (fun bs=>?_) (fun bs=>?_)
 ·and_intros<;> first|exact trivial|omega|exact h4.1|exact h4.2|exact rfl|(simp;done)|(simp;omega)
 refine J3 wP (fun _=>some false) [false] (fun bs=>?_) (fun bs=>?_)
 ·and_intros<;> first|exact trivial|omega|exact h4.1|exact h4.2|exact rfl|(simp;done)|(rw[←hs];simp;done)
 exact B3 wP () trivial []
def nN:D9:=⟨T,R4,A7,A9,8,[],none,.t⟩
theorem A9R:B1 Tryz.prog nN:=⟨M8,A2,A4⟩
theorem sX:F0 Tryz.prog nN:=⟨tOk,A9R⟩
theorem B3A (l:List A7h) (hl:l=[]):aA Tryz.prog 128 true [lst .sht l] (.x (.c (.lst .sht []))):=by
 refine cJ (E:=nN) Tryz.func128 (fun M0 W hM0=>?_);subst hl;refine A3 sX [] (fun bs=>?_);refine C6 rfl rfl (fun h=>?_) (fun h=>?_)
 ·refine A3 sX [] (fun bs=>?_);refine D5 tOk hM0 rfl rfl ⟨trivial,trivial⟩ ?_;exact⟨rfl,rfl⟩
 ·refine A3 sX [] (fun bs=>?_);refine G1 1 [2] rfl ⟨rfl,trivial⟩ ?_;exact D5 tOk hM0 rfl rfl ⟨trivial,trivial⟩ rfl
def A0o:C3
 |[.c (.pv (.lst .sht l))]=>some ((l=[]),true,.x (.c (.lst .sht [])))
 |_=>none
theorem A7F:E9 Tryz.prog 128 A0o:=by
 intro args pre sh rv h hp;unfold A0o at h;split at h
 ·cases h;have hl:=hp;exact B3A _ hl
 ·cases h
def nO:FuncId→Option C3:=D6 128 A0o R4
theorem mI:G4 Tryz.prog nO:=B8 A7F M8
def nP:D9:=⟨T,nO,A7,A9,8,[],none,.t⟩
theorem A9S:B1 Tryz.prog nP:=⟨mI,A2,A4⟩
theorem sY:F0 Tryz.prog nP:=⟨tOk,A9S⟩
theorem B3B (l:List gJ) (hl:l=[]):aA Tryz.prog 129 true [lst .bms l] (.x (.c (.lst .bms []))):=by
 refine cJ (E:=nP) Tryz.func129 (fun M0 W hM0=>?_);subst hl;refine A3 sY [] (fun bs=>?_);refine C6 rfl rfl (fun h=>?_) (fun h=>?_)
 ·refine A3 sY [] (fun bs=>?_);refine D5 tOk hM0 rfl rfl ⟨trivial,trivial⟩ ?_;exact⟨rfl,rfl⟩
 ·refine A3 sY [] (fun bs=>?_);refine G1 1 [2] rfl ⟨rfl,trivial⟩ ?_;exact D5 tOk hM0 rfl rfl ⟨trivial,trivial⟩ rfl
def A0p:C3
 |[.c (.pv (.lst .bms l))]=>some ((l=[]),true,.x (.c (.lst .bms [])))
 |_=>none
theorem A7G:E9 Tryz.prog 129 A0p:=by
 intro args pre sh rv h hp;unfold A0p at h;split at h
 ·cases h;have hl:=hp;exact B3B _ hl
 ·cases h
def nQ:FuncId→Option C3:=D6 129 A0p nO
theorem mJ:G4 Tryz.prog nQ:=B8 A7G mI
theorem C1J {t:List (List B0)} (h:t.length≤512):A6l t 4096=t:=by
 unfold A6l;split
 ·rw[show t.length*8-(max (4096:Int) 0).toNat=0 by omega];rfl
 ·rfl
def A3H (m:X7):X7:=⟨m.cl,m.size,m.bk,m.t,[],[],[]⟩
def A0q:D9:=⟨T,nQ,A7,A9,57,[],none,.t⟩
theorem B7F:B1 Tryz.prog A0q:=⟨mJ,A2,A4⟩
theorem A4k:F0 Tryz.prog A0q:=⟨tOk,B7F⟩
theorem C1K (m0:Int) (m1:Int) (m2:List UInt8) (m3:List (List B0)) (m4:List A7h) (m5:List gJ) (m6:List Int) (hs:m4=[]) (hm:m5=[]) (htl:m3.length≤512) (htf:∀i,(leaf m3 i).length≤1000000000):aA Tryz.prog 60 true [.g [.pv (.val (.int .i64 m0)),.pv (.val (.int .i64 m1)),.pv (.val (.string ⟨⟨m2⟩⟩)),.pv (.lst .tbl m3),.pv (.lst .sht m4),.pv (.lst .bms m5),.pv (.lst (.ints .i64) m6)]] (.x (.g [i64 m0,i64 m1,sv m2,.lst .tbl m3,.lst .sht [],.lst .bms [],.lst (.ints .i64) []])):=by
 refine cJ (E:=A0q) Tryz.func60 (fun M0 W hM0=>?_);subst hs hm;have hc:=C1J htl;refine A3 A4k [] (fun bs=>?_);refine K3 (fun q:Nat×Nat=>[(1,.c (.ptr 0 q.1 0)),(2,.c (.ptr 1 q.2 0)),(15,int .i64 0),(16,int .i64 0)]) (fun q=>[.blk q.1 82 [.pv (i64 m0),.pv (i64 m1),.pv (sv m2),.pv (.lst .tbl m3),.pv (.lst .sht []),.pv (.lst .bms []),.pv (.lst (.ints .i64) m6)],.blk q.2 82 [.pv (i64 0),.pv (i64 0),.pv (sv []),.pv (.nil .tbl),.pv (.nil .sht),.pv (.nil .bms),.pv (.nil (.ints .i64))]]) (fun _=>True) (fun _=>0) [0,1] (?a1,?b1) trivial ?wk1 (fun q _=>?_)
 case wk1=>
  and_intros<;> (first|exact wk_|refine A6 ?_|skip)
  all_goals first|exact hc|exact congrArg (PV.lst LK.tbl) hc
 refine A3 A4k [false] (fun bs=>?_);refine K3 (fun q:Nat×Nat=>[(1,.c (.ptr 0 q.1 0)),(2,.c (.ptr 1 q.2 0)),(38,int .i64 0),(39,int .i64 0)]) (fun q=>[.blk q.1 82 [.pv (i64 m0),.pv (i64 m1),.pv (sv m2),.pv (.lst .tbl m3),.pv (.lst .sht []),.pv (.lst .bms []),.pv (.lst (.ints .i64) m6)],.blk q.2 82 [.pv (i64 0),.pv (i64 0),.pv (sv []),.pv (.nil .tbl),.pv (.nil .sht),.pv (.nil .bms),.pv (.nil (.ints .i64))]]) (fun _=>True) (fun _=>0) [0,1] (?a2,?b2) trivial ?wk2 (fun q _=>?_)
 case wk2=>
  and_intros<;> (first|exact wk_|refine A6 ?_|skip)
  all_goals first|exact hc|exact congrArg (PV.lst LK.tbl) hc
 refine A3 A4k [false] (fun bs=>?_);refine D5 tOk hM0 rfl rfl ⟨rfl,trivial⟩ ?_;refine⟨?_,?_,?_,?_,?_,?_,?_,?_⟩<;> first|exact rfl|exact trivial|exact⟨rfl,rfl⟩
def A9T:C3
 |[.g [.pv (.val (.int .i64 m0)),.pv (.val (.int .i64 m1)),.pv (.val (.string ⟨⟨m2⟩⟩)),.pv (.lst .tbl m3),.pv (.lst .sht m4),.pv (.lst .bms m5),.pv (.lst (.ints .i64) m6)]]=>some ((m4=[])∧(m5=[])∧(m3.length≤512)∧(∀i,(leaf m3 i).length≤1000000000),true,.x (.g [i64 m0,i64 m1,sv m2,.lst .tbl m3,.lst .sht [],.lst .bms [],.lst (.ints .i64) []]))
 |_=>none
theorem B3C:E9 Tryz.prog 60 A9T:=by
 intro args pre sh rv h hp;unfold A9T at h;split at h
 ·cases h;obtain⟨hs,hm,htl,htf⟩:=hp;exact C1K _ _ _ _ _ _ _ hs hm htl htf
 ·cases h
def dP:FuncId→Option C3:=D6 60 A9T nQ
theorem Z5:G4 Tryz.prog dP:=B8 B3C mJ
structure X1 where
 nm:Bs
 m:X7
 kept:X7
 held:List X7
 last:iZ
 ch:Bool
 k:Nat
 gs:List Int
structure ImX where
 v:Value
 bk:Nat
 br:Nat
 S1:Nat→Prop
 S2:Nat→Prop
 pgs:Pgs
 n:Int
def C5S (s:iZ):List C:=[.pv (i64 s.seq),.pv (i64 s.start),.pv (i64 s.count),.pv (.val (.int .u32 s.sum))]
def O1 (bd b:Nat) (i:X1):Ob ImX:=⟨fun x=>(x.pgs.map fun p=>p.1).Nodup∧∀p∈x.pgs,p.1∈i.gs,
 fun x=>[.blk b 139 [.pv (.val (.pointer (some ⟨bd,0,none⟩))),.pv (sv i.nm),.pv (i64 i.m.cl),.pv (i64 i.m.size),.pv (sv i.m.bk),.pv (.lst .tbl i.m.t),.pv (.lst .sht i.m.sh),.pv (.lst .bms i.m.mp),.pv (.lst (.ints .i64) i.m.ct),.pv (i64 i.kept.cl),.pv (i64 i.kept.size),.pv (sv i.kept.bk),.pv (.lst .tbl i.kept.t),.pv (.lst .sht i.kept.sh),.pv (.lst .bms i.kept.mp),.pv (.lst (.ints .i64) i.kept.ct),.own 1 x.v,.pv (i64 i.last.seq),.pv (i64 i.last.start),.pv (i64 i.last.count),.pv (.val (.int .u32 i.last.sum)),.pv (bv i.ch),.ptr 2 x.bk 0,.ptr 3 x.br 0,.pv (i64 x.n)],
  .own x.v 82 .mta i.held,iJ x.bk i.k x.S1,B2s x.br x.pgs x.S2]⟩
abbrev L5 (bd b:Nat) (i:X1) (S:Nat→Prop):HB:=ThO (O1 bd b i) S
def sZ:D9:=⟨T,dP,A7,A9,26,[],none,.f⟩
theorem B3D:B1 Tryz.prog sZ:=⟨Z5,A2,A4⟩
theorem kK:F0 Tryz.prog sZ:=⟨tOk,B3D⟩
theorem C5T (bd:Nat) (d:H8) (S:Nat→Prop) (nm:Bs) (m:X7) (last:iZ) (h:pQ m):C5 Tryz.prog 63 [.c (.ptr 0 bd 0),str nm,A2N m,.g [.pv (i64 last.seq),.pv (i64 last.start),.pv (i64 last.count),.pv (.val (.int .u32 last.sum))]] [D3 bd d S] (fun _=>True) (fun x:Nat×(Nat→Prop)=> .c (.ptr 1 x.1 0)) (fun x=>[D3 bd d S,L5 bd x.1 ⟨nm,A3H m,A3H m,[],last,false,0,[]⟩ x.2]):=by
 refine I6 (E:=sZ) Tryz.func63 (fun M0 W hM0=>?_);have hsh:=h.sh;have hmp:=h.mp;have htl:=h.tl;have htf:=h.hf;refine A3 kK [] (fun bs=>?_);refine A5 [] C6i (fun p _=>?_);refine A3 kK [] (fun bs=>?_);refine rD kK 9 [0,0,0,4,0,28,0,60,0,511,1023,2047] 7 [] [1,2] C6k (fun q _=>?_);refine A3 kK [] (fun bs=>?_);refine bZ 5 16 82 rfl rfl ?_;refine X3 [0,5,6,4,3] [(8,.c (.ptr 1 ?bb 0))] [D3 bd d S,.blk ?bb 139 [.pv (.val (.pointer (some ⟨bd,0,none⟩))),.pv (sv nm),.pv (i64 m.cl),.pv (i64 m.size),.pv (sv m.bk),.pv (.lst .tbl m.t),.pv (.lst .sht []),.pv (.lst .bms []),.pv (.lst (.ints .i64) []),.pv (i64 m.cl),.pv (i64 m.size),.pv (sv m.bk),.pv (.lst .tbl m.t),.pv (.lst .sht []),.pv (.lst .bms []),.pv (.lst (.ints .i64) []),.own 2 (.slice none 0 0),.pv (i64 last.seq),.pv (i64 last.start),.pv (i64 last.count),.pv (.val (.int .u32 last.sum)),.pv (bv false),.ptr 3 q.1 0,.ptr 4 p.1 0,.pv (i64 0)],
  .own (.slice none 0 0) 82 .mta [],iJ q.1 0 q.2,B2s p.1 [] p.2] ?_ (h:=?wk)
 case wk=>and_intros<;> (first|exact wk_|refine A6 ?_|skip)
 refine J8 1 (O1 bd ?bb ⟨nm,A3H m,A3H m,[],last,false,0,[]⟩) [1,2,3,4] ⟨.slice none 0 0,q.1,p.1,q.2,p.2,[],0⟩ ⟨List.nodup_nil,fun _ h=>by cases h⟩ (fun S1=>?_);exact B3 kK (_,S1) trivial [0,1]
def A4l:D9:=⟨T,dP,A7,A9,22,[],none,.f⟩
theorem C1L:B1 Tryz.prog A4l:=⟨Z5,A2,A4⟩
theorem A4m:F0 Tryz.prog A4l:=⟨tOk,C1L⟩
theorem iUp (bd b:Nat) (d:H8) (S:Nat→Prop) (i:X1) (T:Nat→Prop) (f:P7) (hf:H9 d.files i.nm=some f) (hm:f.now.length≤1000000):C5 Tryz.prog 57 [.c (.ptr 0 b 0)] [L5 bd b i T,D3 bd d S] (fun _=>True) (fun _:(Nat→Prop)×(Nat→Prop)=>int .i64 0) (fun x=>[L5 bd b i x.1,D3 bd d x.2]):=by
 refine I6 (E:=A4l) Tryz.func57 (fun M0 W hM0=>?_);refine N0 0 (fun x hx=>?_);refine A3 A4m [false] (fun bs=>?_);refine rD A4m 13 [0,1,3,7,0,16,48,112,255,511,1023,1023,2047,8191] 8 [1] [0] (A6R bd d S i.nm f hf 0 0 (by omega) (by omega)) (fun y _=>?_);refine A3 A4m [false] (fun bs=>?_);refine J8 0 (O1 bd b i) [0,2,3,4] x hx (fun T1=>?_);exact B3 A4m (T1,y.1) trivial [0,1]
def A0r:D9:=⟨T,dP,A7,A9,47,[],none,.f⟩
theorem B7G:B1 Tryz.prog A0r:=⟨Z5,A2,A4⟩
theorem wQ:F0 Tryz.prog A0r:=⟨tOk,B7G⟩
theorem C4H (bd b:Nat) (i:X1) (T:Nat→Prop) (hc:0≤i.m.cl∧i.m.cl≤6) (hs:0≤i.m.size∧i.m.size≤4096):C5 Tryz.prog 148 [.c (.ptr 0 b 0),str []] [L5 bd b i T] (fun _=>True) (fun _:Nat→Prop=> .t [.g [.pv (.lst .tbl i.m.t)],int .i64 (i.m.size / 2 ^ i.m.cl.toNat),bool true]) (fun T=>[L5 bd b i T]):=by
 refine I6 (E:=A0r) Tryz.func148 (fun M0 W hM0=>?_);refine N0 0 (fun x hx=>?_);have hp:=P5 hc;refine A3 wQ [true] (fun bs=>?_);refine jD 5 rfl ?_;refine mC wQ 17 [0,1,3,7,15,0,32,96,224,480,0,1024,3072,7168,15360,32736,31,131071,262143] [(16,4)] (fun bs=>?_) (fun bs=>?_)
 ·and_intros<;> first|exact trivial|omega|(show i.m.cl≤64;omega)|exact rfl
 refine A3 wQ [] (fun bs=>?_);refine J8 0 (O1 bd b i) [0,1,2,3] x hx (fun T1=>?_);exact B3 wQ T1 trivial [0]
def C1M (i:X1) (k:Int) (e:B0):X1:=⟨i.nm,⟨i.m.cl,i.m.size,i.m.bk,bT i.m.t k e,i.m.sh,i.m.mp,i.m.ct⟩,i.kept,i.held,i.last,true,i.k,i.gs⟩
def A0s:D9:=⟨T,dP,A7,A9,67,[],none,.f⟩
theorem B7H:B1 Tryz.prog A0s:=⟨Z5,A2,A4⟩
theorem wR:F0 Tryz.prog A0s:=⟨tOk,B7H⟩
theorem C6o (bd b:Nat) (i:X1) (T:Nat→Prop) (k:Int) (e:B0) (h:pQ i.m):C5 Tryz.prog 230 [.c (.ptr 0 b 0),str [],int .i64 k,A9Q e] [L5 bd b i T] (fun _=>True) (fun _:Nat→Prop=> .t []) (fun T=>[L5 bd b (C1M i k e) T]):=by
 refine I6 (E:=A0s) Tryz.func230 (fun M0 W hM0=>?_);have htl:=h.tl;have htf:=h.hf;obtain⟨ek,es,ec,ez,em⟩:=e;refine N0 0 (fun x hx=>?_);refine A3 wR [true] (fun bs=>?_);refine jD 5 rfl ?_;refine mC wR 9 [0,0,2,6,14,30,0,0,254,511,1023,2047,4095] [(12,0)] (fun bs=>?_) (fun bs=>?_)
 ·and_intros<;> first|exact trivial|omega|exact htf _|exact htf|exact rfl
 refine A3 wR [] (fun bs=>?_);refine J8 0 (O1 bd b (C1M i k ⟨ek,es,ec,ez,em⟩)) [0,1,2,3] x hx (fun T1=>?_);exact B3 wR T1 trivial [0]
def tA:D9:=⟨T,dP,A7,A9,24,[],none,.t⟩
theorem B3E:B1 Tryz.prog tA:=⟨Z5,A2,A4⟩
theorem A7H:F0 Tryz.prog tA:=⟨tOk,B3E⟩
theorem B7I (l:List gJ) (hl:l=[]):aA Tryz.prog 177 true [lst .bms l] (.x (.c (.lst .bms []))):=by
 refine cJ (E:=tA) Tryz.func177 (fun M0 W hM0=>?_);subst hl;refine A3 A7H [] (fun bs=>?_);refine V3 (fun _:Unit=>[(3,lst .bms []),(8,int .i64 0),(9,int .i64 0)]) (fun _=>[]) (fun _=>True) (fun _=>0) [] () trivial (fun _ _=>?_);refine A3 A7H [false] (fun bs=>?_);exact D5 tOk hM0 rfl rfl ⟨trivial,trivial⟩ rfl
def A4n:C3
 |[.c (.pv (.lst .bms l))]=>some ((l=[]),true,.x (.c (.lst .bms [])))
 |_=>none
theorem A9U:E9 Tryz.prog 177 A4n:=by
 intro args pre sh rv h hp;unfold A4n at h;split at h
 ·cases h;have hl:=hp;exact B7I _ hl
 ·cases h
def tB:FuncId→Option C3:=D6 177 A4n dP
theorem qD:G4 Tryz.prog tB:=B8 A9U Z5
def kL:D9:=⟨T,tB,A7,A9,32,[],none,.t⟩
theorem A7I:B1 Tryz.prog kL:=⟨qD,A2,A4⟩
theorem A0t:F0 Tryz.prog kL:=⟨tOk,A7I⟩
theorem A9V (l:List gJ) (s0:Int) (s1:Int) (hl:l=[]):aA Tryz.prog 231 true [lst .bms l,.g [.pv (.val (.int .i64 s0)),.pv (.val (.int .i64 s1))]] (.x (.c (.lst .bms []))):=by
 refine cJ (E:=kL) Tryz.func231 (fun M0 W hM0=>?_);subst hl;refine A3 A0t [] (fun bs=>?_);refine V3 (fun _:Unit=>[(5,lst .bms []),(10,int .i64 0),(11,int .i64 0)]) (fun _=>[]) (fun _=>True) (fun _=>0) [] () trivial (fun _ _=>?_);refine A3 A0t [false] (fun bs=>?_);exact D5 tOk hM0 rfl rfl ⟨trivial,trivial⟩ rfl
def tC:C3
 |[.c (.pv (.lst .bms l)),.g [.pv (.val (.int .i64 s0)),.pv (.val (.int .i64 s1))]]=>some ((l=[]),true,.x (.c (.lst .bms [])))
 |_=>none
theorem A4o:E9 Tryz.prog 231 tC:=by
 intro args pre sh rv h hp;unfold tC at h;split at h
 ·cases h;have hl:=hp;exact A9V _ _ _ hl
 ·cases h
def eY:FuncId→Option C3:=D6 231 tC tB
theorem dQ:G4 Tryz.prog eY:=B8 A4o qD
def nR:D9:=⟨T,eY,A7,A9,18,[],none,.f⟩
theorem A9W:B1 Tryz.prog nR:=⟨dQ,A2,A4⟩
theorem A3I:F0 Tryz.prog nR:=⟨tOk,A9W⟩
theorem C4I (bd b:Nat) (i:X1) (T:Nat→Prop) (k:Int) (h:pQ i.m) (hk:0≤k∧k≤4096):C5 Tryz.prog 170 [.c (.ptr 0 b 0),int .i64 k] [L5 bd b i T] (fun _=>True) (fun _:Nat→Prop=> .t []) (fun T=>[L5 bd b i T]):=by
 refine I6 (E:=nR) Tryz.func170 (fun M0 W hM0=>?_);have hmp:=h.mp;refine N0 0 (fun x hx=>?_);refine A3 A3I [] (fun bs=>?_);refine J8 0 (O1 bd b i) [0,1,2,3] x hx (fun T1=>?_) (h:=?hsh)
 case hsh=>
  and_intros<;> (first|exact wk_|refine A6 ?_|skip)
  all_goals(rw[hmp];exact rfl)
 exact Y6 A3I T1 trivial [0]
def tD:D9:=⟨T,eY,A7,A9,71,[],none,.f⟩
theorem B3F:B1 Tryz.prog tD:=⟨dQ,A2,A4⟩
theorem qE:F0 Tryz.prog tD:=⟨tOk,B3F⟩
theorem C2e (bd b:Nat) (i:X1) (T:Nat→Prop) (d:H8) (S:Nat→Prop) (e:B0) (hk:e.kind=0∨e.kind=1) (hc:0≤i.m.cl∧i.m.cl≤6):C5 Tryz.prog 150 [.c (.ptr 0 b 0),A9Q e] [L5 bd b i T,D3 bd d S] (fun _=>True) (fun _:(Nat→Prop)×(Nat→Prop)=> .t [lst .byt (List.replicate (16*2 ^ i.m.cl.toNat:Int).toNat 0),int .i64 0]) (fun y=>[L5 bd b i y.1,D3 bd d y.2]):=by
 refine I6 (E:=tD) Tryz.func150 (fun M0 W hM0=>?_);have hp:=P5 hc;obtain⟨ek,es,ec,ez,em⟩:=e;simp only at hk;refine N0 0 (fun x hx=>?_);rcases hk with rfl|rfl
 ·refine J3 qE (fun _=>some true) [true] (fun bs=>?_) (fun bs=>?_)
  ·and_intros<;> first|exact trivial|omega|(show i.m.cl≤64;omega)|exact rfl
  refine G1 6 [4] rfl ⟨rfl,trivial⟩ ?_;refine J8 0 (O1 bd b i) [0,2,3,4] x hx (fun T1=>?_);exact B3 qE (T1,S) trivial [0,1]
 ·refine J3 qE (fun _=>some false) [true] (fun bs=>?_) (fun bs=>?_)
  ·and_intros<;> first|exact trivial|omega|(show i.m.cl≤64;omega)|exact rfl
  refine G1 6 [4] rfl ⟨rfl,trivial⟩ ?_;refine J8 0 (O1 bd b i) [0,2,3,4] x hx (fun T1=>?_);exact B3 qE (T1,S) trivial [0,1]
open Classical in
noncomputable def unP (b:Bs):Bs:=if h:∃x,Pk [] b x then Classical.choose h else[]
theorem B7J {b x:Bs} (h:Pk [] b x):Pk [] b (unP b):=by
 have h':∃x,Pk [] b x:=⟨x,h⟩
 unfold unP;rw[dif_pos h'];exact Classical.choose_spec h'
theorem A0u {k:Nat} (h:k<256):(b8 k).toNat=k:=by simp[b8];omega
theorem C1N {u v:UInt8} (hu:u≠255) (hv:v≠255) {r s:Bs}:∀a b:Nat,List.replicate a 255++u::r=List.replicate b 255++v::s→a=b∧u=v∧r=s:=by
 intro a
 induction a with
 |zero=>
  intro b h;cases b with
  |zero=>simp at h;exact⟨rfl,h.1,h.2⟩
  |succ b=>simp[List.replicate_succ]at h;exact absurd h.1 hu
 |succ a ih=>
  intro b h;cases b with
  |zero=>simp[List.replicate_succ]at h;exact absurd h.1.symm hv
  |succ b=>
   simp only[List.replicate_succ,List.cons_append,List.cons.injEq,true_and]at h;obtain⟨h1,h2,h3⟩:=ih b h;exact⟨by omega,h2,h3⟩
theorem B7K (k:Nat):b8 (k%255)≠255:=by
 intro h;have:=congrArg UInt8.toNat h;rw[A0u (by omega)]at this;have e:(255:UInt8).toNat=255:=rfl;omega
theorem A7J {m n:Nat} {r s:Bs} (h15:min m 15=min n 15) (h:V7 m++r=V7 n++s):m=n∧r=s:=by
 unfold V7 at h;by_cases hm:m<15
 ·rw[if_pos hm,if_pos (by omega)]at h;exact⟨by omega,h⟩
 ·rw[if_neg hm,if_neg (by omega),List.append_assoc,List.append_assoc]at h;obtain⟨h1,h2,h3⟩:=C1N (B7K _) (B7K _) _ _ h;have:=congrArg UInt8.toNat h2;rw[A0u (by omega),A0u (by omega)]at this;exact⟨by omega,h3⟩
theorem C1O {l n l' n':Nat} (h:jH l n=jH l' n'):min l 15=min l' 15∧(4≤n→4≤n'→min (n-4) 15=min (n'-4) 15):=by
 unfold jH at h;have:=congrArg UInt8.toNat h;rw[A0u (by split<;> omega),A0u (by split<;> omega)]at this;refine⟨?_,fun h1 h2=>?_⟩
 ·split at this<;> split at this<;> omega
 ·rw[if_neg (by omega),if_neg (by omega)]at this;omega
theorem Pk.uniq:∀(k:Nat) (o r x y:Bs),r.length≤k→Pk o r x→Pk o r y→x=y:=by
 intro k
 induction k with
 |zero=>intro o r x y hr hx _;exact absurd (List.length_eq_zero_iff.1 (Nat.le_zero.1 hr)) hx.ne
 |succ k ih=>
  intro o r x y hr hx hy;obtain⟨p,n,tl,e1, -,c1⟩:=hx.next;obtain⟨p',n',tl',e2, -,c2⟩:=hy.next;have e:=e1.symm.trans e2;simp only[List.cons.injEq]at e;obtain⟨t1,t2⟩:=C1O e.1;obtain⟨q1,q2⟩:=A7J t1 e.2;obtain⟨rfl,rfl⟩:=List.append_inj q2 q1;rcases c1 with⟨a1,a2⟩|⟨d,r',b1,b2,b3,b4,b5,b6⟩
  ·rcases c2 with⟨_,a4⟩|⟨d',r'',b1',_⟩
   ·rw[a2,a4]
   ·rw[a1]at b1';cases b1'
  ·rcases c2 with⟨a3,_⟩|⟨d',r'',b1',b2',b3',b4',b5',b6'⟩
   ·rw[a3]at b1;cases b1
   ·rw[b1]at b1';simp only[List.cons.injEq]at b1';obtain⟨w1,w2,w3⟩:=b1';have hd:d=d':=by
     have v1:=congrArg UInt8.toNat w1;have v2:=congrArg UInt8.toNat w2;simp[b8]at v1 v2;omega
    obtain⟨z1,z2⟩:=A7J (t2 b5 b5') w3;have hn:n=n':=by omega
    subst hd hn z2;refine ih _ r' x y ?_ b6 b6';rw[e1,b1]at hr;simp at hr;omega
theorem C4J {b x:Bs} (h:Pk [] b x):unP b=x:=Pk.uniq _ _ _ _ _ (Nat.le_refl _) (B7J h) h
theorem C5.toC {P:Program} {f:FuncId} {xs:List A} {X:Type} {ok:X→Prop} {rx:X→A} {rv:RV} (h:C5 P f xs [] ok rx (fun _=>[])) (hr:∀x M v B w,RA M (rx x) v→A5d M B w rv v):aA P f true xs rv:=by
 refine⟨h.1,fun M w vs hM hra=>(h.2 M w vs ⟨K0.refl _ _,fun _ hk=>hk.1,hM,fun n x hx=>(by cases n<;> cases hx),fun n n' x x' b _ hx=>(by cases n<;> cases hx)⟩ hra).mono fun e w' ⟨v,M',x,he,hm,_,hv,hS⟩=>⟨v,fun k=>if k<w.heap.size then none else M' k,he,?_,?_,?_⟩⟩
 ·exact K0.low (hS.below.mono fun k hk=>⟨hk,fun j y hy=>by cases j<;> cases hy⟩)
 ·intro k o hk;dsimp only at hk;split at hk
  ·cases hk
  ·exact⟨by omega,hS.mem k o hk⟩
 ·refine hr x _ v _ w' (hv.mono ?_);intro k o hk;show B5.or M (fun k=>if k<w.heap.size then none else M' k) k=some o;unfold B5.or;dsimp only;by_cases hs:k<w.heap.size
  ·rw[if_pos hs];exact hm.2 k o hk ⟨hs,fun j y hy=>by cases j<;> cases hy⟩
  ·rw[if_neg hs,hk]
noncomputable def ckX (k s n z:Int) (fl:Bs):Bs:=if k=2 then(fl.drop (s.toNat*16)).take (n.toNat*16)else unP (((fl.drop (s.toNat*16)).take (n.toNat*16)).take z.toNat)
structure CkP (k s n z sm:Int) (fl:Bs) (cl:Int):Prop where
 s0:0≤s
 n0:0≤n
 c0:0≤cl
 ck:C4G ⟨k,s,n,z,sm⟩ fl cl.toNat (ckX k s n z fl)
 kd:k=2∨(k=3∧0≤z∧z≤n*16∧∃x,Pk [] (((fl.drop (s.toNat*16)).take (n.toNat*16)).take z.toNat) x)
theorem B7L {x:Bs} {M:B5} {v:Value} {B:Nat→Prop} {w:World} (h:RA M (.t [lst .byt x,int .i64 0]) v):A5d M B w (.t [.c (.lst .byt x),.c (i64 0)]) v:=by
 cases h with
 |t hs hh=>
  refine⟨_,rfl,hs,fun j r u e1 e2=>?_⟩
  match j,e1 with
  |0,e1=>
   cases e1;have:=hh 0 _ u rfl e2;cases this with|c q=>cases q with|pv q=>exact q
  |1,e1=>
   cases e1;have:=hh 1 _ u rfl e2;cases this with|c q=>cases q with|pv q=>exact q
theorem C4K {k s n z sm:Int} {fl:Bs} {cl:Int} (h:CkP k s n z sm fl cl):aA Tryz.prog 159 true [.g [.pv (i64 k),.pv (i64 s),.pv (i64 n),.pv (i64 z),.pv (.val (.int .u32 sm))],lst .byt fl,int .i64 cl] (.t [.c (.lst .byt (ckX k s n z fl)),.c (i64 0)]):=by
 obtain⟨s',rfl⟩:=Int.eq_ofNat_of_zero_le h.s0;obtain⟨n',rfl⟩:=Int.eq_ofNat_of_zero_le h.n0;obtain⟨c',rfl⟩:=Int.eq_ofNat_of_zero_le h.c0;have hck:=h.ck;rcases h.kd with rfl|⟨rfl,z0,z1,x,hx⟩
 ·exact C5.toC (C6m s' n' z sm fl c' _ hck (by simp[ckX])) (fun _ M v B w hv=>B7L hv)
 ·refine C5.toC (C6n s' n' z sm fl c' _ hck ⟨z0,z1⟩ ?_) (fun _ M v B w hv=>B7L hv);have:=B7J hx;simpa[ckX]using this
noncomputable def A0v:C3
 |[.g [.pv (.val (.int .i64 k)),.pv (.val (.int .i64 s)),.pv (.val (.int .i64 n)),.pv (.val (.int .i64 z)),.pv (.val (.int .u32 sm))],.c (.pv (.lst .byt fl)),.c (.pv (.val (.int .i64 cl)))]=>some (CkP k s n z sm fl cl,true,.t [.c (.lst .byt (ckX k s n z fl)),.c (i64 0)])
 |_=>none
theorem A7K:E9 Tryz.prog 159 A0v:=by
 intro args pre sh rv h hp;unfold A0v at h;split at h
 ·cases h;exact C4K hp
 ·cases h
noncomputable def tE:FuncId→Option C3:=D6 159 A0v eY
theorem gB:G4 Tryz.prog tE:=B8 A7K dQ
theorem C1P {c n n':Int} {i:Nat} {l:List B0} (hn:n≤n'):∀k,hY c n i l k=true→hY c n' i l k=true:=by
 intro k
 induction k with
 |zero=>exact fun h=>h
 |succ k ih=>
  intro h;simp only[hY,Bool.and_eq_true]at h⊢;refine⟨ih h.1,?_⟩;have:=h.2;simp only[eQ,Bool.and_eq_true,Bool.or_eq_true,decide_eq_true_eq]at this⊢;exact⟨this.1,this.2.imp_right fun h=>by omega⟩
theorem B3G {t:List (List B0)} {n c:Int}:∀{k:Nat},M5 t n c k=true→∀i,i<k→Q7 t n c i=true:=by
 intro k
 induction k with
 |zero=>intro _ i h;omega
 |succ k ih=>
  intro h i hi;simp only[M5,Bool.and_eq_true]at h;by_cases e:i=k
  ·subst e;exact h.2
  ·exact ih h.1 i (by omega)
theorem B3H {t:List (List B0)} {n c:Int}:∀{k:Nat},(∀i,i<k→Q7 t n c i=true)→M5 t n c k=true:=by
 intro k
 induction k with
 |zero=>intro _;rfl
 |succ k ih=>intro h;simp only[M5,Bool.and_eq_true];exact⟨ih fun i hi=>h i (by omega),h k (by omega)⟩
theorem dR {t:List (List B0)} {n c:Int}:E8 t n c=true↔(0≤n∧n≤4096∧0≤c∧c≤6)∧∀i,i<t.length→Q7 t n c i=true:=by
 constructor
 ·intro h;simp only[E8,Bool.and_eq_true,Bool.not_eq_true',Bool.or_eq_false_iff,decide_eq_false_iff_not]at h;exact⟨by omega,B3G h.2⟩
 ·rintro ⟨h1,h2⟩
  simp only[E8,Bool.and_eq_true,Bool.not_eq_true',Bool.or_eq_false_iff,decide_eq_false_iff_not];exact⟨by omega,B3H h2⟩
theorem B7M {t:List (List B0)} {n n' c:Int} (h:E8 t n c=true) (hn:n≤n') (h':n'≤4096):E8 t n' c=true:=by
 obtain⟨h1,h2⟩:=dR.1 h;refine dR.2 ⟨by omega,fun i hi=>?_⟩;have:=h2 i hi;simp only[Q7,jG,Bool.or_eq_true,Bool.and_eq_true]at this⊢;exact this.imp_right fun h=>⟨h.1,C1P hn _ h.2.1,h.2.2⟩
theorem gC {t:List (List B0)} {n c:Int} (h:E8 t n c=true) (j:Nat):W9 c (L2 t j)=true:=by rw[W5];exact pG h _ _
theorem kM {t:List (List B0)} {n c:Int} (h:E8 t n c=true) {j:Nat} (hx:P6 (L2 t j)=false):(j:Int)<n:=by
 rw[W5]at hx;by_cases hl:j / 8<t.length
 ·have hr:=(dR.1 h).2 _ hl;simp only[Q7,jG,Bool.or_eq_true,Bool.and_eq_true,decide_eq_true_eq]at hr;rcases hr with hr|hr
  ·have e:leaf t (j / 8)=[]:=List.eq_nil_of_length_eq_zero hr.1;rw[e]at hx;exact absurd hx (by simp[List.getD];decide)
  ·have:=pC hr.2.1 (j%8) (by omega);simp only[eQ,hx,Bool.and_eq_true,Bool.false_or,decide_eq_true_eq]at this;omega
 ·rw[Q3 (by omega)]at hx;exact absurd hx (by simp[List.getD];decide)
theorem C1Q {t:List (List B0)} {n c:Int} (h:E8 t 4096 c=true) (h0:0≤n∧n≤4096) (hj:∀j:Nat,P6 (L2 t j)=false→(j:Int)<n):E8 t n c=true:=by
 obtain⟨h1,h2⟩:=dR.1 h;refine dR.2 ⟨by omega,fun i hi=>?_⟩;have:=h2 i hi;simp only[Q7,jG,Bool.or_eq_true,Bool.and_eq_true,decide_eq_true_eq]at this⊢;refine this.imp_right fun hr=>⟨hr.1,?_,hr.2.2⟩
 have key:∀k,k≤8→hY c n i (leaf t i) k=true:=by
  intro k
  induction k with
  |zero=>intro _;rfl
  |succ k ih=>
   intro hk;simp only[hY,Bool.and_eq_true];refine⟨ih (by omega),?_⟩;have h3:=pC hr.2.1 k (by omega);simp only[eQ,Bool.and_eq_true,Bool.or_eq_true,decide_eq_true_eq]at h3⊢;refine⟨h3.1,?_⟩;cases hx:P6 ((leaf t i).getD k K4)with
   |true=>exact .inl rfl
   |false=>
    right
    have:=hj (i*8+k) (by rw[W5,show(i*8+k) / 8=i by omega,show(i*8+k)%8=k by omega];exact hx)
    push_cast at this
    omega
 exact key 8 (Nat.le_refl _)
theorem B3I {t:List (List B0)} {n c:Int} (h:E8 t n c=true) (hn:n≤16):t.length≤2:=by
 by_cases h2:t.length≤2
 ·exact h2
 exfalso;have hr:=(dR.1 h).2 (t.length-1) (by omega);simp only[Q7,jG,Bool.or_eq_true,Bool.and_eq_true,decide_eq_true_eq]at hr;rcases hr with hr|hr
 ·omega
 ·obtain⟨j,hj,hx⟩:=zA hr.2.2;have:=kM h (j:=(t.length-1)*8+j) (by rw[W5,show((t.length-1)*8+j) / 8=t.length-1 by omega,show((t.length-1)*8+j)%8=j by omega];exact hx);omega
theorem bC {c:Int} {e:B0} (h:W9 c e=true) (hs:Z7 e=true):pV e∧e.count≤2 ^ c.toNat∧P6 e=false:=by
 have hk:e.kind=2∨e.kind=3:=by simpa[Z7]using hs
 have hn:P6 e=false:=by
  simp only[P6,mD,Bool.and_eq_false_iff,decide_eq_false_iff_not];exact .inl (.inl (.inl (.inl (by omega))))
 have hc:=(lE h).2.2.2.2;have hp:=P5 hc;simp only[W9,U6]at h;rw[if_neg (by omega)]at h;rcases hk with hk|hk
 ·rw[hk,if_neg (by omega),if_pos rfl]at h;have:=of_decide_eq_true h;exact⟨⟨by omega,by omega,by omega⟩,by omega,hn⟩
 ·rw[hk,if_neg (by omega),if_neg (by omega),if_pos rfl]at h;have:=of_decide_eq_true h;exact⟨⟨by omega,by omega,by omega⟩,by omega,hn⟩
theorem Z6 {t:List (List B0)} {n c:Int} (h:E8 t n c=true) (i:Nat) (hs:Z7 (L2 t i)=true):pV (L2 t i):=(bC (gC h i) hs).1
theorem C4L {t:List (List B0)} {n:Nat} {c:Int} (h:E8 t n c=true) (sh:Int):∀k,(((iG sh t k).map fun l=>l.e.count.toNat).sum)≤min k n*(2 ^ c.toNat):=by
 intro k
 induction k with
 |zero=>simp[iG]
 |succ k ih=>
  rw[iG];split
  ·rename_i hs;have h1:=bC (gC h k) hs;have h2:=kM h h1.2.2;have h3:(L2 t k).count.toNat≤2 ^ c.toNat:=by
    have:=h1.2.1;have h4:(L2 t k).count≤((2 ^ c.toNat:Nat):Int):=by push_cast;exact this
    obtain⟨P,hP⟩:∃P,P=2 ^ c.toNat:=⟨_,rfl⟩
    rw[←hP]at h4⊢;omega
   simp only[List.map_append,List.sum_append,List.map_cons,List.map_nil,List.sum_cons,List.sum_nil,Nat.add_zero];rw[show min (k+1) n=min k n+1 by omega,Nat.add_mul,Nat.one_mul];omega
  ·rw[List.append_nil];exact Nat.le_trans ih (Nat.mul_le_mul_right _ (by omega))
theorem B3J {l:List Int}:∀{g:List Int},l.Nodup→(∀a∈l,a∈g)→l.length≤g.length:=by
 induction l with
 |nil=>intro g _ _;exact Nat.zero_le _
 |cons a l ih=>
  intro g hn hs;have ha:=hs a (by simp);obtain⟨h1,h2⟩:=List.nodup_cons.1 hn;have h3:=ih (g:=g.erase a) h2 (fun b hb=>(List.mem_erase_of_ne (fun e:b=a=>h1 (by rw[←e];exact hb))).2 (hs b (by simp[hb])));rw[List.length_erase_of_mem ha]at h3;have:=List.length_pos_of_mem ha;simp only[List.length_cons];omega
theorem B7N {kk:KK} {V:Type} {k:kk.T}:∀{l:List (kk.T×V)},H9 l k=none→∀p∈l,p.1≠k:=by
 intro l
 induction l with
 |nil=>intro _ p hp;cases hp
 |cons q l ih=>
  intro h p hp;simp only[H9]at h;cases hb:kk.eqb k q.1 with
  |true=>rw[hb]at h;cases h
  |false=>
   rw[hb]at h;rcases List.mem_cons.1 hp with rfl|hp
   ·intro e;rw[KK.eqb_iff.2 e.symm]at hb;cases hb
   ·exact ih h p hp
structure GM (m:X7):Prop where
 ok:MOk m
 ct:m.ct=[]
 sz:m.size≤16
 u:∀j:Nat,L1 .u32 (L2 m.t j).sum
theorem C1R {t:List (List B0)} (h:∀i,(leaf t i).length≤8) (i k:Nat):(leaf t i).getD k K4=if k<8 then L2 t (i*8+k:Nat)else K4:=by
 split
 ·rw[W5,show(i*8+k) / 8=i by omega,show(i*8+k)%8=k by omega]
 ·rw[List.getD,List.getElem?_eq_none (by have:=h i;omega)];rfl
def eG (m:X7):Nat:=(m.size / 2 ^ m.cl.toNat).toNat
theorem GM.n {m:X7} (h:GM m):(eG m:Int)=m.size / 2 ^ m.cl.toNat∧eG m≤16∧(eG m:Int)*2 ^ m.cl.toNat=m.size:=by
 have hp:=P5 h.ok.c;have hs:=h.ok.s;have h0:0≤m.size / 2 ^ m.cl.toNat:=Int.ediv_nonneg hs.1 (by omega);have h1:(eG m:Int)=m.size / 2 ^ m.cl.toNat:=by unfold eG;omega
 have h2:m.size / 2 ^ m.cl.toNat≤m.size:=Int.ediv_le_self _ hs.1;have:=h.sz;refine⟨h1,by omega,?_⟩;rw[h1];exact Int.ediv_mul_cancel (Int.dvd_of_emod_eq_zero h.ok.d)
theorem GM.rt {m:X7} (h:GM m):E8 m.t (eG m) m.cl=true:=by rw[h.n.1];exact h.ok.t
theorem GM.r4 {m:X7} (h:GM m):E8 m.t 4096 m.cl=true:=B7M h.rt (by have:=h.n.2.1;omega) (by omega)
theorem GM.sv {m:X7} (h:GM m):A2P m:=by
 refine⟨h.ok,h.ct,fun i k=>?_,Z6 h.rt,B3I h.rt (by have:=h.n.2.1;omega),?_⟩
 ·rw[C1R (nE h.rt)];split
  ·exact h.u _
  ·exact⟨by decide,by decide⟩
 ·refine Nat.le_trans (C4L h.rt (-1) _) (Nat.le_trans (Nat.mul_le_mul_right _ (Nat.min_le_right _ _)) ?_);have h1:=h.n.2.2;have h2:=h.sz;have:((eG m*2 ^ m.cl.toNat:Nat):Int)=m.size:=by push_cast;exact h1
  omega
theorem GM.plain {m:X7} (h:GM m):pQ m:=h.ok.plain
theorem GM.set {m:X7} (h:GM m) {k:Nat} (hk:k<eG m) {e:B0} (he:W9 m.cl e=true) (hu:L1 .u32 e.sum):GM ⟨m.cl,m.size,m.bk,bT m.t k e,m.sh,m.mp,m.ct⟩:=by
 have hn:=h.n;have h1:=h.n.1;have h2:=h.n.2.1;obtain⟨P,hP⟩:∃P,P=m.size / 2 ^ m.cl.toNat:=⟨_,rfl⟩
 rw[←hP]at h1;have hat:=A8i h.r4 he (i:=k) (by omega);have h4:=A3B h.r4 he k;refine⟨⟨h.ok.sh,h.ok.mp,h.ok.c,h.ok.s,h.ok.d,h.ok.b,?_,h.ok.n,h.ok.k⟩,h.ct,h.sz,fun j=>?_⟩
 ·show E8 (bT m.t k e) (m.size / 2 ^ m.cl.toNat) m.cl=true;rw[←hP];refine C1Q h4 ⟨by omega,by omega⟩ (fun j hj=>?_);rw[hat]at hj;split at hj
  ·omega
  ·rw[hP];exact kM h.ok.t hj
 ·show L1 .u32 (L2 (bT m.t k e) j).sum;rw[hat];split
  ·exact hu
  ·exact h.u j
structure Ent (l:List Bs) (cl:Int) (e:B0) (x:Bs):Prop where
 may:W9 cl e=true
 u:L1 .u32 e.sum
 xl:x.length=16*2 ^ cl.toNat
 s:e.sum=H4 wd 0 x
 n:e.start.toNat+e.count.toNat≤l.length
 kd:(e.kind=2∧gV l e.start.toNat e.count.toNat=x)∨(e.kind=3∧0≤e.size∧e.size≤e.count*16∧Pk [] ((gV l e.start.toNat e.count.toNat).take e.size.toNat) x)
def iK (cl:Int):Bs:=List.replicate (16*2 ^ cl.toNat:Int).toNat 0
theorem dS (cl:Int):(iK cl).length=16*2 ^ cl.toNat:=by
 rw[iK,List.length_replicate,show(16*2 ^ cl.toNat:Int)=((16*2 ^ cl.toNat:Nat):Int) by push_cast;rfl,Int.toNat_natCast]
def kN (l:List Bs) (cl:Int) (e:B0):Option Bs→Prop
 |none=>e.kind=0
 |some x=>(e.kind=1∧x=iK cl)∨Ent l cl e x
theorem B7O {l l':List Bs} {a n:Nat} (h1:a+n≤l.length) (h2:a+n≤l'.length) (h:∀k,a≤k→k<a+n→l'.getD k jV=l.getD k jV):gV l' a n=gV l a n:=by
 unfold gV
 congr 1
 apply List.ext_getElem (by simp;omega);intro i hi hi';simp only[List.getElem_take,List.getElem_drop];have:=h (a+i) (by omega) (by simp at hi;omega);simp only[List.getD,gE_ (show a+i<l.length by simp at hi';omega),gE_ (show a+i<l'.length by simp at hi;omega),Option.getD_some]at this;exact this
theorem A7L {l:List Bs} (hl:∀s∈l,s.length=16) {a n:Nat} (h:a+n≤l.length):(gV l a n).length=n*16:=by
 unfold gV;have:∀m:List Bs,(∀s∈m,s.length=16)→m.flatten.length=m.length*16:=by
  intro m
  induction m with
  |nil=>intro _;rfl
  |cons s m ih=>intro hm;simp only[List.flatten_cons,List.length_append,List.length_cons];rw[ih fun x hx=>hm x (by simp[hx]),hm s (by simp)];omega
 rw[this _ fun s hs=>hl s (List.mem_of_mem_drop (List.mem_of_mem_take hs))];simp;omega
theorem Ent.keep {l l':List Bs} {cl:Int} {e:B0} {x:Bs} (h:Ent l cl e x) (hl:l.length≤l'.length) (hk:∀k,e.start.toNat≤k→k<e.start.toNat+e.count.toNat→l'.getD k jV=l.getD k jV):Ent l' cl e x:=by
 have hc:=B7O h.n (Nat.le_trans h.n hl) hk;refine⟨h.may,h.u,h.xl,h.s,Nat.le_trans h.n hl,?_⟩;rw[hc];exact h.kd
theorem Ent.has {l:List Bs} {cl:Int} {e:B0} {x:Bs} (h:Ent l cl e x):Z7 e=true:=by
 rcases h.kd with⟨h,_⟩|⟨h,_⟩<;> simp[Z7,h]
theorem B7P {ls:List bQ} {l:bQ} (hl:l∈ls) {k:Nat} (h:kI l.e k=true):fM ls k≠0:=by
 induction ls with
 |nil=>cases hl
 |cons a ls ih=>
  have h1:=(lK ls k).1;have e:fM (a::ls) k=fN (kI a.e k)+fM ls k:=by simp[fM]
  rw[e];rcases List.mem_cons.1 hl with rfl|hl
  ·rw[h];simp only[fN,if_true];omega
  ·have:=ih hl;simp only[fN];split<;> omega
theorem C1S (sh:Int) (t:List (List B0)):∀n,∀l∈iG sh t n,∃i:Nat,i<n∧l=⟨sh,i,L2 t i⟩∧Z7 (L2 t i)=true:=by
 intro n
 induction n with
 |zero=>intro l hl;cases hl
 |succ n ih=>
  intro l hl;rw[iG]at hl;rcases List.mem_append.1 hl with hl|hl
  ·obtain⟨i,hi,h⟩:=ih l hl;exact⟨i,by omega,h⟩
  ·split at hl
   ·rename_i hs;exact⟨n,by omega,List.mem_singleton.1 hl,hs⟩
   ·cases hl
theorem B7Q {t:List (List B0)} {i:Nat} (hs:Z7 (L2 t i)=true):(⟨-1,i,L2 t i⟩:bQ)∈F3 t:=by
 have hi:i<t.length*8:=by
  apply Decidable.byContradiction;intro h;rw[A8j (by omega)]at hs;exact absurd hs (by decide)
 exact List.mem_of_getElem? (B0e (-1) t hi hs)
theorem A4p {t:List (List B0)} {l:bQ} (h:l∈F3 t):∃i:Nat,l.e=L2 t i∧Z7 (L2 t i)=true:=by
 obtain⟨i,_,h1,h2⟩:=C1S (-1) t _ l h;exact⟨i,by rw[h1],h2⟩
theorem B0q {t:List (List B0)} {i k:Nat} (hs:Z7 (L2 t i)=true) (h1:(L2 t i).start≤k) (h2:(k:Int)<(L2 t i).start+(L2 t i).count):I5 (F3 t) k≠0:=by
 have h3:=B7P (B7Q hs) (k:=k) (by simp[kI,h1,h2]);have h4:=(lK (F3 t) k).1;simp only[I5];split<;> omega
end
end Go.Proofs.YtgmeedgkjlfpeaaGreat
namespace Go.Mt
open Go.RowKit
noncomputable section
section
variable {P : Program} {E : D9} {B : Nat → Prop} {W : World} {M0 M : B5} {Q : Exit → Act → World → Prop} {k : List X8} {st : St} {a : Act} {w : World} {N : Nat} {mrk : MK} {ops : List Oper} {rs : List (Nat × Nat)} {l l' : List Nat} {r : Nat}
theorem F5 (ns:List Nat) (fs:List (Nat×A)) (hs:List HB) (l':List Nat) (hk:GA P E B W M0 Q k ops r l' (mk fs hs)) (h1:aI l l'=true:=by exact rfl) (h2:aI l' l=true:=by exact rfl) (h:Wk st ns fs hs:=by and_intros<;> first|exact trivial|exact rfl|omega|(refine A6 ?_;first|exact rfl|(simp;done)|(simp_all;done))|(simp;done)|(simp_all;done)):GA P E B W M0 Q k ops r l st:=C4t ns l' h1 h2 h hk
def stA:A→A
 | .c (.ptr _ b o)=> .c (.pv (.val (.pointer (some ⟨b,o,none⟩))))
 |x=>x
def stE:Option Ent→Option A
 |some (.u x)=>some (stA x)
 |_=>none
theorem B0r {M:B5} {x:A} {v:Value}:RA M x v↔RA M (stA x) v:=by
 unfold stA;split
 ·rename_i n b o
  constructor
  ·intro h;cases h with|c h=>cases h;exact .c (.pv (.val rfl))
  ·intro h;cases h with|c h=>cases h with|pv h=>cases h;exact .c .ptr
 ·exact Iff.rfl
theorem B7R:∀{fs:List (Nat×A)} {s:Nat} {x:A},fI s fs=some x→(s,x)∈fs:=by
 intro fs
 induction fs with
 |nil=>intro s x h;cases h
 |cons p fs ih=>
  intro s x hl;obtain⟨s',x'⟩:=p;simp only[fI]at hl;split at hl
  ·rename_i hb;rw[Nat.beq_eq]at hb;subst hb;cases hl;exact List.mem_cons_self
  ·exact List.mem_cons_of_mem _ (ih hl)
theorem A1 (ns:List Nat) (fs:List (Nat×A)) (hs:List HB) (l':List Nat) (hk:GA P E B W M0 Q k ops r l' (mk fs hs)) (h1:aI l l'=true:=by exact rfl) (h2:aI l' l=true:=by exact rfl) (h3:I1 ns=true:=by exact rfl)
 (hf:(fs.map fun p=>stE (st.f p.1))=fs.map fun p=>some (stA p.2):=by exact rfl) (hh:ns.map st.H=hs.map some:=by exact rfl):GA P E B W M0 Q k ops r l st:=by
 intro M a w listed hl hS;have hm:∀j,F8 j l=true↔F8 j l'=true:=fun j=>⟨fun h=>oS h2 h,fun h=>oS h1 h⟩
 have hH:∀n x,(mk fs hs).H n=some x→∃m,ns[n]? =some m∧st.H m=some x:=by
  intro n x hn;simp only[mk,G0]at hn;have:=congrArg (fun l=>l[n]?) hh;simp only[List.getElem?_map,hn,Option.map_some]at this;cases hns:ns[n]? with
  |none=>rw[hns]at this;cases this
  |some m=>rw[hns]at this;simp only[Option.map_some,Option.some.injEq]at this;exact⟨m,rfl,this⟩
 refine hk M a w listed ⟨hl.1,fun j=>(hl.2 j).trans (hm j)⟩ ⟨⟨hS.h.below,hS.h.base,hS.h.mem,fun n x hn=>?_,fun n n' x x' b hnn e1 e2 hb=>?_⟩,fun q o e hq=>hS.old q o e hq,hS.d,hS.n,fun s e he=>?_,fun s j b x hx=>?_⟩
 ·obtain⟨m,q1,q2⟩:=hH n x hn;exact hS.h.ok m x q2
 ·obtain⟨m,q1,q2⟩:=hH n x e1;obtain⟨m',q1',q2'⟩:=hH n' x' e2;refine hS.h.inj m m' x x' b (fun e=>hnn ?_) q2 q2' hb;subst e;exact gM h3 n n' m q1 q1'
 ·simp only[mk]at he;split at he
  ·rename_i x hx;cases he;obtain⟨j,hj⟩:=List.getElem?_of_mem (B7R hx);have:=congrArg (fun l=>l[j]?) hf;simp only[List.getElem?_map,hj,Option.map_some,Option.some.injEq]at this;unfold stE at this;split at this
   ·rename_i y hy;simp only[Option.some.injEq]at this;obtain⟨v,v1,v2⟩:=hS.f s _ hy;have v2:RA M y v:=v2;exact⟨v,v1,B0r.2 (by rw[←this];exact B0r.1 v2)⟩
   ·cases this
  ·cases he
 ·simp only[mk]at hx;split at hx<;> cases hx
theorem B7S (r':Nat) (l':List Nat) (fs:List (Nat×A)) (hs:List HB) (hf:GA P E B W M0 Q k ops r' l' (mk fs hs)) (hk:GA P E B W M0 Q k ops r' l' (mk fs hs)→GA P E B W M0 Q k ops r l st):GA P E B W M0 Q k ops r l st:=hk hf
theorem nS {X:Type} (p:X→Prop) (r':Nat) (l':List Nat) (fs:X→List (Nat×A)) (hs:X→List HB) (hf:∀x,p x→GA P E B W M0 Q k ops r' l' (mk (fs x) (hs x))) (hk:(∀x,p x→GA P E B W M0 Q k ops r' l' (mk (fs x) (hs x)))→GA P E B W M0 Q k ops r l st):GA P E B W M0 Q k ops r l st:=hk hf
theorem A8 (i:Nat) (hE:F0 P E) {o:Oper} {st':Value→St} {ob:Value→Prop} (hk:∀u,GA P E B W M0 Q k ops r (i::l) (st' u)) (ho:X0 ops i=some o:=by exact rfl) (hi:F8 i l=false:=by exact rfl) (hg:gdB l o.guard=true:=by exact rfl)
 (h:∀u,O0 E (fun _=>none) ops (C7 ops ops) i st.f st.H st.nx o u=some (st' u,ob u):=by exact fun u=>rfl) (hob:∀u,ob u:=by(intro bs;and_intros<;> (intros;first|exact trivial|omega|exact rfl|(simp only;omega)|(simp;done)|(simp;omega)|(simp_all;done)|(simp_all;omega)))):GO P E B W M0 Q k ops r l st i:=
 C2N hE.T hE.Ψ (fun _=>none) ho hi hg h hob hk
theorem C2 (i:Nat) {o:Oper} {y:Operand} {f':Nat→Option Ent} {n b q:Nat} (hk:GA P E B W M0 Q k ops r (i::l) ⟨f',st.H,st.nx⟩) (hnth:X0 ops i=some o:=by exact rfl) (ho:o.op= .nilCheck y:=by exact rfl) (hx:U7 st.f [] y=some (.c (.ptr n b q)):=by exact rfl) (hi:F8 i l=false:=by exact rfl) (hsel:Region.noSelect ops.toArray=true:=by decide+kernel) (hrd:aI l (I2 .any o.after.toList)=true:=by exact rfl) (hfr:frB ops l o i ops 0=true:=by decide+kernel) (hg:o.guard=none:=by exact rfl)
 (hf:O5 E.N i (C7 ops ops) st.f o.dst (some (.u (.c (.ptr n b q))))=some f':=by exact rfl):GA P E B W M0 Q k ops (r+1) l st:=A3k i hnth ho hx hi hsel hrd hfr hg hf hk
theorem C0 (i:Nat) (hE:F0 P E) {o:Oper} {y:Operand} {f':Nat→Option Ent} {n b q sT fi off size s1 s2:Nat} {bb:Bool} {z:List C} {fs:List (Nat×Nat×Bool)} (hk:GA P E B W M0 Q k ops r (i::l) ⟨f',st.H,st.nx⟩) (hnth:X0 ops i=some o:=by exact rfl) (ho:o.op= .fieldAddr sT y fi:=by exact rfl) (hx:U7 st.f [] y=some (.c (.ptr n b q)):=by exact rfl)
 (ht:E.T sT=some ⟨.strct fs,s1,s2,z⟩:=by exact rfl) (hfd:X0 fs fi=some (off,size,bb):=by exact rfl) (hsz:Nat.ble 1 size=true:=by exact rfl) (hi:F8 i l=false:=by exact rfl) (hsel:Region.noSelect ops.toArray=true:=by decide+kernel) (hrd:aI l (I2 .any o.after.toList)=true:=by exact rfl) (hfr:frB ops l o i ops 0=true:=by decide+kernel) (hg:o.guard=none:=by exact rfl)
 (hf:O5 E.N i (C7 ops ops) st.f o.dst (some (.u (.c (.ptr n b (q+off)))))=some f':=by exact rfl):GA P E B W M0 Q k ops (r+1) l st:=A8G i hE.T hnth ho hx ht hfd hsz hi hsel hrd hfr hg hf hk
end
inductive E2 {α:Type}:Sem α→Prop
 |pure (a:α):E2 (.pure a)
 |load (m:Go.Mode) (a:Addr) (k:Value→Sem α):(∀v,E2 (k v))→E2 (.load m a k)
 |new (o:Obj) (k:Nat→Sem α):(∀r,E2 (k r))→E2 (.new o k)
 |program (k:Program→Sem α):(∀p,E2 (k p))→E2 (.program k)
 |halt (h:Halt):E2 (.halt h)
 |shape (r:Nat) (k:Option (TypeId×Nat)→Sem α):(∀s,E2 (k s))→E2 (.shape r k)
 |getObj (r:Nat) (k:Obj→Sem α):(∀s,E2 (k s))→E2 (.getObj r k)
inductive RdP {α:Type} (p:α→Prop):Sem α→Prop
 |pure (a:α):p a→RdP p (.pure a)
 |load (m:Go.Mode) (a:Addr) (k:Value→Sem α):(∀v,RdP p (k v))→RdP p (.load m a k)
 |new (o:Obj) (k:Nat→Sem α):(∀r,RdP p (k r))→RdP p (.new o k)
 |program (k:Program→Sem α):(∀q,RdP p (k q))→RdP p (.program k)
 |halt (h:Halt):RdP p (.halt h)
 |shape (r:Nat) (k:Option (TypeId×Nat)→Sem α):(∀s,RdP p (k s))→RdP p (.shape r k)
 |getObj (r:Nat) (k:Obj→Sem α):(∀s,RdP p (k s))→RdP p (.getObj r k)
def Ext (w w':World):Prop:=w.heap.size≤w'.heap.size∧∀k,k<w.heap.size→w'.heap[k]? =w.heap[k]?
theorem Ext.refl (w:World):Ext w w:=⟨Nat.le_refl _,fun _ _=>rfl⟩
theorem Ext.trans {a b c:World} (h:Ext a b) (k:Ext b c):Ext a c:=⟨Nat.le_trans h.1 k.1,fun i hi=>(k.2 i (Nat.lt_of_lt_of_le hi h.1)).trans (h.2 i hi)⟩
theorem E2.ext {P:Program} {α:Type} {m:Sem α} (h:E2 m):∀{w:World} {n:α} {w':World},m.run P w= .ok n w'→Ext w w':=by
 induction h with
 |pure a=>intro w n w' e;simp only[Sem.run]at e;cases e;exact .refl _
 |load m a k _ ih=>
  intro w n w' e;simp only[Sem.run]at e;split at e
  ·exact ih _ e
  ·split at e
   ·exact ih _ e
   ·cases e
 |new o k _ ih=>
  intro w n w' e;simp only[Sem.run]at e;refine Ext.trans ⟨?_,fun j hj=>?_⟩ (ih _ e)
  ·simp
  ·simp[Array.getElem?_push,Nat.ne_of_lt hj]
 |program k _ ih=>intro w n w' e;simp only[Sem.run]at e;exact ih _ e
 |halt h=>intro w n w' e;simp only[Sem.run]at e;cases e
 |shape r k _ ih=>intro w n w' e;simp only[Sem.run]at e;exact ih _ e
 |getObj r k _ ih=>
  intro w n w' e;simp only[Sem.run]at e;split at e
  ·cases e
  ·exact ih _ e
  ·cases e
theorem RdP.leaf {P:Program} {α:Type} {p:α→Prop} {m:Sem α} (h:RdP p m):∀{w:World} {n:α} {w':World},m.run P w= .ok n w'→p n:=by
 induction h with
 |pure a h=>intro w n w' e;simp only[Sem.run]at e;cases e;exact h
 |load m a k _ ih=>
  intro w n w' e;simp only[Sem.run]at e;split at e
  ·exact ih _ e
  ·split at e
   ·exact ih _ e
   ·cases e
 |new o k _ ih=>intro w n w' e;simp only[Sem.run]at e;exact ih _ e
 |program k _ ih=>intro w n w' e;simp only[Sem.run]at e;exact ih _ e
 |halt h=>intro w n w' e;simp only[Sem.run]at e;cases e
 |shape r k _ ih=>intro w n w' e;simp only[Sem.run]at e;exact ih _ e
 |getObj r k _ ih=>
  intro w n w' e;simp only[Sem.run]at e;split at e
  ·cases e
  ·exact ih _ e
  ·cases e
theorem E2.bind {α β:Type} {m:Sem α} {f:α→Sem β} (h:E2 m) (hf:∀a,E2 (f a)):E2 (m >>=f):=by
 show E2 (m.bind f)
 induction h with
 |pure a=>exact hf a
 |load m a k _ ih=>exact .load m a _ ih
 |new o k _ ih=>exact .new o _ ih
 |program k _ ih=>exact .program _ ih
 |halt h=>exact .halt h
 |shape r k _ ih=>exact .shape r _ ih
 |getObj r k _ ih=>exact .getObj r _ ih
theorem E2.bindP {α β:Type} {m:Sem α} {f:α→Sem β} {p:β→Prop} (h:E2 m) (hf:∀a,RdP p (f a)):RdP p (m >>=f):=by
 show RdP p (m.bind f)
 induction h with
 |pure a=>exact hf a
 |load m a k _ ih=>exact .load m a _ ih
 |new o k _ ih=>exact .new o _ ih
 |program k _ ih=>exact .program _ ih
 |halt h=>exact .halt h
 |shape r k _ ih=>exact .shape r _ ih
 |getObj r k _ ih=>exact .getObj r _ ih
theorem qF (t:TypeId):E2 (typeInfo t):=by
 unfold typeInfo;refine E2.bind (.program _ fun p=> .pure p) (fun p=>?_);split
 ·exact .pure _
 ·exact .halt _
theorem gD (t:TypeId):E2 (underlying t):=by
 unfold underlying;refine E2.bind (.program _ fun p=> .pure p) (fun p=>?_);split
 ·exact .pure _
 ·exact .halt _
theorem B7T (a:Addr):∀(n i:Nat) (acc:Array Value),E2 (loadCellsFrom a i n acc):=by
 intro n
 induction n with
 |zero=>intro i acc;exact .pure _
 |succ n ih=>intro i acc;exact E2.bind (.load _ _ _ fun v=> .pure v) (fun v=>ih _ _)
theorem C1T (t:TypeId) (v:Value):E2 (Instr.loadAt t v):=by
 unfold Instr.loadAt;refine E2.bind ?_ (fun a=>?_)
 ·unfold Instr.sureAddr;split
  ·exact .pure _
  ·exact .halt _
 ·unfold loadVar isAgg sizeOf loadCells;refine E2.bind (E2.bind (gD t) fun d=>?_) (fun b=>?_)
  ·split<;> exact .pure _
  ·split
   ·exact E2.bind (E2.bind (qF t) fun i=> .pure _) (fun n=>E2.bind (B7T a n 0 #[]) fun c=> .pure _)
   ·exact .load _ _ _ fun v=> .pure v
theorem B7U (t:TypeId):E2 (Instr.alloc t true (.tuple #[])):=by
 unfold Instr.alloc zeroValue newVar newRow newObj;refine E2.bind (E2.bind (qF t) fun i=>?_) (fun z=>?_)
 ·split
  ·exact .pure _
  ·exact .halt _
 ·exact E2.bind (E2.bind (.new _ _ fun r=> .pure r) fun r=> .pure _) (fun a=> .pure _)
theorem A9X (v:Value) (i:Nat):E2 (Instr.extract v i):=by
 unfold Instr.extract;split
 ·split
  ·exact .pure _
  ·exact .halt _
 ·exact .halt _
theorem A4q (t:TypeId):E2 (Go.sizeOf t):=E2.bind (qF t) fun _=> .pure _
theorem C1U (t:TypeId):E2 (zeroValue t):=by
 unfold zeroValue;refine E2.bind (qF t) fun i=>?_
 split
 ·exact .pure _
 ·exact .halt _
theorem B7V (t:TypeId) (cs:Array Value):E2 (newRow t cs):=by
 unfold newRow newObj;exact E2.bind (.new _ _ fun r=> .pure r) fun r=> .pure _
theorem C4M (t:TypeId) (v:Value):E2 (Instr.box t v):=by
 unfold Instr.box newVar;exact E2.bind (B7V t _) fun r=> .pure _
theorem B3K (t:TypeId) (n:Nat) (ps:Array (Nat×Value)):E2 (Instr.buildSlice t n ps):=by
 unfold Instr.buildSlice
 repeat' first
  |exact .pure _
  |exact .halt _
  |exact gD _
  |exact A4q _
  |exact C1U _
  |exact B7V _ _
  |(refine E2.bind ?_ (fun _=>?_))
  |split
  |dsimp only
theorem C1V (t:TypeId) (cs:Array Value) (o:Nat):E2 (part t cs o):=by
 unfold part isAgg
 repeat' first
  |exact .pure _
  |exact .halt _
  |exact gD _
  |exact A4q _
  |(refine E2.bind ?_ (fun _=>?_))
  |split
  |dsimp only
theorem B7W:∀(l:List FieldStep) (t:TypeId) (x:Option Value),E2 (followBlind l t x):=by
 intro l
 induction l with
 |nil=>intro t x;exact .pure _
 |cons s l ih=>
  intro t x;unfold followBlind
  repeat' first
   |exact .pure _
   |exact .halt _
   |exact gD _
   |exact C1V _ _ _
   |exact ih _ _
   |(refine E2.bind ?_ (fun _=>?_))
   |split
   |dsimp only
theorem A7M:∀(n:Nat) (t:TypeId) (v:Value) (nm:String),E2 (nilAhead n t v nm):=by
 intro n
 induction n with
 |zero=>intro t v nm;exact .pure _
 |succ n ih=>
  intro t v nm;unfold nilAhead
  repeat' first
   |exact .pure _
   |exact .halt _
   |exact qF _
   |exact gD _
   |exact B7W _ _ _
   |exact ih _ _ _
   |(refine E2.bind ?_ (fun _=>?_))
   |split
   |dsimp only
theorem C1W (a:Addr):E2 (byteOf a):=by
 unfold byteOf noView shape
 repeat' first
  |exact .pure _
  |exact .halt _
  |exact .program _ fun p=> .pure p
  |exact .shape _ _ fun p=> .pure p
  |exact .getObj _ _ fun p=> .pure p
  |(refine E2.bind ?_ (fun _=>?_))
  |split
  |dsimp only
theorem B7X (s:TypeId) (v:Value) (i:Nat):E2 (Instr.fieldAt s v i):=by
 unfold Instr.fieldAt fieldPlace partAt Instr.sureAddr
 repeat' first
  |exact .pure _
  |exact .halt _
  |exact gD _
  |exact A4q _
  |exact C1W _
  |(refine E2.bind ?_ (fun _=>?_))
  |split
  |dsimp only
def nT:Op→Bool
 | .nilCheck _| .fieldAddr .. | .move _| .load .. | .alloc _| .extract .. | .box .. | .buildSlice .. =>true
 |_=>false
theorem A9Y {o:Oper} (h:nT o.op=true) (hn:∀x,o.op≠ .nilCheck x) (ρ:Operand→Value):∃m:Sem Value,E2 m∧execOp ρ o=m >>=fun v=>pure (.value v):=by
 obtain⟨dst,op,ty,pos,aft,guard⟩:=o;cases op<;> simp only[nT,Bool.false_eq_true]at h
 ·rename_i x;exact⟨.pure (ρ x),.pure _,rfl⟩
 all_goals first
  |exact⟨_,C1T _ _,rfl⟩
  |exact⟨_,B7U _,rfl⟩
  |exact⟨_,A9X _ _,rfl⟩
  |exact⟨_,B7X _ _ _,rfl⟩
  |exact absurd rfl (hn _)
  |exact⟨_,C4M _ _,rfl⟩
  |exact⟨_,B3K _ _ _,rfl⟩
section
variable {P : Program} {ops : Array Oper} {md : Region.Mode} {Q : Exit → Act → World → Prop} {C : World → Prop}
theorem B3L {o:Oper} (h:nT o.op=true) {ρ:Operand→Value} {w w':World} {n:Next} (hr:(execOp ρ o).run P w= .ok n w'):Ext w w'∧∃v,n= .value v:=by
 by_cases hn:∃x,o.op= .nilCheck x
 ·obtain⟨x,hx⟩:=hn;have hp:∀{w w':World} {n:Next},(runtimePanic (α:=Next) .nilDeref).run P w≠ .ok n w':=by
   intro w w' n e;simp[runtimePanic,program,goPanic,Sem.run]at e
  unfold execOp at hr;rw[hx]at hr;dsimp only at hr;split at hr
  ·exact absurd hr hp
  ·exact absurd hr hp
  ·exact absurd hr hp
  ·split at hr
   ·exact absurd hr hp
   ·refine⟨E2.ext (m:=_) ?_ hr,RdP.leaf (p:=fun n=>∃v,n= .value v) (m:=_) ?_ hr⟩
    ·repeat' first
      |exact .pure _
      |exact .halt _
      |exact .program _ fun p=> .pure p
      |exact A7M _ _ _ _
      |(refine E2.bind ?_ (fun _=>?_))
      |split
      |dsimp only
    ·refine E2.bindP (.program _ fun p=> .pure p) fun p=>E2.bindP (A7M _ _ _ _) fun b=>?_
     split
     ·exact .halt _
     ·exact .pure _ ⟨_,rfl⟩
   ·simp only[Sem.run_pure]at hr;cases hr;exact⟨.refl _,_,rfl⟩
  ·simp only[Sem.run_pure]at hr;cases hr;exact⟨.refl _,_,rfl⟩
 obtain⟨m,h1,h2⟩:=A9Y h (fun x hx=>hn ⟨x,hx⟩) ρ;rw[h2]at hr;refine⟨(h1.bind fun v=> .pure _).ext hr,?_⟩;rw[Sem.run_bind]at hr;cases hm:m.run P w with
 |ok v w1=>rw[hm]at hr;simp only[Result.andThen]at hr;cases hr;exact⟨v,rfl⟩
 |halt x w1=>rw[hm]at hr;simp only[Result.andThen]at hr;cases hr
def bM (P:Program) (ops:Array Oper) (C:World→Prop) (o:Oper) (v:Value) (a:Act):Prop:=Region.wanted o (yielded ops a.tmps)=true∧∀w,C w→(execOp a.eval o).run P w= .ok (.value v) w
theorem bM.of_same {o:Oper} {v:Value} {a a':Act} (hy:bM P ops C o v a) (he:execOp a'.eval o=execOp a.eval o) (hw:Region.wanted o (yielded ops a'.tmps)=Region.wanted o (yielded ops a.tmps)):bM P ops C o v a':=by
 unfold bM at *;rw[he,hw];exact hy
theorem B3M {j:Nat} {oi oj:Oper} {v:Value} (hj:ops[j]? =some oj) (hap:oi.apart ops oj=true) (hqt:nT oj.op=true) (hC:∀w w',Ext w w'→C w→C w')
 (hsi:∀cs b,oi.op≠ .select cs b) (hsj:∀cs b,oj.op≠ .select cs b) (hQ:∀c a w,Q (.panic c) (a.put oi.dst v) w→Q (.panic c) a w) {K:Act→World→Prop} {a:Act} {w:World}
 (hy:bM P ops C oi v a) (hw0:C w) (h:wpOp P ops Q j K (a.put oi.dst v) w):wpOp P ops Q j (fun a' w'=>(bM P ops C oi v a'∧C w')∧K (a'.put oi.dst v) w') a w:=by
 obtain⟨h1,h2,h3⟩:=Oper.apart_spec hap;have keep:∀(a:Act),bM P ops C oi v a→∀u,bM P ops C oi v (a.put oj.dst u):=fun a hy u=>
  hy.of_same (execOp_put oi hsi a oj.dst u h3) (wanted_put oi a oj.dst u h3)
 unfold wpOp at *;simp only[hj]at *;rw[wanted_put oj a oi.dst v h1]at h;split
 ·rename_i hw;simp only[hw,if_true]at h;rcases h with h|⟨hasks,hlets⟩
  case inr=>exact .inr ⟨by unfold Oper.asks at *;rw[execOp_put oj hsj a oi.dst v h1]at hasks;exact hasks,hlets⟩
  refine .inl ?_;unfold Oper.wp at *;rw[execOp_put oj hsj a oi.dst v h1]at h;cases hr:(execOp a.eval oj).run P w with
  |ok n w'=>
   obtain⟨q1,u,rfl⟩:=B3L hqt hr;rw[hr]at h;simp only[Oper.upon]at h⊢;exact⟨⟨keep a hy u,hC _ _ q1 hw0⟩,by rw[←Act.put_comm a v u h2];exact h⟩
  |halt x w'=>
   rw[hr]at h;cases x<;> simp only[Oper.upon]at h⊢
   case panic u=>exact hQ _ _ _ h
 ·rename_i hw;simp only[hw]at h;exact⟨⟨keep a hy _,hw0⟩,by rw[←Act.put_comm a v undef h2];exact h⟩
theorem A4r {i:Nat} {oi:Oper} {v:Value} {Wt:List Nat} (hi:ops[i]? =some oi) (hsel:∀(j:Nat) (o:Oper) cs b,ops[j]? =some o→o.op≠ .select cs b)
 (hQ:∀c a w,Q (.panic c) (a.put oi.dst v) w→Q (.panic c) a w) (hC:∀w w',Ext w w'→C w→C w')
 (hW2:∀k o,ops[k]? =some o→k∈Wt→k≠i→∃e∈o.after,Region.binds md e=true∧e.on∈Wt):
 ∀(fuel:Nat) (listed:Array Bool) (a:Act) (w:World),
  (∀j oj,ops[j]? =some oj→j≠i→listed.getD j true=false→j∉Wt→oi.apart ops oj=true∧nT oj.op=true)→(∀k∈Wt,listed.getD k true=false)→
  i∈Region.ready md ops listed→bM P ops C oi v a→C w→
  wpAny P md ops Q fuel (listed.setIfInBounds i true) (a.put oi.dst v) w→wpAny P md ops Q (fuel+1) listed a w:=by
 have own:∀{a:Act} {w:World} {K:Act→World→Prop},bM P ops C oi v a→C w→K (a.put oi.dst v) w→wpOp P ops Q i K a w:=by
  intro a w K hy hw H;unfold wpOp;simp only[hi,hy.1,if_true,Oper.wp,hy.2 w hw,Oper.upon];exact .inl H
 intro fuel
 induction fuel with
 |zero=>
  intro listed a w _ _ hr hy hw H;refine⟨fun h=>(by rw[h]at hr;cases hr),fun j hj=>?_⟩;by_cases hji:j=i
  ·subst hji;exact own hy hw H
  ·have:=ready_mono hj hji;rw[H.1]at this;cases this
 |succ fuel ih=>
  intro listed a w hfree hun hr hy hw H;refine⟨fun h=>(by rw[h]at hr;cases hr),fun j hj=>?_⟩;by_cases hji:j=i
  ·subst hji;exact own hy hw H
  ·have h1:=H.2 j (ready_mono hj hji);obtain⟨hjun,oj,hoj,hall⟩:=mem_ready.1 hj;have hjW:j∉Wt:=fun hjW=>by
    obtain⟨e,e1,e2,e3⟩:=hW2 j oj hoj hjW hji;have q1:=hall e e1 e2;have q2:=hun _ e3;rcases Nat.lt_or_ge e.on listed.size with h'|h'
    ·simp[h']at q1 q2;rw[q1]at q2;cases q2
    ·simp[Array.getElem?_eq_none h']at q1
   obtain⟨hap,hqt⟩:=hfree j oj hoj hji hjun hjW;have h2:=B3M hoj hap hqt hC (fun cs b=>hsel i oi cs b hi) (fun cs b=>hsel j oj cs b hoj) hQ hy hw h1;refine wpOp_mono (fun a' w' h3=>ih (listed.setIfInBounds j true) a' w' (fun k ok hk hki hun' hno=>?_) (fun k hk=>?_) (ready_mono hr (Ne.symm hji)) h3.1.1 h3.1.2 ?_) h2
   ·refine hfree k ok hk hki ?_ hno;by_cases hjk:j=k
    ·subst hjk;exact hjun
    ·rw[getD_set_ne true hjk]at hun';exact hun'
   ·rw[getD_set_ne true (fun e:j=k=>hjW (by rw[e];exact hk))];exact hun k hk
   ·rw[Array.setIfInBounds_comm _ _ hji];exact h3.2
end
def wtG:List Oper→Nat→List Nat→List Nat
 |[],_,acc=>acc
 |o::os,j,acc=>match(I2 .any o.after.toList).any (fun e=>F8 e acc) && !F8 j acc with
  |true=>wtG os (j+1) (j::acc)
  |false=>wtG os (j+1) acc
def frQ (all:List Oper) (l:List Nat) (oi:Oper) (i:Nat) (Wt:List Nat):List Oper→Nat→Bool
 |[],_=>true
 |o::os,j=>(match F8 j Wt with
  |true=>(Nat.beq j i || (I2 .any o.after.toList).any (fun e=>F8 e Wt)) && !F8 j l
  |false=>Nat.beq j i || F8 j l || (oi.apart all.toArray o && nT o.op)) && frQ all l oi i Wt os (j+1)
theorem C4N {all:List Oper} {l:List Nat} {oi:Oper} {i:Nat} {Wt:List Nat}:∀{os:List Oper} {s:Nat},frQ all l oi i Wt os s=true→∀(j:Nat) (o:Oper),os[j]? =some o→
 (F8 (s+j) Wt=true→((s+j=i∨(I2 .any o.after.toList).any (fun e=>F8 e Wt)=true)∧F8 (s+j) l=false))∧(F8 (s+j) Wt=false→s+j≠i→F8 (s+j) l=false→oi.apart all.toArray o=true∧nT o.op=true):=by
 intro os
 induction os with
 |nil=>intro s _ j o h;simp at h
 |cons x os ih=>
  intro s h j o hj;simp only[frQ,Bool.and_eq_true]at h;cases j with
  |zero=>
   simp at hj;subst hj;have h4:=h.1;rw[Nat.add_zero];refine⟨fun hm=>?_,fun hm h1 h2=>?_⟩
   ·rw[hm]at h4;simp only[Bool.and_eq_true,Bool.or_eq_true,Bool.not_eq_true',Nat.beq_eq]at h4;exact h4
   ·rw[hm]at h4;simp only[Bool.or_eq_true,Nat.beq_eq,Bool.and_eq_true]at h4;rcases h4 with(h4|h4)|h4
    ·exact absurd h4 h1
    ·rw[h2]at h4;cases h4
    ·exact h4
  |succ j=>rw[show s+(j+1)=s+1+j by omega];exact ih h.2 j o (by simpa using hj)
section
variable {P : Program} {E : D9} {B : Nat → Prop} {W : World} {M0 M : B5} {Q : Exit → Act → World → Prop} {k : List X8} {st : St} {a : Act} {w : World} {N : Nat} {mrk : MK} {ops : List Oper} {rs : List (Nat × Nat)} {l l' : List Nat} {r : Nat}
theorem B7Y (i:Nat) {o:Oper} {f':Nat→Option Ent} (x:A) (hnth:X0 ops i=some o) (hsel:Region.noSelect ops.toArray=true) (hrd:aI l (I2 .any o.after.toList)=true) (hfr:frQ ops l o i (wtG ops 0 [i]) ops 0=true) (hlW:(wtG ops 0 [i]).all (fun k=>Nat.blt k (len ops))=true) (hiW:F8 i (wtG ops 0 [i])=true) (hg:o.guard=none)
 (hy:∀(M:B5) (a:Act) (w:World),I7 E.N E.mrk B W M0 ops (C7 ops ops) (fun j=>F8 j l=true) st M a w→∃v,RA M x v∧∀w',Ext w w'→(execOp a.eval o).run P w'= .ok (.value v) w')
 (hf:O5 E.N i (C7 ops ops) st.f o.dst (some (.u x))=some f') (hk:GA P E B W M0 Q k ops r (i::l) ⟨f',st.H,st.nx⟩):GA P E B W M0 Q k ops (r+1) l st:=by
 intro M a w listed hl hS;obtain⟨v,hv,hrun⟩:=hy M a w hS;rw[G0]at hnth;have hlt:i<ops.length:=(gS_.1 hnth).1;have ho':ops.toArray[i]? =some o:=by simpa using hnth
 have hq:=C4N hfr;have hil:F8 i l=false:=by
  have:=((hq i o hnth).1 (by rw[Nat.zero_add];exact hiW)).2;rw[Nat.zero_add]at this;exact this
 have hmem:i∈Region.ready .any ops.toArray listed:=(dA hl).2 (wF.2 ⟨o,Nat.zero_le _,by simpa using hnth,hil,hrd⟩);refine A4r (C:=Ext w) (Wt:=wtG ops 0 [i]) ho' (Region.noSelect_spec hsel) (fun c a w h=>h) (fun w1 w2 h1 h2=>h2.trans h1) (fun k ok hk hkW hki=>?_) r listed a w (fun j oj hj hji hun hno=>?_) (fun k hk=>?_) hmem ⟨by unfold Region.wanted;rw[hg],hrun⟩ (.refl w) (hk M _ w _ (hl.set hlt) (I7.put hS (S':=fun j=>F8 j (i::l)=true) (by rw[hil];simp) (fun j hj=>by simp only[F8,Bool.or_eq_true];exact .inr hj) (B5.ext_refl _ _) hS.h hf (E6 _ _) (fun e' he=>by cases he;exact hv) (by simp)))
 ·have hk':ops[k]? =some ok:=by simpa using hk
  have:=((hq k ok hk').1 (by rw[Nat.zero_add];exact fP hkW)).1;rw[Nat.zero_add]at this;rcases this with h|h
  ·exact absurd h hki
  ·obtain⟨e,e1,e2⟩:=List.any_eq_true.1 h;obtain⟨ed,q1,q2,q3⟩:=Y5 e1;exact⟨ed,by simpa using q1,q2,by rw[q3];exact wG e2⟩
 ·have hj':ops[j]? =some oj:=by simpa using hj
  have hjl:j<ops.length:=(gS_.1 hj').1;have hq2:=(hq j oj hj').2;rw[Nat.zero_add]at hq2;refine hq2 ?_ hji ?_
  ·cases hm:F8 j (wtG ops 0 [i])with
   |false=>rfl
   |true=>exact absurd (wG hm) hno
  ·cases hm:F8 j l with
   |false=>rfl
   |true=>
    have:=(hl.on j).2 hm;have hls:j<listed.size:=by rw[hl.sz];exact hjl
    unfold H3 at this;simp[hls]at hun this;rw[hun]at this;cases this
 ·have hkl:k<ops.length:=by
   have:=List.all_eq_true.1 hlW k hk;rw[Nat.blt_eq,O9]at this;exact this
  have hk':ops[k]? =some ops[k]:=gE_ hkl;have:=((hq k _ hk').1 (by rw[Nat.zero_add];exact fP hk)).2;rw[Nat.zero_add]at this;have hls:k<listed.size:=by rw[hl.sz];exact hkl
  cases hd:listed.getD k true with
  |false=>rfl
  |true=>
   exfalso;have h2:H3 listed k=true:=by unfold H3;simp[hls]at hd⊢;exact hd
   rw[(hl.on k).1 h2]at this;cases this
theorem B7Z {T:Tb} (hT:K9 P T) {t:TypeId} {cs:List C} {x:A} (h:ldA T t cs=some x) {b o:Nat}
 (hc:∀(j:Nat) (c:C),cs[j]? =some c→∃u,w.cell? ⟨b,o+j,none⟩=some u∧RC M c u):
 ∃v,RA M x v∧∀w':World,(∀j,j<cs.length→w'.cell? ⟨b,o+j,none⟩=w.cell? ⟨b,o+j,none⟩)→(loadVar t ⟨b,o,none⟩).run P w'= .ok v w':=by
 unfold ldA at h;cases ht:T t with
 |none=>simp[ht]at h
 |some i=>
  have hi:=hT t i ht;simp only[ht]at h;cases ha:i.kind.agg with
  |false=>
   simp only[ha]at h;cases cs with
   |nil=>simp at h
   |cons c cs=>
    simp at h;subst h;obtain⟨u,hu,hr⟩:=hc 0 c rfl;refine⟨u,.c hr,fun w' hw=>?_⟩;have hu':=hw 0 (by simp);rw[hu]at hu';simp only[Nat.add_zero]at hu';simp[loadVar,hi.isAgg,ha,hu']
  |true=>
   simp only[ha]at h;cases hb:Nat.ble i.size (len cs)with
   |false=>simp[hb]at h
   |true=>
    simp only[hb,Option.some.injEq]at h;subst h;rw[O9,Nat.ble_eq]at hb;have hx:∀j,j<i.size→∃u,w.cell? ⟨b,o+j,none⟩=some u∧∀c,cs[j]? =some c→RC M c u:=by
     intro j hj;have hj':j<cs.length:=by omega
     obtain⟨u,hu,hr⟩:=hc j cs[j] (gE_ hj');exact⟨u,hu,fun c hc=>by rw[gE_ hj']at hc;cases hc;exact hr⟩
    let f:Nat→Value:=fun j=>(w.cell? ⟨b,o+j,none⟩).getD undef
    refine⟨.agg ((List.range i.size).map f).toArray,.g ⟨by simp[aC];omega,?_⟩,fun w' hw=>?_⟩
    ·intro j c u h1 h2;rw[aC,List.getElem?_take]at h1;split at h1
     ·rename_i hj;obtain⟨u',hu',hr⟩:=hx j hj;simp[hj,f,hu']at h2;subst h2;exact hr c h1
     ·cases h1
    ·have hl:=run_loadCells (P:=P) w' ⟨b,o,none⟩ i.size f (fun j hj=>by
      obtain⟨u,hu,_⟩:=hx j hj;rw[Addr.add_lit,hw j (by omega)];simp[f,hu])
     simp[loadVar,hi.isAgg,ha,hi.sizeOf,hl]
theorem D8 (i:Nat) (hE:F0 P E) {o:Oper} {t:TypeId} {y:Operand} {n b q:Nat} {ty:TypeId} {cs:List C} {x:A} {f':Nat→Option Ent} (hk:GA P E B W M0 Q k ops r (i::l) ⟨f',st.H,st.nx⟩)
 (hnth:X0 ops i=some o:=by exact rfl) (ho:o.op= .load t y:=by exact rfl) (hy:U7 st.f [] y=some (.c (.ptr n b q)):=by exact rfl) (hn:st.H n=some (.blk b ty cs):=by exact rfl) (hx:ldA E.T t (Q6 q cs)=some x:=by exact rfl)
 (hsel:Region.noSelect ops.toArray=true:=by decide+kernel) (hrd:aI l (I2 .any o.after.toList)=true:=by exact rfl) (hfr:frQ ops l o i (wtG ops 0 [i]) ops 0=true:=by decide+kernel) (hlW:(wtG ops 0 [i]).all (fun k=>Nat.blt k (len ops))=true:=by decide+kernel) (hiW:F8 i (wtG ops 0 [i])=true:=by decide+kernel) (hg:o.guard=none:=by exact rfl)
 (hf:O5 E.N i (C7 ops ops) st.f o.dst (some (.u x))=some f':=by exact rfl):GA P E B W M0 Q k ops (r+1) l st:=
 B7Y i x hnth hsel hrd hfr hlW hiW hg (fun M a w hS=>by
  obtain⟨dst,op,ty',pos,aft,guard⟩:=o;simp only at ho;subst ho;have hr:=I9 hS (Γ:=[]) (by simp);obtain⟨h1,h2,us,h3,h4⟩:=hS.h.ok _ _ hn;have hcell:∀j,w.cell? ⟨b,q+j,none⟩=us[q+j]? :=fun j=>by simp[World.cell?,h3]
  obtain⟨v,g1,g2⟩:=B7Z (P:=P) (w:=w) (M:=M) (b:=b) (o:=q) hE.T hx (fun j c hj=>by
   rw[Q0,List.getElem?_drop]at hj;have hlt:=(gS_.1 hj).1;obtain⟨u,hu⟩:=bI us (q+j) (by have:=h4.1;simp at this;omega);exact⟨u,by rw[hcell];exact hu,h4.2 _ c _ hj (by simpa using hu)⟩)
  refine⟨v,g1,fun w' hw=>?_⟩;have hb:b<w.heap.size:=(Array.getElem?_eq_some_iff.1 h3).1;have h3':w'.heap[b]? =some (.cells us ty (0,0)):=by rw[hw.2 b hb,h3]
  have:=g2 w' (fun j _=>by simp[World.cell?,h3,h3']);simp[execOp,Instr.loadAt,(hr _ _ hy).ptr_inv,Instr.sureAddr,this]) hf hk
theorem gG (i:Nat) {o:Oper} {y:Operand} {c:Nat} {xs:List A} {x:A} {f':Nat→Option Ent} (hk:GA P E B W M0 Q k ops r (i::l) ⟨f',st.H,st.nx⟩)
 (hnth:X0 ops i=some o:=by exact rfl) (ho:o.op= .extract y c:=by exact rfl) (hy:U7 st.f [] y=some (.t xs):=by exact rfl) (hx:X0 xs c=some x:=by exact rfl)
 (hi:F8 i l=false:=by exact rfl) (hsel:Region.noSelect ops.toArray=true:=by decide+kernel) (hrd:aI l (I2 .any o.after.toList)=true:=by exact rfl) (hfr:frB ops l o i ops 0=true:=by decide+kernel) (hg:o.guard=none:=by exact rfl)
 (hf:O5 E.N i (C7 ops ops) st.f o.dst (some (.u x))=some f':=by exact rfl):GA P E B W M0 Q k ops (r+1) l st:=
 wH i x hnth hi hsel hrd hfr hg (fun M a w hS=>by
  obtain⟨dst,op,ty',pos,aft,guard⟩:=o;simp only at ho;subst ho;have hr:=I9 hS (Γ:=[]) (by simp) _ _ hy;rw[G0]at hx;generalize hv:a.eval y=v at hr;cases hr with
  |t hs hh=>
   rename_i us;have hlt:c<us.size:=by rw[hs];exact(gS_.1 hx).1
   exact⟨us[c],hh c x us[c] hx (Array.getElem?_eq_getElem hlt),fun w=>by simp[execOp,Instr.extract,hv,Array.getElem?_eq_getElem hlt]⟩) hf hk
end
def mpAt (b:Nat) (kk:KK) (vk:VK) (l:List (kk.T×vk.T)) (k:kk.T) (z:Int):HB:= .obj (fun c=>c=b) (fun _ w=>∃es clock,w.heap[b]? =some (.map es clock)∧aB kk vk l es clock∧∃(j:Nat) (e:MapEntry) (p:kk.T×vk.T),es[j]? =some e∧l[j]? =some p∧p.1=k∧(∀v,C1 l k v=l.set j (p.1,v))∧(e.born:Int)=z)
section
variable {P : Program} {E : D9} {B : Nat → Prop} {W : World} {M0 M : B5} {Q : Exit → Act → World → Prop} {k : List X8} {st : St} {a : Act} {w w' : World} {N : Nat} {mrk : MK} {ops : List Oper} {rs : List (Nat × Nat)} {l l' : List Nat} {r : Nat} {H : Nat → Option HB}
theorem A0w {kk:KK} {V:Type} {k:kk.T} {v w:V}:∀{l:List (kk.T×V)},C1 (C1 l k v) k w=C1 l k w:=by
 intro l
 induction l with
 |nil=>
  have:kk.eqb k k=true:=KK.eqb_iff.2 rfl;simp[C1,this]
 |cons p l ih=>
  simp only[C1];cases hb:kk.eqb k p.1 with
  |true=>simp[C1,hb]
  |false=>simp[C1,hb,ih]
theorem aB.same {kk:KK} {vk:VK} {m:List (kk.T×vk.T)} {es:Array MapEntry} {c j:Nat} {e:MapEntry} {p:kk.T×vk.T} (h:aB kk vk m es c) (he:es[j]? =some e) (hp:m[j]? =some p):e.key=kk.enc p.1∧e.val=vk.enc p.2:=by
 have:=congrArg (fun m=>m[j]?) h.all;simp only[List.getElem?_map,hp,Array.getElem?_toList,he,Option.map_some,Option.some.injEq,Prod.mk.injEq]at this;exact this
theorem E1.mpAt (hS:E1 B W H M w) {n b:Nat} {kk:KK} {vk:VK} {m m':List (kk.T×vk.T)} {x:HB} (hn:H n=some x) (hx:x.has=fun c=>b=c) (hx1:¬B b∧M b=none) {es':Array MapEntry} {c':Nat} {key:kk.T} {z:Int} (hb:b<w.heap.size)
 (h:aB kk vk m' es' c') (hz:∃(j:Nat) (e:MapEntry) (p:kk.T×vk.T),es'[j]? =some e∧m'[j]? =some p∧p.1=key∧(∀v,C1 m' key v=m'.set j (p.1,v))∧(e.born:Int)=z):E1 B W (D4 H n (some (Go.Mt.mpAt b kk vk m' key z))) M (w.putObj b (.map es' c')):=by
 refine hS.step (nn:=n) (xx:=Go.Mt.mpAt b kk vk m' key z) (dF w b _) (fun c hc=>by cases hc;exact hx1) (fun q y hq hy=>?_) (B4 _ _ _) ⟨fun c hc=>?_,fun M' w' h1 h2 h3=>⟨es',c',?_,h,hz⟩⟩ (fun c hc=> .inr (by rw[show c=b from hc]))
 ·have hy':D4 H n _ q=some y:=hy;rw[B9 _ _ hq]at hy';exact⟨hy',fun c hc hh=>by cases hc;exact hS.inj n q _ y b (fun e=>hq e.symm) hn hy' (by rw[hx]) hh⟩
 ·have:c=b:=hc;subst this;exact⟨hx1.1,hx1.2,by simpa[World.putObj]using hb⟩
 ·rw[h3 b rfl];exact World.putObj_heap_same hb
theorem B7a (i:Nat) (hE:F0 P E) {o:Oper} {t:TypeId} {x y:Operand} {n b s1 s2:Nat} {z:List C} {kk:KK} {vk:VK} {m:List (kk.T×vk.T)} {ia:A} {key:kk.T} {ob:Prop} {f':Int→Nat→Option Ent}
 (hk:∀s:Int,GA P E B W M0 Q k ops r (i::l) ⟨f' s,D4 st.H n (some (mpAt b kk vk (C1 m key (O8 vk.dft (H9 m key))) key s)),st.nx⟩)
 (hnth:X0 ops i=some o:=by exact rfl) (hi:F8 i l=false:=by exact rfl) (hg:o.guard=none:=by exact rfl) (ho:o.op= .mapEntry t x y:=by exact rfl) (hx:U7 st.f [] x=some (.c (.mpt n b)):=by exact rfl) (hy:U7 st.f [] y=some ia:=by exact rfl)
 (ht:E.T t=some ⟨.map kk vk,s1,s2,z⟩:=by exact rfl) (hn:st.H n=some (.mp b kk vk m):=by exact rfl) (hko:A5Y kk ia=some (key,ob):=by exact rfl) (hob:ob:=by and_intros<;> first|exact trivial|exact rfl)
 (hf:∀s:Int,O5 E.N i (C7 ops ops) st.f o.dst (some (.u (.t [vkA vk (O8 vk.dft (H9 m key)),int .i64 s])))=some (f' s):=by exact fun _=>rfl):GO P E B W M0 Q k ops r l st i:=by
 intro M a w listed hls hS;rw[G0]at hnth;have hlt:i<ops.length:=(gS_.1 hnth).1;have hw:Region.wanted o (yielded ops.toArray a.tmps)=true:=by unfold Region.wanted;rw[hg]
 unfold wpOp;have ho':ops.toArray[i]? =some o:=by simpa using hnth
 simp only[ho'];rw[if_pos hw];refine .inl ?_;obtain⟨dst,op,ty,pos,aft,guard⟩:=o;simp only at ho hf;subst ho;have hr:=I9 hS (Γ:=[]) (by simp);obtain⟨g1,g2,es,clock,g3,g4⟩:=hS.h.ok _ _ hn;obtain⟨kt,et,inf,u1,u2,u3,u4⟩:=(hE.T _ _ ht).und;obtain⟨q1,q2⟩:=vW hko hob (hr _ _ hy);have q3:=gK (hr _ _ hx);have hb:b<w.heap.size:=(Array.getElem?_eq_some_iff.1 g3).1;have hfind:=u2.find key (m.map (·.1)) es.toList w q2 (fun y hy=>by
  obtain⟨p,hp,rfl⟩:=List.mem_map.1 hy;exact g4.wf p hp) (vX g4.all)
 have hget:(getObj b).run P w= .ok (.map es clock) w:=by simp[getObj,Sem.run,g3]
 have hset:∀o,(setObj b o).run P w= .ok () (w.putObj b o):=fun o=>by simp[setObj,Sem.run,g3,World.putObj]
 have hkm:=A2U (i:=0) (x:=key) g4.all;have main:∃(s:Int) (es':Array MapEntry) (c':Nat),(Instr.mapEntry t (a.eval x) (a.eval y)).run P w= .ok (.tuple #[vk.enc (O8 vk.dft (H9 m key)),.int .i64 s]) (w.putObj b (.map es' c'))∧aB kk vk (C1 m key (O8 vk.dft (H9 m key))) es' c'∧
  ∃(j:Nat) (e:MapEntry) (p:kk.T×vk.T),es'[j]? =some e∧(C1 m key (O8 vk.dft (H9 m key)))[j]? =some p∧p.1=key∧(∀v,C1 (C1 m key (O8 vk.dft (H9 m key))) key v=(C1 m key (O8 vk.dft (H9 m key))).set j (p.1,v))∧(e.born:Int)=s:=by
  rcases xI (i:=0) (x:=key) g4.all with⟨j,e,p,f1,f2,f3,f4,f5,_⟩|⟨f1,f2,_⟩
  ·have f2':es[j]? =some e:=by rw[←Array.getElem?_toList];exact f2
   subst f4;obtain⟨hkey,hval⟩:=g4.same f2' f3;rw[f1]at hkm;have hml:∃v,H9 m p.1=some v∧vk.enc v=e.val:=by
    cases hm:H9 m p.1 with
    |none=>rw[hm]at hkm;cases hkm
    |some v=>rw[hm]at hkm;simp only[Option.map_some,Option.some.injEq]at hkm;exact⟨v,rfl,hkm.symm⟩
   obtain⟨v,hm1,hm2⟩:=hml;have hjl:=(gS_.1 f3).1;have hgt:O8 vk.dft (H9 m p.1)=v:=by rw[hm1];rfl
   rw[hgt,f5];have hes:(es.modify j fun f=>{f with key:=kk.enc p.1})=es.modify j fun f=>{f with key:=kk.enc p.1,val:=vk.enc v}:=by
    apply Array.ext_getElem?;intro q;rw[Array.getElem?_modify,Array.getElem?_modify];split
    ·rename_i hq;subst hq;rw[f2'];simp[hm2]
    ·rfl
   refine⟨e.born,es.modify j fun f=>{f with key:=kk.enc p.1,val:=vk.enc v},clock,?_,g4.set f2' f3 v,j,{e with key:=kk.enc p.1,val:=vk.enc v},(p.1,v),?_,?_,rfl,fun v'=>?_,rfl⟩
   ·unfold Instr.mapEntry;simp only[Sem.run_bind,run_underlying u1,Result.andThen_ok,q1,q3,hget,u2.chk p.1 _ w q2,hfind,f1,Nat.zero_add];have hk2:(Instr.keyThatStays e.key (kk.enc p.1)).run P w= .ok (kk.enc p.1) w:=by
     simp[Instr.keyThatStays,hkey,lX p.1 q2]
    simp only[f2',Option.map_some,Option.getD_some,hk2,Result.andThen_ok,hset,Sem.run_pure,goInt];rw[hes,hm2]
   ·rw[Array.getElem?_modify,if_pos rfl,f2'];rfl
   ·rw[List.getElem?_set,if_pos rfl,if_pos hjl]
   ·have:=A0w (kk:=kk) (l:=m) (k:=p.1) (v:=v) (w:=v');rw[f5 v]at this;rw[this,f5,List.set_set]
  ·rw[f1]at hkm;have hm1:H9 m key=none:=by
    cases hm:H9 m key with
    |none=>rfl
    |some v=>rw[hm]at hkm;cases hkm
   have hgt:O8 vk.dft (H9 m key)=vk.dft:=by rw[hm1];rfl
   rw[hgt,f2];have hsz:es.size=m.length:=by have:=congrArg List.length g4.all;simpa using this
   refine⟨clock,es.push {key:=kk.enc key,val:=vk.enc vk.dft,born:=clock},clock+1,?_,g4.push q2 vk.dft,m.length,{key:=kk.enc key,val:=vk.enc vk.dft,born:=clock},(key,vk.dft),?_,by simp,rfl,fun v'=>?_,rfl⟩
   ·unfold Instr.mapEntry;simp only[Sem.run_bind,run_underlying u1,Result.andThen_ok,q1,q3,hget,u2.chk key _ w q2,hfind,f1,A5Z u3 u4,hset,Sem.run_pure,goInt]
   ·rw[←hsz];simp
   ·have:=A0w (kk:=kk) (l:=m) (k:=key) (v:=vk.dft) (w:=v');rw[f2 vk.dft]at this;rw[this,f2];simp
 obtain⟨s,es',c',m1,m2,m3⟩:=main;refine F9 (w':=w.putObj b (.map es' c')) (v:= .tuple #[vk.enc (O8 vk.dft (H9 m key)),.int .i64 s]) (by simp[execOp,m1]) ?_;refine hk s M _ _ _ (hls.set hlt) (I7.put hS (S':=fun j=>F8 j (i::l)=true) (by rw[hi];simp) (fun j hj=>by simp only[F8,Bool.or_eq_true];exact .inr hj) (B5.ext_refl _ _) (hS.h.mpAt (m:=m) hn rfl ⟨g1,g2⟩ hb m2 m3) (hf s) (E6 _ _) (fun e' he=>?_) (by simp));cases he;refine .t rfl (fun j c u a1 a2=>?_)
 match j,a1,a2 with
 |0,a1,a2=>simp at a1 a2;subst a1 a2;exact xA vk _
 |1,a1,a2=>simp at a1 a2;subst a1 a2;exact .c (.pv (.val rfl))
theorem E1.unAt (hS:E1 B W H M w) {n b:Nat} {kk:KK} {vk:VK} {m:List (kk.T×vk.T)} {key:kk.T} {z:Int} (hn:H n=some (Go.Mt.mpAt b kk vk m key z)):E1 B W (D4 H n (some (.mp b kk vk m))) M w:=by
 obtain⟨h1,h2⟩:=hS.ok _ _ hn;obtain⟨es,c,h3,h4,_⟩:=h2 M w (fun _ _ _ h=>h) (fun k hk=>(h1 k hk).2.1) (fun _ _=>rfl);have hb:=h1 b rfl;have hH:∀q y,D4 H n (some (.mp b kk vk m)) q=some y→∃y',H q=some y'∧(∀c,y.has c→y'.has c)∧(X2 M B w y):=by
  intro q y hy;by_cases hq:q=n
  ·subst hq;rw[B4]at hy;cases hy;exact⟨_,hn,fun c hc=>by cases hc;rfl,⟨hb.1,hb.2.1,es,c,h3,h4⟩⟩
  ·rw[B9 _ _ hq]at hy;exact⟨y,hy,fun _ h=>h,hS.ok q y hy⟩
 refine⟨hS.below,hS.base,hS.mem,fun q y hy=>(hH q y hy).choose_spec.2.2,fun q q' y y' c hqq e1 e2 hc hc'=>?_⟩;obtain⟨z1,a1,a2,_⟩:=hH q y e1;obtain⟨z2,b1,b2,_⟩:=hH q' y' e2;exact hS.inj q q' z1 z2 c hqq a1 b1 (a2 c hc) (b2 c hc')
theorem C5U (i:Nat) (hE:F0 P E) {o:Oper} {t:TypeId} {x y:Operand} {n b s1 s2:Nat} {z:List C} {kk:KK} {vk:VK} {m:List (kk.T×vk.T)} {ia:A} {key kz:kk.T} {sz:Int} {ob:Prop} {f':Nat→Option Ent}
 (hk:GA P E B W M0 Q k ops r (i::l) ⟨f',st.H,st.nx⟩)
 (hnth:X0 ops i=some o:=by exact rfl) (hi:F8 i l=false:=by exact rfl) (hg:o.guard=none:=by exact rfl) (ho:o.op= .lookup t x y false:=by exact rfl) (hx:U7 st.f [] x=some (.c (.mpt n b)):=by exact rfl) (hy:U7 st.f [] y=some ia:=by exact rfl)
 (ht:E.T t=some ⟨.map kk vk,s1,s2,z⟩:=by exact rfl) (hn:st.H n=some (mpAt b kk vk m kz sz):=by exact rfl) (hko:A5Y kk ia=some (key,ob):=by exact rfl) (hob:ob:=by and_intros<;> first|exact trivial|exact rfl)
 (hf:O5 E.N i (C7 ops ops) st.f o.dst (some (.u (vkA vk (O8 vk.dft (H9 m key)))))=some f':=by exact rfl):GO P E B W M0 Q k ops r l st i:=by
 intro M a w listed hls hS;rw[G0]at hnth;have hlt:i<ops.length:=(gS_.1 hnth).1;have hw:Region.wanted o (yielded ops.toArray a.tmps)=true:=by unfold Region.wanted;rw[hg]
 unfold wpOp;have ho':ops.toArray[i]? =some o:=by simpa using hnth
 simp only[ho'];rw[if_pos hw];refine .inl ?_;obtain⟨dst,op,ty,pos,aft,guard⟩:=o;simp only at ho hf;subst ho;have hr:=I9 hS (Γ:=[]) (by simp);have hl:=xB (P:=P) (okb:=false) hE.T (hS.h.unAt hn) ht (B4 _ _ _) hko hob (hr _ _ hy) (hr _ _ hx);refine F9 (w':=w) (v:=vk.enc (O8 vk.dft (H9 m key))) (by simp[execOp,hl,A5a]) ?_;exact hk M _ _ _ (hls.set hlt) (I7.put hS (S':=fun j=>F8 j (i::l)=true) (by rw[hi];simp) (fun j hj=>by simp only[F8,Bool.or_eq_true];exact .inr hj) (B5.ext_refl _ _) hS.h hf (E6 _ _) (fun e' he=>by cases he;exact xA vk _) (by simp))
theorem B7b (i:Nat) (hE:F0 P E) {o:Oper} {t:TypeId} {x s y:Operand} {n b:Nat} {kk:KK} {vk:VK} {m:List (kk.T×vk.T)} {va:A} {key:kk.T} {sz:Int} {v:vk.T} {f':Nat→Option Ent}
 (hk:GA P E B W M0 Q k ops r (i::l) ⟨f',D4 st.H n (some (.mp b kk vk (C1 m key v))),st.nx⟩)
 (hnth:X0 ops i=some o:=by exact rfl) (hi:F8 i l=false:=by exact rfl) (hg:o.guard=none:=by exact rfl) (ho:o.op= .entryStore t x s y:=by exact rfl) (hx:U7 st.f [] x=some (.c (.mpt n b)):=by exact rfl) (hs:U7 st.f [] s=some (int .i64 sz):=by exact rfl) (hy:U7 st.f [] y=some va:=by exact rfl)
 (hn:st.H n=some (mpAt b kk vk m key sz):=by exact rfl) (hv:B8x vk va=some v:=by exact rfl)
 (hf:O5 E.N i (C7 ops ops) st.f o.dst (some (.u (.t [])))=some f':=by exact rfl):GO P E B W M0 Q k ops r l st i:=by
 intro M a w listed hls hS;rw[G0]at hnth;have hlt:i<ops.length:=(gS_.1 hnth).1;have hw:Region.wanted o (yielded ops.toArray a.tmps)=true:=by unfold Region.wanted;rw[hg]
 unfold wpOp;have ho':ops.toArray[i]? =some o:=by simpa using hnth
 simp only[ho'];rw[if_pos hw];refine .inl ?_;obtain⟨dst,op,ty,pos,aft,guard⟩:=o;simp only at ho hf;subst ho;have hr:=I9 hS (Γ:=[]) (by simp);have q1:=gK (hr _ _ hx);have q2:=(hr _ _ hs).val_inv;have q3:=B0C hv (hr _ _ hy);obtain⟨h1,h2⟩:=hS.h.ok _ _ hn;obtain⟨es,c,h3,h4,j,e,p,e1,e2,e3,e4,e5⟩:=h2 M w (fun _ _ _ h=>h) (fun k hk=>(h1 k hk).2.1) (fun _ _=>rfl);have hb:=h1 b rfl;subst e3;obtain⟨hkey,hval⟩:=h4.same e1 e2;have hfi:es.findIdx? (fun f=>(f.born:Int)==sz)=some j:=by
  rw[Array.findIdx?_eq_some_iff_getElem];have hj:=(Array.getElem?_eq_some_iff.1 e1).1;refine⟨hj,?_,fun q hq=>?_⟩
  ·have:=(Array.getElem?_eq_some_iff.1 e1).2;rw[this];simp[e5]
  ·have h5:es[q]? =some es[q]:=Array.getElem?_eq_getElem (by omega);have:=h4.up q j _ _ hq h5 e1;simp only[beq_iff_eq];omega
 have hes:(es.modify j fun f=>{f with val:=vk.enc v})=es.modify j fun f=>{f with key:=kk.enc p.1,val:=vk.enc v}:=by
  apply Array.ext_getElem?;intro q;rw[Array.getElem?_modify,Array.getElem?_modify];split
  ·rename_i hq;subst hq;rw[e1];simp[hkey]
  ·rfl
 have hget:(getObj b).run P w= .ok (.map es c) w:=by simp[getObj,Sem.run,h3]
 have hset:∀o,(setObj b o).run P w= .ok () (w.putObj b o):=fun o=>by simp[setObj,Sem.run,h3,World.putObj]
 have hrun:(Instr.entryStore t (a.eval x) (a.eval s) (a.eval y)).run P w= .ok () (w.putObj b (.map (es.modify j fun f=>{f with key:=kk.enc p.1,val:=vk.enc v}) c)):=by
  unfold Instr.entryStore;simp only[q1,q2,q3,Sem.run_bind,hget,Result.andThen_ok,asInt,asIntOf,Sem.run_pure,hfi,hset,hes]
 refine jN (w':=w.putObj b (.map (es.modify j fun f=>{f with key:=kk.enc p.1,val:=vk.enc v}) c)) (by simp[execOp,hrun]) ?_;have hS2:=oJ (l':=C1 m p.1 v) (hS.h.unAt hn) (B4 _ _ _) (by rw[e4];exact h4.set e1 e2 v);have hH:D4 (D4 st.H n (some (.mp b kk vk m))) n (some (.mp b kk vk (C1 m p.1 v)))=D4 st.H n (some (.mp b kk vk (C1 m p.1 v))):=by
  funext q
  by_cases hq:q=n
  ·subst hq;rw[B4,B4]
  ·rw[B9 _ _ hq,B9 _ _ hq,B9 _ _ hq]
 rw[hH]at hS2;exact hk M _ _ _ (hls.set hlt) (I7.put hS (S':=fun j=>F8 j (i::l)=true) (by rw[hi];simp) (fun j hj=>by simp only[F8,Bool.or_eq_true];exact .inr hj) (B5.ext_refl _ _) hS2 hf (E6 _ _) (fun e' he=>by cases he;exact dE M) (by simp))
theorem C5V {all:List Oper} {i:Nat} {o:Oper} {v:Value} {f':Nat→Option Ent}
 (hk:G P E B W M0 Q (.ops all (i+1)::k) ⟨f',st.H,st.nx⟩) (hd:Q6 i all=o::Q6 (i+1) all:=by exact rfl) (hg:o.guard=none:=by exact rfl) (ho:o.op= .assign (.const v):=by exact rfl)
 (hf:O5 E.N i (C7 all all) st.f o.dst none=some f':=by exact rfl):G P E B W M0 Q (.ops all i::k) st:=by
 intro M a w hS;show wA E.ro P all.toArray (after E.ro P Q k) (Q6 i all) a w;rw[hd];refine N1 fun K hK=>?_
 have hw:Region.wanted o (yielded all.toArray a.tmps)=true:=by unfold Region.wanted;rw[hg]
 rw[if_pos hw];obtain⟨dst,op,ty',pos,aft,guard⟩:=o;simp only at ho hg hf;subst ho;have hrun:(execOp a.eval ⟨dst,.assign (.const v),ty',pos,aft,none⟩).run P w= .ok (.value v) w:=by simp[execOp];rfl
 subst hg;refine F9 hrun (hK _ _ (hk M _ w (I7.put hS (S':=fun j=>j<i+1) (Nat.lt_irrefl i) (fun j hj=>Nat.lt_succ_of_lt hj) (B5.ext_refl _ _) hS.h hf (E6 _ _) (fun e' he=>by cases he) (by simp))))
end
section
variable {P : Program} {E : D9} {B : Nat → Prop} {W : World} {M0 M : B5} {Q : Exit → Act → World → Prop} {k : List X8} {st : St} {a : Act} {w w' : World} {N : Nat} {mrk : MK} {ops : List Oper} {rs : List (Nat × Nat)} {l l' : List Nat} {r : Nat} {H : Nat → Option HB}
theorem dT (i:Nat) (hE:F0 P E) {o:Oper} {t:TypeId} {y oh:Operand} {n e s1 s2:Nat} {z:List C} {v:Value} {ty:TypeId} {lk lk':LK} {L:List lk.T} {ki:IntKind} {m:Nat} {mv:Int} {f':Value→Nat→Option Ent}
 (hmv:mv=(m:Nat)) (hm:m≤L.length) (hk:∀v',GA P E B W M0 Q k ops r (i::l) ⟨f' v',D4 st.H n (some (.own v' ty lk (L.take m))),st.nx⟩)
 (hnth:X0 ops i=some o:=by exact rfl) (hi:F8 i l=false:=by exact rfl) (hg:o.guard=none:=by exact rfl) (ho:o.op= .slice t y none (some oh) none:=by exact rfl) (hy:U7 st.f [] y=some (.c (.own n v)):=by exact rfl) (hoh:U7 st.f [] oh=some (int ki mv):=by exact rfl)
 (ht:E.T t=some ⟨.slc e lk',s1,s2,z⟩:=by exact rfl) (hn:st.H n=some (.own v ty lk L):=by exact rfl)
 (hf:∀v',O5 E.N i (C7 ops ops) st.f o.dst (some (.u (.c (.own n v'))))=some (f' v'):=by exact fun _=>rfl):GO P E B W M0 Q k ops r l st i:=by
 subst hmv;intro M a w listed hls hS;rw[G0]at hnth;have hlt:i<ops.length:=(gS_.1 hnth).1;have hw:Region.wanted o (yielded ops.toArray a.tmps)=true:=by unfold Region.wanted;rw[hg]
 unfold wpOp;have ho':ops.toArray[i]? =some o:=by simpa using hnth
 simp only[ho'];rw[if_pos hw];refine .inl ?_;obtain⟨dst,op,tyo,pos,aft,guard⟩:=o;simp only at ho hf;subst ho;have hr:=I9 hS (Γ:=[]) (by simp);have hu:=(hE.T _ _ ht).und;simp only at hu;obtain⟨hu,inf,hinf,hsz'⟩:=hu;have hyv:=RA.own_inv (hr _ _ hy);have hown:=hS.h.ok _ _ hn;have hcase:∃(ad:Option Addr) (cap:Nat),v= .slice ad L.length cap∧L.length≤cap∧(ad=none→cap=0)∧(∀x,ad=some x→x.off=0∧x.spot=none):=by
  rcases hown with⟨h1,h2⟩|⟨b',cap',us,h1,h2,h3,h4,h5,h6,h7⟩
  ·exact⟨none,0,by rw[h1,h2];rfl,by rw[h2];exact Nat.le_refl _,fun _=>rfl,fun x h=>(by cases h)⟩
  ·exact⟨some ⟨b',0,none⟩,cap',h1,h5,fun h=>(by cases h),fun x h=>(by cases h;exact⟨rfl,rfl⟩)⟩
 obtain⟨ad,cap,hv,hcap,had,hoff⟩:=hcase;have hs:A5X L.length none (some (int ki (m:Nat))) none=some (0,(m:Int),0≤(m:Int)∧(m:Int)≤L.length):=rfl;obtain⟨_,_,_,mm,q6,q7,q8,q9⟩:=kY (P:=P) (w:=w) hr (rd:=U7 st.f []) (olo:=none) (ohi:=some oh) (omx:=none) (lo:=none) (hi:=some (int ki (m:Nat))) (mx:=none) rfl (by simp only[eC,hoh]) rfl hs ⟨by omega,by omega⟩ (sl:=true) hcap;have:=q8 rfl;subst this;simp only[Option.map_some,Option.map_none,Int.toNat_natCast]at q9;have hadd:(if mm=0 then ad else ad.map (·.add (0*inf.size)))=ad:=by
  split
  ·rfl
  ·cases ad with
   |none=>rfl
   |some x=>
    simp only[Option.map_some,Nat.zero_mul]
    congr 1
 have hrun:(execOp a.eval ⟨dst,.slice t y none (some oh) none,tyo,pos,aft,guard⟩).run P w= .ok (.value (.slice ad m mm)) w:=by
  simp only[Int.toNat_zero]at q9;simp[execOp,Instr.sliceAt,hyv,hv,run_underlying hu,Instr.slice,q9,Go.sizeOf,D7 hinf];cases ad<;> simp[Addr.add]
 refine F9 hrun ?_;have hS2:E1 B W (D4 st.H n (some (.own (.slice ad m mm) ty lk (L.take m)))) M w:=by
  refine hS.h.rehb hn (fun h=>?_) (fun c hc=>?_)
  ·rcases h with⟨h1,h2⟩|⟨b',cap',us,h1,h2,h3,h4,h5,h6,h7⟩
   ·rw[hv]at h1;simp only[Value.slice.injEq]at h1;obtain⟨rfl,_,rfl⟩:=h1;have hm0:m=0:=by rw[h2]at hm;simpa using hm
    exact .inl ⟨by rw[hm0],by rw[hm0];rfl⟩
   ·rw[hv]at h1;cases h1;have hl:(L.take m).length=m:=by rw[List.length_take];omega
    refine .inr ⟨b',mm,us,by rw[hl],h2,h3,h4,by omega,h6,h7.1,fun i x j y e1 e2=>?_⟩;rw[List.getElem?_take]at e1;split at e1
    ·exact h7.2 i x j y e1 e2
    ·cases e1
  ·rw[hv];cases ad<;> exact hc
 exact hk _ M _ w _ (hls.set hlt) (I7.put hS (S':=fun j=>F8 j (i::l)=true) (by rw[hi];simp) (fun j hj=>by simp only[F8,Bool.or_eq_true];exact .inr hj) (B5.ext_refl _ _) hS2 (hf _) (E6 _ _) (fun e' he=>by cases he;exact .c (.own (by cases ad<;> rfl))) (by simp))
end
end
end Go.Mt
namespace Go.Proofs.YtgmeedgkjlfpeaaGreat
open Go.Mt
noncomputable section
theorem Ent.ck {l:List Bs} {cl k s n z sm:Int} {x:Bs} (h:Ent l cl ⟨k,s,n,z,sm⟩ x) (hs:∀s∈l,s.length=16) (hl:l.length≤60000):CkP k 2 n z sm (List.replicate 32 0++gV l s.toNat n.toNat) cl∧ckX k 2 n z (List.replicate 32 0++gV l s.toNat n.toNat)=x:=by
 have hm:U6 k s n z sm cl=true:=h.may;have hf:=lE hm;have hp:=P5 hf.2.2.2.2;have hn:s.toNat+n.toNat≤l.length:=h.n;have hc:=A7L hs hn;have hdt:(((List.replicate 32 0++gV l s.toNat n.toNat:Bs).drop ((2:Int).toNat*16)).take (n.toNat*16))=gV l s.toNat n.toNat:=by
  rw[List.drop_left' (by simp),←hc,List.take_length]
 have hx:ckX k 2 n z (List.replicate 32 0++gV l s.toNat n.toNat)=x:=by
  unfold ckX;rw[hdt];rcases h.kd with⟨hk,hx⟩|⟨hk,_,_,hx⟩
  ·have hk:k=2:=hk;rw[if_pos hk];exact hx
  ·have hk:k=3:=hk;rw[if_neg (by omega)];exact C4J hx
 have hm2:U6 k 2 n z sm cl=true:=by
  have h6:¬(cl<0∨6<cl):=by omega
  rcases h.kd with⟨hk,_⟩|⟨hk,_⟩
  ·have hk:k=2:=hk;subst hk;unfold U6 at hm⊢;rw[if_neg h6,if_neg (by omega),if_pos rfl]at hm⊢;have:=of_decide_eq_true hm;exact decide_eq_true ⟨this.1,this.2.1,by omega,by omega,by omega⟩
  ·have hk:k=3:=hk;subst hk;unfold U6 at hm⊢;rw[if_neg h6,if_neg (by omega),if_neg (by omega),if_pos rfl]at hm⊢;have:=of_decide_eq_true hm;exact decide_eq_true ⟨this.1,this.2.1,this.2.2.1,this.2.2.2.1,this.2.2.2.2.1,by omega,by omega,by omega⟩
 refine⟨⟨by omega,hf.2.2.1.1,hf.2.2.2.2.1,⟨by omega,?_,⟨by show(0:Int)≤2;omega,hf.2.2.1.1,?_⟩,?_,h.u,?_,?_⟩,?_⟩,hx⟩
 ·show U6 k 2 n z sm ((cl.toNat:Nat):Int)=true;rw[Int.toNat_of_nonneg hf.2.2.2.2.1];exact hm2
 ·show((2:Int)+n)*16≤_;rw[List.length_append,hc,List.length_replicate];omega
 ·rw[List.length_append,hc,List.length_replicate];omega
 ·rw[hx,h.xl]
 ·rw[hx];exact h.s
 ·rcases h.kd with⟨hk,_⟩|⟨hk,z0,z1,hpk⟩
  ·exact .inl hk
  ·exact .inr ⟨hk,z0,z1,x,by rw[hdt];exact hpk⟩
def tF:D9:=⟨T,tE,A7,A9,71,[],none,.f⟩
theorem B3N:B1 Tryz.prog tF:=⟨gB,A2,A4⟩
theorem C4:F0 Tryz.prog tF:=⟨tOk,B3N⟩
theorem C5W (bd b:Nat) (i:X1) (T:Nat→Prop) (d:H8) (S:Nat→Prop) (f:P7) (hf:H9 d.files i.nm=some f) (hm:f.now.length≤60000) (hsec:∀s∈f.now,s.length=16) (e:B0) (x:Bs) (h:Ent f.now i.m.cl e x) (hg:e.start∈i.gs) (hgl:i.gs.length≤63):C5 Tryz.prog 150 [.c (.ptr 0 b 0),A9Q e] [L5 bd b i T,D3 bd d S] (fun _=>True) (fun _:(Nat→Prop)×(Nat→Prop)=> .t [lst .byt x,int .i64 0]) (fun y=>[L5 bd b i y.1,D3 bd d y.2]):=by
 refine I6 (E:=tF) Tryz.func150 (fun M0 W hM0=>?_);obtain⟨ek,es,en,ez,em⟩:=e;have hmf:=lE (show U6 ek es en ez em i.m.cl=true from h.may);have hgd:=bC h.may h.has;have hgs:2≤es∧1≤en:=⟨hgd.1.st,hgd.1.ct⟩
 obtain⟨s,rfl⟩:=Int.eq_ofNat_of_zero_le (show 0≤es by omega);obtain⟨n,rfl⟩:=Int.eq_ofNat_of_zero_le (show 0≤en by omega);have hsn:s+n≤f.now.length:=h.n;obtain⟨hck,hcx⟩:=h.ck hsec hm;simp only[Int.toNat_natCast]at hck hcx;have hk:ek=2∨ek=3:=by rcases h.kd with⟨q,_⟩|⟨q,_⟩;exact .inl q;exact .inr q
 have hu:L1 .u32 em:=h.u;have hxl:=h.xl;have hcl:(gV f.now s n).length≤100000:=by rw[A7L hsec hsn];omega
 refine N0 0 (fun y hy=>?_);refine J3 C4 (fun _=>some false) [false] (fun bs=>?_) (fun bs=>?_)
 ·and_intros<;> first|exact trivial|omega|exact hu.1|exact hu.2|exact decide_eq_false (by omega)|(simp;omega)|exact rfl
 refine rD C4 17 [0,1,3,7,0,16,48,112,0,256,0,1024,4095,8191,16383,16383,32767,131071] 12 [1] [0,5] (A6R bd d S i.nm f hf s n hsn (by omega)) (fun u _=>?_);refine A3 C4 [false] (fun bs=>?_);refine G1 6 [6] rfl ⟨rfl,trivial⟩ ?_;refine yB (ns:=[0,2,3,4,1,5,7]) (fs:=fun c g=>[(0,.c (.ptr 0 b 0)),(3,.c (.ptr 5 c 0)),(6,lst .byt (gV f.now s n)),(8,.c (.ptr 6 g 0))]) (hs:=fun c g=>(O1 bd b i).f y++[D3 bd d u.1,.blk c 185 [.pv (i64 ek),.pv (i64 s),.pv (i64 n),.pv (i64 ez),.pv (.val (.int .u32 em))],.blk g 185 [.pv (i64 ek),.pv (i64 2),.pv (i64 n),.pv (i64 ez),.pv (.val (.int .u32 em))]]) ?b1 ?c1 rfl ?wk0 (fun c g=>?_)
 case wk0=>and_intros<;> (first|exact wk_|refine A6 ?_|skip)
 refine jD 7 rfl ?_;refine vR 15 ?_;refine X4 2 ?_;refine X4 4 ?_;refine C2 5 ?_;refine C0 6 C4 ?_;refine C0 7 C4 ?_;refine B7S 6 [0,1,2,3,4,5,6,7,8] [(0,.c (.ptr 0 b 0)),(3,.c (.ptr 5 c 0)),(47,.g [.pv (i64 ek),.pv (i64 2),.pv (i64 n),.pv (i64 ez),.pv (.val (.int .u32 em))]),(50,lst .byt (List.replicate 32 0++gV f.now s n)),(55,int .i64 i.m.cl)] ((O1 bd b i).f y++[D3 bd d u.1,.blk c 185 [.pv (i64 ek),.pv (i64 s),.pv (i64 n),.pv (i64 ez),.pv (.val (.int .u32 em))],.blk g 185 [.pv (i64 ek),.pv (i64 2),.pv (i64 n),.pv (i64 ez),.pv (.val (.int .u32 em))]]) ?_ (fun fin=>?_)
 rotate_left
 refine B2 [0,1,8] rfl (by simp) ⟨A8 0 C4 (fun _=>?_),A8 1 C4 (fun _=>?_),A8 8 C4 (fun _=>?_),trivial⟩
 ·refine B2 [1,8] rfl (by simp) ⟨A8 1 C4 (fun _=>?_),A8 8 C4 (fun _=>?_),trivial⟩
  ·refine B2 [3,8] rfl (by simp) ⟨A8 3 C4 (fun _=>?_),A8 8 C4 (fun _=>?_),trivial⟩
   ·refine F7 8 C4 (fun _=>?_);refine M9 8 [50] rfl ⟨rfl,trivial⟩ ?_;exact F5 [0,1,2,3,4,5,6] _ _ [0,1,2,3,4,5,6,7,8] fin
   ·refine F7 3 C4 (fun _=>?_);refine M9 8 [50] rfl ⟨rfl,trivial⟩ ?_;exact F5 [0,1,2,3,4,5,6] _ _ [0,1,2,3,4,5,6,7,8] fin
  ·refine F7 1 C4 (fun _=>?_);refine F7 3 C4 (fun _=>?_);refine M9 8 [50] rfl ⟨rfl,trivial⟩ ?_;exact F5 [0,1,2,3,4,5,6] _ _ [0,1,2,3,4,5,6,7,8] fin
 ·refine B2 [0,3,8] rfl (by simp) ⟨A8 0 C4 (fun _=>?_),A8 3 C4 (fun _=>?_),A8 8 C4 (fun _=>?_),trivial⟩
  ·refine B2 [3,8] rfl (by simp) ⟨A8 3 C4 (fun _=>?_),A8 8 C4 (fun _=>?_),trivial⟩
   ·refine F7 8 C4 (fun _=>?_);refine M9 8 [50] rfl ⟨rfl,trivial⟩ ?_;exact F5 [0,1,2,3,4,5,6] _ _ [0,1,2,3,4,5,6,7,8] fin
   ·refine F7 3 C4 (fun _=>?_);refine M9 8 [50] rfl ⟨rfl,trivial⟩ ?_;exact F5 [0,1,2,3,4,5,6] _ _ [0,1,2,3,4,5,6,7,8] fin
  ·refine B2 [0,8] rfl (by simp) ⟨A8 0 C4 (fun _=>?_),A8 8 C4 (fun _=>?_),trivial⟩
   ·refine F7 8 C4 (fun _=>?_);refine M9 8 [50] rfl ⟨rfl,trivial⟩ ?_;exact F5 [0,1,2,3,4,5,6] _ _ [0,1,2,3,4,5,6,7,8] fin
   ·refine F7 0 C4 (fun _=>?_);refine M9 8 [50] rfl ⟨rfl,trivial⟩ ?_;exact F5 [0,1,2,3,4,5,6] _ _ [0,1,2,3,4,5,6,7,8] fin
  ·refine B2 [0,3] rfl (by simp) ⟨A8 0 C4 (fun _=>?_),A8 3 C4 (fun _=>?_),trivial⟩
   ·refine F7 3 C4 (fun _=>?_);refine M9 8 [50] rfl ⟨rfl,trivial⟩ ?_;exact F5 [0,1,2,3,4,5,6] _ _ [0,1,2,3,4,5,6,7,8] fin
   ·refine F7 0 C4 (fun _=>?_);refine M9 8 [50] rfl ⟨rfl,trivial⟩ ?_;exact F5 [0,1,2,3,4,5,6] _ _ [0,1,2,3,4,5,6,7,8] fin
 ·refine B2 [0,1] rfl (by simp) ⟨A8 0 C4 (fun _=>?_),A8 1 C4 (fun _=>?_),trivial⟩
  ·refine F7 1 C4 (fun _=>?_);refine F7 3 C4 (fun _=>?_);refine M9 8 [50] rfl ⟨rfl,trivial⟩ ?_;exact F5 [0,1,2,3,4,5,6] _ _ [0,1,2,3,4,5,6,7,8] fin
  ·refine B2 [0,3] rfl (by simp) ⟨A8 0 C4 (fun _=>?_),A8 3 C4 (fun _=>?_),trivial⟩
   ·refine F7 3 C4 (fun _=>?_);refine M9 8 [50] rfl ⟨rfl,trivial⟩ ?_;exact F5 [0,1,2,3,4,5,6] _ _ [0,1,2,3,4,5,6,7,8] fin
   ·refine F7 0 C4 (fun _=>?_);refine M9 8 [50] rfl ⟨rfl,trivial⟩ ?_;exact F5 [0,1,2,3,4,5,6] _ _ [0,1,2,3,4,5,6,7,8] fin
 refine F7 9 C4 (fun _=>?_);refine F7 10 C4 (fun _=>?_);refine B7S 0 [0,1,2,3,4,5,6,7,8,9,10,11,12,13,14] [(0,.c (.ptr 0 b 0)),(3,.c (.ptr 5 c 0)),(7,int .i64 0),(9,lst .byt x)] ((O1 bd b i).f y++[D3 bd d u.1,.blk c 185 [.pv (i64 ek),.pv (i64 s),.pv (i64 n),.pv (i64 ez),.pv (.val (.int .u32 em))],.blk g 185 [.pv (i64 ek),.pv (i64 2),.pv (i64 n),.pv (i64 ez),.pv (.val (.int .u32 em))]]) ?_ (fun fin2=>?_)
 rotate_left
 refine B2 [11,12] rfl (by simp) ⟨A8 11 C4 (fun _=>?_),A8 12 C4 (fun _=>?_),trivial⟩
 ·refine B2 [12,13] rfl (by simp) ⟨A8 12 C4 (fun _=>?_),A8 13 C4 (fun _=>?_),trivial⟩
  ·refine F7 13 C4 (fun _=>?_);refine F7 14 C4 (fun _=>?_);refine F5 [0,1,2,3,4,5,6] _ _ [0,1,2,3,4,5,6,7,8,9,10,11,12,13,14] fin2 (h:=?wk1)
   case wk1=>
    and_intros<;> (first|exact wk_|refine A6 ?_|skip)
    all_goals exact congrArg (PV.lst LK.byt) hcx
  ·refine F7 12 C4 (fun _=>?_);refine F7 14 C4 (fun _=>?_);refine F5 [0,1,2,3,4,5,6] _ _ [0,1,2,3,4,5,6,7,8,9,10,11,12,13,14] fin2 (h:=?wk1)
   case wk1=>
    and_intros<;> (first|exact wk_|refine A6 ?_|skip)
    all_goals exact congrArg (PV.lst LK.byt) hcx
 ·refine F7 11 C4 (fun _=>?_);refine F7 13 C4 (fun _=>?_);refine F7 14 C4 (fun _=>?_);refine F5 [0,1,2,3,4,5,6] _ _ [0,1,2,3,4,5,6,7,8,9,10,11,12,13,14] fin2 (h:=?wk1)
  case wk1=>
   and_intros<;> (first|exact wk_|refine A6 ?_|skip)
   all_goals exact congrArg (PV.lst LK.byt) hcx
 refine iV ?_;refine A3 C4 [true] (fun bs=>?_);have hpl:y.pgs.length≤63:=by
  have h1:=B3J (l:=y.pgs.map fun p=>p.1) (g:=i.gs) hy.1 (fun a ha=>by
   obtain⟨p,hp,rfl⟩:=List.mem_map.1 ha;exact hy.2 p hp)
  rw[List.length_map]at h1;omega
 have hxb:x.length≤1000000:=by
  rw[hxl];have h6:=P5 hmf.2.2.2.2;have:((2 ^ i.m.cl.toNat:Nat):Int)≤64:=by push_cast;exact h6.2
  omega
 refine R3 C4 7 [0,1,3,7,0,16,0,127] [] (fun bs=>?_);refine A5 [3] (C6j y.br y.pgs y.S2 s x hxb hpl) (fun q hq=>?_);refine A3 C4 [] (fun bs=>?_);refine J8 0 (O1 bd b i) [0,1,2,3] {y with pgs:=q.1,S2:=q.2} ?hok (fun T1=>?_)
 case hok=>
  rcases hq with h|⟨h1,bp,h2⟩
  ·show(q.1.map fun p=>p.1).Nodup∧_;dsimp only;rw[h];exact hy
  ·dsimp only[O1];rw[h2];refine⟨?_,fun p hp=>?_⟩
   ·rw[List.map_append,List.nodup_append];refine⟨hy.1,by simp,?_⟩;intro a ha c hc e;subst e;simp only[List.map_cons,List.map_nil,List.mem_singleton]at hc;subst hc;obtain⟨p,hp,e⟩:=List.mem_map.1 ha;exact B7N h1 p hp e
   ·rcases List.mem_append.1 hp with hp|hp
    ·exact hy.2 p hp
    ·rw[List.mem_singleton.1 hp];exact hg
 exact B3 C4 (T1,u.1) trivial [0,4]
structure P8 (f:P7) (i:X1) (v:Nat→Option Bs) (N:Nat):Prop where
 gm:GM i.m
 gk:GM i.kept
 gh:∀m∈i.held,GM m
 hl:i.held.length≤2
 sec:∀s∈f.now,s.length=16
 len:f.now.length≤2+64*N
 nb:N≤60
 head:A9K f.now i.last.seq
 seq:0≤i.last.seq∧i.last.seq≤N
 ls:i.last.seq≠0→2≤i.last.start∧0≤i.last.count∧i.last.count≤1000∧i.last.start+A2Q i.last.count.toNat≤f.now.length
 vw:∀k:Nat,k<eG i.m→kN f.now i.m.cl (L2 i.m.t k) (v k)
 kr:∀j:Nat,Z7 (L2 i.kept.t j)=true→(L2 i.kept.t j).start+(L2 i.kept.t j).count≤f.now.length
 hr:∀m∈i.held,∀j:Nat,Z7 (L2 m.t j)=true→(L2 m.t j).start+(L2 m.t j).count≤f.now.length
 gs:∀j:Nat,Z7 (L2 i.m.t j)=true→(L2 i.m.t j).start∈i.gs
 gl:i.gs.length≤N
 kn:i.k≤N
theorem P8.l6 {f:P7} {i:X1} {v:Nat→Option Bs} {N:Nat} (h:P8 f i v N):f.now.length≤4000:=by have:=h.len;have:=h.nb;omega
def bOf (cl:Int) (o:Option Bs):Bs:=o.getD (iK cl)
theorem kN.kd {l:List Bs} {cl:Int} {e:B0} {o:Option Bs} (h:kN l cl e o):o=none↔e.kind=0:=by
 cases o with
 |none=>exact iff_of_true rfl h
 |some x=>
  refine iff_of_false (by simp) (fun hk=>?_);rcases h with⟨h,_⟩|h
  ·omega
  ·rcases h.kd with⟨h,_⟩|⟨h,_⟩<;> omega
theorem C5X (bd b:Nat) (i:X1) (T:Nat→Prop) (d:H8) (S:Nat→Prop) (f:P7) (hf:H9 d.files i.nm=some f) (hm:f.now.length≤60000) (hsec:∀s∈f.now,s.length=16) (e:B0) (o:Option Bs) (h:kN f.now i.m.cl e o) (hc:0≤i.m.cl∧i.m.cl≤6) (hg:Z7 e=true→e.start∈i.gs) (hgl:i.gs.length≤63):
 C5 Tryz.prog 150 [.c (.ptr 0 b 0),A9Q e] [L5 bd b i T,D3 bd d S] (fun _=>True) (fun _:(Nat→Prop)×(Nat→Prop)=> .t [lst .byt (bOf i.m.cl o),int .i64 0]) (fun y=>[L5 bd b i y.1,D3 bd d y.2]):=by
 cases o with
 |none=>exact C2e bd b i T d S e (.inl h) hc
 |some x=>
  by_cases h1:e.kind=1∧x=iK i.m.cl
  ·obtain⟨h1,rfl⟩:=h1;exact C2e bd b i T d S e (.inr h1) hc
  ·have h:=h.resolve_left h1;exact C5W bd b i T d S f hf hm hsec e x h (hg h.has) hgl
def A0x:D9:=⟨T,tE,A7,A9,55,[],none,.f⟩
theorem B7c:B1 Tryz.prog A0x:=⟨gB,A2,A4⟩
theorem iL:F0 Tryz.prog A0x:=⟨tOk,B7c⟩
theorem C6p (bd b:Nat) (i:X1) (T:Nat→Prop) (d:H8) (S:Nat→Prop) (f:P7) (hf:H9 d.files i.nm=some f) (v:Nat→Option Bs) (N:Nat) (h:P8 f i v N) (k:Nat) (hk:k<eG i.m):C5 Tryz.prog 69 [.c (.ptr 0 b 0),str [],int .i64 k] [L5 bd b i T,D3 bd d S] (fun _=>True) (fun _:(Nat→Prop)×(Nat→Prop)=> .t [lst .byt (bOf i.m.cl (v k)),int .i64 (L2 i.m.t k).kind,int .i64 0]) (fun y=>[L5 bd b i y.1,D3 bd d y.2]):=by
 refine I6 (E:=A0x) Tryz.func69 (fun M0 W hM0=>?_);have hl6:=h.l6;have hpl:=h.gm.plain;have htl:=hpl.tl;have htf:=hpl.hf;have hn:=h.gm.n.1;have h16:=h.gm.n.2.1;have hok:=h.gm.ok;refine A3 iL [] (fun bs=>?_);refine A5 [0,1] (iUp bd b d S i T f hf (by omega)) (fun u _=>?_);refine A3 iL [false] (fun bs=>?_);refine A5 [0] (C4H bd b i u.1 hok.c hok.s) (fun w _=>?_);refine J3 iL (fun _=>none) [false,false,false] (fun bs=>?_) (fun bs=>?_)
 ·and_intros<;> first|exact trivial|omega|exact rfl|exact decide_eq_false (by omega)|(simp;omega)|exact htl|exact htf
 refine A5 [0,1] (C5X bd b i w d u.2 f hf (by omega) h.sec (L2 i.m.t k) (v k) (h.vw k hk) hok.c (h.gs k) (by have:=h.gl;have:=h.nb;omega)) (fun q _=>?_);refine A3 iL [true] (fun bs=>?_);refine R3 iL 4 [0,0,2,1,15,31] [] (fun bs=>?_);refine A3 iL [] (fun bs=>?_);exact B3 iL q trivial [0,1]
structure DOk (d:H8):Prop where
 fl:∀p∈d.files,p.2.now.length≤4000
 fc:d.files.length≤32
 room:aK d.files+70≤d.room
 rm:d.room≤1048576
 lg:d.lg≤900000000
def bD (ms:List X7) (k:Nat):Int:=(ms.map fun m=>I5 (F3 m.t) k).sum
theorem A3J {ms:List X7} {h:Nat} (hh:h<ms.length) (k:Nat):bD (ms.take (h+1)) k=bD (ms.take h) k+I5 (F3 (ms.getD h LK.mta.dft).t) k:=by
 have e:ms.take (h+1)=ms.take h++[ms[h]]:=by rw[List.take_add_one,gE_ hh];rfl
 have e2:ms.getD h LK.mta.dft=ms[h]:=by rw[List.getD,gE_ hh];rfl
 unfold bD;rw[e,e2,List.map_append,List.sum_append];simp
theorem GM.cnt {m:X7} (h:GM m) (k:Nat):0≤I5 (F3 m.t) k∧I5 (F3 m.t) k≤5000:=by
 have h1:=lK (F3 m.t) k;have h2:=sI (-1) m.t (m.t.length*8);have h3:=h.plain.tl;have h4:(F3 m.t).length≤4096:=by unfold F3;omega
 unfold I5;split<;> omega
theorem A4s {ms:List X7} (h:∀m∈ms,GM m) (k:Nat):0≤bD ms k∧bD ms k≤5000*ms.length:=by
 induction ms with
 |nil=>simp[bD]
 |cons m ms ih=>
  have h1:=ih (fun x hx=>h x (by simp[hx]));have h2:=(h m (by simp)).cnt k;have e:bD (m::ms) k=I5 (F3 m.t) k+bD ms k:=by simp[bD]
  rw[e];simp only[List.length_cons];omega
theorem GM.zero {m:X7} (h:GM m) {n k:Nat} (hr:∀j:Nat,Z7 (L2 m.t j)=true→(L2 m.t j).start+(L2 m.t j).count≤n) (h1:n≤k) (h2:2≤k):I5 (F3 m.t) k=0:=by
 have:fM (F3 m.t) k=0:=A3E fun l hl=>by
  obtain⟨i,h3,h4⟩:=A4p hl;have:=hr i h4;rw[h3];simp only[kI,Bool.and_eq_false_iff,decide_eq_false_iff_not];omega
 unfold I5;rw[this,if_neg (by omega)];rfl
theorem B3O {ms:List X7} {n k:Nat} (h:∀m∈ms,GM m) (hr:∀m∈ms,∀j:Nat,Z7 (L2 m.t j)=true→(L2 m.t j).start+(L2 m.t j).count≤n) (h1:n≤k) (h2:2≤k):bD ms k=0:=by
 induction ms with
 |nil=>rfl
 |cons m ms ih=>
  have e:bD (m::ms) k=I5 (F3 m.t) k+bD ms k:=by simp[bD]
  rw[e,(h m (by simp)).zero (hr m (by simp)) h1 h2,ih (fun x hx=>h x (by simp[hx])) (fun x hx=>hr x (by simp[hx]))];rfl
theorem P8.ez {f:P7} {i:X1} {v:Nat→Option Bs} {N:Nat} (h:P8 f i v N) (j:Nat) (hs:Z7 (L2 i.m.t j)=true):(L2 i.m.t j).start+(L2 i.m.t j).count≤f.now.length:=by
 have h1:=bC (gC h.gm.rt j) hs;have h2:=kM h.gm.rt h1.2.2;have h3:=h.vw j (by omega);have hk:(L2 i.m.t j).kind=2∨(L2 i.m.t j).kind=3:=by simpa[Z7]using hs
 cases hv:v j with
 |none=>rw[hv]at h3;have h3:(L2 i.m.t j).kind=0:=h3;omega
 |some x=>
  rw[hv]at h3;rcases h3 with h3|h3
  ·omega
  ·have:=h3.n;have:=h1.1.st;have:=h1.1.ct;omega
theorem C5Y {a b c d:Int} (h1:a=c) (h2:b=d):a+b=c+d:=by rw[h1,h2]
theorem GM.bare {m:X7} (h:GM m):A3H m=m:=by
 obtain⟨cl,size,bk,t,sh,mp,ct⟩:=m;have h1:sh=[]:=h.ok.sh;have h2:mp=[]:=h.ok.mp;have h3:ct=[]:=h.ct;simp[A3H,h1,h2,h3]
def nU:D9:=⟨T,tE,A7,A9,91,[],none,.f⟩
theorem A9Z:B1 Tryz.prog nU:=⟨gB,A2,A4⟩
theorem F4:F0 Tryz.prog nU:=⟨tOk,A9Z⟩
theorem C4O (bd b:Nat) (i:X1) (T:Nat→Prop) (d:H8) (S:Nat→Prop) (f:P7) (hf:H9 d.files i.nm=some f) (v:Nat→Option Bs) (n:Nat) (h:P8 f i v n) (hn:n+1≤60) (hd:DOk d) (hch:i.ch=true):C5 Tryz.prog 27 [.c (.ptr 0 b 0)] [L5 bd b i T,D3 bd d S] (fun y:((Nat→Prop)×(Nat→Prop))×P7×iZ×Nat=>P8 y.2.1 ⟨i.nm,i.m,i.m,i.held,y.2.2.1,false,i.k,i.gs⟩ v (n+1)∧y.2.1.b=f.b∧y.2.2.2≤d.lg+60) (fun _=>int .i64 0) (fun y=>[L5 bd b ⟨i.nm,i.m,i.m,i.held,y.2.2.1,false,i.k,i.gs⟩ y.1.1,D3 bd ⟨d.room,C1 d.files i.nm y.2.1,y.2.2.2⟩ y.1.2]):=by
 refine I6 (E:=nU) Tryz.func27 (fun M0 W hM0=>?_);have hl6:=h.l6;have hhl:=h.hl;obtain⟨N,hN⟩:∃N:Nat,N=65536:=⟨_,rfl⟩
 refine A3 F4 [] (fun bs=>?_);refine A5 [0,1] (iUp bd b d S i T f hf (by omega)) (fun u _=>?_);refine N0 0 (fun x hx=>?_);refine J3 F4 (fun _=>none) [false,false] (fun bs=>?_) (fun bs=>?_)
 ·and_intros<;> first|exact trivial|exact rfl|(rw[hch];rfl)
 refine A5 [] (cOf i.kept h.gk.plain (Z6 h.gk.rt) N (by omega)) (fun w _=>?_) (hsim:=?hs1)
 case hs1=>
  and_intros<;> (first|exact wk_|refine A6 ?_|skip)
  all_goals omega
 refine A3 F4 [] (fun bs=>?_);refine K3 (fun q:Nat=>[(0,.c (.ptr 0 b 0)),(4,.c (.own 5 w)),(29,.c (.own 1 x.v)),(30,int .i64 i.held.length),(31,int .i64 q)]) (fun q=>(O1 bd b i).f x++[D3 bd d u.2,.own w 3 (.ints .i64) (M6 N fun k=>I5 (F3 i.kept.t) k+bD (i.held.take q) k)]) (fun q=>q≤i.held.length) (fun q=>i.held.length-q) [0,2,3,4,1,5] 0 (Nat.zero_le _) ?wk1 (fun q hq=>?_)
 case wk1=>
  and_intros<;> (first|exact wk_|refine A6 ?_|skip)
  all_goals first|exact L3 (fun k hk=>by simp[bD])
 refine A3 F4 [] (fun bs=>?_);refine I4 rfl rfl (fun hk=>?_) (fun hk=>?_)
 ·have hk:(q:Int)<(i.held.length:Nat):=hk;have hq2:q<i.held.length:=by omega
  obtain⟨M,hM⟩:∃M,M=i.held.getD q LK.mta.dft:=⟨_,rfl⟩
  have hgM:GM M:=by
   rw[hM,List.getD,gE_ hq2];exact h.gh _ (List.getElem_mem hq2)
  refine A3 F4 [] (fun bs=>?_);refine A5 [] (cOf M hgM.plain (Z6 hgM.rt) N (by omega)) (fun z _=>?_) (hsim:=?hs2)
  case hs2=>
   rw[hM]
   and_intros<;> (first|exact wk_|refine A6 ?_|skip)
   all_goals first|omega
  refine A3 F4 [] (fun bs=>?_);refine K3 (fun j:Nat=>[(0,.c (.ptr 0 b 0)),(4,.c (.own 5 w)),(29,.c (.own 1 x.v)),(30,int .i64 i.held.length),(31,int .i64 q),(36,.c (.own 6 z)),(37,int .i64 N),(38,int .i64 j)]) (fun j=>(O1 bd b i).f x++[D3 bd d u.2,.own w 3 (.ints .i64) (M6 N fun k=>I5 (F3 i.kept.t) k+bD (i.held.take q) k+(if k<j then I5 (F3 M.t) k else 0)),.own z 3 (.ints .i64) (aP (F3 M.t) N)]) (fun j=>j≤N) (fun j=>N-j) [0,1,2,3,4,5,7] 0 (Nat.zero_le _) ?wk2 (fun j hj=>?_)
  case wk2=>
   and_intros<;> (first|exact wk_|refine A6 ?_|skip)
   all_goals first|omega|exact L3 (fun k hk=>by simp)|(rw[aP,L0];done)
  refine A3 F4 [] (fun bs=>?_);refine I4 rfl rfl (fun hk2=>?_) (fun hk2=>?_)
  ·have hk2:(j:Int)<(N:Nat):=hk2;have hj2:j<N:=by omega
   have hA:(M6 N fun k=>I5 (F3 i.kept.t) k+bD (i.held.take q) k+(if k<j then I5 (F3 M.t) k else 0)).getD j 0=I5 (F3 i.kept.t) j+bD (i.held.take q) j:=by rw[aO hj2];simp
   have hB:(aP (F3 M.t) N).getD j 0=I5 (F3 M.t) j:=by rw[aP,aO hj2]
   have hb1:=h.gk.cnt j;have hb2:=A4s (ms:=i.held.take q) (fun m hm=>h.gh m (List.mem_of_mem_take hm)) j;have hb3:=hgM.cnt j;have hlt:(i.held.take q).length≤2:=by rw[List.length_take];omega
   have hin:L1 .i64 ((M6 N fun k=>I5 (F3 i.kept.t) k+bD (i.held.take q) k+(if k<j then I5 (F3 M.t) k else 0)).getD j 0+(aP (F3 M.t) N).getD j 0):=by
    rw[hA,hB];simp only[L1,IntKind.bits];constructor<;> omega
   refine Q2 F4 [] (fun bs=>?_) (fun bs=>?_)
   ·and_intros<;> first|exact trivial|omega|(simp only[aP,L0];omega)|exact hin.1|exact hin.2|exact rfl
   refine G3 [0,1,2,3,4,5,6] (j+1) ⟨hj2,by omega⟩ ?wk3
   case wk3=>
    and_intros<;> (first|exact wk_|refine A6 ?_|skip)
    all_goals
     rw[Int.toNat_natCast];refine pT (i:=j) _ ?_ (fun k hk=>?_)
     ·refine Eq.trans ?_ (C5Y hA hB).symm;simp only[if_pos (Nat.lt_succ_self j)]
     ·have:(k<j+1)↔(k<j):=by omega
      simp only[this]
  ·refine A3 F4 [] (fun bs=>?_);refine G3 [0,1,2,3,4,5] (q+1) ⟨hq2,by omega⟩ ?wk4
   case wk4=>
    and_intros<;> (first|exact wk_|refine A6 ?_|skip)
    all_goals
     refine L3 (fun k hk=>?_);rw[A3J hq2,if_pos (by omega),←hM,Int.add_assoc]
 ·refine A3 F4 [] (fun bs=>?_);have hk:¬((q:Int)<(i.held.length:Nat)):=hk;have hqe:i.held.take q=i.held:=List.take_of_length_le (by omega);rw[hqe];obtain⟨K,hK⟩:∃K,K=M6 N fun k=>I5 (F3 i.kept.t) k+bD i.held k:=⟨_,rfl⟩
  have hsv:vH d f i.m i.last K:=by
   refine⟨h.gm.sv,by omega,h.sec,h.head,⟨h.seq.1,by have:=h.seq.2;omega⟩,by rw[hK,L0,hN],fun k h1 h2=>?_,fun l hl=>?_,h.ls,fun p hp=>by have:=hd.fl p hp;omega,hd.fc,by have:=hd.room;omega,hd.rm,by have:=hd.lg;omega⟩
   ·by_cases hkN:k<N
    ·rw[hK,aO hkN,h.gk.zero h.kr h1 h2,B3O h.gh h.hr h1 h2];rfl
    ·rw[hK,List.getD,List.getElem?_eq_none (by rw[L0];omega)];rfl
   ·obtain⟨j,h1,h2⟩:=A4p hl;rw[h1];exact h.ez j h2
  refine G1 5 [4] rfl ⟨rfl,trivial⟩ ?_;rw[←hK];refine X3 [0,1,2,3,4] [(0,.c (.ptr 0 b 0)),(4,lst (.ints .i64) K)] ((O1 bd b i).f x++[D3 bd d u.2]) ?_;refine jD 5 rfl ?_;refine vR 24 ?_;refine X4 0 ?_;refine X4 4 ?_;refine X4 8 ?_;refine X4 12 ?_;refine X4 16 ?_;refine C2 1 ?_;refine C2 5 ?_;refine C2 9 ?_;refine C2 13 ?_;refine C0 2 F4 ?_;refine C0 6 F4 ?_;refine C0 10 F4 ?_;refine C0 14 F4 ?_;refine D8 3 F4 ?_;refine D8 7 F4 ?_;refine D8 11 F4 ?_;refine D8 15 F4 ?_;refine F5 [0,1,2,3,4] [(0,.c (.ptr 0 b 0)),(56,.c (.ptr 4 bd 0)),(60,str i.nm),(64,A2N i.m),(68,.g (C5S i.last)),(69,lst (.ints .i64) K)] ((O1 bd b i).f x++[D3 bd d u.2]) [0,1,2,3,4,5,6,7,8,9,10,11,12,13,14,15,16] ?_
  refine nS (X:=((Nat→Prop)×P7×iZ×Nat)×Nat) (fun y=>A6y d f i.m i.last K y.1.2.1 y.1.2.2.1 y.1.2.2.2) 0 [0,1,2,3,4,5,6,7,8,9,10,11,12,13,14,15,16,17,18,19,20,21,22,23] (fun y=>[(0,.c (.ptr 0 b 0)),(9,.c (.ptr 5 y.2 0)),(10,int .i64 0)]) (fun y=>(O1 bd b i).f x++[D3 bd ⟨d.room,C1 d.files i.nm y.1.2.1,y.1.2.2.2⟩ y.1.1,.blk y.2 135 (C5S y.1.2.2.1)]) ?_ (fun fin=>?_)
  rotate_left
  refine B2 [17,21] rfl (by simp) ⟨?_,A8 21 F4 (fun bs=>?_),trivial⟩
  ·refine E7 [4] (fun n=>n-4) (C2d bd d u.2 i.nm f hf i.m i.last K hsv) rfl rfl trivial rfl rfl rfl rfl (by decide) rfl rfl (fun x=>rfl) (fun y hy=>?_);refine X4 18 ?_;refine gG 19 ?_;refine gG 20 ?_;refine F7 21 F4 (fun bs=>?_);refine F7 22 F4 (fun _=>?_);refine F7 23 F4 (fun _=>?_);exact F5 [0,1,2,3,4,6] _ _ _ (fin (y,?bb) hy)
  ·refine E4 17 rfl ?_;refine E7 [4] (fun n=>n-4) (C2d bd d u.2 i.nm f hf i.m i.last K hsv) rfl rfl trivial rfl rfl rfl rfl (by decide) rfl rfl (fun x=>rfl) (fun y hy=>?_);refine X4 18 ?_;refine gG 19 ?_;refine gG 20 ?_;refine F7 22 F4 (fun _=>?_);refine F7 23 F4 (fun _=>?_);exact F5 [0,1,2,3,4,5] _ _ _ (fin (y,?bb2) hy)
  intro y hy;obtain⟨⟨S',f',s',lg⟩,c⟩:=y;have hy:A6y d f i.m i.last K f' s' lg:=hy;refine iV ?_;refine A3 F4 [false] (fun bs=>?_);have hpl:=h.gm.plain;have hsh:=h.gm.ok.sh;have hmp:=h.gm.ok.mp;have hct:=h.gm.ct;have htl:=hpl.tl;have htf:=hpl.hf;refine jD 6 rfl ?_;refine mC F4 15 [0,0,0,0,8,24,56,120,0,249,761,1785,4091,8187,16379,32767,65535,131071] [(11,0),(14,0)] (fun bs=>?_) (fun bs=>?_)
  ·and_intros<;> first|exact trivial|omega|exact hsh|exact hmp|exact htl|exact htf|exact rfl
  refine A3 F4 [] (fun bs=>?_);refine J8 0 (O1 bd b ⟨i.nm,i.m,i.m,i.held,s',false,i.k,i.gs⟩) [0,1,2,3] x hx (fun T1=>?_) (h:=?hsh)
  case hsh=>
   and_intros<;> (first|exact wk_|refine A6 ?_|skip)
   all_goals first|(rw[hsh];exact rfl)|(rw[hmp];exact rfl)|(rw[hct];exact rfl)
  refine B3 F4 ((T1,S'),f',s',lg) ?_ [0,4];refine⟨⟨h.gm,h.gm,h.gh,h.hl,hy.sec,by have:=hy.len;have:=h.len;dsimp only;omega,hn,hy.head,⟨by have:=hy.seq;have:=h.seq;dsimp only;omega,by have:=hy.seq;have:=h.seq;dsimp only;omega⟩,fun _=>?_,fun k hk=>?_,fun j hj=>?_,fun m hm j hj=>?_,h.gs,by have:=h.gl;dsimp only;omega,by have:=h.kn;dsimp only;omega⟩,hy.b,hy.lg⟩
  ·have:=hy.st;dsimp only;omega
  ·have h1:=h.vw k hk;dsimp only;cases hv:v k with
   |none=>rw[hv]at h1;exact h1
   |some z=>
    rw[hv]at h1;refine h1.imp_right fun h1=>h1.keep hy.len.1 (fun q h2 h3=>?_)
    have h5:=bC h1.may h1.has;have h6:=h5.1.st;have h7:=h1.n;exact hy.keep q (by omega) (by omega) (.inl (B0q h1.has (by omega) (by omega)))
  ·exact Int.le_trans (h.ez j hj) (by have:=hy.len;dsimp only;omega)
  ·exact Int.le_trans (h.hr m hm j hj) (by have:=hy.len;dsimp only;omega)
abbrev B7d:=List (KK.ent.T×VK.int.T)
def T0 (m:B7d) (e:B0):Int:=O8 VK.int.dft (H9 m e)
def A7N (m:B7d) (e:B0):B7d:=C1 m e (T0 m e+1)
def cmp (ls:List bQ):B7d:=ls.foldl (fun m l=>A7N m l.e) []
theorem B7e (ls:List bQ) (l:bQ):cmp (ls++[l])=A7N (cmp ls) l.e:=by simp[cmp]
theorem B3P (m:B7d) (e e':B0):T0 (A7N m e) e'=if e'=e then T0 m e+1 else T0 m e':=by
 unfold T0 A7N;rw[U3];by_cases h:e'=e
 ·rw[if_pos h,if_pos h];rfl
 ·rw[if_neg h,if_neg h]
theorem A7O {ls:List bQ} {q:Nat} (h:q<ls.length):cmp (ls.take (q+1))=A7N (cmp (ls.take q)) (ls.getD q LK.lin.dft).e:=by
 rw[←B7e,List.take_add_one,gE_ h,List.getD,gE_ h];rfl
theorem B7f (ls:List bQ) (e:B0):∀q,q≤ls.length→0≤T0 (cmp (ls.take q)) e∧T0 (cmp (ls.take q)) e≤q∧(T0 (cmp (ls.take q)) e≠0↔∃l∈ls.take q,l.e=e):=by
 intro q
 induction q with
 |zero=>
  intro _;have:T0 (cmp (ls.take 0)) e=0:=rfl;rw[this];exact⟨Int.le_refl _,Int.le_refl _,by simp⟩
 |succ q ih=>
  intro hq;obtain⟨h1,h2,h3⟩:=ih (by omega);rw[A7O (by omega),B3P];have e1:ls.take (q+1)=ls.take q++[ls[q]]:=by rw[List.take_add_one,gE_ (by omega)];rfl
  have e2:ls.getD q LK.lin.dft=ls[q]:=by rw[List.getD,gE_ (by omega)];rfl
  have hm:ls[q]∈ls.take (q+1):=by rw[e1];exact List.mem_append_right _ (List.mem_singleton.2 rfl)
  have hs:∀l∈ls.take q,l∈ls.take (q+1):=fun l hl=>by rw[e1];exact List.mem_append_left _ hl
  rw[e2];by_cases he:e=ls[q].e
  ·rw[if_pos he,←he];refine⟨by omega,by omega,⟨fun _=>⟨ls[q],hm,he.symm⟩,fun _=>by omega⟩⟩
  ·rw[if_neg he];refine⟨h1,by omega,h3.trans ⟨fun⟨l,hl,h⟩=>⟨l,hs l hl,h⟩,fun⟨l,hl,h⟩=>?_⟩⟩;rw[e1]at hl;rcases List.mem_append.1 hl with hl|hl
   ·exact⟨l,hl,h⟩
   ·rw[List.mem_singleton.1 hl]at h;exact absurd h.symm he
theorem C1X (ls:List bQ) (e:B0):0≤T0 (cmp ls) e∧(T0 (cmp ls) e≠0↔∃l∈ls,l.e=e):=by
 have:=B7f ls e ls.length (Nat.le_refl _);rw[List.take_length]at this;exact⟨this.1,this.2.2⟩
def tG:D9:=⟨T,tE,A7,A9,26,[],none,.f⟩
theorem B3Q:B1 Tryz.prog tG:=⟨gB,A2,A4⟩
theorem J2:F0 Tryz.prog tG:=⟨tOk,B3Q⟩
theorem C5Z (bd b:Nat) (i:X1) (T:Nat→Prop) (h:GM i.m):C5 Tryz.prog 194 [.c (.ptr 0 b 0)] [L5 bd b i T] (fun _=>True) (fun x:(Nat→Prop)×Nat=> .c (.mpt 1 x.2)) (fun x=>[L5 bd b i x.1,.mp x.2 .ent .int (cmp (F3 i.m.t))]):=by
 refine I6 (E:=tG) Tryz.func194 (fun M0 W hM0=>?_);obtain⟨L,hL⟩:∃L,L=F3 i.m.t:=⟨_,rfl⟩
 have hLn:L.length≤4096:=by have:=sI (-1) i.m.t (i.m.t.length*8);have:=h.plain.tl;rw[hL,F3];omega
 refine N0 0 (fun x hx=>?_);refine A3 J2 [] (fun bs=>?_);refine C5V ?_;refine A3 J2 [] (fun bs=>?_);refine A5 [] (B6b i.m h.plain) (fun w _=>?_) (hsim:=?hs1)
 case hs1=>and_intros<;> (first|exact wk_|refine A6 ?_|skip)
 refine A3 J2 [] (fun bs=>?_);rw[←hL];refine K3 (fun p:Nat×Nat=>[(0,.c (.ptr 0 b 0)),(3,.c (.mpt 4 p.2)),(11,.c (.own 5 w)),(12,int .i64 L.length),(13,int .i64 p.1)]) (fun p=>(O1 bd b i).f x++[.mp p.2 .ent .int (cmp (L.take p.1)),.own w 216 .lin L]) (fun p=>p.1≤L.length) (fun p=>L.length-p.1) [0,1,2,3,4,5] (0,?bm) (Nat.zero_le _) ?wk1 (fun p hp=>?_)
 case wk1=>and_intros<;> (first|exact wk_|refine A6 ?_|skip)
 obtain⟨q,bm⟩:=p;simp only at hp;refine A3 J2 [] (fun bs=>?_);refine I4 rfl rfl (fun hk=>?_) (fun hk=>?_)
 ·have hk:(q:Int)<(L.length:Nat):=hk;have hq:q<L.length:=by omega
  refine A3 J2 [] (fun bs=>?_);obtain⟨y,hy⟩:∃y,y=L.getD q LK.lin.dft:=⟨_,rfl⟩
  have hct:=A7O (ls:=L) (q:=q) hq;rw[←hy]at hct;have hle:=B7f L y.e q hp;obtain⟨m,hm⟩:∃m,m=cmp (L.take q):=⟨_,rfl⟩
  rw[←hm]at hct hle;obtain⟨sh,cl,ek,es,ec,ez,em⟩:=y;simp only at hct hle;have hyq:L.getD ((q:Nat):Int).toNat LK.lin.dft=⟨sh,cl,⟨ek,es,ec,ez,em⟩⟩:=by rw[Int.toNat_natCast];exact hy.symm
  have hb0:0≤O8 VK.int.dft (H9 m ⟨ek,es,ec,ez,em⟩):=hle.1;have hb1:O8 VK.int.dft (H9 m ⟨ek,es,ec,ez,em⟩)≤q:=hle.2.1;have hin:L1 .i64 (T0 m ⟨ek,es,ec,ez,em⟩+1):=by
   have h1:=hle.1;have h2:=hle.2.1;simp only[L1,IntKind.bits];constructor<;> omega
  have hg2:T0 (C1 m (⟨ek,es,ec,ez,em⟩:B0) (T0 m ⟨ek,es,ec,ez,em⟩)) ⟨ek,es,ec,ez,em⟩=T0 m ⟨ek,es,ec,ez,em⟩:=by
   rw[T0,U3,if_pos rfl];rfl
  have hin2:L1 .i64 (T0 (C1 m (⟨ek,es,ec,ez,em⟩:B0) (T0 m ⟨ek,es,ec,ez,em⟩)) ⟨ek,es,ec,ez,em⟩+1):=by rw[hg2];exact hin
  have hf1:C1 (kk:=KK.ent) (V:=VK.int.T) (C1 m (⟨ek,es,ec,ez,em⟩:B0) (T0 m ⟨ek,es,ec,ez,em⟩)) (⟨ek,es,ec,ez,em⟩:B0) (T0 m ⟨ek,es,ec,ez,em⟩+1)=cmp (L.take (q+1)):=by
   rw[fX];exact hct.symm
  have hf2:C1 (kk:=KK.ent) (V:=VK.int.T) (C1 m (⟨ek,es,ec,ez,em⟩:B0) (T0 m ⟨ek,es,ec,ez,em⟩)) (⟨ek,es,ec,ez,em⟩:B0) (T0 (C1 m (⟨ek,es,ec,ez,em⟩:B0) (T0 m ⟨ek,es,ec,ez,em⟩)) ⟨ek,es,ec,ez,em⟩+1)=cmp (L.take (q+1)):=by
   rw[hg2];exact hf1
  refine yA (ns:=[0,1,2,3,4,5,6]) (fs:=fun c=>[(0,.c (.ptr 0 b 0)),(3,.c (.mpt 4 bm)),(5,.c (.ptr 6 c 0)),(11,.c (.own 5 w)),(12,int .i64 L.length),(13,int .i64 q)]) (hs:=fun c=>(O1 bd b i).f x++[.mp bm .ent .int m,.own w 216 .lin L,.blk c 216 [.pv (i64 sh),.pv (i64 cl),.pv (i64 ek),.pv (i64 es),.pv (i64 ec),.pv (i64 ez),.pv (.val (.int .u32 em))]]) ?cc rfl ?wk2 (fun c=>?_)
  case wk2=>
   rw[hm]
   and_intros<;> (first|exact wk_|refine A6 ?_|skip)
   all_goals(dsimp only;rw[hyq])
  refine jD 7 rfl ?_;refine vR 8 ?_;refine X4 0 ?_;refine C0 1 J2 ?_;refine D8 2 J2 ?_;refine B7S 0 [0,1,2,3,4,5,6,7] [(0,.c (.ptr 0 b 0)),(3,.c (.mpt 4 bm)),(11,.c (.own 5 w)),(12,int .i64 L.length),(13,int .i64 q)] ((O1 bd b i).f x++[.mp bm .ent .int (cmp (L.take (q+1))),.own w 216 .lin L]) ?_ (fun fin=>?_)
  rotate_left
  refine B2 [3,5] rfl (by simp) ⟨A8 3 J2 (fun _=>?_),B7a 5 J2 (fun s=>?_),trivial⟩
  ·refine B2 [4,5] rfl (by simp) ⟨A8 4 J2 (fun _=>?_) (hob:=by intro bs;and_intros<;> first|exact trivial|exact hin.1|exact hin.2),B7a 5 J2 (fun s=>?_),trivial⟩
   ·refine E4 5 rfl (B7a 5 J2 (fun s=>?_));refine gG 6 ?_;refine E4 7 rfl (B7b 7 J2 ?_);refine F5 [0,1,2,3,4,5] _ _ _ fin (h:=?wk3)
    case wk3=>
     and_intros<;> (first|exact wk_|refine A6 ?_|skip)
     all_goals first|exact congrArg (HB.mp bm KK.ent VK.int) hf1|exact congrArg (HB.mp bm KK.ent VK.int) hf2
   ·refine gG 6 ?_;refine F7 4 J2 (fun _=>?_) (hob:=by intro bs;and_intros<;> first|exact trivial|exact hin.1|exact hin.2|exact hin2.1|exact hin2.2);refine E4 7 rfl (B7b 7 J2 ?_);refine F5 [0,1,2,3,4,5] _ _ _ fin (h:=?wk4)
    case wk4=>
     and_intros<;> (first|exact wk_|refine A6 ?_|skip)
     all_goals first|exact congrArg (HB.mp bm KK.ent VK.int) hf1|exact congrArg (HB.mp bm KK.ent VK.int) hf2
  ·refine gG 6 ?_;refine E4 3 rfl (C5U 3 J2 ?_);refine F7 4 J2 (fun _=>?_) (hob:=by intro bs;and_intros<;> first|exact trivial|exact hin.1|exact hin.2|exact hin2.1|exact hin2.2);refine E4 7 rfl (B7b 7 J2 ?_);refine F5 [0,1,2,3,4,5] _ _ _ fin (h:=?wk5)
   case wk5=>
    and_intros<;> (first|exact wk_|refine A6 ?_|skip)
    all_goals first|exact congrArg (HB.mp bm KK.ent VK.int) hf1|exact congrArg (HB.mp bm KK.ent VK.int) hf2
  refine iV ?_;refine A3 J2 [] (fun bs=>?_);refine G3 [0,1,2,3,4,5] (q+1,bm) ⟨by simp only;omega,by simp only;omega⟩ ?wk6
  case wk6=>and_intros<;> (first|exact wk_|refine A6 ?_|skip)
 ·refine A3 J2 [] (fun bs=>?_);refine J8 0 (O1 bd b i) [0,1,2,3] x hx (fun T1=>?_);have he:L.take q=L:=List.take_of_length_le (by omega);rw[he];exact B3 J2 (T1,bm) trivial [0,4]
theorem C1Y {cl sz:Int} {bk:Bs} {t:List (List B0)} {sh:List A7h} {mp:List gJ} {ct:List Int} (h:MOk ⟨cl,sz,bk,t,sh,mp,ct⟩):aA Tryz.prog 61 true [A2N ⟨cl,sz,bk,t,sh,mp,ct⟩] (.x (.c (bv true))):=
 C5.toC (A9D _ h) (fun _ M v B w hv=>by
  cases hv with|c q=>cases q with|pv q=>exact q)
def A0y:C3
 |[.g [.pv (.val (.int .i64 cl)),.pv (.val (.int .i64 sz)),.pv (.val (.string ⟨⟨bk⟩⟩)),.pv (.lst .tbl t),.pv (.lst .sht sh),.pv (.lst .bms mp),.pv (.lst (.ints .i64) ct)]]=>some (MOk ⟨cl,sz,bk,t,sh,mp,ct⟩,true,.x (.c (bv true)))
 |_=>none
theorem A7P:E9 Tryz.prog 61 A0y:=by
 intro args pre sh rv h hp;unfold A0y at h;split at h
 ·cases h;exact C1Y hp
 ·cases h
def nV:FuncId→Option C3:=D6 61 A0y tE
theorem dC:G4 Tryz.prog nV:=B8 A7P gB
theorem B7g (l m:vS):aK (l++m)=aK l+aK m:=by simp[aK,szs,List.sum_append]
theorem DOk.new {d:H8} (h:DOk d) {nm:Bs} (hf:H9 d.files nm=none) (hl:d.files.length<32) (b:Nat):DOk (A6V d nm b):=by
 have e:C1 (kk:=KK.str) d.files nm (⟨b,[]⟩:P7)=d.files++[(nm,⟨b,[]⟩)]:=dL hf;refine⟨fun p hp=>?_,?_,?_,h.rm,h.lg⟩
 ·have hp:p∈C1 (kk:=KK.str) d.files nm (⟨b,[]⟩:P7):=hp;rw[e]at hp;rcases List.mem_append.1 hp with hp|hp
  ·exact h.fl p hp
  ·rw[List.mem_singleton.1 hp];exact Nat.zero_le _
 ·show(C1 (kk:=KK.str) d.files nm (⟨b,[]⟩:P7)).length≤32;rw[e,List.length_append];simp;omega
 ·show aK (C1 (kk:=KK.str) d.files nm (⟨b,[]⟩:P7))+70≤d.room;rw[e,B7g];have:=h.room;have h0:aK [(nm,(⟨b,[]⟩:P7))]=0:=by simp[aK,szs]
  rw[h0];omega
theorem A9a (j:Int):L2 [] j=K4:=by
 unfold L2;split
 ·rfl
 ·simp[leaf,List.getD]
def Z8 (cl sz:Int) (bk:Bs):X7:=⟨cl,sz,bk,[],[],[],[]⟩
theorem gm0 {cl sz:Int} {bk:Bs} (h:MOk (Z8 cl sz bk)) (hs:sz≤16):GM (Z8 cl sz bk):=⟨h,rfl,hs,fun j=>by
 show L1 .u32 (L2 [] j).sum;rw[A9a];exact⟨by decide,by decide⟩⟩
theorem im0 {cl sz:Int} {bk nm:Bs} {b:Nat} (h:MOk (Z8 cl sz bk)) (hs:sz≤16) (ch:Bool):P8 ⟨b,[]⟩ ⟨nm,Z8 cl sz bk,Z8 cl sz bk,[],⟨0,0,0,0⟩,ch,0,[]⟩ (fun _=>none) 0:=by
 have hg:=gm0 h hs;have hno:∀j:Nat,Z7 (L2 (Z8 cl sz bk).t j)≠true:=fun j e=>by
  have e:Z7 (L2 [] j)=true:=e;rw[A9a]at e;exact absurd e (by decide)
 refine⟨hg,hg,fun _ hm=>(by cases hm),Nat.zero_le _,fun _ hm=>(by cases hm),(by simp),(by omega),⟨eX.zero _,eX.zero _⟩,⟨Int.le_refl _,Int.le_refl _⟩,fun h=>absurd rfl h,fun k _=>?_,fun j hj=>absurd hj (hno j),fun _ hm=>(by cases hm),fun j hj=>absurd hj (hno j),Nat.le_refl _,Nat.le_refl _⟩;show(L2 [] k).kind=0;rw[A9a];rfl
def kO:D9:=⟨T,nV,A7,A9,51,[],none,.f⟩
theorem A7Q:B1 Tryz.prog kO:=⟨dC,A2,A4⟩
theorem dU:F0 Tryz.prog kO:=⟨tOk,A7Q⟩
theorem C1Z (bd:Nat) (d:H8) (S:Nat→Prop) (c0:UInt8) (hc0:97≤c0.toNat∧c0.toNat≤122) (cl sz:Int) (bk:Bs) (hok:MOk (Z8 cl sz bk)) (hsz:sz≤16) (hf:H9 d.files [c0]=none) (hd:DOk d) (hl:d.files.length<32):C5 Tryz.prog 28 [.c (.ptr 0 bd 0),str [c0],int .i64 cl,int .i64 sz,str bk] [D3 bd d S] (fun y:((Nat→Prop)×(Nat→Prop))×Nat×P7×iZ×Nat=>P8 y.2.2.1 ⟨[c0],Z8 cl sz bk,Z8 cl sz bk,[],y.2.2.2.1,false,0,[]⟩ (fun _=>none) 1∧y.2.2.2.2≤d.lg+60) (fun y=> .t [.c (.ptr 1 y.2.1 0),int .i64 0]) (fun y=>[D3 bd ⟨d.room,C1 d.files [c0] y.2.2.1,y.2.2.2.2⟩ y.1.2,L5 bd y.2.1 ⟨[c0],Z8 cl sz bk,Z8 cl sz bk,[],y.2.2.2.1,false,0,[]⟩ y.1.1]):=by
 refine I6 (E:=kO) Tryz.func28 (fun M0 W hM0=>?_);have hg:=gm0 hok hsz;have hok2:MOk ⟨cl,sz,bk,[],[],[],[]⟩:=hok;have hlg:=hd.lg;refine J3 dU (fun _=>some false) [false] (fun bs=>?_) (fun bs=>?_)
 ·and_intros<;> first|exact trivial|exact rfl|omega|exact hok2|exact hc0.1|exact hc0.2
 refine A5 [0] (B9w bd d S c0 [] hf (by simp) hl (by omega)) (fun p _=>?_);refine A3 dU [false] (fun bs=>?_);refine A5 [0] (C5T bd (A6V d [c0] p.1) p.2 [c0] (Z8 cl sz bk) ⟨0,0,0,0⟩ hg.plain) (fun q _=>?_);refine N0 2 (fun x hx=>?_);refine A3 dU [] (fun bs=>?_);refine J8 2 (O1 bd q.1 ⟨[c0],Z8 cl sz bk,Z8 cl sz bk,[],⟨0,0,0,0⟩,true,0,[]⟩) [2,3,4,5] x hx (fun T1=>?_);have hfn:H9 (A6V d [c0] p.1).files [c0]=some ⟨p.1,[]⟩:=A6T;refine A5 [2,0] (C4O bd q.1 ⟨[c0],Z8 cl sz bk,Z8 cl sz bk,[],⟨0,0,0,0⟩,true,0,[]⟩ T1 (A6V d [c0] p.1) p.2 ⟨p.1,[]⟩ hfn (fun _=>none) 0 (im0 hok hsz true) (by omega) (hd.new hf hl p.1) rfl) (fun y hy=>?_)
 refine A3 dU [false] (fun bs=>?_);have hset:C1 (A6V d [c0] p.1).files [c0] y.2.1=C1 d.files [c0] y.2.1:=set_set;rw[hset];exact B3 dU (y.1,q.1,y.2.1,y.2.2.1,y.2.2.2) ⟨hy.1,hy.2.2⟩ [0,2]
def C5a (i:X1) (n:Nat):X7:=⟨i.m.cl,i.m.size,i.m.bk,i.m.t,[],[],aP (F3 i.m.t) n⟩
def tH:D9:=⟨T,nV,A7,A9,31,[],none,.f⟩
theorem B3R:B1 Tryz.prog tH:=⟨dC,A2,A4⟩
theorem kP:F0 Tryz.prog tH:=⟨tOk,B3R⟩
theorem A0z (bd b:Nat) (i:X1) (T:Nat→Prop) (d:H8) (S:Nat→Prop) (f:P7) (hf:H9 d.files i.nm=some f) (v:Nat→Option Bs) (N:Nat) (h:P8 f i v N):C5 Tryz.prog 32 [.c (.ptr 0 b 0)] [L5 bd b i T,D3 bd d S] (fun _=>True) (fun _:(Nat→Prop)×(Nat→Prop)=>A2N (C5a i f.now.length)) (fun y=>[L5 bd b i y.1,D3 bd d y.2]):=by
 refine I6 (E:=tH) Tryz.func32 (fun M0 W hM0=>?_);have hl6:=h.l6;have hpl:=h.gm.plain;have hsh:=h.gm.ok.sh;have hmp:=h.gm.ok.mp;have htl:=hpl.tl;have htf:=hpl.hf;refine A3 kP [false] (fun bs=>?_);refine N0 0 (fun x hx=>?_);refine rD kP 13 [0,1,3,7,0,16,48,112,255,511,1023,1023,2047,8191] 8 [1] [0,2] (B0R bd d S i.nm f hf) (fun S1 _=>?_);refine J3 kP (fun _=>none) [] (fun bs=>?_) (fun bs=>?_)
 ·and_intros<;> first|exact trivial|exact rfl|exact hsh|exact hmp|exact htl|exact htf
 refine A5 [] (cOf ⟨i.m.cl,i.m.size,i.m.bk,i.m.t,[],[],[]⟩ ⟨rfl,rfl,htl,hpl.tf⟩ (Z6 h.gm.rt) f.now.length (by omega)) (fun w _=>?_);refine G1 7 [28] rfl ⟨rfl,trivial⟩ ?_;refine A3 kP [] (fun bs=>?_);refine J8 0 (O1 bd b i) [0,3,4,5] x hx (fun T1=>?_);exact B3 kP (T1,S1) trivial [0,1]
def nW:D9:=⟨T,nV,A7,A9,31,[],none,.f⟩
theorem A9b:B1 Tryz.prog nW:=⟨dC,A2,A4⟩
theorem gH:F0 Tryz.prog nW:=⟨tOk,A9b⟩
theorem nX (bd b:Nat) (i:X1) (T:Nat→Prop) (h:GM i.m):C5 Tryz.prog 67 [.c (.ptr 0 b 0),str []] [L5 bd b i T] (fun _=>True) (fun _:Nat→Prop=> .t [int .i64 i.m.size,int .i64 i.m.cl,bool true]) (fun T=>[L5 bd b i T]):=by
 refine I6 (E:=nW) Tryz.func67 (fun M0 W hM0=>?_);have hp:=P5 h.ok.c;have hc:=h.ok.c;have hs:=h.ok.s;have hz:=h.sz;have hmul:i.m.size / 2 ^ i.m.cl.toNat*2 ^ i.m.cl.toNat=i.m.size:=by have:=h.n.2.2;rw[h.n.1]at this;exact this
 refine A3 gH [false] (fun bs=>?_);refine A5 [0] (C4H bd b i T h.ok.c h.ok.s) (fun T1 _=>?_);refine N0 0 (fun x hx=>?_);refine A3 gH [] (fun bs=>?_);refine mC gH 15 [0,0,2,6,14,30,63,0,128,384,896,1920,0,127,12287,32767] [] (fun bs=>?_) (fun bs=>?_)
 ·and_intros<;> first|exact trivial|exact rfl|omega|(show i.m.cl≤64;omega)|(rw[hmul];omega)
 refine A3 gH [] (fun bs=>?_);refine J8 0 (O1 bd b i) [0,1,2,3] x hx (fun T2=>?_);refine B3 gH T2 trivial [0] (hr:=?hr)
 case hr=>
  and_intros<;> (first|exact wk_|refine A6 ?_|skip)
  all_goals first|exact hmul
def tJ:D9:=⟨T,nV,A7,A9,100,[],none,.f⟩
theorem B3S:B1 Tryz.prog tJ:=⟨dC,A2,A4⟩
theorem G6:F0 Tryz.prog tJ:=⟨tOk,B3S⟩
theorem C2f (bd b:Nat) (i:X1) (T:Nat→Prop) (d:H8) (S:Nat→Prop) (f:P7) (hf:H9 d.files i.nm=some f) (v:Nat→Option Bs) (N:Nat) (h:P8 f i v N):C5 Tryz.prog 284 [.c (.ptr 0 b 0)] [L5 bd b i T,D3 bd d S] (fun y:((Nat→Prop)×(Nat→Prop))×Value×List Int=>y.2.2.length=f.now.length∧∀k,k<f.now.length→I5 (F3 i.m.t) k≠0→y.2.2.getD k 0≠0) (fun y=> .c (.own 2 y.2.1)) (fun y=>[L5 bd b i y.1.1,D3 bd d y.1.2,.own y.2.1 3 (.ints .i64) y.2.2]):=by
 refine I6 (E:=tJ) Tryz.func284 (fun M0 W hM0=>?_);have hl6:=h.l6;have hhl:=h.hl;obtain⟨n,hn⟩:∃n,n=f.now.length:=⟨_,rfl⟩
 refine A3 G6 [] (fun bs=>?_);refine N0 0 (fun x hx=>?_);refine rD G6 13 [0,1,3,7,0,16,48,112,255,511,1023,1023,2047,8191] 8 [1] [0] (B0R bd d S i.nm f hf) (fun S1 _=>?_);refine A3 G6 [] (fun bs=>?_);refine A5 [] (cOf i.m h.gm.plain (Z6 h.gm.rt) n (by omega)) (fun w _=>?_) (hsim:=?hs1)
 case hs1=>
  and_intros<;> (first|exact wk_|refine A6 ?_|skip)
  all_goals omega
 refine A3 G6 [] (fun bs=>?_);refine X3 [0,2,3,4,1,5] [(0,.c (.ptr 0 b 0)),(3,int .i64 n),(5,.c (.own 5 w))] ((O1 bd b i).f x++[D3 bd d S1,.own w 3 (.ints .i64) (aP (F3 i.m.t) n)]) ?_ (h:=?wk0)
 case wk0=>
  and_intros<;> (first|exact wk_|refine A6 ?_|skip)
  all_goals omega
 refine jD 6 rfl ?_;refine vR 12 ?_;refine X4 0 ?_;refine X4 5 ?_;refine X4 11 ?_;refine C2 1 ?_;refine C2 6 ?_;refine C0 2 G6 ?_;refine C0 7 G6 ?_;refine D8 3 G6 ?_;refine D8 8 G6 ?_;refine F7 4 G6 (fun _=>?_);refine F7 9 G6 (fun _=>?_);refine F7 10 G6 (fun _=>?_);refine nS (X:=Value) (fun _=>True) 0 [0,1,2,3,4,5,6,7,8,9,10,11] (fun z=>[(0,.c (.ptr 0 b 0)),(3,int .i64 n),(5,.c (.own 5 w)),(38,.c (.own 6 z)),(39,int .i64 (i.kept::i.held).length),(40,int .i64 0)]) (fun z=>(O1 bd b i).f x++[D3 bd d S1,.own w 3 (.ints .i64) (aP (F3 i.m.t) n),.own z 82 .mta (i.kept::i.held)]) ?_ (fun fin=>?_)
 rotate_left
 ·refine F5 [0,1,2,3,4,5,7] _ _ _ (fin ?zz trivial) (h:=?wk9)
  case wk9=>
   and_intros<;> (first|exact wk_|refine A6 ?_|skip)
 intro z0 _;refine iV ?_;refine A3 G6 [] (fun bs=>?_);obtain⟨ms,hms⟩:∃ms,ms=i.kept::i.held:=⟨_,rfl⟩
 have hml:ms.length≤3:=by rw[hms];simp;omega
 have hmg:∀m∈ms,GM m:=fun m hm=>by
  rw[hms]at hm;rcases List.mem_cons.1 hm with rfl|hm
  ·exact h.gk
  ·exact h.gh m hm
 obtain⟨A,hA⟩:∃A:Nat→Int,A=fun k=>I5 (F3 i.m.t) k+bD ms k:=⟨_,rfl⟩
 have hAk:∀k,0≤A k∧A k≤20000∧(I5 (F3 i.m.t) k≠0→A k≠0):=fun k=>by
  have h1:=h.gm.cnt k;have h2:=A4s hmg k;rw[hA];dsimp only;omega
 refine K3 (fun p:Nat×Value=>[(0,.c (.ptr 0 b 0)),(3,int .i64 n),(5,.c (.own 5 w)),(38,.c (.own 6 p.2)),(39,int .i64 ms.length),(40,int .i64 p.1)]) (fun p=>(O1 bd b i).f x++[D3 bd d S1,.own w 3 (.ints .i64) (M6 n fun k=>I5 (F3 i.m.t) k+bD (ms.take p.1) k),.own p.2 82 .mta ms]) (fun p=>p.1≤ms.length) (fun p=>ms.length-p.1) [0,1,2,3,4,5,6] (0,z0) (Nat.zero_le _) ?wk1 (fun p hq=>?_)
 case wk1=>
  rw[hms]
  and_intros<;> (first|exact wk_|refine A6 ?_|skip)
  all_goals first|exact L3 (fun k hk=>by simp[bD])|omega|(simp;omega)
 obtain⟨q,z⟩:=p;simp only at hq;refine A3 G6 [] (fun bs=>?_);refine I4 rfl rfl (fun hk=>?_) (fun hk=>?_)
 ·have hk:(q:Int)<(ms.length:Nat):=hk;have hq2:q<ms.length:=by omega
  obtain⟨M,hM⟩:∃M,M=ms.getD q LK.mta.dft:=⟨_,rfl⟩
  have hgM:GM M:=by
   rw[hM,List.getD,gE_ hq2];exact hmg _ (List.getElem_mem hq2)
  refine A3 G6 [] (fun bs=>?_);refine A5 [] (cOf M hgM.plain (Z6 hgM.rt) n (by omega)) (fun u _=>?_) (hsim:=?hs2)
  case hs2=>
   rw[hM]
   and_intros<;> (first|exact wk_|refine A6 ?_|skip)
   all_goals first|omega
  refine A3 G6 [] (fun bs=>?_);refine K3 (fun j:Nat=>[(0,.c (.ptr 0 b 0)),(3,int .i64 n),(5,.c (.own 5 w)),(38,.c (.own 6 z)),(39,int .i64 ms.length),(40,int .i64 q),(46,.c (.own 7 u)),(47,int .i64 n),(48,int .i64 j)]) (fun j=>(O1 bd b i).f x++[D3 bd d S1,.own w 3 (.ints .i64) (M6 n fun k=>I5 (F3 i.m.t) k+bD (ms.take q) k+(if k<j then I5 (F3 M.t) k else 0)),.own z 82 .mta ms,.own u 3 (.ints .i64) (aP (F3 M.t) n)]) (fun j=>j≤n) (fun j=>n-j) [0,1,2,3,4,5,6,8] 0 (Nat.zero_le _) ?wk2 (fun j hj=>?_)
  case wk2=>
   and_intros<;> (first|exact wk_|refine A6 ?_|skip)
   all_goals first|omega|exact L3 (fun k hk=>by simp)|(rw[aP,L0];done)
  refine A3 G6 [] (fun bs=>?_);refine I4 rfl rfl (fun hk2=>?_) (fun hk2=>?_)
  ·have hk2:(j:Int)<(n:Nat):=hk2;have hj2:j<n:=by omega
   have hA:(M6 n fun k=>I5 (F3 i.m.t) k+bD (ms.take q) k+(if k<j then I5 (F3 M.t) k else 0)).getD j 0=I5 (F3 i.m.t) j+bD (ms.take q) j:=by rw[aO hj2];simp
   have hB:(aP (F3 M.t) n).getD j 0=I5 (F3 M.t) j:=by rw[aP,aO hj2]
   have hb1:=h.gm.cnt j;have hb2:=A4s (ms:=ms.take q) (fun m hm=>hmg m (List.mem_of_mem_take hm)) j;have hb3:=hgM.cnt j;have hlt:(ms.take q).length≤3:=by rw[List.length_take];omega
   have hin:L1 .i64 ((M6 n fun k=>I5 (F3 i.m.t) k+bD (ms.take q) k+(if k<j then I5 (F3 M.t) k else 0)).getD j 0+(aP (F3 M.t) n).getD j 0):=by
    rw[hA,hB];simp only[L1,IntKind.bits];constructor<;> omega
   refine Q2 G6 [] (fun bs=>?_) (fun bs=>?_)
   ·and_intros<;> first|exact trivial|omega|(simp only[aP,L0];omega)|exact hin.1|exact hin.2|exact rfl
   refine G3 [0,1,2,3,4,5,6,7] (j+1) ⟨hj2,by omega⟩ ?wk3
   case wk3=>
    and_intros<;> (first|exact wk_|refine A6 ?_|skip)
    all_goals
     rw[Int.toNat_natCast];refine pT (i:=j) _ ?_ (fun k hk=>?_)
     ·refine Eq.trans ?_ (C5Y hA hB).symm;simp only[if_pos (Nat.lt_succ_self j)]
     ·have:(k<j+1)↔(k<j):=by omega
      simp only[this]
  ·refine A3 G6 [] (fun bs=>?_);refine G3 [0,1,2,3,4,5,6] (q+1,z) ⟨hq2,by omega⟩ ?wk4
   case wk4=>
    and_intros<;> (first|exact wk_|refine A6 ?_|skip)
    all_goals
     refine L3 (fun k hk=>?_);rw[A3J hq2,if_pos (by omega),←hM,Int.add_assoc]
 ·refine A3 G6 [] (fun bs=>?_);have hk:¬((q:Int)<(ms.length:Nat)):=hk;have hqe:ms.take q=ms:=List.take_of_length_le (by omega);rw[hqe];refine X3 [0,1,2,3,4,5] [(0,.c (.ptr 0 b 0)),(3,int .i64 n),(5,.c (.own 5 w)),(67,bool (!decide (i.last.seq=0)))] ((O1 bd b i).f x++[D3 bd d S1,.own w 3 (.ints .i64) (M6 n A)]) ?_ (h:=?wk5)
  case wk5=>
   rw[hA]
   and_intros<;> (first|exact wk_|refine A6 ?_|skip)
  refine C6 rfl rfl (fun hs=>?_) (fun hs=>?_)
  ·have hs:i.last.seq≠0:=by simpa using hs
   obtain⟨h1,h2,h3,h4⟩:=h.ls hs;obtain⟨st,hst⟩:=Int.eq_ofNat_of_zero_le (show 0≤i.last.start by omega);refine A3 G6 [] (fun bs=>?_);refine K3 (fun j:Nat=>[(0,.c (.ptr 0 b 0)),(3,int .i64 n),(5,.c (.own 5 w)),(10,int .i64 j)]) (fun j=>(O1 bd b i).f x++[D3 bd d S1,.own w 3 (.ints .i64) (M6 n fun k=>A k+fN (decide (st≤k) && decide (k<j)))]) (fun j=>st≤j∧j≤max n st) (fun j=>n-j) [0,1,2,3,4,5] st ⟨Nat.le_refl _,by omega⟩ ?wk6 (fun j hj=>?_)
   case wk6=>
    and_intros<;> (first|exact wk_|refine A6 ?_|skip)
    all_goals first|exact hst|exact L3 (fun k hk=>by
     have:(decide (st≤k) && decide (k<st))=false:=by
      by_cases h:st≤k<;> simp[h]<;> omega
     rw[this];simp[fN])
   refine A3 G6 [] (fun bs=>?_);refine mC G6 17 [0,0,0,4,12,28,60,0,128,384,896,1920,3968,8064,16256,32764,65534,131071] [] (fun bs=>?_) (fun bs=>?_)
   ·and_intros<;> first|exact trivial|omega|exact rfl
   refine A3 G6 [] (fun bs=>?_);refine I4 rfl rfl (fun hk2=>?_) (fun hk2=>?_)
   ·have hk2:(j:Int)<min (n:Int) (i.last.start+(i.last.count+16-1) / 16):=hk2;have hj2:j<n:=by omega
    have hA2:(M6 n fun k=>A k+fN (decide (st≤k) && decide (k<j))).getD j 0=A j:=by
     rw[aO hj2];simp[fN]
    have hb:=hAk j;have hin:L1 .i64 ((M6 n fun k=>A k+fN (decide (st≤k) && decide (k<j))).getD j 0+1):=by
     rw[hA2];simp only[L1,IntKind.bits];constructor<;> omega
    refine Q2 G6 [] (fun bs=>?_) (fun bs=>?_)
    ·and_intros<;> first|exact trivial|omega|(simp only[L0];omega)|exact hin.1|exact hin.2|exact rfl
    refine G3 [0,1,2,3,4,5] (j+1) ⟨⟨by omega,by omega⟩,by omega⟩ ?wk7
    case wk7=>
     and_intros<;> (first|exact wk_|refine A6 ?_|skip)
     all_goals
      rw[Int.toNat_natCast];refine pT (i:=j) _ ?_ (fun k hk=>?_)
      ·refine Eq.trans ?_ (congrArg (·+1) hA2).symm;have:(decide (st≤j) && decide (j<j+1))=true:=by simp;omega
       simp only[this,fN,if_true]
      ·have:decide (k<j+1)=decide (k<j):=decide_eq_decide.2 (by omega);simp only[this]
   ·refine A3 G6 [] (fun bs=>?_);refine J8 0 (O1 bd b i) [0,1,2,3] x hx (fun T1=>?_);refine B3 G6 ((T1,S1),w,M6 n fun k=>A k+fN (decide (st≤k) && decide (k<j))) ⟨by rw[L0];exact hn,fun k hk hc=>?_⟩ [0,4,5];rw[aO (by omega)];have h5:=hAk k;have h6:=h5.2.2 hc;dsimp only[fN];split<;> omega
  ·refine A3 G6 [] (fun bs=>?_);refine J8 0 (O1 bd b i) [0,1,2,3] x hx (fun T1=>?_);exact B3 G6 ((T1,S1),w,M6 n A) ⟨by rw[L0];exact hn,fun k hk hc=>by rw[aO (by omega)];exact(hAk k).2.2 hc⟩ [0,4,5]
structure Wh (cl:Int) (x:Bs) (k ct z:Int) (wt:Bs):Prop where
 c1:1≤ct
 c2:ct≤64
 len:wt.length=16*ct.toNat
 may:∀st sm:Int,2≤st→st≤60000→U6 k st ct z sm cl=true
 kd:(k=2∧wt=x)∨(k=3∧0≤z∧z≤ct*16∧Pk [] (wt.take z.toNat) x)
theorem Wh.raw {cl:Int} {x:Bs} (hc:0≤cl∧cl≤6) (hx:x.length=16*2 ^ cl.toNat):Wh cl x 2 (2 ^ cl.toNat) 0 x:=by
 have hp:=P5 hc;obtain⟨P,hP⟩:∃P:Nat,P=2 ^ cl.toNat:=⟨_,rfl⟩
 have hP2:(2 ^ cl.toNat:Int)=(P:Int):=by rw[hP];push_cast;rfl
 rw[hP2]at hp⊢;rw[←hP]at hx;refine⟨by omega,by omega,by rw[hx,Int.toNat_natCast],fun st sm h1 h2=>?_,.inl ⟨rfl,rfl⟩⟩;unfold U6;rw[if_neg (by omega),if_neg (by omega),if_pos rfl,hP2];exact decide_eq_true ⟨rfl,rfl,by omega,by omega,by omega⟩
theorem Wh.packed {cl:Int} {x p:Bs} (hc:0≤cl∧cl≤6) (hp:Pk [] p x) (h0:0<p.length) (hl:((p.length:Int)+15) / 16<2 ^ cl.toNat) {n:Nat} (hn:(n:Int)=((p.length:Int)+15) / 16*16-p.length):Wh cl x 3 (((p.length:Int)+15) / 16) p.length (p++List.replicate n 0):=by
 have h64:=(P5 hc).2;obtain⟨P,hP⟩:∃P:Int,P=2 ^ cl.toNat:=⟨_,rfl⟩
 rw[←hP]at hl h64;refine⟨by omega,by omega,by simp only[List.length_append,List.length_replicate];omega,fun st sm h1 h2=>?_,.inr ⟨rfl,by omega,by omega,?_⟩⟩
 ·unfold U6;rw[if_neg (by omega),if_neg (by omega),if_neg (by omega),if_pos rfl,←hP];exact decide_eq_true ⟨by omega,by omega,by omega,by omega,by omega,by omega,by omega,by omega⟩
 ·rw[Int.toNat_natCast,List.take_left];exact hp
theorem C4P {l:List Bs} (a:Nat) {dat:Bs} {n:Nat} (hd:dat.length=16*n) (hn:0<n):gV (fK l a dat n) a n=dat:=by
 have hlen:=dO l a dat n hn;have key:∀j,j≤n→gV (fK l a dat n) a j=dat.take (16*j):=by
  intro j
  induction j with
  |zero=>intro _;simp[gV]
  |succ j ih=>
   intro hj;rw[A6Q jV (by omega),ih (by omega),A4f,if_pos (by omega),show a+j-a=j by omega,show 16*(j+1)=16*j+16 by omega,List.take_add]
 rw[key n (Nat.le_refl _),←hd,List.take_length]
def A3K (i:X1) (e:B0):X1:=⟨i.nm,i.m,i.kept,i.held,i.last,i.ch,i.k+1,e.start::i.gs⟩
structure C5b (f:P7) (i:X1) (v:Nat→Option Bs) (N:Nat) (d:H8) (x:Bs) (e:B0) (f':P7) (lg:Nat):Prop where
 ent:Ent f'.now i.m.cl e x
 ok:P8 f' (A3K i e) v (N+1)
 b:f'.b=f.b
 lg:lg≤d.lg+64
theorem C1a {f:P7} {i:X1} {v:Nat→Option Bs} {N:Nat} (h:P8 f i v N) (hN:N+1≤60) {x:Bs} (hx:x.length=16*2 ^ i.m.cl.toNat) {k ct z:Int} {wt:Bs} (hw:Wh i.m.cl x k ct z wt) {at_:Nat} (h2:2≤at_) (hat:at_≤max 2 f.now.length)
 (hz:∀q,at_≤q→q<at_+ct.toNat→q<f.now.length→I5 (F3 i.m.t) q=0) (d:H8) {lg:Nat} (hlg:lg≤d.lg+64):
 C5b f i v N d x ⟨k,at_,ct,z,H4 wd 0 x⟩ ⟨f.b,fK f.now at_ wt ct.toNat⟩ lg:=by
 have hl6:=h.l6;have hc1:=hw.c1;have hc2:=hw.c2;have hlen:=dO f.now at_ wt ct.toNat (by omega);have hat':=A4f f.now at_ wt;have hmay:=hw.may at_ (H4 wd 0 x) (by omega) (by omega);have hu:L1 .u32 (H4 wd 0 x):=by have:=bK wd 0 x;simp only[L1,IntKind.bits];omega
 have hent:Ent (fK f.now at_ wt ct.toNat) i.m.cl ⟨k,at_,ct,z,H4 wd 0 x⟩ x:=by
  refine⟨hmay,hu,hx,rfl,?_,?_⟩
  ·show((at_:Nat):Int).toNat+ct.toNat≤_;rw[hlen,Int.toNat_natCast];omega
  ·show(k=2∧gV (fK f.now at_ wt ct.toNat) ((at_:Nat):Int).toNat ct.toNat=x)∨_;rw[Int.toNat_natCast];have hcw:gV (fK f.now at_ wt ct.toNat) at_ ct.toNat=wt:=C4P at_ hw.len (by omega);rcases hw.kd with⟨h1,h3⟩|⟨h1,h3,h4,h5⟩
   ·exact .inl ⟨h1,by rw[hcw];exact h3⟩
   ·refine .inr ⟨h1,h3,h4,?_⟩;show Pk [] ((gV (fK f.now at_ wt ct.toNat) ((at_:Nat):Int).toNat ct.toNat).take z.toNat) x;rw[Int.toNat_natCast,hcw];exact h5
 have hge:f.now.length≤(fK f.now at_ wt ct.toNat).length:=by rw[hlen];omega
 refine⟨hent,⟨h.gm,h.gk,h.gh,h.hl,A4g h.sec hw.len _ (Nat.le_refl _),?_,hN,⟨?_,?_⟩,⟨h.seq.1,by have:=h.seq.2;dsimp only[A3K];omega⟩,fun hs=>?_,fun q hq=>?_,fun j hj=>?_,fun m hm j hj=>?_,fun j hj=>List.mem_cons_of_mem _ (h.gs j hj),?_,?_⟩,rfl,hlg⟩
 ·show(fK f.now at_ wt ct.toNat).length≤_;rw[hlen];have:=h.len;omega
 ·show eX ((fK f.now at_ wt ct.toNat).getD 0 jV) _;rw[hat',if_neg (by omega)];exact h.head.1
 ·show eX ((fK f.now at_ wt ct.toNat).getD 1 jV) _;rw[hat',if_neg (by omega)];exact h.head.2
 ·have:=h.ls hs;refine⟨this.1,this.2.1,this.2.2.1,Int.le_trans this.2.2.2 ?_⟩;show(f.now.length:Int)≤((fK f.now at_ wt ct.toNat).length:Nat);omega
 ·have h1:=h.vw q hq;show kN (fK f.now at_ wt ct.toNat) i.m.cl (L2 i.m.t q) (v q);cases hv:v q with
  |none=>rw[hv]at h1;exact h1
  |some y=>
   rw[hv]at h1;refine h1.imp_right fun h1=>h1.keep hge (fun p h3 h4=>?_)
   have h5:=bC h1.may h1.has;have h6:=h5.1.st;have h7:=h1.n;rw[hat'];split
   ·rename_i hp;exact absurd (hz p hp.1 hp.2 (by omega)) (B0q h1.has (by omega) (by omega))
   ·rfl
 ·have:=h.kr j hj;show _≤(((fK f.now at_ wt ct.toNat).length:Nat):Int);exact Int.le_trans this (by omega)
 ·have:=h.hr m hm j hj;show _≤(((fK f.now at_ wt ct.toNat).length:Nat):Int);exact Int.le_trans this (by omega)
 ·have:=h.gl;simp only[A3K,List.length_cons];omega
 ·have:=h.kn;simp only[A3K];omega
def A1A:D9:=⟨T,nV,A7,A9,5,[],none,.t⟩
theorem B7h:B1 Tryz.prog A1A:=⟨dC,A2,A4⟩
theorem C1b:F0 Tryz.prog A1A:=⟨tOk,B7h⟩
theorem C1c (x:Int):aA Tryz.prog 263 false [int .u8 x] (.x (.c (bv (!decide (x=0))))):=by
 refine cJ (E:=A1A) Tryz.func263 (fun M0 W hM0=>?_);refine A3 C1b [] (fun bs=>?_);exact D5 tOk hM0 rfl rfl ⟨trivial,trivial⟩ rfl
abbrev nzA:A:= .c (.clo 263 [])
def A9c:C3
 |[.c (.pv (.val (.int .u8 x)))]=>some (True,false,.x (.c (bv (!decide (x=0)))))
 |_=>none
theorem B3T:E9 Tryz.prog 263 A9c:=by
 intro args pre sh rv h hp;unfold A9c at h;split at h
 ·cases h;exact C1c _
 ·cases h
def O6:FuncId→Option C3:=D6 263 A9c nV
theorem J6:G4 Tryz.prog O6:=B8 B3T dC
def A1B:D9:=⟨T,O6,A7,A9,19,[],none,.f⟩
theorem B7i:B1 Tryz.prog A1B:=⟨J6,A2,A4⟩
theorem eZ:F0 Tryz.prog A1B:=⟨tOk,B7i⟩
theorem C6q (b:Bs) (hb:b.length≤1000000):C5 Tryz.prog 224 [lst .byt b,nzA] [] (fun i:Int=>(i= -1∧∀x∈b,x=0)∨(0≤i∧∃x∈b,x≠0)) (fun i=>int .i64 i) (fun _=>[]):=by
 refine I6 (E:=A1B) Tryz.func224 (fun M0 W hM0=>?_);refine A3 eZ [] (fun bs=>?_);refine V3 (fun i:Nat=>[(0,lst .byt b),(1,nzA),(7,int .i64 b.length),(8,int .i64 i)]) (fun _=>[]) (fun i=>i≤b.length∧∀j,j<i→b.getD j 0=0) (fun i=>b.length-i) [] 0 ⟨Nat.zero_le _,fun j hj=>absurd hj (Nat.not_lt_zero _)⟩ (fun i hi=>?_);refine A3 eZ [] (fun bs=>?_);refine I4 rfl rfl (fun hk=>?_) (fun hk=>?_)
 ·have hk:(i:Int)<(b.length:Nat):=hk;have hi2:i<b.length:=by omega
  have hge:b.getD i 0=b[i]:=by rw[List.getD,gE_ hi2];rfl
  refine A3 eZ [] (fun bs=>?_);refine C6 (b:= !decide (((b.getD i LK.byt.dft).toNat:Int)=0)) rfl rfl (fun hc=>?_) (fun hc=>?_)
  ·refine A3 eZ [] (fun bs=>?_);have hne:b.getD i 0≠0:=fun e=>by
    have e':b.getD i LK.byt.dft=0:=e;rw[e']at hc;exact absurd hc (by decide)
   exact B3 eZ (i:Int) (.inr ⟨by omega,b[i],List.getElem_mem hi2,by rw[←hge];exact hne⟩) []
  ·refine A3 eZ [] (fun bs=>?_);have hz:b.getD i 0=0:=by
    have hc:(!decide (((b.getD i 0).toNat:Int)=0))=false:=hc;have h2:((b.getD i 0).toNat:Int)=0:=by simpa using hc
    exact UInt8.toNat_inj.1 (by show(b.getD i 0).toNat=0;omega)
   refine I0 [] (i+1) ⟨⟨hi2,fun j hj=>?_⟩,by omega⟩;by_cases e:j=i
   ·rw[e];exact hz
   ·exact hi.2 j (by omega)
 ·refine A3 eZ [] (fun bs=>?_);refine B3 eZ (-1) (.inl ⟨rfl,fun x hx=>?_⟩) [];have hk:¬((i:Int)<(b.length:Nat)):=hk;obtain⟨j,hj⟩:=List.getElem?_of_mem hx;have hjl:=(gS_.1 hj).1;have:=hi.2 j (by omega);rw[List.getD,hj]at this;exact this
def A1C:D9:=⟨T,O6,A7,A9,9,[],none,.f⟩
theorem B7j:B1 Tryz.prog A1C:=⟨J6,A2,A4⟩
theorem A4t:F0 Tryz.prog A1C:=⟨tOk,B7j⟩
theorem C6r (b:Bs) (hb:b.length≤1000000):C5 Tryz.prog 154 [lst .byt b,nzA] [] (fun r:Bool=>(r=false∧∀x∈b,x=0)∨(r=true∧∃x∈b,x≠0)) (fun r=>bool r) (fun _=>[]):=by
 refine I6 (E:=A1C) Tryz.func154 (fun M0 W hM0=>?_);refine A3 A4t [] (fun bs=>?_);refine A5 [] (C6q b hb) (fun i hi=>?_);refine A3 A4t [] (fun bs=>?_);refine B3 A4t (decide (0≤i)) ?_ [];rcases hi with⟨h1,h2⟩|⟨h1,h2⟩
 ·exact .inl ⟨by subst h1;rfl,h2⟩
 ·exact .inr ⟨decide_eq_true h1,h2⟩
def A4u:D9:=⟨T,O6,A7,A9,26,[],none,.f⟩
theorem C1d:B1 Tryz.prog A4u:=⟨J6,A2,A4⟩
theorem bE:F0 Tryz.prog A4u:=⟨tOk,C1d⟩
theorem bEq (a b:Bs) (ha:a.length≤1000000) (hb:b.length≤1000000):C5 Tryz.prog 102 [lst .byt a,lst .byt b] [] (fun r:Bool=>r=true↔a=b) (fun r=>bool r) (fun _=>[]):=by
 refine I6 (E:=A4u) Tryz.func102 (fun M0 W hM0=>?_);refine A3 bE [] (fun bs=>?_);refine C6 rfl rfl (fun hc=>?_) (fun hc=>?_)
 ·refine A3 bE [] (fun bs=>?_);exact B3 bE false (by
   have hc:(!decide ((a.length:Int)=(b.length:Nat)))=true:=hc;have:(a.length:Int)≠(b.length:Nat):=by simpa using hc
   exact⟨fun h=>(by cases h),fun h=>absurd (by rw[h]) this⟩) []
 ·have hc:(!decide ((a.length:Int)=(b.length:Nat)))=false:=hc;have hl:(a.length:Int)=(b.length:Nat):=by simpa using hc
  refine A3 bE [] (fun bs=>?_);refine V3 (fun i:Nat=>[(0,lst .byt a),(1,lst .byt b),(12,int .i64 a.length),(13,int .i64 i)]) (fun _=>[]) (fun i=>i≤a.length∧∀j,j<i→a.getD j 0=b.getD j 0) (fun i=>a.length-i) [] 0 ⟨Nat.zero_le _,fun j hj=>absurd hj (Nat.not_lt_zero _)⟩ (fun i hi=>?_);refine A3 bE [] (fun bs=>?_);refine I4 rfl rfl (fun hk=>?_) (fun hk=>?_)
  ·have hk:(i:Int)<(a.length:Nat):=hk;have hi2:i<a.length:=by omega
   refine A3 bE [] (fun bs=>?_);refine R3 bE 8 [0,0,3,7,0,0,48,112,255] [] (fun bs=>?_);refine A3 bE [] (fun bs=>?_);refine C6 rfl rfl (fun hd=>?_) (fun hd=>?_)
   ·refine A3 bE [] (fun bs=>?_);refine B3 bE false ⟨fun h=>(by cases h),fun h=>?_⟩ [];subst h;exact absurd hd (by simp)
   ·refine A3 bE [] (fun bs=>?_);have he:a.getD i 0=b.getD i 0:=by
     have hd:(!decide (((a.getD i 0).toNat:Int)=((b.getD i 0).toNat:Nat)))=false:=hd;have h2:((a.getD i 0).toNat:Int)=((b.getD i 0).toNat:Nat):=by simpa using hd
     exact UInt8.toNat_inj.1 (by omega)
    refine I0 [] (i+1) ⟨⟨hi2,fun j hj=>?_⟩,by omega⟩;by_cases e:j=i
    ·rw[e];exact he
    ·exact hi.2 j (by omega)
  ·refine A3 bE [] (fun bs=>?_);have hk:¬((i:Int)<(a.length:Nat)):=hk;refine B3 bE true ⟨fun _=>?_,fun _=>rfl⟩ [];refine List.ext_getElem (by omega) (fun j h1 h2=>?_);have:=hi.2 j (by omega);rw[List.getD,List.getD,gE_ h1,gE_ h2]at this;exact this
end
end Go.Proofs.YtgmeedgkjlfpeaaGreat
