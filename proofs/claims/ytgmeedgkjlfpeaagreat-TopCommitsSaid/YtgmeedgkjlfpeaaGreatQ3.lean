/-
  The program library and the walks of this claim, part 3 of 6.
-/
import Derived.Test.YtgmeedgkjlfpeaaGreatQ2
import Derived.Test.YtgmeedgkjlfpeaaGreatChecked
import Derived.Tactics
import Derived.Tactics2
import Derived.Laws.Pointers
import Derived.Laws.LoneSync
import Derived.Defers
import Derived.RegionTactic
import Derived.RegionCalls
import Derived.ChangeAlike
set_option linter.unusedSimpArgs false
set_option linter.unusedVariables false
set_option maxHeartbeats 4000000
namespace Go.Mt
open Go.RowKit
noncomputable section
def A6W (ns:List Nat) (H0:Nat→Option HB) (nx0:Nat):Nat→Option HB:=fun n=>match F8 n ns with
 |true=>none
 |false=>match Nat.blt n nx0 with
  |true=>H0 n
  |false=>none
def A6X (res:Nat→Option DR) (j:Nat) (r:Option DR):Nat→Option DR:=fun i=>match Nat.beq i j with
 |true=>r
 |false=>res i
def B1i (E:E4) (kn:Nat→Option Bool) (ops:List Oper) (ms:List Nat) (j0:Nat) (f0:Nat→Option Ent) (H0 HU:Nat→Option HB):List Oper→Nat→(Nat→Option DR)→Prop→Option ((Nat→Option DR)×Prop)
 |[],_,res,p=>some (res,p)
 |o::l,j,res,p=>match Nat.beq j j0 || U1 ms j0 j with
  |true=>B1i E kn ops ms j0 f0 H0 HU l (j+1) res p
  |false=>match cP E kn ops (C9 ops ops) j (mF ops ms f0 res j) (match U1 ms j j0 with|true=>H0|false=>HU) 0 o undef with
   |some (e,ob,none,none)=>B1i E kn ops ms j0 f0 H0 HU l (j+1) (A6X res j (some (e,ob,none,none))) (p∧ob)
   |_=>none
def B1j (E:E4) (kn:Nat→Option Bool) (ops:List Oper) (ms:List Nat) (j0:Nat) (f0:Nat→Option Ent) (H1:Nat→Option HB):List Oper→Nat→(Nat→Option DR)→Prop→Option ((Nat→Option DR)×Prop)
 |[],_,res,p=>some (res,p)
 |o::l,j,res,p=>match U1 ms j0 j with
  |false=>B1j E kn ops ms j0 f0 H1 l (j+1) res p
  |true=>match cP E kn ops (C9 ops ops) j (mF ops ms f0 res j) H1 0 o undef with
   |some (e,ob,none,none)=>B1j E kn ops ms j0 f0 H1 l (j+1) (A6X res j (some (e,ob,none,none))) (p∧ob)
   |_=>none
section
variable {P : Program} {E : E4} {B : Nat → Prop} {W : World} {M0 M : B8} {Q : Exit → Act → World → Prop} {k : List Z3} {st : St} {a : Act} {w : World} {kn : Nat → Option Bool} {ops : List Oper} {ms : List Nat} {j0 : Nat} {f0 : Nat → Option Ent} {H0 HU H1 : Nat → Option HB}
theorem rP (res:Nat→Option DR) (j:Nat) (r:Option DR):A6X res j r j=r:=by simp[A6X]
theorem pG (res:Nat→Option DR) {j i:Nat} (r:Option DR) (h:i≠j):A6X res j r i=res i:=by
 have:Nat.beq i j=false:=by
  cases hb:Nat.beq i j with
  |false=>rfl
  |true=>rw[Nat.beq_eq]at hb;exact absurd hb h
 simp[A6X,this]
theorem B9p {m:Nat} (hlt:∀k j,j<ops.length→U1 ms k j=true→k<j):∀{l:List Oper} {i:Nat} {res res':Nat→Option DR} {p p':Prop},l=(ops.take m).drop i→B1i E kn ops ms j0 f0 H0 HU l i res p=some (res',p')→
 (∀k,k<i∨m≤k∨k=j0∨U1 ms j0 k=true→res' k=res k)∧(p'→p)∧∀(k:Nat) (o:Oper),i≤k→k<m→ops[k]? =some o→k≠j0→U1 ms j0 k=false→
  ∃e ob,res' k=some (e,ob,none,none)∧cP E kn ops (C9 ops ops) k (mF ops ms f0 res' k) (match U1 ms k j0 with|true=>H0|false=>HU) 0 o undef=some (e,ob,none,none)∧(p'→ob):=by
 intro l
 induction l with
 |nil=>
  intro i res res' p p' hl h;cases h;refine⟨fun _ _=>rfl,id,fun k o h1 h2 h3 _ _=>?_⟩;have:((ops.take m).drop i)[k-i]? =some o:=by rw[List.getElem?_drop,List.getElem?_take,show i+(k-i)=k from by omega,if_pos h2];exact h3
  rw[←hl]at this;cases this
 |cons o l ih=>
  intro i res res' p p' hl h;have hio:(ops.take m)[i]? =some o:=by
   have:=congrArg (fun l=>l[0]?) hl;simp only[List.getElem?_cons_zero,List.getElem?_drop,Nat.add_zero]at this;exact this.symm
  have him:i<m:=by
   rw[List.getElem?_take]at hio;split at hio
   ·assumption
   ·cases hio
  have hio':ops[i]? =some o:=by rw[List.getElem?_take,if_pos him]at hio;exact hio
  have hil:=(gS_.1 hio').1;have hl':l=(ops.take m).drop (i+1):=by
   have:=congrArg List.tail hl;simpa[List.tail_drop]using this
  simp only[B1i]at h;split at h
  ·rename_i hb;rw[Bool.or_eq_true,Nat.beq_eq]at hb;obtain⟨g1,g2,g3⟩:=ih hl' h;refine⟨fun k hk=>g1 k (hk.imp (fun h=>by omega) id),g2,fun k o' h1 h2 h3 h4 h5=>?_⟩;rcases Nat.lt_or_ge i k with hk|hk
   ·exact g3 k o' hk h2 h3 h4 h5
   ·have:k=i:=by omega
    subst this;rcases hb with hb|hb
    ·exact absurd hb h4
    ·rw[h5]at hb;cases hb
  ·rename_i hb;rw[Bool.or_eq_false_iff]at hb;split at h
   ·rename_i e ob hst;obtain⟨g1,g2,g3⟩:=ih hl' h;have hne:i≠j0:=fun e=>by subst e;simp at hb
    refine⟨fun k hk=>?_,fun hp=>(g2 hp).1,fun k o' h1 h2 h3 h4 h5=>?_⟩
    ·have hki:k≠i:=fun e=>by
      subst e;rcases hk with hk|hk|hk|hk
      ·omega
      ·omega
      ·exact hne hk
      ·rw[hb.2]at hk;cases hk
     rw[g1 k (hk.imp (fun h=>by omega) id),pG _ _ hki]
    ·rcases Nat.lt_or_ge i k with hk|hk
     ·exact g3 k o' hk h2 h3 h4 h5
     ·have:k=i:=by omega
      subst this;rw[hio']at h3;cases h3;have e1:res' k=some (e,ob,none,none):=by rw[g1 k (.inl (Nat.lt_succ_self _)),rP]
      refine⟨e,ob,e1,?_,fun hp=>(g2 hp).2⟩;rw[←hst];have:mF ops ms f0 res' k=mF ops ms f0 res k:=pB fun q hq=>by
       have:=hlt q k hil hq;rw[g1 q (.inl (by omega)),pG _ _ (by omega)]
      rw[this]
   ·cases h
theorem B9q {m:Nat} (hlt:∀k j,j<ops.length→U1 ms k j=true→k<j):∀{l:List Oper} {i:Nat} {res res':Nat→Option DR} {p p':Prop},l=(ops.take m).drop i→B1j E kn ops ms j0 f0 H1 l i res p=some (res',p')→
 (∀k,k<i∨m≤k∨U1 ms j0 k=false→res' k=res k)∧(p'→p)∧∀(k:Nat) (o:Oper),i≤k→k<m→ops[k]? =some o→U1 ms j0 k=true→
  ∃e ob,res' k=some (e,ob,none,none)∧cP E kn ops (C9 ops ops) k (mF ops ms f0 res' k) H1 0 o undef=some (e,ob,none,none)∧(p'→ob):=by
 intro l
 induction l with
 |nil=>
  intro i res res' p p' hl h;cases h;refine⟨fun _ _=>rfl,id,fun k o h1 h2 h3 _=>?_⟩;have:((ops.take m).drop i)[k-i]? =some o:=by rw[List.getElem?_drop,List.getElem?_take,show i+(k-i)=k from by omega,if_pos h2];exact h3
  rw[←hl]at this;cases this
 |cons o l ih=>
  intro i res res' p p' hl h;have hio:(ops.take m)[i]? =some o:=by
   have:=congrArg (fun l=>l[0]?) hl;simp only[List.getElem?_cons_zero,List.getElem?_drop,Nat.add_zero]at this;exact this.symm
  have him:i<m:=by
   rw[List.getElem?_take]at hio;split at hio
   ·assumption
   ·cases hio
  have hio':ops[i]? =some o:=by rw[List.getElem?_take,if_pos him]at hio;exact hio
  have hil:=(gS_.1 hio').1;have hl':l=(ops.take m).drop (i+1):=by
   have:=congrArg List.tail hl;simpa[List.tail_drop]using this
  simp only[B1j]at h;split at h
  ·rename_i hb;obtain⟨g1,g2,g3⟩:=ih hl' h;refine⟨fun k hk=>g1 k (hk.imp (fun h=>by omega) id),g2,fun k o' h1 h2 h3 h5=>?_⟩;rcases Nat.lt_or_ge i k with hk|hk
   ·exact g3 k o' hk h2 h3 h5
   ·have:k=i:=by omega
    subst this;rw[hb]at h5;cases h5
  ·rename_i hb;split at h
   ·rename_i e ob hst;obtain⟨g1,g2,g3⟩:=ih hl' h;refine⟨fun k hk=>?_,fun hp=>(g2 hp).1,fun k o' h1 h2 h3 h5=>?_⟩
    ·have hki:k≠i:=fun e=>by
      subst e;rcases hk with hk|hk|hk
      ·omega
      ·omega
      ·rw[hb]at hk;cases hk
     rw[g1 k (hk.imp (fun h=>by omega) id),pG _ _ hki]
    ·rcases Nat.lt_or_ge i k with hk|hk
     ·exact g3 k o' hk h2 h3 h5
     ·have:k=i:=by omega
      subst this;rw[hio']at h3;cases h3;have e1:res' k=some (e,ob,none,none):=by rw[g1 k (.inl (Nat.lt_succ_self _)),rP]
      refine⟨e,ob,e1,?_,fun hp=>(g2 hp).2⟩;rw[←hst];have:mF ops ms f0 res' k=mF ops ms f0 res k:=pB fun q hq=>by
       have:=hlt q k hil hq;rw[g1 q (.inl (by omega)),pG _ _ (by omega)]
      rw[this]
   ·cases h
structure B5B {X:Type} (E:E4) (kn:Nat→Option Bool) (ops:List Oper) (m:Nat) (ms:List Nat) (j0:Nat) (f0:Nat→Option Ent) (H0 HU:Nat→Option HB) (ok:X→Prop) (H1:X→Nat→Option HB) (R0:Nat→Option DR) (R:X→Nat→Option DR):Prop where
 chk:∀(j:Nat) (o:Oper),ops[j]? =some o→A6N E.N ops ms j o
 nd:J3 (yG ops)=true
 le:m≤ops.length
 j0m:j0<m
 tail:∀i,m≤i→i<ops.length→∀k,k<i→U1 ms k i=true
 stA:∀(j:Nat) (o:Oper),j<m→ops[j]? =some o→j≠j0→U1 ms j0 j=false→∃e ob,R0 j=some (e,ob,none,none)∧cP E kn ops (C9 ops ops) j (mF ops ms f0 R0 j) (match U1 ms j j0 with|true=>H0|false=>HU) 0 o undef=some (e,ob,none,none)∧ob
 stX:∀x,ok x→∀(j:Nat) (o:Oper),j<m→ops[j]? =some o→U1 ms j0 j=true→∃e ob,R x j=some (e,ob,none,none)∧cP E kn ops (C9 ops ops) j (mF ops ms f0 (R x) j) (H1 x) 0 o undef=some (e,ob,none,none)∧ob
 same:∀x j,j≠j0→U1 ms j0 j=false→R x j=R0 j
 u0:jE HU H0
 u1:∀x,jE HU (H1 x)
theorem inst_any {u:Value} (v:Value) {rv:RV} (h:(inst 0 u rv).2=none):inst 0 v rv=inst 0 u rv:=by
 cases rv with
 |x r=>rfl
 |t r=>rfl
 |o e k l=>cases h
 |ot e k l r=>cases h
theorem A3D {f:Nat→Option Ent} {H:Nat→Option HB} {o:Oper} {u:Value} (v:Value) {x:A} {ob:Prop} (h:mK E ops f H 0 o u=some (x,ob,none,none)):mK E ops f H 0 o v=some (x,ob,none,none):=by
 unfold mK at h⊢;cases hp:Q4 E ops [] f H o with
 |some y=>simp only[hp]at h⊢;exact h
 |none=>
  simp only[hp]at h⊢;cases hq:jT ops f o.op with
  |some y=>simp only[hq]at h⊢;exact h
  |none=>
   simp only[hq]at h⊢;unfold aM at h⊢;split at h<;> (repeat' split at h)<;> first|(cases h;done)|(have hh:=h;simp only[Option.some.injEq,Prod.mk.injEq]at hh;rw[inst_any v hh.2.2.1];exact h)|(simp_all;done)
theorem B1k {i:Nat} {f:Nat→Option Ent} {H:Nat→Option HB} {o:Oper} {u:Value} (v:Value) {e:Option Ent} {ob:Prop} (h:cP E kn ops (C9 ops ops) i f H 0 o u=some (e,ob,none,none)):cP E kn ops (C9 ops ops) i f H 0 o v=some (e,ob,none,none):=by
 unfold cP at h⊢;split at h
 ·split at h
  ·rename_i h1;cases h;rw[A3D v h1]
  ·cases h
 ·split at h
  ·cases h
  ·split at h
   ·split at h
    ·split at h
     ·split at h
      ·split at h
       ·rename_i h1 h2;cases h;simp_all[A3D v h2]
       ·cases h
      ·simp_all
     ·simp_all
    ·cases h
   ·exact h
   ·cases h
def RR {X:Type} (R0:Nat→Option DR) (R:X→Nat→Option DR):Option X→Nat→Option DR
 |none=>R0
 |some x=>R x
def HY {X:Type} (H0:Nat→Option HB) (H1:X→Nat→Option HB):Option X→Nat→Option HB
 |none=>H0
 |some x=>H1 x
theorem B9r {X:Type} {m:Nat} {ok:X→Prop} {H1:X→Nat→Option HB} {R0:Nat→Option DR} {R:X→Nat→Option DR} (hT:L9 P E.T) (hΨ:B3 P E) (hF:B5B E kn ops m ms j0 f0 H0 HU ok H1 R0 R)
 (hcall:∀(S S':Nat→Prop) (f:Nat→Option Ent) (nx:Nat) (M:B8) (a:Act) (w:World) (K:Act→World→Prop) (o:Oper),ops[j0]? =some o→jE (mF ops ms f0 R0 j0) f→J2 E.N E.mrk B W M0 ops (C9 ops ops) S ⟨f,H0,nx⟩ M a w→¬S j0→(∀j,S j→S' j)→S' j0→
  (∀x e,ok x→R x j0=some (some e,True,none,none)→∀a' w' M',J2 E.N E.mrk B W M0 ops (C9 ops ops) S' ⟨vX f o.dst (some e),H1 x,nx⟩ M' a' w'→K a' w')→if Region.wanted o (yielded ops.toArray a.tmps)then o.wp P a w K Q else K (a.put o.dst undef) w)
 (hj0:∀x,∃e,R x j0=some (some e,True,none,none))
 (hQ:∀x,ok x→∀M a w,J2 E.N E.mrk B W M0 ops (C9 ops ops) (fun j=>j<m) ⟨jK ops f0 (R x) (ltB m),H1 x,0⟩ M a w→wpList P ops.toArray Q (R5 m ops) a w):
 ∀(fuel:Nat) (listed:Array Bool) (a:Act) (w:World),listed.size=ops.length→(∀j,j<ops.length→H7 listed j=true→∀k,U1 ms k j=true→H7 listed k=true)→(∀j,H7 listed j=true→j<m)→
  ((List.range ops.length).countP (fun j=> !H7 listed j)≤fuel)→(∃(y:Option X) (M:B8),(H7 listed j0=true↔y≠none)∧(∀x,y=some x→ok x)∧J2 E.N E.mrk B W M0 ops (C9 ops ops) (fun j=>H7 listed j=true) ⟨jK ops f0 (RR R0 R y) (H7 listed),HY H0 H1 y,0⟩ M a w)→
  wpAny P .any ops.toArray Q fuel listed a w:=by
 have hblt:=rL hF.chk;have hbtr:=A3B hF.chk;have j0l:j0<ops.length:=by have:=hF.le;have:=hF.j0m;omega
 have fin:∀(fuel:Nat) (listed:Array Bool) (a:Act) (w:World),listed.size=ops.length→(∀j,H7 listed j=true↔j<m)→((List.range ops.length).countP (fun j=> !H7 listed j)≤fuel)→(∃(y:Option X) (M:B8),(H7 listed j0=true↔y≠none)∧(∀x,y=some x→ok x)∧J2 E.N E.mrk B W M0 ops (C9 ops ops) (fun j=>H7 listed j=true) ⟨jK ops f0 (RR R0 R y) (H7 listed),HY H0 H1 y,0⟩ M a w)→wpAny P .any ops.toArray Q fuel listed a w:=by
  intro fuel listed a w hsz hall hcnt ⟨y,M,hy0,hyk,hS⟩;have hd:H7 listed=ltB m:=by
   funext k
   rw[Bool.eq_iff_iff,hall k];unfold ltB;rw[Nat.blt_eq]
  have hle:=hF.le;obtain⟨x,rfl⟩:∃x,y=some x:=by
   cases y with
   |none=>exact absurd rfl (hy0.1 ((hall j0).2 hF.j0m))
   |some x=>exact⟨x,rfl⟩
  refine B0K hF.chk hF.tail (ops.length-m) m (by omega) (Nat.le_refl _) fuel listed a w ?_ hsz (fun k _=>hall k) (hQ x (hyk x rfl) M a w ?_)
  ·refine Nat.le_trans ?_ hcnt;have:∀n,m≤n→n-m≤(List.range n).countP (fun j=> !H7 listed j):=by
    intro n
    induction n with
    |zero=>intro _;omega
    |succ n ih=>
     intro hn;rw[List.range_succ,List.countP_append];by_cases h:m=n+1
     ·omega
     ·have:=ih (by omega);have e:(!H7 listed n)=true:=by
       cases hq:H7 listed n with
       |false=>rfl
       |true=>have:=(hall n).1 hq;omega
      have e2:List.countP (fun j=> !H7 listed j) [n]=1:=by simp[List.countP_cons,e]
      omega
   exact this _ hle
  ·rw[hd]at hS;exact⟨hS.h,hS.old,hS.d,hS.n,hS.f,fun s j b x hx=>⟨by have:=(hS.g s j b x hx).1;unfold ltB at this;rwa [Nat.blt_eq]at this,(hS.g s j b x hx).2⟩⟩
 intro fuel
 induction fuel with
 |zero=>
  intro listed a w hsz X7 hdm hc hI;have hall:∀j,j<ops.length→H7 listed j=true:=by
   intro j hj;have h0:(List.range ops.length).countP (fun j=> !H7 listed j)=0:=by omega
   rw[List.countP_eq_zero]at h0;have:=h0 j (List.mem_range.2 hj);simpa using this
  exact fin 0 listed a w hsz (fun j=>⟨hdm j,fun hj=>hall j (by have:=hF.le;omega)⟩) hc hI
 |succ fuel ih=>
  intro listed a w hsz X7 hdm hc hI;by_cases hpre:∀j,j<m→H7 listed j=true
  ·exact fin (fuel+1) listed a w hsz (fun j=>⟨hdm j,hpre j⟩) hc hI
  have hex:∃j,j<m∧H7 listed j=false:=by
   apply Classical.byContradiction;intro hno;refine hpre fun j hj=>?_
   cases hd:H7 listed j with
   |true=>rfl
   |false=>exact absurd ⟨j,hj,hd⟩ hno
  refine⟨fun hr=>?_,fun i hi=>?_⟩
  ·exfalso;have hall:∀j,j<ops.length→H7 listed j=true:=by
    intro j
    induction j using Nat.strongRecOn with
    |_ j ihj=>
     intro hj;cases hd:H7 listed j with
     |true=>rfl
     |false=>
      exfalso;have hjr:j∈Region.ready .any ops.toArray listed:=by
       refine mem_ready.2 ⟨?_,ops[j],by simp[hj],fun e he hb=>?_⟩
       ·unfold H7 at hd;have hls:j<listed.size:=by omega
        simp[hls]at hd⊢;exact hd
       ·have hm:=gY (l:=ops[j].after.toList) (by simpa using he) hb;have hlt:=(hF.chk j _ (gE_ hj)).lt _ hm;exact ihj e.on hlt (by omega)
      rw[hr]at hjr;cases hjr
   obtain⟨j,hj,hd⟩:=hex;rw[hall j (by have:=hF.le;omega)]at hd;cases hd
  ·obtain⟨hun,o,ho,hall⟩:=mem_ready.1 hi;have ho':ops[i]? =some o:=by simpa using ho
   have hlt:i<ops.length:=(gS_.1 ho').1;have hls:i<listed.size:=by omega
   have hnd:H7 listed i=false:=by unfold H7;simp[hls]at hun⊢;exact hun
   have hck:=hF.chk i o ho';have hbd:∀k,U1 ms k i=true→H7 listed k=true:=by
    intro k hk;obtain⟨e,he,hke⟩:=(hck.bit k).1 hk;obtain⟨ed,q1,q2,q3⟩:=Z4 he;have hde:H7 listed e=true:=by rw[←q3];exact hall ed (by simpa using q1) q2
    rcases hke with rfl|hke
    ·exact hde
    ·exact X7 e (by have:=hck.lt e he;omega) hde k hke
   have him:i<m:=by
    rcases Nat.lt_or_ge i m with h'|h'
    ·exact h'
    ·exfalso;obtain⟨j,hj,hd⟩:=hex;rw[hbd j (hF.tail i h' hlt j (by omega))]at hd;cases hd
   have hdm':∀j,H7 (listed.setIfInBounds i true) j=true→j<m:=by
    intro j hj;rw[K1 hls,Bool.or_eq_true,Nat.beq_eq]at hj;rcases hj with hj|hj
    ·exact hdm j hj
    ·omega
   obtain⟨y,M,hy0,hyk,hS⟩:=hI;have hsz':(listed.setIfInBounds i true).size=ops.length:=by simp[hsz]
   have hcl':∀j,j<ops.length→H7 (listed.setIfInBounds i true) j=true→∀k,U1 ms k j=true→H7 (listed.setIfInBounds i true) k=true:=by
    intro j hj hdj k hk;rw[K1 hls]at hdj⊢;rw[Bool.or_eq_true]at hdj⊢;rcases hdj with hdj|hdj
    ·exact .inl (X7 j hj hdj k hk)
    ·rw[Nat.beq_eq]at hdj;subst hdj;exact .inl (hbd k hk)
   have hc':(List.range ops.length).countP (fun j=> !H7 (listed.setIfInBounds i true) j)≤fuel:=by
    have key:∀(l:List Nat),i∈l→l.countP (fun j=> !H7 (listed.setIfInBounds i true) j)+1≤l.countP (fun j=> !H7 listed j):=by
     intro l;have hle:∀(l:List Nat),l.countP (fun j=> !H7 (listed.setIfInBounds i true) j)≤l.countP (fun j=> !H7 listed j):=by
      intro l;refine List.countP_mono_left fun x _ hx=>?_
      rw[K1 hls]at hx;simp at hx⊢;exact hx.1
     induction l with
     |nil=>intro h;cases h
     |cons x l ihl=>
      intro h;rw[List.countP_cons,List.countP_cons];by_cases hxi:x=i
      ·subst hxi;have e1:(!H7 (listed.setIfInBounds x true) x)=false:=by rw[K1 hls];simp
       have e2:(!H7 listed x)=true:=by rw[hnd];rfl
       rw[e1,e2];simp;exact hle l
      ·have:=ihl ((List.mem_cons.1 h).resolve_left (fun e=>hxi e.symm));have e1:(!H7 (listed.setIfInBounds i true) x)=(!H7 listed x):=by
        rw[K1 hls];have:Nat.beq i x=false:=by
         cases hb:Nat.beq i x with
         |false=>rfl
         |true=>rw[Nat.beq_eq]at hb;exact absurd hb.symm hxi
        rw[this];simp
       rw[e1];omega
    have:=key _ (List.mem_range.2 hlt);omega
   have dlt:∀k,H7 listed k=true→k<ops.length:=fun k hd=>by
    rcases Nat.lt_or_ge k listed.size with h'|h'
    ·omega
    ·unfold H7 at hd;simp[Array.getElem?_eq_none h']at hd
   have lF:∀res:Nat→Option DR,jE (mF ops ms f0 res i) (jK ops f0 res (H7 listed)):=by
    intro res s x hx;simp only[mF]at hx;simp only[jK];split at hx
    ·exact hx
    ·rename_i k hw;obtain⟨ok,_,q2,_⟩:=gA hw;have hkl:k<ops.length:=by have:=(gS_.1 q2).1;simpa using this
     split at hx
     ·rename_i hbk;simp only[hbd k hbk];exact hx
     ·split at hx
      ·rename_i hbk;have:H7 listed k=false:=by
        cases hdk:H7 listed k with
        |false=>rfl
        |true=>
         exfalso;rw[Bool.or_eq_true]at hbk;rcases hbk with hbk|hbk
         ·rw[X7 k hkl hdk i hbk]at hnd;cases hnd
         ·rw[Nat.beq_eq]at hbk;subst hbk;rw[hnd]at hdk;cases hdk
       simp only[this];exact hx
      ·cases hx
   have slots:∀(res:Nat→Option DR) (e:Option Ent),drE (res i)=e→∀f,jE (jK ops f0 res (H7 listed)) f→jE (jK ops f0 res (H7 (listed.setIfInBounds i true))) (vX f o.dst e):=by
    intro res e he f hf s x hx;simp only[jK]at hx;by_cases hd:o.dst=some s
    ·have hw:=A6O (i:=0) hF.nd ho' hd;rw[Nat.zero_add]at hw;rw[hw]at hx;have:H7 (listed.setIfInBounds i true) i=true:=by rw[K1 hls];simp
     simp only[this,he]at hx;rw[hd];simp only[vX,dJ,Nat.beq_refl];exact hx
    ·have hput:vX f o.dst e s=f s:=by
      cases hd2:o.dst with
      |none=>rfl
      |some d=>
       have:Nat.beq s d=false:=by
        cases hb:Nat.beq s d with
        |false=>rfl
        |true=>rw[Nat.beq_eq]at hb;subst hb;exact absurd hd2 hd
       simp only[vX,dJ,this]
     rw[hput];refine hf s x ?_;simp only[jK];split at hx
     ·exact hx
     ·rename_i k hw;have hki:Nat.beq i k=false:=by
       cases hb:Nat.beq i k with
       |false=>rfl
       |true=>
        rw[Nat.beq_eq]at hb;subst hb;obtain⟨ok,_,q2,q3⟩:=gA hw;have:ops[i]? =some ok:=by simpa using q2
        rw[ho']at this;cases this;exact absurd q3 hd
      rw[K1 hls,hki,Bool.or_false]at hx;exact hx
   have notaft:H7 listed j0=false→∀k,H7 listed k=true→k≠j0∧U1 ms j0 k=false:=fun h k hk=>by
    refine⟨fun e=>(by subst e;rw[h]at hk;cases hk),?_⟩;cases hb:U1 ms j0 k with
    |false=>rfl
    |true=>rw[X7 k (dlt k hk) hk j0 hb]at h;cases h
   have main:if Region.wanted o (yielded ops.toArray a.tmps)then o.wp P a w (wpAny P .any ops.toArray Q fuel (listed.setIfInBounds i true)) Q else(wpAny P .any ops.toArray Q fuel (listed.setIfInBounds i true)) (a.put o.dst undef) w:=by
    by_cases hij:i=j0
    ·subst hij;have hy:y=none:=by
      cases y with
      |none=>rfl
      |some x=>have:=hy0.2 (by simp);rw[hnd]at this;cases this
     subst hy;refine hcall _ (fun j=>H7 (listed.setIfInBounds i true) j=true) _ _ M a w _ o ho' (lF R0) hS (by rw[hnd];simp) (fun j hj=>by rw[K1 hls,hj];rfl) (by rw[K1 hls];simp) fun x e hx he a' w' M' hS'=>?_
     refine ih (listed.setIfInBounds i true) a' w' hsz' hcl' hdm' hc' ⟨some x,M',by rw[K1 hls];simp,fun x' hx'=>by cases hx';exact hx,?_⟩;have e1:jK ops f0 R0 (H7 listed)=jK ops f0 (R x) (H7 listed):=A3C fun k _ hk=>(hF.same x k (notaft hnd k hk).1 (notaft hnd k hk).2).symm
     exact hS'.weaken (slots (R x) (some e) (by rw[he];rfl) _ (by rw[←e1];exact fun _ _ h=>h)) (fun _ _ h=>h)
    ·have go:∀(e:Option Ent) (ob:Prop),drE (RR R0 R y i)=e→ob→cP E kn ops (C9 ops ops) i (mF ops ms f0 (RR R0 R y) i) (HY H0 H1 y) 0 o undef=some (e,ob,none,none)→
      (if Region.wanted o (yielded ops.toArray a.tmps)then o.wp P a w (wpAny P .any ops.toArray Q fuel (listed.setIfInBounds i true)) Q else(wpAny P .any ops.toArray Q fuel (listed.setIfInBounds i true)) (a.put o.dst undef) w):=by
      intro e ob he hob hst;refine gR hT hΨ hS (i:=i) (S':=fun j=>H7 (listed.setIfInBounds i true) j=true) (by rw[hnd];simp) (fun j hj=>by rw[K1 hls,hj];rfl) (kn:=kn) (fun j b hg=>hbd j (hck.gd j b hg)) fun u=>?_
      have r5:=mZ (lF (RR R0 R y)) (fun _ _ h=>h) hst;have r5':=B1k u r5;obtain⟨nx',r6⟩:=oZ hck.dst r5';refine⟨_,ob,r6,hob,fun a' w' M' hS'=>?_⟩;refine ih (listed.setIfInBounds i true) a' w' hsz' hcl' hdm' hc' ⟨y,M',?_,hyk,?_⟩
      ·rw[K1 hls];have:Nat.beq i j0=false:=by
        cases hb:Nat.beq i j0 with
        |false=>rfl
        |true=>rw[Nat.beq_eq]at hb;exact absurd hb hij
       rw[this,Bool.or_false];exact hy0
      ·exact hS'.weaken (slots (RR R0 R y) e he _ (fun _ _ h=>h)) (fun _ _ h=>h)
     cases hb:U1 ms j0 i with
     |true=>
      have hd0:=hbd j0 hb;cases y with
      |none=>exact absurd rfl (hy0.1 hd0)
      |some x=>
       obtain⟨e,ob,g1,g2,g3⟩:=hF.stX x (hyk x rfl) i o him ho' hb;exact go e ob (by show drE (R x i)=e;rw[g1];rfl) g3 g2
     |false=>
      obtain⟨e,ob,g1,g2,g3⟩:=hF.stA i o him ho' hij hb;have eR:∀k,k≠j0→U1 ms j0 k=false→RR R0 R y k=R0 k:=fun k h1 h2=>by
       cases y with
       |none=>rfl
       |some x=>exact hF.same x k h1 h2
      have eM:mF ops ms f0 (RR R0 R y) i=mF ops ms f0 R0 i:=pB fun k hk=>eR k (fun e=>by subst e;rw[hk]at hb;cases hb) (by
       cases hb2:U1 ms j0 k with
       |false=>rfl
       |true=>rw[hbtr j0 k i hlt hk hb2]at hb;cases hb)
      refine go e ob (by rw[eR i hij hb,g1];rfl) g3 ?_;rw[eM];refine mZ (fun _ _ h=>h) ?_ g2;cases hb3:U1 ms i j0 with
      |true=>
       have:y=none:=by
        cases y with
        |none=>rfl
        |some x=>
         have:=X7 j0 j0l (hy0.2 (by simp)) i hb3;rw[hnd]at this;cases this
       subst this;exact fun _ _ h=>h
      |false=>
       cases y with
       |none=>exact hF.u0
       |some x=>exact hF.u1 x
   unfold wpOp;simp only[ho];split
   ·rename_i hw;rw[if_pos hw]at main;exact .inl main
   ·rename_i hw;rw[if_neg hw]at main;exact main
theorem B1l {X:Type} {N:Nat} {mrk:MK} {rs:List (Nat×Nat)} {S:Nat→Prop} {H:Nat→Option HB} {f:Nat→Option Ent} {nx:Nat} {o:Oper} {fo:Operand} {args:List Operand} {tys:List TypeId} {fid:Nat} {caps:List C} {az az':List A} {hs:List HB} {ok:X→Prop} {rx:X→A} {hs':X→List HB} {ns:List Nat} {K:Act→World→Prop} {nx0:Nat}
 (hS:J2 N mrk B W M0 ops rs S ⟨f,H,nx⟩ M a w) (hc:C5 P fid az hs ok rx hs') (hsim:vB (az'++caps.map A.c) az) (hl:xV ⟨fun _=>none,H,0⟩ ns hs) (hn:J3 ns=true)
 (ho:o.op= .call ⟨.value fo,⟨args⟩,⟨tys⟩⟩) (hfo:V2 f [] fo=some (.c (.clo fid caps))) (ha:aI (V2 f []) args=some az')
 (hk:∀x,ok x→∀v w' M',B8.ext B M M'→E2 B W (U4 (K3 H ns) (aK ns nx0) (hs' x) 0) M' w'→RA M' (A2Q (aK ns nx0) (rx x)) v→K (a.put o.dst v) w'):o.wp P a w K Q:=by
 obtain⟨H2,g1,g2,g3,g4⟩:=pE hS.h hn hl;have hcl':K3 H2 ns=K3 H ns:=funext fun n=>by
  have key:∀(ns':List Nat) (A B:Nat→Option HB),(∀m,m∉ns'→A m=B m)→K3 A ns' n=K3 B ns' n:=by
   intro ns'
   induction ns' with
   |nil=>intro A B h;exact h n (by simp)
   |cons m l ih=>
    intro A B h;refine ih _ _ (fun q hq=>?_);by_cases e:q=m
    ·subst e;rw[B7,B7]
    ·rw[C2 _ _ e,C2 _ _ e];exact h q (by simp[e,hq])
  exact key ns _ _ g4
 obtain⟨dst,op,ty,pos,aft,guard⟩:=o;simp only at ho;subst ho;have hr:=J6 hS (Γ:=[]) (by simp);have k1:=rM hr _ _ ha;obtain⟨hS1,hback⟩:=B4C g1 (hs:=hs) g2 g3;obtain⟨us,hfv,hus⟩:∃us:List Value,a.eval fo= .func (.func fid) #[] us.toArray∧T7 M caps us:=by
  have:=hr _ _ hfo;cases this with|c h=>
  generalize a.eval fo=v at h;cases h with
  | @clo _ _ us hs hh=>exact⟨us.toList,by simp,by simpa using hs,fun j c u e1 e2=>hh j c u e1 (by simpa using e2)⟩
 have k3:cB M (caps.map A.c) us.toArray:=by
  refine⟨by simpa using hus.1,fun j c u e1 e2=>?_⟩;rw[List.getElem?_map]at e1;cases hc:caps[j]? with
  |none=>rw[hc]at e1;cases e1
  |some x=>rw[hc]at e1;cases e1;exact .c (hus.2 j x u hc (by simpa using e2))
 have k2:cB M az ((args.map a.eval).toArray++us.toArray):=A6T hsim (k1.app k3);obtain⟨⟨fn,q1,q2,q3⟩,hcall⟩:=hc;have hrun:(execOp a.eval ⟨dst,.call ⟨.value fo,⟨args⟩,⟨tys⟩⟩,ty,pos,aft,guard⟩).run P w= .ok (.enter fid ((args.map a.eval).toArray++us.toArray)) w:=by
  have e3':fn.name≠ "runtime.NumGoroutine" :=by simpa using q3
  have e2':fn.body≠none:=by intro e;rw[e]at q2;cases q2
  simp[execOp,resolve,invoke,hfv,Deferred.ofValue,callFunc,q1,e2',e3']
 unfold Oper.wp;rw[hrun,Oper.upon_enter];refine(hcall M w _ hS1 k2).mono fun e w' ⟨v,M',x,he,hM',hok,hv,hS'⟩=>?_
 subst he;obtain⟨hA,hE⟩:=hback M' w' (hs' x) (aK ns nx0) hM' hS';rw[hcl']at hA;exact hk x hok v w' M' hE hA (wE hv)
theorem B1m {ns:List Nat} {nx0 n:Nat} (h1:n∉ns) (h2:n<nx0):∀(L:List HB) (H:Nat→Option HB) (j:Nat),U4 H (aK ns nx0) L j n=H n:=by
 intro L
 induction L with
 |nil=>intro H j;rfl
 |cons x L ih=>
  intro H j;rw[U4,ih];refine C2 _ _ fun e=>?_
  unfold aK at e;rw[G5]at e;cases hj:ns[j]? with
  |some q=>rw[hj]at e;subst e;exact h1 (List.mem_of_getElem? hj)
  |none=>rw[hj]at e;simp only at e;omega
theorem B5C {ns:List Nat} {nx0:Nat}:jE (A6W ns H0 nx0) H0:=fun n x h=>by
 unfold A6W at h;split at h
 ·cases h
 ·split at h
  ·exact h
  ·cases h
theorem B1n {ns:List Nat} {nx0:Nat} (L:List HB):jE (A6W ns H0 nx0) (U4 (K3 H0 ns) (aK ns nx0) L 0):=fun n x h=>by
 unfold A6W at h;split at h
 ·cases h
 ·rename_i hm;split at h
  ·rename_i hb;have hn:n∉ns:=fun e=>by rw[fV e]at hm;cases hm
   rw[B1m hn (by rwa [Nat.blt_eq]at hb),A8M _ _ hn];exact h
  ·cases h
def A6Y (H H':Nat→Option HB):List Nat→Prop
 |[]=>True
 |n::l=>H' n=H n∧A6Y H H' l
theorem B5D {H H':Nat→Option HB}:∀{l:List Nat},A6Y H H' l→∀n,F8 n l=true→H' n=H n:=by
 intro l
 induction l with
 |nil=>intro _ n h;cases h
 |cons m l ih=>
  intro h n hn;by_cases e:n=m
  ·subst e;exact h.1
  ·refine ih h.2 n ?_;simp only[F8,Bool.or_eq_true]at hn;exact hn.resolve_left fun hb=>e (Nat.eq_of_beq_eq_true hb)
def A8P (ns ks:List Nat) (H0:Nat→Option HB) (nx0:Nat):Nat→Option HB:=fun n=>match F8 n ks with
 |true=>H0 n
 |false=>A6W ns H0 nx0 n
theorem B9s {ns ks:List Nat} {nx0:Nat}:jE (A8P ns ks H0 nx0) H0:=fun n x h=>by
 unfold A8P at h;split at h
 ·exact h
 ·exact B5C n x h
theorem B5E {ns ks:List Nat} {nx0:Nat} (L:List HB) (hk:A6Y H0 (U4 (K3 H0 ns) (aK ns nx0) L 0) ks):jE (A8P ns ks H0 nx0) (U4 (K3 H0 ns) (aK ns nx0) L 0):=fun n x h=>by
 unfold A8P at h;split at h
 ·rename_i hm;rw[B5D hk n hm];exact h
 ·exact B1n L n x h
theorem B9t {X:Type} (hE:F3 P E) (m:Nat) (ms:List Nat) (j0:Nat) (ns ks:List Nat) {c:Code} {f0:Nat→Option Ent} {H0:Nat→Option HB} {nx0:Nat} {fid:Nat} {az az':List A} {hs:List HB} {ok:X→Prop} {rx:X→A} {hs':X→List HB} {res0:Nat→Option DR} {p0:Prop} {res:X→Nat→Option DR} {p:X→Prop} {o:Oper} {fo:Operand} {args:List Operand} {tys:List TypeId} {caps:List C}
 (hc:C5 P fid az hs ok rx hs')
 (hp0:p0) (hpx:∀x,ok x→p x)
 (hk:∀x,ok x→G P E B W M0 Q (.ops (I5 c) m::k) ⟨jK (I5 c) f0 (res x) (ltB m),U4 (K3 H0 ns) (aK ns nx0) (hs' x) 0,nx0+(len (hs' x)-len ns)⟩)
 (hm:P.follows .mixedOrders=true) (kn:Nat→Option Bool) (hd:aN c=true) (hchk:A6L E.N (I5 c) m ms=true)
 (hj0:Nat.blt j0 m=true) (ho:X4 (I5 c) j0=some o)
 (hg:o.guard=none) (hop:o.op= .call ⟨.value fo,⟨args⟩,⟨tys⟩⟩)
 (hA:B1i E kn (I5 c) ms j0 f0 H0 (A8P ns ks H0 nx0) (tke m (I5 c)) 0 (fun _=>none) True=some (res0,p0))
 (hX:∀x,B1j E kn (I5 c) ms j0 f0 (U4 (K3 H0 ns) (aK ns nx0) (hs' x) 0) (tke m (I5 c)) 0 (A6X res0 j0 (some (some (.u (A2Q (aK ns nx0) (rx x))),True,none,none))) True=some (res x,p x))
 (hfo:V2 (mF (I5 c) ms f0 res0 j0) [] fo=some (.c (.clo fid caps))) (ha:aI (V2 (mF (I5 c) ms f0 res0 j0) []) args=some az') (hn:J3 ns=true)
 (hsim:vB (az'++caps.map A.c) az) (hl:xV ⟨fun _=>none,H0,0⟩ ns hs)
 (hks:∀x,A6Y H0 (U4 (K3 H0 ns) (aK ns nx0) (hs' x) 0) ks) (hro:E.ro=none):G P E B W M0 Q (.code c::k) ⟨f0,H0,nx0⟩:=by
 intro M a w hS;cases c<;> simp only[aN,Bool.false_eq_true]at hd;rename_i id ops dr;cases dr<;> simp only[aN,Bool.false_eq_true]at hd;obtain⟨ops⟩:=ops;simp only[I5]at *;simp only[A6L,Bool.and_eq_true,Nat.ble_eq,P5]at hchk;obtain⟨⟨hc1,hc2⟩,hc3,hc4⟩:=hchk;rw[Nat.blt_eq]at hj0;rw[G5]at ho;refine wpIn_wide.2 ?_ |> fun(h:cwp none P (Code.region id ops.toArray true) (after none P Q k) a w)=>(by simp only[after,hro];exact h)
 refine wp_region_any hm ?_;have hS0:Y6 E.N E.mrk B W M0 [] [] 0 ⟨f0,H0,nx0⟩ M a w:=hS;have hS1:=hS0.drawn (w.drawn+1);have hck:∀(j:Nat) (o:Oper),ops[j]? =some o→A6N E.N ops ms j o:=fun j o hj=>by
  have:=B0I rfl hc2 j o hj
  rwa [Nat.zero_add]at this
 have hlt:=rL hck;obtain⟨a1,_,a3⟩:=B9p (m:=m) hlt (i:=0) (by rw[aH];simp) hA;have x1:=fun x=>B9q (m:=m) hlt (i:=0) (by rw[aH];simp) (hX x)
 have hjj:U1 ms j0 j0=false:=by
  cases hb:U1 ms j0 j0 with
  |false=>rfl
  |true=>have:=hlt j0 j0 (by omega) hb;omega
 have hRj:∀x,res x j0=some (some (.u (A2Q (aK ns nx0) (rx x))),True,none,none):=fun x=>by
  rw[(x1 x).1 j0 (.inr (.inr hjj)),rP]
 have hF:B5B E kn ops m ms j0 f0 H0 (A8P ns ks H0 nx0) ok (fun x=>U4 (K3 H0 ns) (aK ns nx0) (hs' x) 0) res0 res:=by
  refine⟨hck,hc1,hc3,hj0,A6M hc4,fun j o hjm hj hne hb=>?_,fun x hx j o hjm hj hb=>?_,fun x j hne hb=>?_,B9s,fun x=>B5E _ (hks x)⟩
  ·obtain⟨e,ob,q1,q2,q3⟩:=a3 j o (Nat.zero_le _) hjm hj hne hb;exact⟨e,ob,q1,q2,q3 hp0⟩
  ·obtain⟨e,ob,q1,q2,q3⟩:=(x1 x).2.2 j o (Nat.zero_le _) hjm hj hb;exact⟨e,ob,q1,q2,q3 (hpx x hx)⟩
  ·rw[(x1 x).1 j (.inr (.inr hb)),pG _ _ hne]
 have hnone:∀j,H7 (Array.replicate ops.toArray.size false) j=false:=by
  intro j;unfold H7;simp only[Array.getD_eq_getD_getElem?,Array.getElem?_replicate];split<;> rfl
 refine B9r (B:=B) (W:=W) (M0:=M0) (Q:=after none P Q k) hE.T hE.Ψ hF (fun S S' f nx M' a' w' K o' ho' hlf hSP hnS hSS hS'j hKK=>?_) (fun x=>⟨_,hRj x⟩) (fun x hx M' a' w' hS'=>?_) _ _ _ _ (by simp) (fun j _ hd=>by rw[hnone j]at hd;cases hd) (fun j hd=>by rw[hnone j]at hd;cases hd) ?_ ⟨none,M,by rw[hnone];simp,fun x hx=>(by cases hx),?_⟩
 ·rw[ho]at ho';cases ho';have hw:Region.wanted o (yielded ops.toArray a'.tmps)=true:=by unfold Region.wanted;rw[hg]
  rw[if_pos hw];refine B1l (nx0:=nx0) hSP hc hsim hl hn hop (dP hlf [] _ _ hfo) (yC (dP hlf []) ha) fun x hx v w2 M2 e1 e2 e3=>?_
  refine hKK x _ hx (hRj x) _ _ M2 (J2.put hSP hnS hSS e1 e2 (dQ (hck j0 o ho).dst) (E9 _ _) (fun e' he=>?_) (by simp));cases he;exact e3
 ·have hg2:=hk x hx M' a' w';rw[hro]at hg2;refine hg2 ?_;exact⟨hS'.h,hS'.old,hS'.d,hS'.n,hS'.f,hS'.g⟩
 ·refine Nat.le_trans List.countP_le_length ?_;simp
 ·have hd0:H7 (Array.replicate ops.toArray.size false)=fun _=>false:=funext hnone
  rw[hd0];have e1:jK ops f0 res0 (fun _=>false)=f0:=by
   funext s;simp only[jK];split<;> rfl
  have h4:J2 E.N E.mrk B W M0 ops (C9 ops ops) (fun j=>(fun _=>false:Nat→Bool) j=true) ⟨f0,H0,nx0⟩ M a {w with drawn:=w.drawn+1}:=by
   refine⟨hS1.h,hS1.old,hS1.d,hS1.n,fun s e he=>?_,fun s j b x hx=>?_⟩
   ·cases e with
    |u x=>exact hS1.f s _ he
    |gd j b x=>have:=(hS1.g s j b x he).1;simp at this
   ·have:=(hS1.g s j b x hx).1;simp at this
  exact h4.weaken (by rw[show RR res0 res none=res0 from rfl,e1];exact fun _ _ h=>h) (fun _ _ h=>h)
end
section
variable {P : Program} {E : E4} {B : Nat → Prop} {W : World} {M0 M : B8} {Q : Exit → Act → World → Prop} {k : List Z3} {st : St}
theorem pH {X:Type} (hE:F3 P E) (m:Nat) (ms:List Nat) (j0:Nat) (ns ks:List Nat) {c:Code} {f0:Nat→Option Ent} {H0:Nat→Option HB} {nx0:Nat} {fid:Nat} {az az':List A} {hs:List HB} {ok:X→Prop} {rx:X→A} {hs':X→List HB} {res0:Nat→Option DR} {p0:Prop} {res:X→Nat→Option DR} {p:X→Prop} {o:Oper} {fo:Operand} {args:List Operand} {tys:List TypeId} {caps:List C}
 (hc:C5 P fid az hs ok rx hs')
 (hk:∀x,ok x→G P E B W M0 Q (.ops (I5 c) m::k) ⟨jK (I5 c) f0 (res x) (ltB m),U4 (K3 H0 ns) (aK ns nx0) (hs' x) 0,nx0+(len (hs' x)-len ns)⟩)
 (hm:P.follows .mixedOrders=true:=by exact rfl) (hd:aN c=true:=by exact rfl) (hchk:A6L E.N (I5 c) m ms=true:=by decide+kernel)
 (hj0:Nat.blt j0 m=true:=by exact rfl) (ho:X4 (I5 c) j0=some o:=by exact rfl)
 (hg:o.guard=none:=by exact rfl) (hop:o.op= .call ⟨.value fo,⟨args⟩,⟨tys⟩⟩:=by exact rfl)
 (hA:B1i E (fun _=>none) (I5 c) ms j0 f0 H0 (A8P ns ks H0 nx0) (tke m (I5 c)) 0 (fun _=>none) True=some (res0,p0):=by exact rfl)
 (hX:∀x,B1j E (fun _=>none) (I5 c) ms j0 f0 (U4 (K3 H0 ns) (aK ns nx0) (hs' x) 0) (tke m (I5 c)) 0 (A6X res0 j0 (some (some (.u (A2Q (aK ns nx0) (rx x))),True,none,none))) True=some (res x,p x):=by exact fun x=>rfl)
 (hfo:V2 (mF (I5 c) ms f0 res0 j0) [] fo=some (.c (.clo fid caps)):=by exact rfl) (ha:aI (V2 (mF (I5 c) ms f0 res0 j0) []) args=some az':=by exact rfl) (hn:J3 ns=true:=by exact rfl)
 (hsim:vB (az'++caps.map A.c) az:=by and_intros<;> first|exact trivial|exact rfl|omega|(refine A6 ?_;first|exact rfl|(simp;done)|(simp_all;done))|(simp;done)|(simp_all;done)) (hl:xV ⟨fun _=>none,H0,0⟩ ns hs:=by and_intros<;> first|exact trivial|exact rfl|omega|(refine A6 ?_;first|exact rfl|(simp;done)|(simp_all;done))|(simp;done)|(simp_all;done))
 (hks:∀x,A6Y H0 (U4 (K3 H0 ns) (aK ns nx0) (hs' x) 0) ks:=by(intro x;and_intros<;> first|exact trivial|exact rfl)) (hro:E.ro=none:=by exact rfl) (hp0:p0:=by and_intros<;> (intros;first|exact trivial|omega|exact rfl|exact yM _|exact uT _|exact uU _|exact gU _|exact lE _|(simp only;omega)|(simp;done)|(simp;omega)|(simp only[L8,IntKind.bits];omega)|(simp_all;done)|(simp_all;omega))) (hpx:∀x,ok x→p x:=by(intro x hx;and_intros<;> (intros;first|exact trivial|omega|exact rfl|exact yM _|exact uT _|exact uU _|exact gU _|exact lE _|(simp only;omega)|(simp;done)|(simp;omega)|(simp only[L8,IntKind.bits];omega)|(simp_all;done)|(simp_all;omega)))):G P E B W M0 Q (.code c::k) ⟨f0,H0,nx0⟩:=
 B9t hE m ms j0 ns ks hc hp0 hpx hk hm (fun _=>none) hd hchk hj0 ho hg hop hA hX hfo ha hn hsim hl hks hro
theorem Q6 (hE:F3 P E) (m:Nat) (ms:List Nat) (ks:List (Nat×Nat)) {c:Code} {st':(Nat→Value)→St} {ob:(Nat→Value)→Prop} (hk:∀bs,G P E B W M0 Q (.ops (I5 c) m::k) (st' bs))
 (hm:P.follows .mixedOrders=true:=by exact rfl) (hd:aN c=true:=by exact rfl) (hchk:A6L E.N (I5 c) m ms=true:=by decide+kernel)
 (h:∀bs,A2y E (fun _=>none) (I5 c) m ms ks st bs=some (st' bs,ob bs):=by exact fun bs=>rfl) (hro:E.ro=none:=by exact rfl) (ho:∀bs,ob bs:=by(intro bs;and_intros<;> (intros;first|exact trivial|omega|exact rfl|exact yM _|exact uT _|exact uU _|exact gU _|exact lE _|(simp only;omega)|(simp;done)|(simp;omega)|(simp only[L8,IntKind.bits];omega)|(simp_all;done)|(simp_all;omega)))):G P E B W M0 Q (.code c::k) st:=
 cI hE.T hE.Ψ hm (fun _=>none) m ms ks hd hchk h ho hk hro
theorem mL (hE:F3 P E) (m:Nat) (ms:List Nat) (ks:List (Nat×Nat)) {c:Code} {st':(Nat→Value)→St} {ob:(Nat→Value)→Prop} (ho:∀bs,ob bs) (hk:∀bs,G P E B W M0 Q (.ops (I5 c) m::k) (st' bs))
 (hm:P.follows .mixedOrders=true:=by exact rfl) (hd:aN c=true:=by exact rfl) (hchk:A6L E.N (I5 c) m ms=true:=by decide+kernel)
 (h:∀bs,A2y E (fun _=>none) (I5 c) m ms ks st bs=some (st' bs,ob bs):=by exact fun bs=>rfl) (hro:E.ro=none:=by exact rfl):G P E B W M0 Q (.code c::k) st:=
 cI hE.T hE.Ψ hm (fun _=>none) m ms ks hd hchk h ho hk hro
theorem D3 (hE:F3 P E) (n:Nat) (kn:Nat→Option Bool) {k':(Nat→Nat→Value)→List Z3} {st':(Nat→Nat→Value)→St} {ob:(Nat→Nat→Value)→Prop}
 (hk:∀bs,G P E B W M0 Q (k' bs) (st' bs)) (h:∀bs,run E kn n k st bs= .mk (k' bs) (st' bs) (ob bs):=by exact fun bs=>rfl) (ho:∀bs,ob bs:=by intro bs;and_intros<;> (intros;first|exact ob_|(simp[L8,IntKind.bits];done)|(simp[L8,IntKind.bits]at* <;> omega)|(simp_all;done)|(with_reducible assumption))):G P E B W M0 Q k st:=
 H8 hE.T hE.Ψ n kn h ho hk
theorem C2K (hE:F3 P E) (kn:Nat→Option Bool) (m:Nat) (ms:List Nat) (ks:List (Nat×Nat)) {c:Code} {st':(Nat→Value)→St} {ob:(Nat→Value)→Prop} (hk:∀bs,G P E B W M0 Q (.ops (I5 c) m::k) (st' bs))
 (hm:P.follows .mixedOrders=true:=by exact rfl) (hd:aN c=true:=by exact rfl) (hchk:A6L E.N (I5 c) m ms=true:=by decide+kernel)
 (h:∀bs,A2y E kn (I5 c) m ms ks st bs=some (st' bs,ob bs):=by exact fun bs=>rfl) (hro:E.ro=none:=by exact rfl) (ho:∀bs,ob bs:=by intro bs;and_intros<;> (intros;first|exact ob_|(simp[L8,IntKind.bits];done)|(simp[L8,IntKind.bits]at* <;> omega)|(simp_all;done)|(with_reducible assumption))):G P E B W M0 Q (.code c::k) st:=
 cI hE.T hE.Ψ hm kn m ms ks hd hchk h ho hk hro
theorem N0 (hE:F3 P E) (kn:Nat→Option Bool) (ds:List Bool) {k':(Nat→Nat→Nat→Value)→List Z3} {st':(Nat→Nat→Nat→Value)→St} {ob:(Nat→Nat→Nat→Value)→Prop}
 (hk:∀bs,G P E B W M0 Q (k' bs) (st' bs)) (h:∀bs,A3w E kn 60 ds k st bs= .mk (k' bs) (st' bs) (ob bs):=by exact fun bs=>rfl)
 (ho:∀bs,ob bs:=by(intro bs;and_intros<;> (intros;first|exact trivial|omega|exact rfl|exact yM _|exact uT _|exact uU _|exact gU _|exact lE _|(simp only;omega)|(simp;done)|(simp;omega)|(simp only[L8,IntKind.bits];omega)|(simp_all;done)|(simp_all;omega)))):G P E B W M0 Q k st:=G0 hE kn ds ho hk h
theorem V3 {X:Type} (F:X→List (Nat×A)) (H:X→List HB) (ok:X→Prop) (μ:X→Nat) {c:Code} (ns:List Nat) (x0:X) (hx0:ok x0)
 (body:∀x,ok x→G P E B W M0 Q (.code (bod c):: .lp (LJ E B W M0 F H (fun y=>ok y∧μ y<μ x))::k) (mk (F x) (H x))) (hc:rG c=true:=by exact rfl) (hw:Wk st ns (F x0) (H x0):=by and_intros<;> first|exact trivial|exact rfl|omega|(refine A6 ?_;first|exact rfl|(simp;done)|(simp_all;done))|(simp;done)|(simp_all;done)):G P E B W M0 Q (.code c::k) st:=
 P8 F H ok μ hc ns x0 hx0 hw body
theorem L5 {X:Type} (F:X→List (Nat×A)) (H:X→List HB) (ok:X→Prop) (μ:X→Nat) {c:Code} (ns:List Nat) (x0:X) (hx0:ok x0) (hw:Wk st ns (F x0) (H x0))
 (body:∀x,ok x→G P E B W M0 Q (.code (bod c):: .lp (LJ E B W M0 F H (fun y=>ok y∧μ y<μ x))::k) (mk (F x) (H x))) (hc:rG c=true:=by exact rfl):G P E B W M0 Q (.code c::k) st:=
 P8 F H ok μ hc ns x0 hx0 hw body
theorem H3 {X:Type} {F:X→List (Nat×A)} {H:X→List HB} {ok:X→Prop} (ns:List Nat) (x:X) (hx:ok x) (h:Wk st ns (F x) (H x):=by and_intros<;> first|exact trivial|exact rfl|omega|(refine A6 ?_;first|exact rfl|(simp;done)|(simp_all;done))|(simp;done)|(simp_all;done)):G P E B W M0 Q (.lp (LJ E B W M0 F H ok)::k) st:=G8 ns x hx h
theorem aA (ns:List Nat) (fs':List (Nat×A)) (hs':List HB) (hk:G P E B W M0 Q k (mk fs' hs')) (h0:hdI k=0:=by exact rfl) (h:Wk st ns fs' hs':=by and_intros<;> first|exact trivial|exact rfl|omega|(refine A6 ?_;first|exact rfl|(simp;done)|(simp_all;done))|(simp;done)|(simp_all;done)):G P E B W M0 Q k st:=xY h0 h hk
structure Ob (X:Type) where
 ok:X→Prop
 f:X→List HB
abbrev ThO {X:Type} (o:Ob X) (S:Nat→Prop):HB:=OB o.ok o.f S
theorem N1 (n:Nat) {X:Type} {o:Ob X} {S:Nat→Prop}
 (hk:∀x,o.ok x→G P E B W M0 Q k ⟨st.f,U4 (D7 st.H n none) (opN n st.nx) (o.f x) 0,st.nx+(len (o.f x)-1)⟩) (hn:st.H n=some (ThO o S):=by exact rfl):G P E B W M0 Q k st:=C3L n hn hk
theorem J7 (n:Nat) {X:Type} (o:Ob X) (ns:List Nat) (x:X) (hx:o.ok x)
 (hk:∀S,G P E B W M0 Q k ⟨st.f,D7 (K3 st.H ns) n (some (ThO o S)),st.nx⟩) (hnd:J3 ns=true:=by exact rfl) (h:xV st ns (o.f x):=by and_intros<;> first|exact trivial|exact rfl|omega|(refine A6 ?_;first|exact rfl|(simp;done)|(simp_all;done))|(simp;done)|(simp_all;done)):G P E B W M0 Q k st:=C3M n ns x hx hk hnd h
theorem U2 (n m:Nat) {α:Type} {e:α→(Nat→Prop)→HB} {l l1 l2:List α} {x:α} {S:Nat→Prop} (he:l=l1++x::l2)
 (hk:∀S1 S2,G P E B W M0 Q k ⟨st.f,D7 (D7 st.H n (some (O8 e (l1++l2) S1))) m (some (e x S2)),m+1⟩) (hn:st.H n=some (O8 e l S):=by exact rfl) (hm:st.H m=none:=by exact rfl):G P E B W M0 Q k st:=by
 subst he;exact C3N n m hn hm (fun S1 S2 M a w hS=>hk S1 S2 M a w ⟨hS.h,hS.old,hS.d,hS.n,hS.f,hS.g⟩)
theorem dR (n m:Nat) {α:Type} {e:α→(Nat→Prop)→HB} {l l1 l2:List α} {x:α} {S S2:Nat→Prop} (he:l=l1++x::l2)
 (hk:∀S1,G P E B W M0 Q k ⟨st.f,D7 (D7 st.H m none) n (some (O8 e l S1)),st.nx⟩) (hn:st.H n=some (O8 e (l1++l2) S):=by exact rfl) (hm:st.H m=some (e x S2):=by exact rfl) (hnm:n≠m:=by decide):G P E B W M0 Q k st:=by
 subst he;exact B5A n m l1 l2 hn hm hnm hk
theorem Y0 (s m:Nat) {v:Option Nat} {b:Nat} (hv:v=some b) (hk:G P E B W M0 Q k ⟨dJ st.f s (some (.u (.c (.ptr m b 0)))),st.H,st.nx⟩) (h:st.f s=some (.u (.c (.opt v))):=by exact rfl):G P E B W M0 Q k st:=by
 subst hv;exact X5 s h (fun M v hr=>by cases hr with|c hr=>cases hr;exact .c .ptr) hk
theorem hZ (s:Nat) {v:Option Nat} (hv:v=none) (hk:G P E B W M0 Q k ⟨dJ st.f s (some (.u (pv (.val (.pointer none))))),st.H,st.nx⟩) (h:st.f s=some (.u (.c (.opt v))):=by exact rfl):G P E B W M0 Q k st:=by
 subst hv;exact X5 s h (fun M v hr=>by cases hr with|c hr=>cases hr;exact .c (.pv (.val rfl))) hk
theorem pJ {kk:KK} {V V':Type} (g:V→V') (k:kk.T):∀l:List (kk.T×V),H5 (kk:=kk) (l.map fun p=>(p.1,g p.2)) k=(H5 l k).map g:=by
 intro l
 induction l with
 |nil=>rfl
 |cons p l ih=>simp only[List.map_cons,H5];cases kk.eqb k p.1<;> simp[ih]
theorem B5F {kk:KK} {V V':Type} (g:V→V') (k:kk.T) (v:V):∀l:List (kk.T×V),B4 (kk:=kk) (l.map fun p=>(p.1,g p.2)) k (g v)=(B4 l k v).map fun p=>(p.1,g p.2):=by
 intro l
 induction l with
 |nil=>rfl
 |cons p l ih=>simp only[List.map_cons,B4];cases kk.eqb k p.1<;> simp[ih]
theorem B5G {kk:KK} {V V':Type} (g:V→V') (k:kk.T):∀l:List (kk.T×V),X8 (kk:=kk) (l.map fun p=>(p.1,g p.2)) k=(X8 l k).map fun p=>(p.1,g p.2):=by
 intro l
 induction l with
 |nil=>rfl
 |cons p l ih=>simp only[List.map_cons,X8];cases kk.eqb k p.1<;> simp[ih]
theorem bH {kk:KK} {V:Type} {k:kk.T} {v:V}:∀{l:List (kk.T×V)},H5 l k=some v→∃l1 l2,l=l1++(k,v)::l2∧(∀w,B4 l k w=l1++(k,w)::l2)∧X8 l k=l1++l2:=by
 intro l
 induction l with
 |nil=>intro h;cases h
 |cons p l ih=>
  intro h;simp only[H5]at h;cases hb:kk.eqb k p.1 with
  |true=>
   rw[hb]at h;cases h;have:=KK.eqb_iff.1 hb;subst this;exact⟨[],l,rfl,fun w=>by simp[B4,hb],by simp[X8,hb]⟩
  |false=>
   rw[hb]at h;obtain⟨l1,l2,h1,h2,h3⟩:=ih h;exact⟨p::l1,l2,by rw[h1];rfl,fun w=>by simp[B4,hb,h2],by simp[X8,hb,h3]⟩
theorem dS {kk:KK} {V:Type} {k:kk.T} {v:V}:∀{l:List (kk.T×V)},H5 l k=none→B4 l k v=l++[(k,v)]:=by
 intro l
 induction l with
 |nil=>intro _;rfl
 |cons p l ih=>
  intro h;simp only[H5]at h;cases hb:kk.eqb k p.1 with
  |true=>rw[hb]at h;cases h
  |false=>rw[hb]at h;simp[B4,hb,ih h]
instance kkDec (k:KK):DecidableEq k.T:=fun a b=>decidable_of_iff (k.eqb a b=true) KK.eqb_iff
theorem K7 {kk:KK} {V:Type} {k k':kk.T} {v:V}:∀{l:List (kk.T×V)},H5 (B4 l k v) k'=if k'=k then some v else H5 l k':=by
 intro l
 induction l with
 |nil=>
  simp only[B4,H5];cases hb:kk.eqb k' k with
  |true=>rw[if_pos (KK.eqb_iff.1 hb)]
  |false=>rw[if_neg (fun e=>by rw[KK.eqb_iff.2 e]at hb;cases hb)]
 |cons p l ih=>
  simp only[B4,H5];by_cases hp:k=p.1
  ·rw[KK.eqb_iff.2 hp];simp only[H5];by_cases hk:k'=p.1
   ·rw[KK.eqb_iff.2 hk,if_pos (hk.trans hp.symm)]
   ·have:kk.eqb k' p.1=false:=by cases hb:kk.eqb k' p.1 with
     |false=>rfl
     |true=>exact absurd (KK.eqb_iff.1 hb) hk
    rw[this,if_neg (fun e=>hk (e.trans hp))]
  ·have hb:kk.eqb k p.1=false:=by cases hb:kk.eqb k p.1 with
    |false=>rfl
    |true=>exact absurd (KK.eqb_iff.1 hb) hp
   rw[hb];simp only[H5,ih];by_cases hk:k'=p.1
   ·have h1:¬k'=k:=fun e=>hp (e.symm.trans hk)
    simp only[KK.eqb_iff.2 hk,h1,if_false]
   ·have:kk.eqb k' p.1=false:=by cases hb:kk.eqb k' p.1 with
     |false=>rfl
     |true=>exact absurd (KK.eqb_iff.1 hb) hk
    rw[this]
end
section
variable {P : Program} {E : E4} {B : Nat → Prop} {W : World} {M0 M F : B8} {Q : Exit → Act → World → Prop} {k : List Z3} {st : St} {a : Act} {w : World} {N : Nat} {mrk : MK} {sh : Bool} {J Jx : B8 → Nat → World → Prop} {n : Nat} {ops : List Oper} {rs : List (Nat × Nat)} {S : Nat → Prop}
theorem B0P (hro:E.ro=some 0) (hmk:E.mrk= .f) (hJ:cQ J) {all rest:List Oper} {j d ty:Nat} {pos:String} {fo:Operand} {xs:List Operand} {ts:List TypeId} {aft gd} (hg:hY all st.f ⟨some d,.call ⟨.value fo,⟨xs⟩,⟨ts⟩⟩,ty,pos,aft,gd⟩) (hops:R5 j all=⟨some d,.call ⟨.value fo,⟨xs⟩,⟨ts⟩⟩,ty,pos,aft,gd⟩::rest)
 {lid i:Nat} {Y:Type} (ev:Y→List Value) (ea:Y→List A) (hev:∀M y vs,cB M (ea y) vs→vs=(ev y).toArray) {y:Y} (hf:V2 st.f [] fo=some (pv (.val (.func (.yield lid) #[] #[])))) (hx:aI (V2 st.f []) xs=some (ea y))
 (h0:J M0 i W) (hy:∀Mi W,J Mi i W→Mi.on W→YieldAt Fence.wide 0 P lid (ev y).toArray W fun e W'=>
  (e= .returned (.bool true)∧J Mi (i+1) W'∧Mi.on W')∨(e= .returned (.bool false)∧Jx Mi (i+1) W'∧Mi.on W'))
 {f':Bool→Nat→Option Ent} (hput:∀b,P6 E.N j (C9 all all) st.f (some d) (some (.u (bool b)))=some (f' b))
 (yes:∀W' M',J M' (i+1) W'→G P E (low W'.heap.size) W' M' Q (.ops all (j+1)::k) ⟨f' true,fun _=>none,st.nx⟩)
 (no:∀W' M',Jx M' (i+1) W'→G P E (low W'.heap.size) W' M' Q (.ops all (j+1)::k) ⟨f' false,fun _=>none,st.nx⟩):
 G P E (low W.heap.size) W M0 Q (.ops all j::k) st:=by
 intro M a w hS;have hS:Y6 E.N E.mrk (low W.heap.size) W M0 all (C9 all all) j st M a w:=hS;simp only[after];rw[hro,hops];intro hnd;have hrest:R5 (j+1) all=rest:=by
  rw[Q5]at hops⊢;have:=congrArg List.tail hops;simpa[List.tail_drop]using this
 have hJw:=hJ M0 M i W w h0 hS.h.below.low hS.h.mem hS.d.kp (fun k o hk hlt=>hS.old k o hk hlt);have hfv:a.eval fo= .func (.yield lid) #[] #[]:=(J6 hS (Γ:=[]) (by simp) _ _ hf).val_inv;have hxv:(xs.map a.eval).toArray=(ev y).toArray:=hev M y _ (rM (J6 hS (Γ:=[]) (by simp)) _ _ hx);obtain⟨fn,tmps,az,bd,hrun,hround⟩:=hy M w hJw hS.h.mem;refine wpListIn_step fun K hK=>?_
 rw[if_pos (lG hS hg)];refine⟨fun f _=>A7u 0 f,?_⟩;have hex:(execOp a.eval ⟨some d,.call ⟨.value fo,⟨xs⟩,⟨ts⟩⟩,ty,pos,aft,gd⟩).run P w= .ok (.round lid fn tmps az bd) w:=by
  rw[←hrun];have hxv':Array.map a.eval xs.toArray=(ev y).toArray:=by rw[←hxv];simp
  simp[execOp,resolve,invoke,hfv,hxv',Deferred.ofValue]
 rw[Oper.semAt_eq _ _ _ (by intro c e;cases e),hex];refine⟨fun e=>(by cases e),hround.mono ?_⟩;have go:∀(b:Bool) (w':World),M.on w'→G P E (low w'.heap.size) w' M Q (.ops all (j+1)::k) ⟨f' b,fun _=>none,st.nx⟩→K (a.put (some d) (.bool b)) w':=by
  intro b w' hon hG;refine hK _ _ ?_;have hS1:=J2.rebase hmk hS (w':=w') hon;have hS2:=J2.put (S':=fun q=>q<j+1) (i:=j) (M':=M) (H':=fun _=>none) (nx':=st.nx) (dst:=some d) (e:=some (.u (bool b))) (v:= .bool b) hS1 (Nat.lt_irrefl j) (fun q hq=>Nat.lt_succ_of_lt hq) (B8.ext_refl _ _) hS1.h (hput b) (E9 _ _)
   (fun e' he=>by cases he;exact .c (.pv (.val rfl))) (by simp)
  have:=hG M _ _ hS2;simp only[after,hro,hrest]at this;exact this (fun o ho=>hnd o (List.mem_cons_of_mem _ ho))
 rintro e w' (⟨rfl,h1,h2⟩|⟨rfl,h1,h2⟩)
 ·exact go true w' h2 (yes w' M h1)
 ·exact go false w' h2 (no w' M h1)
theorem F3.df (h:F3 P E) (m:MK):F3 P {E with mrk:=m}:=⟨h.T,⟨h.Ψ.fn,h.Ψ.pt,h.Ψ.co⟩⟩
abbrev dfr (f:Nat) (bs:List Nat):Deferred:={target:= .fn (.func f) (bs.map fun b=>vU (some b)).toArray,args:= #[]}
def A6Z (P:Program) (f:FuncId) {X:Type} (az:List A) (hs:List HB) (ok:X→Prop) (hs':X→List HB):Prop:=
 mT P f∧∀(M:B8) (w:World) (vs:Array Value) (u:FrameMode),E2 (jJ w hs) w (X4 hs) M w→cB M az vs→CallsDIn Fence.wide 0 P f vs u w fun e u' w'=>u'=u∧∃v M' x,e= .returned v∧B8.ext (jJ w hs) M M'∧ok x∧E2 (jJ w hs) w (X4 (hs' x)) M' w'
def B5H (P:Program) (fn:Func) (R:Ending→World→Prop):Exit→Act→World→Prop:=bodyPost P fn R
theorem jV {X:Type} {f:FuncId} {fn:Func} {args:List A} {hs:List HB} {ok:X→Prop} {hs':X→List HB} (hf:P.funcs[f]? =some fn) (hb:fn.body.isNone=false) (hnm:(fn.name== "runtime.NumGoroutine")=false) (hN:fn.ntmps=E.N) (hl:Nat.ble (len args) E.N=true)
 (h:∀M0 W,M0.on W→G P E (jJ W hs) W M0 (B5H P fn (aO M0 W hs ok (fun _=> .t []) hs')) [.code (P2 fn)] (yL args hs)) (hro:E.ro=none:=by rfl) (hdl:E.mrk.dl=[]:=by rfl):A6Z P f args hs ok hs':=by
 refine⟨⟨fn,hf,hb,hnm⟩,fun M0 w vs u hS0 hra=>?_⟩;cases hbd:fn.body with
 |none=>rw[hbd]at hb;cases hb
 |some c=>
  rw[Nat.ble_eq,P5]at hl;have hcd:CallsDIn Fence.wide 0 P f vs u w fun e u' w'=>u'=u∧aO M0 w hs ok (fun _=> .t []) hs' e w':=by
   refine callsDIn_of_wp hf hbd trivial ?_;have hg:=h M0 w hS0.mem M0 ⟨vs++Array.replicate (fn.ntmps-vs.size) undef,[]⟩ w ⟨hS0,fun _ _ e _=>e,.nil hdl.symm (B8.le_refl _),by simp[hra.1];omega,fun s e he=>?_,fun s j b x hx=>?_⟩
   ·have hfb:P2 fn=c:=by simp[P2,hbd]
    have hg2:cwp E.ro P (P2 fn) (after E.ro P (B5H P fn (aO M0 w hs ok (fun _=> .t []) hs')) []) _ w:=hg;rw[hfb,hro]at hg2;exact wpIn_mono hg2 (fun e a w q=>q)
   ·simp only[yL,G5]at he;split at he
    ·rename_i x hx;cases he;have hlt:s<vs.size:=by rw[hra.1];exact(gS_.1 hx).1
     obtain⟨u,hu⟩:=bT vs s hlt;exact⟨u,by simp[Array.getElem?_append_left hlt,hu],hra.2 s x u hx hu⟩
    ·cases he
   ·simp only[yL,G5]at hx;split at hx<;> cases hx
  refine hcd.mono fun e u' w' ⟨h1,h2⟩=>⟨h1,?_⟩
  obtain⟨v,M',x,q1,q2,q3,q4,q5⟩:=h2;exact⟨v,M',x,q1,q2,q3,q5⟩
theorem A3y {X:Type} {hs:List HB} (hE:F3 P E) {fn:Func} {az:List A} {ob:Prop} {ok:X→Prop} {rx:X→A} {hs':X→List HB} (x:X) (hok:ok x) (ms:List Nat)
 (h:bF E.T st.f st.H fn.results.toList=some (az,ob):=by exact rfl) (hob:ob:=by and_intros<;> first|exact trivial|exact rfl) (hm:J3 ms=true:=by exact rfl) (hmk:E.mrk= .f:=by exact rfl)
 (hr:rF (B9f az) (rx x):=by and_intros<;> first|exact trivial|exact rfl|omega|(refine A6 ?_;first|exact rfl|(simp;done)|(simp_all;done))|(simp;done)|(simp_all;done)) (hl:xV ⟨fun _=>none,st.H,0⟩ ms (hs' x):=by and_intros<;> first|exact trivial|exact rfl|omega|(refine A6 ?_;first|exact rfl|(simp;done)|(simp_all;done))|(simp;done)|(simp_all;done)):
 G P E (jJ W hs) W M0 (B5H P fn (aO M0 W hs ok rx hs')) [] st:=by
 intro M a w hS;have hS:Y6 E.N E.mrk (jJ W hs) W M0 [] [] 0 st M a w:=hS;have h1:=rO hmk hE.T (P:=P) hS h hob (ok:=ok) x hok ms hr hm hl;rw[hS.nodef hmk]at h1;exact⟨hS.nodef hmk,h1⟩
theorem B5I {all:List Oper} {i:Nat} {o:Oper} {fo:Operand} {f:Nat} {caps:List C} {bs:List Nat}
 (hk:G P {E with mrk:= .d [dfr f bs]} B W M0 Q (.ops all (i+1)::k) st)
 (hmk:E.mrk= .f:=by exact rfl) (hro:E.ro=none:=by exact rfl) (hd:R5 i all=o::R5 (i+1) all:=by exact rfl) (hg:o.guard=none:=by exact rfl) (ho:o.op= .defer ⟨.value fo,⟨[]⟩,⟨[]⟩⟩:=by exact rfl) (hdst:o.dst=none:=by exact rfl)
 (hfo:V2 st.f [] fo=some (.c (.clo f caps)):=by exact rfl) (hbs:B3y caps=some bs:=by exact rfl):G P E B W M0 Q (.ops all i::k) st:=by
 intro M a w hS;have hS:Y6 E.N E.mrk B W M0 all (C9 all all) i st M a w:=hS;show xU E.ro P all.toArray (after E.ro P Q k) (R5 i all) a w;rw[hd];refine P1 fun K hK=>?_
 have hw:Region.wanted o (yielded all.toArray a.tmps)=true:=by simp[Region.wanted,hg]
 rw[if_pos hw];obtain⟨dst,op,ty,pos,aft,guard⟩:=o;simp only at ho hdst;subst ho hdst;have hfv:a.eval fo= .func (.func f) #[] (bs.map fun b=>vU (some b)).toArray:=by
  have:=J6 hS (Γ:=[]) (by simp) _ _ hfo;generalize a.eval fo=v at this;cases this with|c h=>
  cases h with
  | @clo _ _ us hs hh=>
   have:=A9w caps bs us.toList hbs ⟨by simpa using hs,fun j c u e1 e2=>hh j c u e1 (by simpa using e2)⟩;rw[←this]
 have hrun:(execOp a.eval ⟨none,.defer ⟨.value fo,⟨[]⟩,⟨[]⟩⟩,ty,pos,aft,guard⟩).run P w= .ok (.defer (dfr f bs)) w:=by
  simp[execOp,resolve,hfv,Deferred.ofValue]
 unfold Oper.wp;rw[hrun,Oper.upon_defer];refine hK _ _ ?_;have hdf:=hS.nodef hmk;have hS2:Y6 E.N (.d [dfr f bs]) B W M0 all (C9 all all) (i+1) st M ({a with defers:=dfr f bs::a.defers}.put none undef) w:=
  ⟨hS.h,hS.old,⟨⟨[],fun _=>rfl,List.nodup_nil,by simp[Act.put,hdf,MK.dl],fun _ h=>by cases h⟩,hS.d.kp⟩,hS.n,hS.f,fun s j b x hx=>⟨Nat.lt_succ_of_lt (hS.g s j b x hx).1,(hS.g s j b x hx).2⟩⟩
 exact hk M _ w hS2
def B0Q:List A→Option (List Nat)
 |[]=>some []
 | .c (.ptr _ b 0)::l=>match B0Q l with
  |some bs=>some (b::bs)
  |none=>none
 |_=>none
theorem B5J:∀{az:List A} {bs:List Nat},B0Q az=some bs→cB M az (bs.map fun b=>vU (some b)).toArray:=by
 intro az
 induction az with
 |nil=>intro bs h;cases h;exact⟨rfl,by simp⟩
 |cons x az ih=>
  intro bs h;unfold B0Q at h;split at h
  ·rename_i heq;cases heq
  ·rename_i n b l heq;cases heq;split at h
   ·rename_i bs' hb;cases h;obtain⟨i1,i2⟩:=ih hb;refine⟨by simpa using i1,fun j c v e1 e2=>?_⟩;cases j with
    |zero=>simp at e1 e2;subst e1 e2;exact .c .ptr
    |succ j=>simp at e1 e2;exact i2 j c v e1 (by simpa using e2)
   ·cases h
  ·cases h
theorem B5K {X:Type} {fn:Func} {R:Ending→World→Prop} {c:Code} {f:Nat} {bs:List Nat} {az:List A} {hs:List HB} {ok:X→Prop} {hs':X→List HB} (ns:List Nat) (hct:A6Z P f az hs ok hs')
 (hk:∀x,ok x→G P {E with mrk:= .f} B W M0 (cO P fn R) [] ⟨st.f,U4 (K3 st.H ns) (aK ns st.nx) (hs' x) 0,st.nx+(len (hs' x)-len ns)⟩)
 (hc:mJ c=true:=by exact rfl) (hmk:E.mrk= .d [dfr f bs]:=by exact rfl) (hro:E.ro=none:=by exact rfl) (hps:B0Q az=some bs:=by exact rfl) (hn:J3 ns=true:=by exact rfl)
 (hl:xV ⟨fun _=>none,st.H,0⟩ ns hs:=by and_intros<;> first|exact trivial|exact rfl|omega|(refine A6 ?_;first|exact rfl|(simp;done)|(simp_all;done))|(simp;done)|(simp_all;done)):G P E B W M0 (cO P fn R) (.code c::k) st:=by
 intro M a w hS;have hS:Y6 E.N E.mrk B W M0 [] [] 0 st M a w:=hS;cases c<;> simp only[mJ,Bool.false_eq_true]at hc;simp only[after];refine wpIn_ret (fX ?_);obtain⟨H2,g1,g2,g3,g4⟩:=pE hS.h hn hl;have hcl':K3 H2 ns=K3 st.H ns:=by
  have key:∀(ns':List Nat) (A B:Nat→Option HB),(∀m,m∉ns'→A m=B m)→∀n,K3 A ns' n=K3 B ns' n:=by
   intro ns'
   induction ns' with
   |nil=>intro A B h n;exact h n (by simp)
   |cons m l ih=>
    intro A B h n;refine ih _ _ (fun q hq=>?_) n;by_cases e:q=m
    ·subst e;rw[B7,B7]
    ·rw[C2 _ _ e,C2 _ _ e];exact h q (by simp[e,hq])
  exact funext (key ns _ _ g4)
 obtain⟨hS1,hback⟩:=B4C g1 (hs:=hs) g2 g3;obtain⟨Ds,d0,d1,d2,d3⟩:=hS.d.df;have hD:a.defers=[dfr f bs]:=by rw[d2,d0 (by rw[hmk];simp),hmk];rfl
 obtain⟨⟨fn',q1,q2,q3⟩,hcall⟩:=hct;show LeavesInM Fence.wide 0 P fn a.tmps R a.defers .returning w;rw[hD];have hinv:(invoke (dfr f bs).target (dfr f bs).args).run P w= .ok (.enter f (bs.map fun b=>vU (some b)).toArray) w:=by
  have e3':fn'.name≠ "runtime.NumGoroutine" :=by simpa using q3
  have e2':fn'.body≠none:=by intro e;rw[e]at q2;cases q2
  simp[invoke,callFunc,q1,e2',e3']
 refine⟨by simp,.inr ⟨fun e=>(by cases e),.func f,_,f,_,rfl,hinv,fun g _=>trivial,?_⟩⟩;refine(hcall M w _ .returning hS1 (B5J hps)).mono fun e u' w' ⟨hu,v,M',x,he,hM',hok,hS'⟩=>?_
 subst he hu;obtain⟨hA,hEx⟩:=hback M' w' (hs' x) (aK ns st.nx) hM' hS';rw[hcl']at hA;have hS3:Y6 E.N .f B W M0 [] [] 0 ⟨st.f,U4 (K3 st.H ns) (aK ns st.nx) (hs' x) 0,st.nx+(len (hs' x)-len ns)⟩ M' ⟨a.tmps,[]⟩ w':=
  ⟨hA,fun k o hk hB=>hS.old k o (hEx.2 k o hk hB) hB,.nil rfl (B8.le_trans hS.d.kp hEx.1),hS.n,fun s e he=>by
   obtain⟨v,v1,v2⟩:=hS.f s e he;exact⟨v,v1,v2.mono hEx.1⟩,hS.g⟩
 exact hk x hok M' _ w' hS3
end
section
variable {P : Program} {E : E4} {B : Nat → Prop} {W : World} {M0 M F : B8} {Q : Exit → Act → World → Prop} {k : List Z3} {st : St} {a : Act} {w w' : World} {N : Nat} {mrk : MK} {H H' : Nat → Option HB}
theorem lZ (n m:Nat) {α:Type} {e:α→(Nat→Prop)→HB} {l l0 l1 l2:List α} {x:α} {S S2:Nat→Prop} (he:l=l1++x::l2) (h0:l0=l1++l2)
 (hk:∀S1,G P E B W M0 Q k ⟨st.f,D7 (D7 st.H m none) n (some (O8 e l S1)),st.nx⟩) (hn:st.H n=some (O8 e l0 S):=by exact rfl) (hm:st.H m=some (e x S2):=by exact rfl) (hnm:n≠m:=by decide):G P E B W M0 Q k st:=by
 subst he h0;exact B5A n m l1 l2 hn hm hnm hk
theorem E2.nobig (hS:E2 B W H M w) {α:Type} (e:α→(Nat→Prop)→HB) (n:Nat) (hn:H n=none):E2 B W (D7 H n (some (O8 e [] fun _=>False))) M w:=by
 refine⟨hS.below,hS.base,hS.mem,fun m y hy=>?_,fun m m' y y' b hmm e1 e2 hb=>?_⟩
 ·by_cases hm:m=n
  ·subst hm;rw[B7]at hy;cases hy;exact⟨fun k hk=>hk.elim,fun M' w' _ _ _=>⟨[],rfl,fun h hh=>by simp[cJ]at hh,fun i j x y b _ e=>by simp[cJ]at e⟩⟩
  ·rw[C2 _ _ hm]at hy;exact hS.ok m y hy
 ·by_cases hm:m=n
  ·subst hm;rw[B7]at e1;cases e1;exact hb.elim
  ·rw[C2 _ _ hm]at e1;by_cases hm':m'=n
   ·subst hm';rw[B7]at e2;cases e2;exact fun h=>h.elim
   ·rw[C2 _ _ hm']at e2;exact hS.inj m m' y y' b hmm e1 e2 hb
theorem A3z (n:Nat) {α:Type} (e:α→(Nat→Prop)→HB) (hk:G P E B W M0 Q k ⟨st.f,D7 st.H n (some (O8 e [] fun _=>False)),n+1⟩) (hn:st.H n=none:=by exact rfl):G P E B W M0 Q k st:=by
 intro M a w hS;exact hk M a w ⟨hS.h.nobig e n hn,hS.old,hS.d,hS.n,hS.f,hS.g⟩
theorem C2L (n:Nat) (c:C) {all:List Oper} {i:Nat} {o:Oper} {t:TypeId} {x:Operand} {b off m:Nat} {ty:TypeId} {cs:List C} {ti:TI} {f':Nat→Option Ent} (hE:F3 P E) (hc:cs[off]? =some c)
 (hk:G P E B W M0 Q (.ops all (i+1)::k) ⟨f',st.H,st.nx⟩) (hn:st.H n=some (.blk b ty cs):=by exact rfl) (hd:R5 i all=o::R5 (i+1) all:=by exact rfl) (hg:o.guard=none:=by exact rfl) (ho:o.op= .load t x:=by exact rfl)
 (hx:V2 st.f [] x=some (.c (.ptr m b off)):=by exact rfl) (ht:E.T t=some ti:=by exact rfl) (hag:ti.kind.agg=false:=by exact rfl) (hf:P6 E.N i (C9 all all) st.f o.dst (some (.u (.c c)))=some f':=by exact rfl):G P E B W M0 Q (.ops all i::k) st:=by
 intro M a w hS;show xU E.ro P all.toArray (after E.ro P Q k) (R5 i all) a w;rw[hd];refine P1 fun K hK=>?_
 have hw:Region.wanted o (yielded all.toArray a.tmps)=true:=by unfold Region.wanted;rw[hg]
 rw[if_pos hw];obtain⟨dst,op,ty',pos,aft,guard⟩:=o;simp only at ho hg hf;subst ho hg;have hr:=J6 hS (Γ:=[]) (by simp);obtain⟨h1,h2,us,h3,h4⟩:=hS.h.ok _ _ hn;have hlt:=(gS_.1 hc).1;have hla:ldA E.T t (R5 off cs)=some (.c c):=by
  unfold ldA;rw[ht];simp only[hag];rw[Q5,List.drop_eq_getElem_cons hlt,(gS_.1 hc).2]
 obtain⟨v,g1,g2⟩:=rC (w:=w) (M:=M) (b:=b) (o:=off) hE.T hla (fun j c hj=>by
  rw[Q5,List.getElem?_drop]at hj;have hlt:=(gS_.1 hj).1;obtain⟨u,hu⟩:=bT us (off+j) (by have:=h4.1;simp at this;omega);exact⟨u,by simp[World.cell?,h3,hu],h4.2 _ c _ hj (by simpa using hu)⟩)
 have hrun:(execOp a.eval ⟨dst,.load t x,ty',pos,aft,none⟩).run P w= .ok (.value v) w:=by simp[execOp,Instr.loadAt,(hr _ _ hx).ptr_inv,Instr.sureAddr,g1]
 refine G3 hrun (hK _ _ (hk M _ w (J2.put hS (S':=fun j=>j<i+1) (Nat.lt_irrefl i) (fun j hj=>Nat.lt_succ_of_lt hj) (B8.ext_refl _ _) hS.h hf (E9 _ _) (fun e' he=>?_) (by simp))));cases he;exact g2
theorem C2M {all:List Oper} {i:Nat} {o:Oper} {t:TypeId} {x:Operand} {n:Int} {f':Nat→Option Ent}
 (hk:G P E B W M0 Q (.ops all (i+1)::k) ⟨f',st.H,st.nx⟩) (hd:R5 i all=o::R5 (i+1) all:=by exact rfl) (hg:o.guard=none:=by exact rfl) (ho:o.op= .unOp .xor t x:=by exact rfl)
 (hx:V2 st.f [] x=some (int .u32 n):=by exact rfl) (hf:P6 E.N i (C9 all all) st.f o.dst (some (.u (int .u32 (mS .u32 IntKind.u32.max n))))=some f':=by exact rfl):G P E B W M0 Q (.ops all i::k) st:=by
 intro M a w hS;show xU E.ro P all.toArray (after E.ro P Q k) (R5 i all) a w;rw[hd];refine P1 fun K hK=>?_
 have hw:Region.wanted o (yielded all.toArray a.tmps)=true:=by unfold Region.wanted;rw[hg]
 rw[if_pos hw];obtain⟨dst,op,ty',pos,aft,guard⟩:=o;simp only at ho hg hf;subst ho hg;have hr:=J6 hS (Γ:=[]) (by simp);have hxv:=(hr _ _ hx).val_inv;have hrun:(execOp a.eval ⟨dst,.unOp .xor t x,ty',pos,aft,none⟩).run P w= .ok (.value (.int .u32 (mS .u32 IntKind.u32.max n))) w:=by simp[execOp,hxv,Op.unary,Op.intBits,mS];rfl
 refine G3 hrun (hK _ _ (hk M _ w (J2.put hS (S':=fun j=>j<i+1) (Nat.lt_irrefl i) (fun j hj=>Nat.lt_succ_of_lt hj) (B8.ext_refl _ _) hS.h hf (E9 _ _) (fun e' he=>?_) (by simp))));cases he;exact .c (.pv (.val rfl))
theorem B1o {ops:List Oper} {l:List Nat} {n:Nat} (i:Nat) (hT:L9 P E.T) {o:Oper} {f':Nat→Option Ent} {t:TypeId} {y olo:Operand} {e s1 s2:Nat} {z:List C} {k0 k':LK} {L:List k0.T} {ka:IntKind} {lo:Int} (hnth:X4 ops i=some o) (ho:o.op= .slice t y (some olo) none none) (hy:V2 st.f [] y=some (lst k0 L)) (hlo:V2 st.f [] olo=some (int ka lo))
 (hk0:E.T t=some ⟨.slc e k',s1,s2,z⟩) (hsz:Nat.beq k'.sz k0.sz=true) (hb:0≤lo∧lo≤L.length) (hi:F8 i l=false) (hsel:Region.noSelect ops.toArray=true) (hrd:aP l (I2 .any o.after.toList)=true) (hfr:frB ops l o i ops 0=true) (hg:hY ops st.f o)
 (hf:P6 E.N i (C9 ops ops) st.f o.dst (some (.u (lst k0 ((L.take ((L.length:Nat):Int).toNat).drop lo.toNat))))=some f') (hk:GA P E B W M0 Q k ops n (i::l) ⟨f',st.H,st.nx⟩):GA P E B W M0 Q k ops (n+1) l st:=
 B4u i _ hnth hi hsel hrd hfr hg (fun M a w hS=>by
  obtain⟨dst,op,ty,pos,aft,guard⟩:=o;simp only at ho;subst ho;have hr:=J6 hS (Γ:=[]) (by simp);have hp:K6 E.T st.H false (V2 st.f []) ty (.slice t y (some olo) none none)=some (lst k0 ((L.take ((L.length:Nat):Int).toNat).drop lo.toNat),0≤lo∧lo≤L.length):=by
   have hy':V2 st.f [] y=some (.c (.pv (.lst k0 L))):=hy;simp only[K6,hy',eN,hlo,hk0,hsz,A5d,V0]
  obtain⟨v,g1,g2⟩:=A9v (dst:=dst) (pos:=pos) (after:=aft) (guard:=guard) hT hS.h hr (fun _=>rfl) hp hb;refine⟨v,g2,fun w'=>?_⟩;have hu:=(hT _ _ hk0).und;simp only at hu;obtain⟨hu,inf,hinf,hsz'⟩:=hu;have h1:=hr _ _ hy;cases h1 with|c h1=>cases h1 with|pv h1=>
  obtain⟨ad,c,b,o,hv,q1,q2,q3,q4,q5⟩:=h1.lst_inv;have hs:A5d L.length (some (int ka lo)) none none=some (lo,((L.length:Nat):Int),0≤lo∧lo≤L.length):=rfl;have key:∀w':World,(execOp a.eval ⟨dst,.slice t y (some olo) none none,ty,pos,aft,guard⟩).run P w'= .ok (.value (.slice (if c=lo.toNat then ad else ad.map (·.add (lo.toNat*inf.size))) (L.length-lo.toNat) (c-lo.toNat))) w':=by
   intro w';obtain⟨_,_,_,m,q6,q7,q8,q9⟩:=lB (P:=P) (w:=w') hr (rd:=V2 st.f []) (olo:=some olo) (ohi:=none) (omx:=none) (lo:=some (int ka lo)) (hi:=none) (mx:=none) (by simp only[eN,hlo]) rfl rfl hs hb (sl:=true) q1;have:=q8 rfl;subst this;simp only[Option.map_some,Option.map_none]at q9;simp[execOp,Instr.sliceAt,hv,run_underlying hu,Instr.slice,q9,Go.sizeOf,D9 hinf]
  have e1:=key w;rw[g1]at e1;cases e1;exact key w') hf hk
theorem yO (n:Nat) {c:Code} (hk:GA P E B W M0 Q k (I5 c) n [] st) (hm:P.follows .mixedOrders=true:=by exact rfl) (hd:aN c=true:=by exact rfl) (hn:len (I5 c)=n:=by exact rfl) (hro:E.ro=none:=by exact rfl):G P E B W M0 Q (.code c::k) st:=C4g hm hd _ rfl n hn hk hro
theorem aQ {ops:List Oper} {l:List Nat} {r:Nat} (i:Nat) {o:Oper} {y:Operand} {f':Nat→Option Ent} {x:A} (hk:GA P E B W M0 Q k ops r (i::l) ⟨f',st.H,st.nx⟩) (hnth:X4 ops i=some o:=by exact rfl) (ho:o.op= .move y:=by exact rfl) (hx:V2 st.f [] y=some x:=by exact rfl) (hi:F8 i l=false:=by exact rfl) (hsel:Region.noSelect ops.toArray=true:=by decide+kernel) (hrd:aP l (I2 .any o.after.toList)=true:=by exact rfl) (hfr:frB ops l o i ops 0=true:=by decide+kernel) (hg:o.guard=none:=by exact rfl)
 (hf:P6 E.N i (C9 ops ops) st.f o.dst (some (.u x))=some f':=by exact rfl):GA P E B W M0 Q k ops (r+1) l st:=A3u i hnth ho hx hi hsel hrd hfr hg hf hk
theorem C4m {ops:List Oper} {l:List Nat} {n:Nat} (i:Nat) (hE:F3 P E) {o:Oper} {f':Nat→Option Ent} {t:TypeId} {y olo:Operand} {e s1 s2:Nat} {z:List C} {k0 k':LK} {L:List k0.T} {ka:IntKind} {lo:Int} (hk:GA P E B W M0 Q k ops n (i::l) ⟨f',st.H,st.nx⟩) (hnth:X4 ops i=some o:=by exact rfl) (ho:o.op= .slice t y (some olo) none none:=by exact rfl) (hy:V2 st.f [] y=some (lst k0 L):=by exact rfl) (hlo:V2 st.f [] olo=some (int ka lo):=by exact rfl)
 (hk0:E.T t=some ⟨.slc e k',s1,s2,z⟩:=by exact rfl) (hsz:Nat.beq k'.sz k0.sz=true:=by exact rfl) (hi:F8 i l=false:=by exact rfl) (hsel:Region.noSelect ops.toArray=true:=by decide+kernel) (hrd:aP l (I2 .any o.after.toList)=true:=by exact rfl) (hfr:frB ops l o i ops 0=true:=by decide+kernel) (hg:o.guard=none:=by exact rfl)
 (hf:P6 E.N i (C9 ops ops) st.f o.dst (some (.u (lst k0 ((L.take ((L.length:Nat):Int).toNat).drop lo.toNat))))=some f':=by exact rfl) (hb:0≤lo∧lo≤L.length:=by(constructor<;> first|omega|(simp only;omega))):GA P E B W M0 Q k ops (n+1) l st:=B1o i hE.T hnth ho hy hlo hk0 hsz hb hi hsel hrd hfr (by unfold hY;rw[hg];trivial) hf hk
theorem G1 {ops:List Oper} {l:List Nat} {r:Nat} (i:Nat) (hE:F3 P E) {o:Oper} {st':Value→St} {ob:Value→Prop} (hk:∀u,GA P E B W M0 Q k ops r (i::l) (st' u)) (h1:rdL l ops 0=[i]:=by exact rfl) (ho:X4 ops i=some o:=by exact rfl) (hi:F8 i l=false:=by exact rfl) (hg:gdB l o.guard=true:=by exact rfl)
 (h:∀u,O5 E (fun _=>none) ops (C9 ops ops) i st.f st.H st.nx o u=some (st' u,ob u):=by exact fun u=>rfl) (hob:∀u,ob u:=by(intro bs;and_intros<;> (intros;first|exact trivial|omega|exact rfl|exact yM _|exact uT _|exact uU _|exact gU _|(simp only;omega)|(simp;done)|(simp;omega)|(simp_all;done)|(simp_all;omega)))):GA P E B W M0 Q k ops (r+1) l st:=C3G i hE.T hE.Ψ (fun _=>none) h1 ho hi hg h hob hk
theorem jW {ops:List Oper} {l:List Nat} {r:Nat} (hk:G P E B W M0 Q (.ops ops (len ops)::k) st) (h:rdL l ops 0=[]:=by exact rfl) (hro:E.ro=none:=by exact rfl):GA P E B W M0 Q k ops r l st:=B9l h hk hro
theorem rQ (s n j0:Nat) {f b:Nat} {ty:TypeId} {caps:List C} {ys:List PV} (hs:st.f s=some (.u (.c (.clo f caps)))) (hj0:caps[j0]? =some (.ptr n b 0)) (hn:st.H n=some (.blk b ty (ys.map .pv)))
 (hk:G P E B W M0 Q k ⟨dJ st.f s (some (.u (.c (.clo f (caps.set j0 (.cel ys)))))),D7 st.H n none,st.nx⟩):G P E B W M0 Q k st:=by
 intro M a w hS;obtain⟨q1,q2,us,q3,q4⟩:=hS.h.ok _ _ hn
 let M':B8:=fun j=>if j=b then w.heap[b]? else M j
 have hle:M.le M':=by
  intro j o e;by_cases hj:j=b
  ·subst hj;rw[q2]at e;cases e
  ·simp[M',hj,e]
 have hH:∀m x,D7 st.H n none m=some x→m≠n∧st.H m=some x:=fun m x hm=>by
  by_cases e:m=n
  ·subst e;rw[B7]at hm;cases hm
  ·rw[C2 _ _ e]at hm;exact⟨e,hm⟩
 have hSH:E2 B W (D7 st.H n none) M' w:=by
  refine⟨hS.h.below,hS.h.base,?_,?_,fun m m' x x' c hm a1 a2=>hS.h.inj m m' x x' c hm (hH m x a1).2 (hH m' x' a2).2⟩
  ·intro j o e;by_cases hj:j=b
   ·subst hj;simpa[M']using e
   ·simp only[M',hj,if_false]at e;exact hS.h.mem j o e
  ·intro m x hx;obtain⟨e1,e2⟩:=hH m x hx;have hok:=hS.h.ok m x e2;refine hok.keep hle (fun c hc=>?_) (fun c hc=>rfl);have hcb:c≠b:=fun e=>hS.h.inj n m _ x b (fun h=>e1 h.symm) hn e2 rfl (e▸hc)
   simp only[M',hcb,if_false];exact(HB.block_lt hok hc).2.2
 refine hk M' a w ⟨hSH,fun k o hk hkB=>?_,hS.d.mono hle rfl,hS.n,fun s' e he=>?_,fun s' j c x hx=>?_⟩
 ·have hkb:k≠b:=fun e=>q1 (e▸hkB)
  simp only[M',hkb,if_false]at hk;exact hS.old k o hk hkB
 ·simp only[dJ]at he;split at he
  ·rename_i hb;rw[Nat.beq_eq]at hb;subst hb;cases he;obtain⟨v,v1,v2⟩:=hS.f _ _ hs;refine⟨v,v1,?_⟩;cases v2 with
   |c v2=>
    cases v2 with
    |clo hz hc=>
     rename_i vs;refine .c (.clo (by simpa using hz) fun j c u e1 e2=>?_);by_cases hjj:j=j0
     ·subst hjj;have hjl:=(gS_.1 hj0).1;rw[List.getElem?_set,if_pos rfl,if_pos hjl]at e1;cases e1;have:=hc j _ u hj0 e2;cases this;have hu:∀j y,ys[j]? =some y→∃v,us[j]? =some v∧R M' y v:=fun j y e=>by
       have hlt:j<us.size:=by
        have h9:us.toList.length=(ys.map C.pv).length:=q4.1;rw[List.length_map,Array.length_toList]at h9;rw[h9];exact(gS_.1 e).1
       have h2:=q4.2 j (.pv y) us[j] (by rw[List.getElem?_map,e];rfl) (by simp[hlt]);cases h2 with
       |pv h2=>exact⟨us[j],Array.getElem?_eq_getElem hlt,h2.mono hle⟩
      refine .cel b 0 (fun j=>us.getD j undef) (fun j y e=>?_) (fun j y e=>?_)
      ·obtain⟨v,h1,h2⟩:=hu j y e;simp[B8.cell,M',q3,h1]
      ·obtain⟨v,h1,h2⟩:=hu j y e;have:us.getD j undef=v:=by simp[h1]
       simp only[this];exact h2
     ·rw[List.getElem?_set,if_neg (fun e=>hjj e.symm)]at e1;exact(hc j c u e1 e2).mono hle
  ·obtain⟨v,v1,v2⟩:=hS.f s' e he;exact⟨v,v1,v2.mono hle⟩
 ·simp only[dJ]at hx;split at hx
  ·cases hx
  ·exact hS.g s' j c x hx
end
end
end Go.Mt
namespace Go.Proofs.YtgmeedgkjlfpeaaGreat
open Go.Mt
noncomputable section
theorem wk_ {p:Prop} (h:p:=by first|exact rfl|exact trivial|omega):p:=h
theorem ob_ {p:Prop} (h:p:=by first|exact trivial|exact rfl|omega|exact uT _|exact uU _|exact gU _|exact lE _|(simp only[L8,IntKind.bits];omega)):p:=h
theorem U3 {p:Prop} (h:p:=by first|exact ob_|(simp[L8,IntKind.bits];done)|(simp[L8,IntKind.bits]at* <;> omega)|(simp_all;done)|(with_reducible assumption)):p:=h
theorem U9 {p:Prop} (h:p:=by and_intros<;> first|exact trivial|assumption):p:=h
theorem I4 {E:E4} {X:Type} {f:FuncId} {fn:Func} {args:List A} {hs:List HB} {ok:X→Prop} {rx:X→A} {hs':X→List HB} (hf:Tryz.prog.funcs[f]? =some fn) (h:∀M0 W,M0.on W→G Tryz.prog E (jJ W hs) W M0 (cO Tryz.prog fn (aO M0 W hs ok rx hs')) [.code (P2 fn)] (yL args hs)) (hb:fn.body.isNone=false:=by exact rfl) (hnm:(fn.name== "runtime.NumGoroutine")=false:=by decide) (hN:fn.ntmps=E.N:=by exact rfl) (hl:Nat.ble (len args) E.N=true:=by exact rfl) (hro:E.ro=none:=by exact rfl) (hdl:E.mrk.dl=[]:=by exact rfl):C5 Tryz.prog f args hs ok rx hs':=A8I hf hb hnm hN hl h hro hdl
theorem dF {E:E4} {f:FuncId} {fn:Func} {args:List A} {sh:Bool} {rv:RV} (hf:Tryz.prog.funcs[f]? =some fn) (h:∀M0 W,M0.on W→G Tryz.prog E (low W.heap.size) W M0 (cO Tryz.prog fn (jS sh M0 W rv)) [.code (P2 fn)] (lY args)) (hb:fn.body.isNone=false:=by exact rfl) (hnm:(fn.name== "runtime.NumGoroutine")=false:=by decide) (hN:fn.ntmps=E.N:=by exact rfl) (hl:Nat.ble (len args) E.N=true:=by exact rfl) (hro:E.ro=none:=by exact rfl) (hdl:E.mrk.dl=[]:=by exact rfl):aE Tryz.prog f sh args rv:=B1T hf hb hnm hN hl h hro hdl

abbrev tI (k:IntKind) (b:Nat):Option TI:=some ⟨.int k,1,b,[.pv (.val (.int k 0))]⟩
abbrev tO:Option TI:=some ⟨.other,1,8,[.pv (.val .nilFunc)]⟩
abbrev tP (n:Nat):Option TI:=some ⟨.ptr n,1,8,[.pv (.val (.pointer none))]⟩
abbrev pI:C:= .pv (.val (.int .i64 0))
abbrev pS:C:= .pv (.val (.string ⟨⟨[]⟩⟩))
abbrev pP:C:= .pv (.val (.pointer none))
abbrev pF:C:= .pv (.val .nilFunc)
abbrev p8:C:= .pv (.val (.int .u8 0))
def tyl:List (Option TI):=[none,tO,tI .i64 8,tI .i64 8,
 some ⟨.bool,1,1,[.pv (.val (.bool false))]⟩,tI .u8 1,none,none,none,
 some ⟨.str,1,16,[pS]⟩,none,none,tI .u64 8,none,none,tP 454,tP 457,tP 465,none,none,none,tI .i32 4,
 some ⟨.slc 5 .byt,1,24,[.pv (.nil .byt)]⟩,tO,tP 49,none,tO,tI .i64 8,
 some ⟨.slc 9 .str,1,24,[.pv (.nil .str)]⟩,
 some ⟨.slc 234 .spn,1,24,[.pv (.nil .spn)]⟩,
 some ⟨.strct [(0,1,false),(1,1,false),(2,1,false),(3,1,false),(4,1,false),(5,1,false)],6,96,[pI,.pv (.nil .byt),.pv (.nil .str),.pv (.nil .spn),pI,pI]⟩,
 some ⟨.strct [(0,1,false),(1,1,false),(2,1,false),(3,1,false),(4,1,false),(5,1,false)],6,96,[pI,.pv (.nil .byt),.pv (.nil .str),.pv (.nil .spn),pI,pI]⟩,tO,
 some ⟨.strct [(0,1,false),(1,1,false),(2,1,false),(3,1,false),(4,1,false),(5,1,false),(6,1,false)],7,88,[pI,pS,pS,pI,pI,pI,.pv (.nil .byt)]⟩,
 some ⟨.strct [(0,1,false),(1,1,false),(2,1,false),(3,1,false),(4,1,false),(5,1,false),(6,1,false)],7,88,[pI,pS,pS,pI,pI,pI,.pv (.nil .byt)]⟩,tO,tO,tP 112,none,tO,tO,tO,
 some ⟨.map .str .ptr,1,8,[.pv (.val (.map none))]⟩,
 some ⟨.strct [],0,0,[]⟩,
 some ⟨.strct [],0,0,[]⟩,
 some ⟨.strct [],0,0,[]⟩,
 some ⟨.strct [(0,0,true),(0,0,true),(0,1,false)],1,8,[pI]⟩,
 some ⟨.strct [(0,0,true),(0,0,true),(0,1,false)],1,8,[pI]⟩,
 some ⟨.strct [(0,1,false),(1,1,false),(2,1,true)],3,24,[pP,.pv (.val (.map none)),pI]⟩,
 some ⟨.strct [(0,1,false),(1,1,false),(2,1,true)],3,24,[pP,.pv (.val (.map none)),pI]⟩,tO,tO,tO,tO,tO,tO,tP 139,none,tO,tO,none,tO,none,tO,tP 47,tO,tP 2,tO,tO,
 some ⟨.slc 116 .lnk,1,24,[.pv (.nil .lnk)]⟩,tO,tO,none,tO,tO,
 some ⟨.slc 288 .tbl,1,24,[.pv (.nil .tbl)]⟩,
 some ⟨.strct [(0,1,false)],1,24,[.pv (.nil .tbl)]⟩,
 some ⟨.strct [(0,1,false)],1,24,[.pv (.nil .tbl)]⟩,
 some ⟨.slc 97 .sht,1,24,[.pv (.nil .sht)]⟩,
 some ⟨.slc 89 .bms,1,24,[.pv (.nil .bms)]⟩,
 some ⟨.slc 3 (.ints .i64),1,24,[.pv (.nil (.ints .i64))]⟩,
 some ⟨.strct [(0,1,false),(1,1,false),(2,1,false),(3,1,true),(4,1,false),(5,1,false),(6,1,false)],7,128,[pI,pI,pS,.pv (.nil .tbl),.pv (.nil .sht),.pv (.nil .bms),.pv (.nil (.ints .i64))]⟩,
 some ⟨.strct [(0,1,false),(1,1,false),(2,1,false),(3,1,true),(4,1,false),(5,1,false),(6,1,false)],7,128,[pI,pI,pS,.pv (.nil .tbl),.pv (.nil .sht),.pv (.nil .bms),.pv (.nil (.ints .i64))]⟩,tO,tO,
 some ⟨.slc 56 .ptr,1,24,[.pv (.nil .ptr)]⟩,tO,tO,
 some ⟨.strct [(0,1,false),(1,1,false),(2,1,false)],3,48,[pS,.pv (.val (.bool false)),.pv (.nil .spn)]⟩,
 some ⟨.strct [(0,1,false),(1,1,false),(2,1,false)],3,48,[pS,.pv (.val (.bool false)),.pv (.nil .spn)]⟩,tO,tO,none,tO,none,tO,
 some ⟨.strct [(0,1,false),(1,1,false),(2,1,true)],3,48,[pS,pI,.pv (.nil .tbl)]⟩,
 some ⟨.strct [(0,1,false),(1,1,false),(2,1,true)],3,48,[pS,pI,.pv (.nil .tbl)]⟩,tO,tO,tO,tO,tO,tO,tO,tO,none,tO,tO,
 some ⟨.map .str .ptr,1,8,[.pv (.val (.map none))]⟩,
 some ⟨.slc 280 .log,1,24,[.pv (.nil .log)]⟩,
 some ⟨.strct [(0,1,false),(1,1,false),(2,1,false),(3,1,false),(4,1,false),(5,1,true)],6,64,[pI,.pv (.val (.map none)),.pv (.nil .log),pI,.pv (.val (.bool false)),pI]⟩,
 some ⟨.strct [(0,1,false),(1,1,false),(2,1,false),(3,1,false),(4,1,false),(5,1,true)],6,64,[pI,.pv (.val (.map none)),.pv (.nil .log),pI,.pv (.val (.bool false)),pI]⟩,tO,tO,
 some ⟨.strct [(0,1,false),(1,1,false)],2,32,[pS,pS]⟩,
 some ⟨.strct [(0,1,false),(1,1,false)],2,32,[pS,pS]⟩,tO,tP 123,none,tO,
 some ⟨.slc 125 .sec,1,24,[.pv (.nil .sec)]⟩,
 some ⟨.strct [(0,1,false),(1,1,false)],2,48,[.pv (.nil .sec),.pv (.nil .sec)]⟩,
 some ⟨.strct [(0,1,false),(1,1,false)],2,48,[.pv (.nil .sec),.pv (.nil .sec)]⟩,
 some ⟨.arr 16 5,16,16,[p8,p8,p8,p8,p8,p8,p8,p8,p8,p8,p8,p8,p8,p8,p8,p8]⟩,
 some ⟨.arr 16 5,16,16,[p8,p8,p8,p8,p8,p8,p8,p8,p8,p8,p8,p8,p8,p8,p8,p8]⟩,
 some ⟨.map .str .str,1,8,[.pv (.val (.map none))]⟩,tO,tO,tO,none,
 some ⟨.map .str .int,1,8,[.pv (.val (.map none))]⟩,
 some ⟨.slc 82 .mta,1,24,[.pv (.nil .mta)]⟩,tI .u32 4,
 some ⟨.strct [(0,1,false),(1,1,false),(2,1,false),(3,1,false)],4,32,[pI,pI,pI,.pv (.val (.int .u32 0))]⟩,
 some ⟨.strct [(0,1,false),(1,1,false),(2,1,false),(3,1,false)],4,32,[pI,pI,pI,.pv (.val (.int .u32 0))]⟩,tP 328,tP 325,
 some ⟨.strct [(0,1,false),(1,1,false),(2,7,true),(9,7,true),(16,1,false),(17,4,true),(21,1,false),(22,1,false),(23,1,false),(24,1,true)],25,368,[pP,pS,pI,pI,pS,.pv (.nil .tbl),.pv (.nil .sht),.pv (.nil .bms),.pv (.nil (.ints .i64)),pI,pI,pS,.pv (.nil .tbl),.pv (.nil .sht),.pv (.nil .bms),.pv (.nil (.ints .i64)),.pv (.nil .mta),pI,pI,pI,.pv (.val (.int .u32 0)),.pv (.val (.bool false)),pP,pP,pI]⟩,
 some ⟨.strct [(0,1,false),(1,1,false),(2,7,true),(9,7,true),(16,1,false),(17,4,true),(21,1,false),(22,1,false),(23,1,false),(24,1,true)],25,368,[pP,pS,pI,pI,pS,.pv (.nil .tbl),.pv (.nil .sht),.pv (.nil .bms),.pv (.nil (.ints .i64)),pI,pI,pS,.pv (.nil .tbl),.pv (.nil .sht),.pv (.nil .bms),.pv (.nil (.ints .i64)),.pv (.nil .mta),pI,pI,pI,.pv (.val (.int .u32 0)),.pv (.val (.bool false)),pP,pP,pI]⟩,tO,none,tO,tO,tO,tO,tO,tO,tO,tI .u64 8,none,tO,
 some ⟨.slc 156 .pcs,1,24,[.pv (.nil .pcs)]⟩,none,tO,
 some ⟨.strct [(0,1,false),(1,1,false),(2,1,false)],3,24,[pI,pI,pI]⟩,
 some ⟨.strct [(0,1,false),(1,1,false),(2,1,false)],3,24,[pI,pI,pI]⟩,none,tO,tO,tO,none,tO,
 some ⟨.slc 174 .rcd,1,24,[.pv (.nil .rcd)]⟩,
 some ⟨.strct [(0,1,false),(1,1,false),(2,1,false)],3,40,[.pv (.val (.bool false)),pI,.pv (.nil .rcd)]⟩,
 some ⟨.strct [(0,1,false),(1,1,false),(2,1,false)],3,40,[.pv (.val (.bool false)),pI,.pv (.nil .rcd)]⟩,tO,tO,tO,tO,tO,tO,tO,
 some ⟨.strct [(0,1,false),(1,1,false)],2,32,[pI,.pv (.nil .byt)]⟩,
 some ⟨.strct [(0,1,false),(1,1,false)],2,32,[pI,.pv (.nil .byt)]⟩,tO,tO,none,tO,
 some ⟨.strct [(0,1,false),(1,1,false)],2,16,[pI,pI]⟩,
 some ⟨.strct [(0,1,false),(1,1,false)],2,16,[pI,pI]⟩,
 some ⟨.strct [(0,1,false),(1,1,false),(2,1,false)],3,24,[pI,pI,pI]⟩,
 some ⟨.strct [(0,1,false),(1,1,false),(2,1,false)],3,24,[pI,pI,pI]⟩,tO,
 some ⟨.strct [(0,1,false),(1,1,false),(2,1,false),(3,1,false),(4,1,false)],5,40,[pI,pI,pI,pI,.pv (.val (.int .u32 0))]⟩,
 some ⟨.strct [(0,1,false),(1,1,false),(2,1,false),(3,1,false),(4,1,false)],5,40,[pI,pI,pI,pI,.pv (.val (.int .u32 0))]⟩,tO,tO,none,tO,tO,tO,tO,tO,tO,tO,tO,tO,none,tO,tO,tO,tO,tO,tO,none,tO,tO,tO,tO,none,tO,tO,
 some ⟨.slc 216 .lin,1,24,[.pv (.nil .lin)]⟩,tO,
 some ⟨.strct [(0,1,false),(1,1,false),(2,5,true)],7,56,[pI,pI,pI,pI,pI,pI,.pv (.val (.int .u32 0))]⟩,
 some ⟨.strct [(0,1,false),(1,1,false),(2,5,true)],7,56,[pI,pI,pI,pI,pI,pI,.pv (.val (.int .u32 0))]⟩,
 some ⟨.slc 135 .slt,1,24,[.pv (.nil .slt)]⟩,none,tO,tO,tP 223,
 some ⟨.strct [(0,7,true),(7,1,false),(8,1,false)],9,160,[pI,pI,pS,.pv (.nil .tbl),.pv (.nil .sht),.pv (.nil .bms),.pv (.nil (.ints .i64)),pI,.pv (.nil (.ints .i64))]⟩,
 some ⟨.strct [(0,7,true),(7,1,false),(8,1,false)],9,160,[pI,pI,pS,.pv (.nil .tbl),.pv (.nil .sht),.pv (.nil .bms),.pv (.nil (.ints .i64)),pI,.pv (.nil (.ints .i64))]⟩,none,tO,tO,tO,tO,
 some ⟨.slc 71 .fn,1,24,[.pv (.nil .fn)]⟩,tO,tO,tO,
 some ⟨.strct [(0,1,false),(1,1,false)],2,16,[pI,pI]⟩,
 some ⟨.strct [(0,1,false),(1,1,false)],2,16,[pI,pI]⟩,tO,tO,tO,tO,none,tO,tO,tO,tI .i64 8,none,tO,tO,tO,tO,tO,tO,tO,tI .u64 8,none,tO,tO,tO,tO,tO,tO,tO,tO,tO,tP 265,
 some ⟨.strct [(0,1,false),(1,1,false)],2,32,[.pv (.nil .byt),.pv (.val (.int .u32 0))]⟩,
 some ⟨.strct [(0,1,false),(1,1,false)],2,32,[.pv (.nil .byt),.pv (.val (.int .u32 0))]⟩,none,none,none,tO,tO,none,none,
 some ⟨.strct [(0,1,false),(1,1,false)],2,16,[pI,pI]⟩,
 some ⟨.strct [(0,1,false),(1,1,false)],2,16,[pI,pI]⟩,tO,tO,tP 97,tO,
 some ⟨.strct [(0,1,false),(1,1,false),(2,16,true)],18,40,[pS,pI,p8,p8,p8,p8,p8,p8,p8,p8,p8,p8,p8,p8,p8,p8,p8,p8]⟩,
 some ⟨.strct [(0,1,false),(1,1,false),(2,16,true)],18,40,[pS,pI,p8,p8,p8,p8,p8,p8,p8,p8,p8,p8,p8,p8,p8,p8,p8,p8]⟩,tO,tO,tO,tO,tO,tO,tO,
 some ⟨.slc 185 .ent,1,24,[.pv (.nil .ent)]⟩,tO,tO,none,tO,tO,tP 89,tO,tO,tO,tO,
 some ⟨.map .ent .int,1,8,[.pv (.val (.map none))]⟩,tO,tO,tO,tO,tO,tO,tO,tO,tO,tO,tO,tO,tO,tO,tO,tO,
 some ⟨.arr 16 5,16,16,[p8,p8,p8,p8,p8,p8,p8,p8,p8,p8,p8,p8,p8,p8,p8,p8]⟩,tO,tO,tO,tO,tO,tO,
 some ⟨.map .int .ptr,1,8,[.pv (.val (.map none))]⟩,
 some ⟨.strct [(0,1,false),(1,1,false),(2,1,true)],3,24,[pI,.pv (.val (.map none)),pI]⟩,
 some ⟨.strct [(0,1,false),(1,1,false),(2,1,true)],3,24,[pI,.pv (.val (.map none)),pI]⟩,
 some ⟨.slc 354 .knw,1,24,[.pv (.nil .knw)]⟩,
 some ⟨.strct [(0,1,false),(1,1,true)],2,32,[.pv (.nil .knw),pI]⟩,
 some ⟨.strct [(0,1,false),(1,1,true)],2,32,[.pv (.nil .knw),pI]⟩,tI .u64 8,tO,tO,tO,tP 3,tO,none,tO,tO,tO,tO,tO,tO,none,tO,tO,tO,tO,tO,tP 350,
 some ⟨.strct [(0,1,false),(1,1,false),(2,1,false)],3,40,[.pv (.nil .byt),pI,.pv (.val (.bool false))]⟩,
 some ⟨.strct [(0,1,false),(1,1,false),(2,1,false)],3,40,[.pv (.nil .byt),pI,.pv (.val (.bool false))]⟩,tO,tO,
 some ⟨.strct [(0,1,false),(1,5,true)],6,48,[.pv (.val (.int .u64 0)),pI,pI,pI,pI,.pv (.val (.int .u32 0))]⟩,
 some ⟨.strct [(0,1,false),(1,5,true)],6,48,[.pv (.val (.int .u64 0)),pI,pI,pI,pI,.pv (.val (.int .u32 0))]⟩,tO,tO,tO,tO,tO,tO,none,tO,tO,tP 366,
 some ⟨.strct [(0,1,false)],1,24,[.pv (.nil .byt)]⟩,
 some ⟨.strct [(0,1,false)],1,24,[.pv (.nil .byt)]⟩,tO,tO,tO,tO,
 some ⟨.strct [],0,0,[]⟩,
 some ⟨.strct [(0,0,true),(0,1,false)],1,4,[.pv (.val (.int .u32 0))]⟩,
 some ⟨.strct [(0,0,true),(0,1,false)],1,4,[.pv (.val (.int .u32 0))]⟩,
 some ⟨.strct [(0,1,false),(1,1,false)],2,8,[.pv (.val (.int .i32 0)),.pv (.val (.int .u32 0))]⟩,
 some ⟨.strct [(0,1,false),(1,1,false)],2,8,[.pv (.val (.int .i32 0)),.pv (.val (.int .u32 0))]⟩,
 some ⟨.strct [(0,0,true),(0,2,true)],2,8,[.pv (.val (.int .i32 0)),.pv (.val (.int .u32 0))]⟩,
 some ⟨.strct [(0,0,true),(0,2,true)],2,8,[.pv (.val (.int .i32 0)),.pv (.val (.int .u32 0))]⟩,
 some ⟨.strct [(0,0,true),(0,1,true),(1,2,true)],3,12,[.pv (.val (.int .u32 0)),.pv (.val (.int .i32 0)),.pv (.val (.int .u32 0))]⟩,
 some ⟨.strct [(0,0,true),(0,1,true),(1,2,true)],3,12,[.pv (.val (.int .u32 0)),.pv (.val (.int .i32 0)),.pv (.val (.int .u32 0))]⟩,
 some ⟨.arr 16 133,16,64,[.pv (.val (.int .u32 0)),.pv (.val (.int .u32 0)),.pv (.val (.int .u32 0)),.pv (.val (.int .u32 0)),.pv (.val (.int .u32 0)),.pv (.val (.int .u32 0)),.pv (.val (.int .u32 0)),.pv (.val (.int .u32 0)),.pv (.val (.int .u32 0)),.pv (.val (.int .u32 0)),.pv (.val (.int .u32 0)),.pv (.val (.int .u32 0)),.pv (.val (.int .u32 0)),.pv (.val (.int .u32 0)),.pv (.val (.int .u32 0)),.pv (.val (.int .u32 0))]⟩,
 some ⟨.strct [(0,3,true),(3,16,true)],19,76,[.pv (.val (.int .u32 0)),.pv (.val (.int .i32 0)),.pv (.val (.int .u32 0)),.pv (.val (.int .u32 0)),.pv (.val (.int .u32 0)),.pv (.val (.int .u32 0)),.pv (.val (.int .u32 0)),.pv (.val (.int .u32 0)),.pv (.val (.int .u32 0)),.pv (.val (.int .u32 0)),.pv (.val (.int .u32 0)),.pv (.val (.int .u32 0)),.pv (.val (.int .u32 0)),.pv (.val (.int .u32 0)),.pv (.val (.int .u32 0)),.pv (.val (.int .u32 0)),.pv (.val (.int .u32 0)),.pv (.val (.int .u32 0)),.pv (.val (.int .u32 0))]⟩,
 some ⟨.strct [(0,3,true),(3,16,true)],19,76,[.pv (.val (.int .u32 0)),.pv (.val (.int .i32 0)),.pv (.val (.int .u32 0)),.pv (.val (.int .u32 0)),.pv (.val (.int .u32 0)),.pv (.val (.int .u32 0)),.pv (.val (.int .u32 0)),.pv (.val (.int .u32 0)),.pv (.val (.int .u32 0)),.pv (.val (.int .u32 0)),.pv (.val (.int .u32 0)),.pv (.val (.int .u32 0)),.pv (.val (.int .u32 0)),.pv (.val (.int .u32 0)),.pv (.val (.int .u32 0)),.pv (.val (.int .u32 0)),.pv (.val (.int .u32 0)),.pv (.val (.int .u32 0)),.pv (.val (.int .u32 0))]⟩,tO,tP 329,none,tO,tP 389,
 some ⟨.strct [(0,1,false),(1,1,false),(2,1,false),(3,1,false)],4,64,[.pv (.nil .byt),.pv (.val (.bool false)),pI,.pv (.nil (.ints .i64))]⟩,
 some ⟨.strct [(0,1,false),(1,1,false),(2,1,false),(3,1,false)],4,64,[.pv (.nil .byt),.pv (.val (.bool false)),pI,.pv (.nil (.ints .i64))]⟩,tO,tO,tO,none,tO,tO,none,tO,tO,tO,tO,tO,tO,tP 382,tO,tO,tO,tO,tO,
 some ⟨.map .int .int,1,8,[.pv (.val (.map none))]⟩,tO,tO,tO,tO,none,tO,tP 418,
 some ⟨.strct [(0,1,false),(1,1,false)],2,32,[.pv (.nil .byt),pI]⟩,
 some ⟨.strct [(0,1,false),(1,1,false)],2,32,[.pv (.nil .byt),pI]⟩,tO,tP 379,tO,tO,
 some ⟨.map .byt .int,1,8,[.pv (.val (.map none))]⟩,
 some ⟨.arr 4 5,4,4,[p8,p8,p8,p8]⟩,tO,tO,tO,tO,tO,tO,tP 373,tO,tP 133,tO,tO,
 some ⟨.strct [],0,0,[]⟩,none,tO,none,tO,tP 377,tO,tO,tO,tP 375,tO,tP 21,tO,none,tO,tO,tO,none,none,
 some ⟨.arr 0 16,0,0,[]⟩,none,none,none,none,tO,tP 5,none,none,none,none]
def T:Tb:=tbl tyl
theorem tOk:L9 Tryz.prog T:=B4d (by kernel_rfl)
abbrev Bs:=List UInt8
structure O0 where
 b:Nat
 now:List Bs
abbrev vC:=List (KK.str.T×O0)
structure G4 where
 room:Int
 files:vC
 lg:Nat
def Z6 (l:vC):List (KK.str.T×VK.ptr.T):=l.map fun p=>(p.1,some p.2.b)
def A4A (p:KK.str.T×O0):Ob (Value×List Bs):=⟨fun _=>∀s∈p.2.now,s.length=16,fun x=>[.blk p.2.b 123 [.own 1 x.1,.pv (.lst .sec x.2)],.own x.1 125 .sec p.2.now]⟩
abbrev A6a (p:KK.str.T×O0) (S:Nat→Prop):HB:=ThO (A4A p) S
structure DX where
 bm:Nat
 v:Value
 l:List A7n
 S:Nat→Prop
 n:Int
def jG (b:Nat) (d:G4):Ob DX:=⟨fun x=>x.l.length≤d.lg,fun x=>[.blk b 112 [.pv (i64 d.room),.mpt 1 x.bm,.own 2 x.v,.pv (i64 0),.pv (bv false),.pv (i64 x.n)],.mp x.bm .str .ptr (Z6 d.files),.own x.v 280 .log x.l,O8 A6a d.files x.S]⟩
abbrev C6 (b:Nat) (d:G4) (S:Nat→Prop):HB:=ThO (jG b d) S
def A4B:E4:=⟨T,bG,I0,A9,11,[],none,.f⟩
theorem B9u:B3 Tryz.prog A4B:=⟨O7,E6,A4⟩
theorem B5L:F3 Tryz.prog A4B:=⟨tOk,B9u⟩
theorem dUp (b:Nat) (d:G4) (S:Nat→Prop):C5 Tryz.prog 114 [.c (.ptr 0 b 0)] [C6 b d S] (fun _=>True) (fun _:Nat→Prop=>int .i64 0) (fun S=>[C6 b d S]):=by
 refine I4 (E:=A4B) Tryz.func114 (fun M0 W hM0=>?_);refine N1 0 (fun x hx=>?_);refine A3 B5L [false,false] (fun bs=>?_);refine J7 0 (jG b d) [0,1,2,3] x hx (fun S'=>?_);exact B6 B5L S' trivial [0]
theorem lkP {l:vC} {nm:Bs} {f:O0} (h:H5 l nm=some f):P0 VK.ptr.dft (H5 (Z6 l) nm)=some f.b:=by unfold Z6;rw[pJ (fun f:O0=>some f.b),h];rfl
theorem lkN {l:vC} {nm:Bs} (h:H5 l nm=none):P0 VK.ptr.dft (H5 (Z6 l) nm)=none:=by unfold Z6;rw[pJ (fun f:O0=>some f.b),h];rfl
theorem B9v {l:vC} {nm:Bs} (h:H5 l nm=none):H5 (Z6 l) nm=none:=by unfold Z6;rw[pJ (fun f:O0=>some f.b),h];rfl
def yP:E4:=⟨T,bG,I0,A9,22,[],none,.f⟩
theorem B5M:B3 Tryz.prog yP:=⟨O7,E6,A4⟩
theorem wO:F3 Tryz.prog yP:=⟨tOk,B5M⟩
theorem B9w (b:Nat) (d:G4) (S:Nat→Prop) (nm:Bs) (f:O0) (hf:H5 d.files nm=some f):C5 Tryz.prog 55 [.c (.ptr 0 b 0),str nm] [C6 b d S] (fun _=>True) (fun _:Nat→Prop=> .t [.c (.ptr 9 f.b 0),int .i64 0]) (fun S=>[C6 b d S]):=by
 refine I4 (E:=yP) Tryz.func55 (fun M0 W hM0=>?_);refine A3 wO [] (fun bs=>?_);refine A5 [0] (dUp b d S) (fun S1 _=>?_);refine N1 0 (fun x hx=>?_);refine A3 wO [false] (fun bs=>?_);refine Y0 7 9 (lkP hf) ?_;refine Y0 19 9 (lkP hf) ?_;refine A3 wO [false] (fun bs=>?_);refine J7 0 (jG b d) [0,1,2,3] x hx (fun S'=>?_);exact B6 wO S' trivial [0]
def rR:E4:=⟨T,bG,I0,A9,22,[],none,.f⟩
theorem B1p:B3 Tryz.prog rR:=⟨O7,E6,A4⟩
theorem pK:F3 Tryz.prog rR:=⟨tOk,B1p⟩
theorem C4n (b:Nat) (d:G4) (S:Nat→Prop) (nm:Bs) (hf:H5 d.files nm=none):C5 Tryz.prog 55 [.c (.ptr 0 b 0),str nm] [C6 b d S] (fun _=>True) (fun _:Nat→Prop=> .t [pv (.val (.pointer none)),int .i64 4]) (fun S=>[C6 b d S]):=by
 refine I4 (E:=rR) Tryz.func55 (fun M0 W hM0=>?_);refine A3 pK [] (fun bs=>?_);refine A5 [0] (dUp b d S) (fun S1 _=>?_);refine N1 0 (fun x hx=>?_);refine A3 pK [false] (fun bs=>?_);refine hZ 7 (lkN hf) ?_;refine hZ 19 (lkN hf) ?_;refine A3 pK [true] (fun bs=>?_);refine J7 0 (jG b d) [0,1,2,3] x hx (fun S'=>?_);exact B6 pK S' trivial [0]
def rS:E4:=⟨T,bG,I0,A9,22,[],none,.f⟩
theorem B1q:B3 Tryz.prog rS:=⟨O7,E6,A4⟩
theorem yQ:F3 Tryz.prog rS:=⟨tOk,B1q⟩
theorem B0R (b:Nat) (d:G4) (S:Nat→Prop) (nm:Bs) (f:O0) (hf:H5 d.files nm=some f):C5 Tryz.prog 38 [.c (.ptr 0 b 0),str nm] [C6 b d S] (fun _=>True) (fun _:Nat→Prop=> .t [int .i64 f.now.length,int .i64 0]) (fun S=>[C6 b d S]):=by
 refine I4 (E:=rS) Tryz.func38 (fun M0 W hM0=>?_);obtain⟨l1,l2,e1,e2,e3⟩:=bH hf;refine N1 0 (fun x hx=>?_);refine A3 yQ [false] (fun bs=>?_);refine Y0 6 4 (lkP hf) ?_;refine Y0 15 4 (lkP hf) ?_;refine U2 3 4 e1 (fun S1 S2=>?_);refine N1 4 (fun y hy=>?_);refine A3 yQ [false] (fun bs=>?_);refine J7 4 (A4A (nm,f)) [4,5] y hy (fun S3=>?_);refine dR 3 4 e1 (fun S4=>?_);refine J7 0 (jG b d) [0,1,2,3] {x with S:=S4} hx (fun S'=>?_);exact B6 yQ S' trivial [0]
theorem C2N {s:Bs} (h:s.length=16):[UInt8.ofNat ((s.getD 0 0).toNat:Int).toNat,UInt8.ofNat ((s.getD 1 0).toNat:Int).toNat,UInt8.ofNat ((s.getD 2 0).toNat:Int).toNat,UInt8.ofNat ((s.getD 3 0).toNat:Int).toNat,UInt8.ofNat ((s.getD 4 0).toNat:Int).toNat,UInt8.ofNat ((s.getD 5 0).toNat:Int).toNat,UInt8.ofNat ((s.getD 6 0).toNat:Int).toNat,UInt8.ofNat ((s.getD 7 0).toNat:Int).toNat,UInt8.ofNat ((s.getD 8 0).toNat:Int).toNat,UInt8.ofNat ((s.getD 9 0).toNat:Int).toNat,UInt8.ofNat ((s.getD 10 0).toNat:Int).toNat,UInt8.ofNat ((s.getD 11 0).toNat:Int).toNat,UInt8.ofNat ((s.getD 12 0).toNat:Int).toNat,UInt8.ofNat ((s.getD 13 0).toNat:Int).toNat,UInt8.ofNat ((s.getD 14 0).toNat:Int).toNat,UInt8.ofNat ((s.getD 15 0).toNat:Int).toNat]=s:=by
 match s,h with
 |[a0,a1,a2,a3,a4,a5,a6,a7,a8,a9,a10,a11,a12,a13,a14,a15],_=>simp
def iA (l:List Bs) (a n:Nat):Bs:=((l.drop a).take n).flatten
theorem A6b {l:List Bs} {a i:Nat} (d:Bs) (h:a+i<l.length):iA l a (i+1)=iA l a i++l.getD (a+i) d:=by
 unfold iA;rw[List.take_add_one,List.getElem?_drop,gE_ h];simp[List.getD,gE_ h]
theorem B9x {l:List Bs} (hl:∀s∈l,s.length=16) (a n:Nat):(iA l a n).length≤n*16:=by
 unfold iA;have:∀m:List Bs,(∀s∈m,s.length=16)→m.flatten.length=m.length*16:=by
  intro m
  induction m with
  |nil=>intro _;rfl
  |cons x m ih=>intro h;simp[h x (by simp),ih (fun s hs=>h s (by simp[hs])),Nat.add_mul];omega
 rw[this _ (fun s hs=>hl s (List.mem_of_mem_drop (List.mem_of_mem_take hs)))];simp;omega
def B5N (b:Nat) (d:G4) (x:DX) (l:vC) (S:Nat→Prop):List HB:=[.blk b 112 [.pv (i64 d.room),.mpt 1 x.bm,.own 2 x.v,.pv (i64 0),.pv (bv false),.pv (i64 x.n)],.mp x.bm .str .ptr (Z6 d.files),.own x.v 280 .log x.l,O8 A6a l S]
def rT:E4:=⟨T,bG,I0,A9,65,[],none,.f⟩
theorem B1r:B3 Tryz.prog rT:=⟨O7,E6,A4⟩
theorem gB:F3 Tryz.prog rT:=⟨tOk,B1r⟩
theorem A6c (b:Nat) (d:G4) (S:Nat→Prop) (nm:Bs) (f:O0) (hf:H5 d.files nm=some f) (at_ n:Nat) (hn:at_+n≤f.now.length) (hm:f.now.length≤1000000):C5 Tryz.prog 22 [.c (.ptr 0 b 0),str nm,int .i64 at_,int .i64 n] [C6 b d S] (fun _=>True) (fun x:(Nat→Prop)×Value=> .t [.c (.own 1 x.2),int .i64 0]) (fun x=>[C6 b d x.1,.own x.2 5 .byt (iA f.now at_ n)]):=by
 refine I4 (E:=rT) Tryz.func22 (fun M0 W hM0=>?_);obtain⟨l1,l2,e1,e2,e3⟩:=bH hf;refine A3 gB [] (fun bs=>?_);refine A5 [0] (B9w b d S nm f hf) (fun S1 _=>?_);refine N1 0 (fun x hx=>?_);refine U2 3 9 e1 (fun S2 S3=>?_);refine N1 9 (fun y hy=>?_);refine A3 gB [false,false,false,false,false] (fun bs=>?_);refine oY 12 5 rfl ?_;refine L5 (fun p:Nat×Value=>[(54,.c (.osl 5 y.1 at_ (at_+n) 16)),(55,int .i64 n),(56,int .i64 p.1),(12,.c (.own 6 p.2))]) (fun p=>B5N b d x (l1++l2) S2++[.blk f.b 123 [.own 5 y.1,.pv (.lst .sec y.2)],.own y.1 125 .sec f.now,.own p.2 5 .byt (iA f.now at_ p.1)]) (fun p=>p.1≤n) (fun p=>n-p.1) [0,1,2,3,9,10,11] (0,.slice none 0 0) (Nat.zero_le _) ?wk (fun p hp=>?_)
 case wk=>
  and_intros<;> (first|exact wk_|refine A6 ?_|skip)
  all_goals first|(simp;omega)|rfl
 refine A3 gB [] (fun bs=>?_);refine I6 rfl rfl (fun hk=>?_) (fun hk=>?_)
 ·have hk':p.1<n:=by omega
  have X7:(iA f.now at_ p.1).length≤p.1*16:=B9x hy _ _;have hlt:at_+p.1<f.now.length:=by omega
  have hs:(f.now.getD (at_+p.1) LK.sec.dft).length=16:=by rw[List.getD,gE_ hlt];exact hy _ (List.getElem_mem hlt)
  refine A3 gB [] (fun bs=>?_);refine G8 [0,1,2,3,4,5,8] (p.1+1,?v1) ?ok1 ?wk1
  case ok1=>exact⟨hk',by simp only;omega⟩
  case wk1=>
   and_intros<;> (first|exact wk_|refine A6 ?_|skip)
   all_goals first|(rw[A6b LK.sec.dft hlt];exact congrArg _ (C2N hs))
 ·have hk':p.1=n:=by omega
  refine A3 gB [] (fun bs=>?_);refine J7 4 (A4A (nm,f)) [4,5] y hy (fun S4=>?_);refine dR 3 4 e1 (fun S5=>?_);refine J7 0 (jG b d) [0,1,2,3] {x with S:=S5} hx (fun S'=>?_);rw[hk'];exact B6 gB (S',p.2) trivial [0,6]
def szs (l:vC):List Int:=l.map fun p=>(p.2.now.length:Int)
def usd (l:vC) (vs:List Nat):Int:=(vs.map fun i=>(szs l).getD i 0).sum
def Y1 (l:vC):Int:=(szs l).sum
theorem lI {n:Nat}:∀{vs:List Nat},vs.Nodup→(∀i∈vs,i<n)→vs.length≤n:=by
 intro vs h1 h2;have hp:vs.Perm ((List.range n).filter (fun i=>decide (i∈vs))):=(List.perm_ext_iff_of_nodup h1 (List.nodup_range.filter _)).2 (fun i=>by simp only[List.mem_filter,List.mem_range,decide_eq_true_eq];exact⟨fun h=>⟨h2 i h,h⟩,fun h=>h.2⟩);rw[hp.length_eq];exact Nat.le_trans (List.length_filter_le _ _) (by simp)
theorem B5O {l m:List Int} (h:l.Perm m):l.sum=m.sum:=by
 induction h with
 |nil=>rfl
 |cons x _ ih=>simp[ih]
 |swap x y l=>simp;omega
 |trans _ _ h1 h2=>exact h1.trans h2
theorem B9y {l:vC} {vs:List Nat} (h1:vs.Nodup) (h2:∀i∈vs,i<l.length) (h3:∀i,i<l.length→i∈vs):usd l vs=Y1 l:=by
 have hp:vs.Perm (List.range l.length):=(List.perm_ext_iff_of_nodup h1 List.nodup_range).2 (fun i=>⟨fun h=>List.mem_range.2 (h2 i h),fun h=>h3 i (List.mem_range.1 h)⟩);unfold usd Y1;rw[B5O (hp.map _)]
 congr 1
 refine List.ext_getElem (by simp[szs]) (fun i h4 h5=>?_);simp only[szs,List.length_map]at h5;simp[List.getD,szs,h5]
theorem C3O {l:vC} {N:Nat} (hl:∀p∈l,p.2.now.length≤N):∀vs:List Nat,0≤usd l vs∧usd l vs≤vs.length*N:=by
 intro vs
 induction vs with
 |nil=>simp[usd]
 |cons i vs ih=>
  have h1:usd l (i::vs)=(szs l).getD i 0+usd l vs:=by simp[usd]
  have h2:0≤(szs l).getD i 0∧(szs l).getD i 0≤N:=by
   unfold szs;rw[List.getD,List.getElem?_map];cases hi:l[i]? with
   |none=>simp
   |some p=>have:=hl p (List.mem_of_getElem? hi);simp;omega
  rw[h1]
  constructor
  ·omega
  ·have:((i::vs).length:Int)*N=vs.length*N+N:=by simp[Int.add_mul]
   omega
theorem B5P {l:vC} {j:Nat} (vs:List Nat) (h:j<l.length):usd l (j::vs)=usd l vs+l[j].2.now.length:=by
 have:(szs l).getD j 0=l[j].2.now.length:=by simp[List.getD,szs,h]
 simp only[usd,List.map_cons,List.sum_cons,this];omega
theorem B5Q {l:vC} {j:Nat} (h:j<l.length):((Z6 l).getD j (KK.str.dft,VK.ptr.dft)).2=some l[j].2.b:=by
 simp[List.getD,Z6,h]
def C4o (b:Nat) (d:G4) (x:DX) (l:vC) (f:O0) (y:Value×List Bs) (S:Nat→Prop):List HB:=B5N b d x l S++[.blk f.b 123 [.own 5 y.1,.pv (.lst .sec y.2)],.own y.1 125 .sec f.now]
theorem B5R {α:Type} {l1 l2:List α} {x:α} {j:Nat} (h:j<(l1++x::l2).length) (hj:j≠l1.length):∃m1 m2,l1++l2=m1++(l1++x::l2)[j]::m2:=by
 have hm:(l1++x::l2)[j]∈l1++l2:=by
  simp only[List.length_append,List.length_cons]at h;rcases Nat.lt_or_ge j l1.length with h1|h1
  ·rw[List.getElem_append_left h1];exact List.mem_append.2 (.inl (List.getElem_mem h1))
  ·rw[List.getElem_append_right h1];obtain⟨q,hq⟩:∃q,j-l1.length=q+1:=⟨j-l1.length-1,by omega⟩
   simp only[hq,List.getElem_cons_succ];exact List.mem_append.2 (.inr (List.getElem_mem _))
 obtain⟨s,t,e⟩:=List.append_of_mem hm;exact⟨s,t,e⟩
def rU:E4:=⟨T,bG,I0,A9,25,[],none,.f⟩
theorem B1s:B3 Tryz.prog rU:=⟨O7,E6,A4⟩
theorem cC:F3 Tryz.prog rU:=⟨tOk,B1s⟩
theorem C4p (b:Nat) (d:G4) (x:DX) (nm:Bs) (f:O0) (l1 l2:vC) (y:Value×List Bs) (S:Nat→Prop) (he:d.files=l1++(nm,f)::l2) (hl:∀p∈d.files,p.2.now.length≤65536) (hn:d.files.length≤32):C5 Tryz.prog 210 [.c (.ptr 0 b 0)] (C4o b d x (l1++l2) f y S) (fun _=>True) (fun _:Nat→Prop=>int .i64 (Y1 d.files)) (fun S=>C4o b d x (l1++l2) f y S):=by
 refine I4 (E:=rU) Tryz.func210 (fun M0 W hM0=>?_);refine A3 cC [false] (fun bs=>?_);refine V3 (fun vs:List Nat×Nat×(Nat→Prop)=>[(3,int .i64 (usd d.files vs.1)),(12,.c (.ptr 1 vs.2.1 0))]) (fun vs=>[.blk b 112 [.pv (i64 d.room),.mpt 1 x.bm,.own 2 x.v,.pv (i64 0),.pv (bv false),.pv (i64 x.n)],.mpr x.bm .str .ptr (Z6 d.files) vs.2.1 vs.1,.own x.v 280 .log x.l,O8 A6a (l1++l2) vs.2.2,.blk f.b 123 [.own 5 y.1,.pv (.lst .sec y.2)],.own y.1 125 .sec f.now]) (fun vs=>vs.1.Nodup∧∀i∈vs.1,i<d.files.length) (fun vs=>d.files.length-vs.1.length) [0,1,2,3,4,5] ([],?bi,S) ⟨List.nodup_nil,by simp⟩ (fun vs hv=>?_)
 refine A3 cC [] (fun bs=>?_);refine A8O 1 rfl (fun j hj hnv=>?_) (fun hall=>?_)
 ·have hj':j<d.files.length:=by simpa[Z6]using hj
  have hnd:(j::vs.1).Nodup:=List.nodup_cons.2 ⟨hnv,hv.1⟩;have hlt:∀i∈j::vs.1,i<d.files.length:=fun i hi=>by
   rcases List.mem_cons.1 hi with rfl|hi
   ·exact hj'
   ·exact hv.2 i hi
  have hle:=lI hnd hlt;simp only[List.length_cons]at hle;have hu:=C3O hl vs.1;have hs:d.files[j].2.now.length≤65536:=hl _ (List.getElem_mem hj');have hb:((vs.1.length:Nat):Int)*65536≤32*65536:=by omega
  have hb2:usd d.files vs.1≤32*65536:=by have:=hu.2;omega
  have hc:=B5P vs.1 hj';by_cases hjf:j=l1.length
  ·have ef:d.files[j]=(nm,f):=by simp[he,hjf]
   have ep:=B5Q hj';rw[ef]at ep hs hc;refine A3 cC [true] (fun bs=>?_);refine Y0 18 4 ep ?_;refine A3 cC [] (fun bs=>?_);refine G8 [0,1,2,3,4,5] (j::vs.1,vs.2.1,vs.2.2) ⟨⟨hnd,hlt⟩,by simp only[List.length_cons];omega⟩ ?wk1
   case wk1=>
    and_intros<;> (first|exact wk_|refine A6 ?_|skip)
    all_goals exact hc.symm
  ·have h0:∃m1 m2,l1++l2=m1++d.files[j]::m2:=by
    have hj2:j<(l1++(nm,f)::l2).length:=he▸hj';have:=B5R hj2 hjf;simpa only[he]using this
   obtain⟨m1,m2,hm⟩:=h0;refine A3 cC [true] (fun bs=>?_);refine Y0 18 9 (B5Q hj') ?_;refine U2 3 9 hm (fun S1 S2=>?_);refine N1 9 (fun z hz=>?_);refine A3 cC [] (fun bs=>?_);refine J7 9 (A4A d.files[j]) [9,10] z hz (fun S3=>?_);refine dR 3 9 hm (fun S4=>?_);refine G8 [0,1,2,3,4,5] (j::vs.1,vs.2.1,S4) ⟨⟨hnd,hlt⟩,by simp only[List.length_cons];omega⟩ ?wk2
   case wk2=>
    and_intros<;> (first|exact wk_|refine A6 ?_|skip)
    all_goals exact hc.symm
 ·have e:=B9y hv.1 hv.2 (fun i hi=>hall i (by simpa[Z6]using hi));refine A3 cC [false] (fun bs=>?_);refine B4z 1 ?_;rw[e];exact B6 cC vs.2.2 trivial [0,1,2,3,4,5]
def rV:E4:=⟨T,bG,I0,A9,15,[],none,.t⟩
theorem B1t:B3 Tryz.prog rV:=⟨O7,E6,A4⟩
theorem B5S:F3 Tryz.prog rV:=⟨tOk,B1t⟩
theorem B5T (r0:List UInt8) (r1:Int) (r2:Int) (r3:Int) (r4:Int) (r5:Int) (r6:Int) (r7:Int) (r8:Int) (r9:Int) (r10:Int) (r11:Int) (r12:Int) (r13:Int) (r14:Int) (r15:Int) (r16:Int) (r17:Int) (nm0:List UInt8) (fr0:Int):aE Tryz.prog 162 false [.g [.pv (.val (.string ⟨⟨r0⟩⟩)),.pv (.val (.int .i64 r1)),.pv (.val (.int .u8 r2)),.pv (.val (.int .u8 r3)),.pv (.val (.int .u8 r4)),.pv (.val (.int .u8 r5)),.pv (.val (.int .u8 r6)),.pv (.val (.int .u8 r7)),.pv (.val (.int .u8 r8)),.pv (.val (.int .u8 r9)),.pv (.val (.int .u8 r10)),.pv (.val (.int .u8 r11)),.pv (.val (.int .u8 r12)),.pv (.val (.int .u8 r13)),.pv (.val (.int .u8 r14)),.pv (.val (.int .u8 r15)),.pv (.val (.int .u8 r16)),.pv (.val (.int .u8 r17))],.c (.cel [(.val (.string ⟨⟨nm0⟩⟩))]),.c (.cel [(.val (.int .i64 fr0))])] (.x (.c (bv (decide (r0=nm0) && decide (fr0≤r1))))):=by
 refine dF (E:=rV) Tryz.func162 (fun M0 W hM0=>?_);refine A3 B5S [] (fun bs=>?_);exact D8 tOk hM0 rfl rfl ⟨trivial,trivial⟩ rfl
def A4C:C8
 |[.g [.pv (.val (.string ⟨⟨r0⟩⟩)),.pv (.val (.int .i64 r1)),.pv (.val (.int .u8 r2)),.pv (.val (.int .u8 r3)),.pv (.val (.int .u8 r4)),.pv (.val (.int .u8 r5)),.pv (.val (.int .u8 r6)),.pv (.val (.int .u8 r7)),.pv (.val (.int .u8 r8)),.pv (.val (.int .u8 r9)),.pv (.val (.int .u8 r10)),.pv (.val (.int .u8 r11)),.pv (.val (.int .u8 r12)),.pv (.val (.int .u8 r13)),.pv (.val (.int .u8 r14)),.pv (.val (.int .u8 r15)),.pv (.val (.int .u8 r16)),.pv (.val (.int .u8 r17))],.c (.cel [(.val (.string ⟨⟨nm0⟩⟩))]),.c (.cel [(.val (.int .i64 fr0))])]=>some (True,false,.x (.c (bv (decide (r0=nm0) && decide (fr0≤r1)))))
 |_=>none
theorem A8Q:F5 Tryz.prog 162 A4C:=by
 intro args pre sh rv h hp;unfold A4C at h;split at h
 ·cases h;exact B5T _ _ _ _ _ _ _ _ _ _ _ _ _ _ _ _ _ _ _ _
 ·cases h
def gC:FuncId→Option C8:=E0 162 A4C bG
theorem cW:G9 Tryz.prog gC:=C1 A8Q O7
def A3E (v:Value) (l:List A7n) (b1 b2:Nat) (nm:Bs) (fr:Int):List HB:=[.own v 280 .log l,.blk b1 9 [.pv (sv nm)],.blk b2 3 [.pv (i64 fr)]]
abbrev fcl (b1 b2:Nat):A:= .c (.clo 162 [.ptr 1 b1 0,.ptr 2 b2 0])
def yR:E4:=⟨T,gC,I0,A9,19,[],none,.f⟩
theorem B5U:B3 Tryz.prog yR:=⟨cW,E6,A4⟩
theorem eX:F3 Tryz.prog yR:=⟨tOk,B5U⟩
theorem C6N (v:Value) (l:List A7n) (b1 b2:Nat) (nm:Bs) (fr:Int) (hl:l.length≤1000000000):C5 Tryz.prog 227 [.c (.own 0 v),fcl b1 b2] (A3E v l b1 b2 nm fr) (fun i:Int=> -1≤i∧i<l.length) (fun i=>int .i64 i) (fun _=>A3E v l b1 b2 nm fr):=by
 refine I4 (E:=yR) Tryz.func227 (fun M0 W hM0=>?_);refine A3 eX [] (fun bs=>?_);refine V3 (fun i:Nat=>[(0,.c (.own 0 v)),(1,fcl b1 b2),(7,int .i64 l.length),(8,int .i64 i)]) (fun _=>A3E v l b1 b2 nm fr) (fun i=>i≤l.length) (fun i=>l.length-i) [0,1,2] 0 (Nat.zero_le _) (fun i hi=>?_);refine A3 eX [] (fun bs=>?_);refine I6 rfl rfl (fun hk=>?_) (fun hk=>?_)
 ·have hk':i<l.length:=by omega
  refine A3 eX [] (fun bs=>?_);refine D4 rfl rfl (fun h=>?_) (fun h=>?_)
  ·refine A3 eX [] (fun bs=>?_);exact B6 eX (i:Int) ⟨by omega,by omega⟩ [0,1,2]
  ·refine A3 eX [] (fun bs=>?_);exact H3 [0,1,2] (i+1) ⟨hk',by omega⟩
 ·refine A3 eX [] (fun bs=>?_);exact B6 eX (-1) ⟨by omega,by omega⟩ [0,1,2]
def yS:E4:=⟨T,gC,I0,A9,42,[],none,.f⟩
theorem B5V:B3 Tryz.prog yS:=⟨cW,E6,A4⟩
theorem Y7:F3 Tryz.prog yS:=⟨tOk,B5V⟩
theorem C6O (v:Value) (l:List A7n) (b1 b2:Nat) (nm:Bs) (fr:Int) (hl:l.length≤1000000000):C5 Tryz.prog 161 [.c (.own 0 v),fcl b1 b2] (A3E v l b1 b2 nm fr) (fun x:Value×List A7n=>x.2.length≤l.length) (fun x=> .c (.own 0 x.1)) (fun x=>A3E x.1 x.2 b1 b2 nm fr):=by
 refine I4 (E:=yS) Tryz.func161 (fun M0 W hM0=>?_);refine A3 Y7 [] (fun bs=>?_);refine A5 [0,1,2] (C6N v l b1 b2 nm fr hl) (fun i0 hi0=>?_);refine A3 Y7 [] (fun bs=>?_);refine I6 rfl rfl (fun hk=>?_) (fun hk=>?_)
 ·refine A3 Y7 [] (fun bs=>?_);exact B6 Y7 (v,l) (Nat.le_refl _) [0,1,2]
 ·have h0:0≤i0:=by omega
  obtain⟨i0,rfl⟩:=Int.eq_ofNat_of_zero_le h0;refine A3 Y7 [] (fun bs=>?_);refine V3 (fun x:Nat×Nat×List A7n=>[(0,.c (.own 0 v)),(1,fcl b1 b2),(5,int .i64 x.2.1),(6,int .i64 x.1)]) (fun x=>A3E v x.2.2 b1 b2 nm fr) (fun x=>x.2.1<x.1∧x.1≤l.length∧x.2.2.length=l.length) (fun x=>l.length-x.1) [0,1,2] (i0+1,i0,l) ⟨Nat.lt_succ_self _,by simp only;omega,rfl⟩ (fun x hx=>?_);obtain⟨j,i,s⟩:=x;obtain⟨h1,h2,h3⟩:=hx;simp only at h1 h2 h3;refine A3 Y7 [] (fun bs=>?_);refine I6 rfl rfl (fun hk2=>?_) (fun hk2=>?_)
  ·have hj:j<l.length:=by simp only at hk2;omega
   refine A3 Y7 [] (fun bs=>?_);refine D4 rfl rfl (fun h=>?_) (fun h=>?_)
   ·refine X9 Y7 [] (fun bs=>?_) (fun bs=>?_)
    ·and_intros<;> first|exact trivial|omega|(simp only;omega)|exact rfl|exact yM _
    refine G8 [0,1,2] (j+1,i+1,?l1) ?ok1 ?wk1
    case wk1=>and_intros<;> (first|exact wk_|refine A6 ?_|skip)
    case ok1=>exact⟨⟨by simp only;omega,hj,by simp only[List.length_set];exact h3⟩,by simp only;omega⟩
   ·refine A3 Y7 [] (fun bs=>?_);exact H3 [0,1,2] (j+1,i,s) ⟨⟨by simp only;omega,hj,h3⟩,by simp only;omega⟩
  ·refine B9h 0 rfl (fun e1 _=>?_) (fun b cap e hc hm=>?_)
   ·exfalso;simp only at e1;rw[e1]at h3;simp at h3;omega
   subst e;refine X5 0 (y:=pv (.val (.slice (some ⟨b,0,none⟩) s.length cap))) rfl (fun M v h=>by rw[h.own_inv];exact .c (.pv (.val rfl))) ?_;refine B9j 0 i rfl (by simp only;omega) ?_;refine A3 Y7 [] (fun bs=>?_);refine A8J 0 (lo:=i) (hi:=s.length) tOk rfl rfl rfl rfl rfl rfl rfl rfl rfl ?_ hc rfl ?_
   ·simp;omega
   refine A3 Y7 [] (fun bs=>?_);refine X5 4 (y:=pv (.val (.slice (some ⟨b,0,none⟩) i cap))) rfl (fun M v h=>by rw[h.val_inv];simp[sli];exact .c (.pv (.val rfl))) ?_;refine B4o 4 0 rfl rfl rfl ?_;exact B6 Y7 (.slice (some ⟨b,0,none⟩) i cap,s.take i) (by simp;omega) [0,1,2]
def nC:E4:=⟨T,gC,I0,A9,8,[],none,.t⟩
theorem A8R:B3 Tryz.prog nC:=⟨cW,E6,A4⟩
theorem rW:F3 Tryz.prog nC:=⟨tOk,A8R⟩
theorem B1u (l:List (List UInt8)) (hl:l.length≤1000000):aE Tryz.prog 212 false [lst .sec l] (.o 125 .sec l):=by
 refine dF (E:=nC) Tryz.func212 (fun M0 W hM0=>?_);refine D3 rW 60 (fun _=>none) (fun bs=>?_);refine D4 rfl rfl (fun h=>?_) (fun h=>?_)
 ·have e:=jO h;subst e;refine D3 rW 60 (fun _=>none) (fun bs=>?_);exact D8 tOk hM0 rfl rfl ⟨trivial,trivial⟩ rfl
 ·refine D3 rW 60 (fun _=>none) (fun bs=>?_);exact D8 tOk hM0 rfl rfl ⟨trivial,trivial⟩ ⟨rfl,rfl,rfl,A6 (List.nil_append l)⟩
def yT:C8
 |[.c (.pv (.lst .sec l))]=>some ((l.length≤1000000),false,.o 125 .sec l)
 |_=>none
theorem A6d:F5 Tryz.prog 212 yT:=by
 intro args pre sh rv h hp;unfold yT at h;split at h
 ·cases h;have hl:=hp;exact B1u _ hl
 ·cases h
def V4:FuncId→Option C8:=E0 212 yT gC
theorem P9:G9 Tryz.prog V4:=C1 A6d cW
def yU:E4:=⟨T,V4,I0,A9,15,[],none,.f⟩
theorem B5W:B3 Tryz.prog yU:=⟨P9,E6,A4⟩
theorem A4D:F3 Tryz.prog yU:=⟨tOk,B5W⟩
theorem C3P (b:Nat) (d:G4) (S:Nat→Prop) (nm:Bs) (fr:Int) (hg:d.lg≤1000000000):C5 Tryz.prog 82 [.c (.ptr 0 b 0),str nm,int .i64 fr] [C6 b d S] (fun _=>True) (fun _:Nat→Prop=> .t []) (fun S=>[C6 b d S]):=by
 refine I4 (E:=yU) Tryz.func82 (fun M0 W hM0=>?_);refine N1 0 (fun x hx=>?_);refine A3 A4D [] (fun bs=>?_);refine A5 [2,4,5] (C6O x.v x.l _ _ nm fr (Nat.le_trans hx hg)) (fun y hy=>?_);refine A3 A4D [] (fun bs=>?_);refine J7 0 (jG b d) [0,1,2,3] {x with v:=y.1,l:=y.2} (Nat.le_trans hy hx) (fun S'=>?_);exact Z5 A4D S' trivial [0]
def nD:E4:=⟨T,V4,I0,A9,27,[],none,.f⟩
theorem A8S:B3 Tryz.prog nD:=⟨P9,E6,A4⟩
theorem gD:F3 Tryz.prog nD:=⟨tOk,A8S⟩
theorem B5X (b:Nat) (d:G4) (S:Nat→Prop) (nm:Bs) (f:O0) (hf:H5 d.files nm=some f) (hg:d.lg≤1000000000) (hm:f.now.length≤1000000):C5 Tryz.prog 125 [.c (.ptr 0 b 0),str nm] [C6 b d S] (fun _=>True) (fun _:Nat→Prop=>int .i64 0) (fun S=>[C6 b d S]):=by
 refine I4 (E:=nD) Tryz.func125 (fun M0 W hM0=>?_);obtain⟨l1,l2,e1,e2,e3⟩:=bH hf;refine A3 gD [] (fun bs=>?_);refine A5 [0] (B9w b d S nm f hf) (fun S1 _=>?_);refine N1 0 (fun x hx=>?_);refine U2 3 9 e1 (fun S2 S3=>?_);refine N1 9 (fun y hy=>?_);refine A3 gD [false] (fun bs=>?_);refine N8 9 1 11 rfl rfl rfl ?_;refine J7 9 (A4A (nm,f)) [9,10] (y.1,f.now) hy (fun S4=>?_);refine dR 3 9 e1 (fun S5=>?_);refine J7 0 (jG b d) [0,1,2,3] {x with S:=S5} hx (fun S6=>?_);refine A3 gD [] (fun bs=>?_);refine A5 [0] (C3P b d S6 nm 0 hg) (fun S7 _=>?_);refine A3 gD [] (fun bs=>?_);exact B6 gD S7 trivial [0]
section
open Go.RowKit
theorem B1v (x d:Int) (cs:Array Value) (ty:TypeId) (w:World) (b o:Nat) (hb:w.heap[b]? =some (.cells cs ty (0,0))) (ho:cs[o]? =some (.int .i64 x)):
 Calls Tryz.prog 12 #[.pointer (some ⟨b,o,none⟩),.int .i64 d] w fun e w'=>∃s:Int,e= .returned (.int .i64 s)∧w'=w.setCell ⟨b,o,none⟩ (.int .i64 s):=by
 have hc:w.cell? ⟨b,o,none⟩=some (.int .i64 x):=by simp[World.cell?,hb,ho]
 have hz:w.frozen? ⟨b,o,none⟩=false:=by simp[World.frozen?,hb]
 have hadd:=run_call_add (P:=Tryz.prog) Tryz.func23 (by kernel_rfl) (by kernel_rfl) (by kernel_rfl) .i64 (by kernel_rfl) (y:=d) (s:=IntKind.i64.wrap (x+d)) hc hz (by simp[Op.intArith])
 go_enter Tryz.func12,Tryz.ntmps12
 go_wp2
 go_ret
 exact⟨_,rfl,rfl⟩
theorem vZ (b ty o:Nat) (cs:List C) (rest:List HB) (x d:Int) (ho:cs[o]? =some (.pv (i64 x))):C5 Tryz.prog 12 [.c (.ptr 0 b o),int .i64 d] (.blk b ty cs::rest)
 (fun _:Int=>True) (fun r=>int .i64 r) (fun r=> .blk b ty (cs.set o (.pv (i64 r)))::rest):=by
 refine⟨⟨_,Tryz.func12,rfl,by decide⟩,fun M w vs hS hra=>?_⟩;obtain⟨q1,q2,us,q3,q4⟩:=hS.ok 0 _ rfl;have hol:o<cs.length:=(gS_.1 ho).1;have hul:o<us.size:=by have:=q4.1;simp at this;omega
 have huo:us[o]? =some (.int .i64 x):=by
  have h0:us[o]? =some us[o]:=Array.getElem?_eq_getElem hul;have h1:=q4.2 o _ us[o] ho (by rw[Array.getElem?_toList];exact h0);cases h1 with|pv r=>rw[h0,r.val_eq]
 obtain⟨vs⟩:=vs;obtain⟨h1,h2⟩:=hra
 match vs,h1,h2 with
 |[u0,u1],h1,h2=>
  have e0:=h2 0 _ u0 rfl rfl;have e1:=h2 1 _ u1 rfl rfl;cases e0 with|c e0=>cases e0 with|ptr=>
  have:=e1.val_inv;subst this;refine(B1v x d us ty w b o q3 huo).mono fun e w' ⟨s,he,hw⟩=>⟨_,M,s,he,B8.ext_refl _ _,trivial,.c (.pv (.val rfl)),?_⟩
  have hsr:=setCell_eq_setRow w b o us ty (0,0) (.int .i64 s) q3;rw[hw,hsr];refine hS.step (row:=some b) (J0 w b _) (fun b' hb'=>by cases hb';exact⟨q1,q2⟩) (nn:=0) (xx:= .blk b ty (cs.set o (.pv (i64 s)))) (fun n x hn hx=>?_) rfl ⟨q1,q2,us.setIfInBounds o (.int .i64 s),?_,?_⟩ (fun b' hb'=> .inr hb')
  ·cases n with
   |zero=>exact absurd rfl hn
   |succ n=>exact⟨hx,fun b' hb'=>by cases hb';exact hS.inj 0 (n+1) _ x b (by simp) rfl hx rfl⟩
  ·exact setRow_heap w b _ _ _ _ q3
  ·refine⟨by simpa using q4.1,fun j c u e1 e2=>?_⟩;rw[List.getElem?_set]at e1;simp only[Array.toList_setIfInBounds,List.getElem?_set]at e2;by_cases hj:o=j
   ·subst hj;simp[hol]at e1;have:o<us.toList.length:=by simpa using hul
    rw[if_pos rfl,if_pos this]at e2;cases e2;subst e1;exact .pv (.val rfl)
   ·simp only[hj,if_false]at e1 e2;exact q4.2 j c u e1 e2
end
abbrev iB:Bs:=List.replicate 16 0
def grown (l:List Bs) (n:Nat):List Bs:=l++List.replicate (n-l.length) iB
def Z7 (l:List Bs) (a:Nat) (s:Bs):List Bs:=(grown l (a+1)).set a s
def yV:E4:=⟨T,V4,I0,A9,79,[],none,.f⟩
theorem B5Y:B3 Tryz.prog yV:=⟨P9,E6,A4⟩
theorem Y8:F3 Tryz.prog yV:=⟨tOk,B5Y⟩
theorem C6P (b:Nat) (d:G4) (S:Nat→Prop) (nm:Bs) (f:O0) (hf:H5 d.files nm=some f) (a:Nat) (dat:Bs) (hb:16≤dat.length) (ha:a≤1000000) (hm:f.now.length≤1000000) (hg:d.lg≤1000000000):C5 Tryz.prog 211 [.c (.ptr 0 b 0),str nm,.c (.ptr 9 f.b 0),int .i64 a,lst .byt dat] [C6 b d S] (fun _=>True) (fun _:Nat→Prop=>int .i64 0) (fun S=>[C6 b ⟨d.room,B4 d.files nm ⟨f.b,Z7 f.now a (dat.take 16)⟩,d.lg+1⟩ S]):=by
 refine I4 (E:=yV) Tryz.func211 (fun M0 W hM0=>?_);obtain⟨l1,l2,e1,e2,e3⟩:=bH hf;refine N1 0 (fun x hx=>?_);refine U2 3 9 e1 (fun S2 S3=>?_);refine N1 9 (fun y hy=>?_);refine A3 Y8 [false] (fun bs=>?_);refine A5 [0,1,2,3] (vZ b 112 5 [.pv (i64 d.room),.mpt 1 x.bm,.own 2 x.v,.pv (i64 0),.pv (bv false),.pv (i64 x.n)] [.mp x.bm .str .ptr (Z6 d.files),.own x.v 280 .log x.l,O8 A6a (l1++l2) S2] x.n 1 rfl) (fun r _=>?_);refine A3 Y8 [] (fun bs=>?_);refine L5 (fun p:List Bs×Value×Nat=>[(0,.c (.ptr 0 b 0)),(1,str nm),(2,.c (.ptr 4 f.b 0)),(3,int .i64 a),(11,.c (.ptr 6 p.2.2 0))]) (fun p=>B5N b d {x with n:=r} (l1++l2) S2++[.blk f.b 123 [.own 5 p.2.1,.pv (.lst .sec y.2)],.own p.2.1 125 .sec p.1,.own (.slice (some ⟨p.2.2,0,none⟩) 16 16) 125 .byt (dat.take 16)]) (fun p=>(∃i,p.1=f.now++List.replicate i iB)∧f.now.length≤p.1.length∧p.1.length≤max f.now.length (a+1)) (fun p=>a+1-p.1.length) [0,1,2,3,9,10,11] (f.now,y.1,?bb) ⟨⟨0,by simp⟩,Nat.le_refl _,Nat.le_max_left _ _⟩ ?wk (fun p hp=>?_)
 case wk=>
  and_intros<;> (first|exact wk_|refine A6 ?_|skip)
  all_goals(rw[List.drop_eq_nil_of_le (by simpa using hb),List.append_nil];rfl)
 obtain⟨now,v,bb⟩:=p;obtain⟨⟨i,h1⟩,h2,h3⟩:=hp;simp only at h1 h2 h3;have hy2:∀s∈now,s.length=16:=by
  intro s hs;rw[h1]at hs;rcases List.mem_append.1 hs with h|h
  ·exact hy s h
  ·rw[(List.mem_replicate.1 h).2];rfl
 refine A3 Y8 [] (fun bs=>?_);refine I6 rfl rfl (fun hk=>?_) (fun hk=>?_)
 ·have hk':now.length≤a:=by simp only at hk;omega
  refine A3 Y8 [] (fun bs=>?_);refine B4t tOk rfl rfl rfl rfl rfl rfl rfl rfl ?_;refine A3 Y8 [] (fun bs=>?_);refine G8 [0,1,2,3,4,8,6] (now++[iB],bs 0 0 1,bb) ?ok1 ?wk1
  case wk1=>
   and_intros<;> (first|exact wk_|refine A6 ?_|skip)
  case ok1=>exact⟨⟨⟨i+1,by simp only;rw[h1,List.append_assoc,←List.replicate_succ']⟩,by simp;omega,by simp;omega⟩,by simp;omega⟩
 ·have hk':a<now.length:=by simp only at hk;omega
  have hl:x.l.length≤d.lg:=hx;have hq:(dat.take 16).length=16:=by simp;omega
  have hi:i=a+1-f.now.length:=by have:=congrArg List.length h1;simp at this;omega
  have hg2:Z7 f.now a (dat.take 16)=now.set a (dat.take 16):=by unfold Z7;rw[show grown f.now (a+1)=now from by rw[h1,hi];rfl]
  refine A3 Y8 [] (fun bs=>?_);refine jF 7 rfl ?_;refine Q6 Y8 6 [0,1,3,7,0,0,63,127] [(7,5)] (fun bs=>?_);refine A3 Y8 [] (fun bs=>?_);refine jF 13 rfl ?_;refine Q6 Y8 11 [0,0,2,6,14,0,0,0,224,480,1022,2047,4095,8191] [(10,2)] (fun bs=>?_);refine A3 Y8 [] (fun bs=>?_);refine J7 4 (A4A (nm,⟨f.b,Z7 f.now a (dat.take 16)⟩)) [4,5] (v,y.2) ?hok (fun S4=>?_) (h:=?hsh)
  case hok=>
   intro s hs;have hs':s∈now.set a (dat.take 16):=hg2▸hs;rcases List.mem_or_eq_of_mem_set hs' with h|h
   ·exact hy2 s h
   ·rw[h];exact hq
  case hsh=>
   rw[hg2]
   and_intros<;> (first|exact wk_|refine A6 ?_|skip)
   all_goals exact congrArg (List.set now a) (C2N hq)
  refine dR 3 4 (e2 ⟨f.b,Z7 f.now a (dat.take 16)⟩) (fun S5=>?_);refine J7 0 (jG b ⟨d.room,B4 d.files nm ⟨f.b,Z7 f.now a (dat.take 16)⟩,d.lg+1⟩) [0,1,23,3] {x with n:=r,v:=?vv,l:=?ll,S:=S5} ?hok2 (fun S6=>?_) (h:=?hsh2)
  case hsh2=>
   have ep:Z6 (B4 d.files nm ⟨f.b,Z7 f.now a (dat.take 16)⟩)=Z6 d.files:=by
    rw[e2];conv=>rhs;rw[e1]
    simp[Z6]
   have ed:∀y:DX,(jG b ⟨d.room,B4 d.files nm ⟨f.b,Z7 f.now a (dat.take 16)⟩,d.lg+1⟩).f y=[.blk b 112 [.pv (i64 d.room),.mpt 1 y.bm,.own 2 y.v,.pv (i64 0),.pv (bv false),.pv (i64 y.n)],.mp y.bm .str .ptr (Z6 d.files),.own y.v 280 .log y.l,O8 A6a (B4 d.files nm ⟨f.b,Z7 f.now a (dat.take 16)⟩) y.S]:=fun y=>by rw[←ep];rfl
   rw[ed]
   and_intros<;> (first|exact wk_|refine A6 ?_|skip)
  case hok2=>show List.length _≤d.lg+1;simp;omega
  refine A3 Y8 [] (fun bs=>?_);exact B6 Y8 S6 trivial [0]
theorem gG {kk:KK} {V:Type} {k:kk.T} {v:V}:∀{l:List (kk.T×V)},H5 l k=some v→B4 l k v=l:=by
 intro l h;obtain⟨l1,l2,e1,e2,_⟩:=bH h;rw[e2 v];exact e1.symm
theorem W8 {kk:KK} {V:Type} {k:kk.T} {v w:V}:∀{l:List (kk.T×V)},B4 (B4 l k v) k w=B4 l k w:=by
 intro l
 induction l with
 |nil=>simp[B4,KK.eqb_iff.2 rfl]
 |cons p l ih=>
  by_cases h:kk.eqb k p.1=true
  ·simp[B4,h]
  ·have h':kk.eqb k p.1=false:=by simpa using h
   simp[B4,h',ih]
theorem A6e {kk:KK} {V:Type} {k:kk.T} {v:V} {l:List (kk.T×V)}:H5 (B4 l k v) k=some v:=by rw[K7];simp
def fO (l:List Bs) (a:Nat) (dat:Bs):Nat→List Bs
 |0=>l
 |i+1=>Z7 (fO l a dat i) (a+i) ((dat.drop (16*i)).take 16)
theorem yW (l:List Bs) (a:Nat) (s:Bs):(Z7 l a s).length=max l.length (a+1):=by simp[Z7,grown];omega
theorem B9z (l:List Bs) (a:Nat) (dat:Bs):∀i,(fO l a dat i).length≤max l.length (a+i):=by
 intro i
 induction i with
 |zero=>simp[fO];omega
 |succ i ih=>simp only[fO,yW];omega
theorem dT {kk:KK} {V:Type} {k:kk.T} {v w:V} {l:List (kk.T×V)} (h:H5 l k=some v):(B4 l k w).length=l.length:=by
 obtain⟨l1,l2,e1,e2,_⟩:=bH h;rw[e2 w,e1];simp
theorem B0S (l:vC):0≤Y1 l:=by
 unfold Y1 szs
 induction l with
 |nil=>simp
 |cons p l ih=>simp only[List.map_cons,List.sum_cons];omega
def nE:E4:=⟨T,V4,I0,A9,83,[],none,.f⟩
theorem A8T:B3 Tryz.prog nE:=⟨P9,E6,A4⟩
theorem W9:F3 Tryz.prog nE:=⟨tOk,A8T⟩
theorem A8U (b:Nat) (d:G4) (S:Nat→Prop) (nm:Bs) (f:O0) (hf:H5 d.files nm=some f) (a n:Nat) (dat:Bs) (hd:dat.length=16*n) (h1:0<n) (ha:a+n≤65536) (hl:∀p∈d.files,p.2.now.length≤65536) (hn:d.files.length≤32) (hr:((a+n:Nat):Int)-f.now.length≤d.room-Y1 d.files) (hu:Y1 d.files≤d.room) (hrm:d.room≤1048576) (hg:d.lg+n≤1000000000):C5 Tryz.prog 123 [.c (.ptr 0 b 0),str nm,int .i64 a,lst .byt dat] [C6 b d S] (fun _=>True) (fun _:Nat→Prop=>int .i64 0) (fun S=>[C6 b ⟨d.room,B4 d.files nm ⟨f.b,fO f.now a dat n⟩,d.lg+n⟩ S]):=by
 refine I4 (E:=nE) Tryz.func123 (fun M0 W hM0=>?_);obtain⟨l1,l2,e1,e2,e3⟩:=bH hf;have hlf:f.now.length≤65536:=hl (nm,f) (by rw[e1];simp);have hu0:=B0S d.files;refine A3 W9 [] (fun bs=>?_);refine A5 [0] (B9w b d S nm f hf) (fun S1 _=>?_);refine A3 W9 [false,false,false,false,false,false] (fun bs=>?_);refine N1 0 (fun x hx=>?_);refine U2 3 9 e1 (fun S2 S3=>?_);refine N1 9 (fun y hy=>?_);refine pH W9 17 [0,0,3,0,8,24,56,120,255,511,0,1024,3072,7168,0,16384,64512,131071,262143] 15 [0,1,2,3,9,10] [0,9,10] (C4p b d x nm f l1 l2 y S2 e1 hl hn) (fun S4 _=>?_);refine A3 W9 [false] (fun bs=>?_);refine J7 9 (A4A (nm,f)) [9,10] y hy (fun S5=>?_)
 refine dR 3 9 e1 (fun S6=>?_);refine J7 0 (jG b d) [0,1,2,3] {x with S:=S6} hx (fun S7=>?_);refine L5 (fun p:Nat×(Nat→Prop)=>[(0,.c (.ptr 0 b 0)),(1,str nm),(2,int .i64 a),(3,lst .byt dat),(9,.c (.ptr 9 f.b 0)),(64,int .i64 n),(65,int .i64 p.1)]) (fun p=>[C6 b ⟨d.room,B4 d.files nm ⟨f.b,fO f.now a dat p.1⟩,d.lg+p.1⟩ p.2]) (fun p=>p.1≤n) (fun p=>n-p.1) [0] (0,S7) (Nat.zero_le _) ?wk (fun p hp=>?_)
 case wk=>
  have e0:B4 d.files nm ⟨f.b,fO f.now a dat 0⟩=d.files:=gG (v:=f) hf;rw[show(⟨d.room,B4 d.files nm ⟨f.b,fO f.now a dat (0,S7).1⟩,d.lg+(0,S7).1⟩:G4)=d by show(⟨d.room,B4 d.files nm ⟨f.b,fO f.now a dat 0⟩,d.lg⟩:G4)=d;rw[e0]]
  and_intros<;> (first|exact wk_|refine A6 ?_|skip)
  all_goals(simp[hd];omega)
 obtain⟨i,S8⟩:=p;simp only at hp;refine A3 W9 [] (fun bs=>?_);refine I6 rfl rfl (fun hk=>?_) (fun hk=>?_)
 ·have hk':i<n:=by omega
  have hw:=B9z f.now a dat i;have hda:(dat.take ((dat.length:Nat):Int).toNat).drop ((i:Int)*16).toNat=dat.drop (16*i):=by rw[show((dat.length:Nat):Int).toNat=dat.length by omega,List.take_length,show((i:Int)*16).toNat=16*i by omega]
  refine A3 W9 [] (fun bs=>?_);refine A5 [0] (C6P b ⟨d.room,B4 d.files nm ⟨f.b,fO f.now a dat i⟩,d.lg+i⟩ S8 nm ⟨f.b,fO f.now a dat i⟩ A6e (a+i) ((dat.take ((dat.length:Nat):Int).toNat).drop ((i:Int)*16).toNat) (by rw[hda];simp;omega) (by omega) (by simp only;omega) (by simp only;omega)) (fun S9 _=>?_);refine A3 W9 [false] (fun bs=>?_);refine G8 [0] (i+1,S9) ⟨hk',by simp only;omega⟩ ?wk1
  case wk1=>
   rw[W8,hda]
   and_intros<;> (first|exact wk_|refine A6 ?_|skip)
 ·have hk':i=n:=by omega
  subst hk';refine A3 W9 [] (fun bs=>?_);exact B6 W9 S8 trivial [0]
def A6f (d:G4) (nm:Bs) (b':Nat):G4:=⟨d.room,B4 d.files nm ⟨b',[]⟩,d.lg⟩
theorem C0A {l:vC} {nm:Bs} {f:O0} (h:H5 l nm=none):B4 (kk:=KK.str) (Z6 l) nm (some f.b)=Z6 (B4 l nm f):=by
 rw[dS h,dS (B9v h)];simp[Z6]
def jX:E4:=⟨T,V4,I0,A9,45,[],none,.f⟩
theorem A6g:B3 Tryz.prog jX:=⟨P9,E6,A4⟩
theorem dU:F3 Tryz.prog jX:=⟨tOk,A6g⟩
theorem C0B (b:Nat) (d:G4) (S:Nat→Prop) (c:UInt8) (nm:Bs) (hf:H5 d.files (c::nm)=none) (h1:nm.length≤15) (hc:d.files.length<32) (hg:d.lg≤1000000000):C5 Tryz.prog 62 [.c (.ptr 0 b 0),str (c::nm)] [C6 b d S] (fun _=>True) (fun _:Nat×(Nat→Prop)=>int .i64 0) (fun p=>[C6 b (A6f d (c::nm) p.1) p.2]):=by
 refine I4 (E:=jX) Tryz.func62 (fun M0 W hM0=>?_);have hpl:(Z6 d.files).length<32:=by simpa[Z6]using hc
 refine A3 dU [] (fun bs=>?_);refine A5 [0] (dUp b d S) (fun S1 _=>?_);refine N1 0 (fun x hx=>?_);refine N0 dU (fun n=>some (Nat.beq n 7)) [false,false] (fun bs=>?_);refine hZ 25 (lkN hf) ?_;refine N0 dU (fun n=>some (Nat.beq n 7)) [false] (fun bs=>?_);refine J7 0 (jG b d) [0,1,2,3] x hx (fun S2=>?_);refine A5 [0] (C3P b d S2 (c::nm) 0 hg) (fun S3 _=>?_);refine N1 0 (fun x hx=>?_);refine A3 dU [] (fun bs=>?_);refine gZ 7 0 125 rfl rfl ?_;refine J7 7 (A4A (c::nm,⟨?bb,[]⟩)) [7,8] (.slice none 0 0,[]) (by simp[A4A]) (fun S4=>?_);refine lZ 6 7 (l:=B4 d.files (c::nm) ⟨?bb,[]⟩) (l0:=d.files) (l1:=d.files) (l2:=[]) (dS hf) (by simp) (fun S5=>?_)
 refine J7 0 (jG b (A6f d (c::nm) ?bb)) [0,4,5,6] {x with S:=S5} hx (fun S6=>?_) (h:=?hsh)
 case hsh=>
  have ed:∀(bb:Nat) (y:DX),(jG b (A6f d (c::nm) bb)).f y=[.blk b 112 [.pv (i64 d.room),.mpt 1 y.bm,.own 2 y.v,.pv (i64 0),.pv (bv false),.pv (i64 y.n)],.mp y.bm .str .ptr (B4 (kk:=KK.str) (Z6 d.files) (c::nm) (some bb)),.own y.v 280 .log y.l,O8 A6a (B4 d.files (c::nm) ⟨bb,[]⟩) y.S]:=fun bb y=>by rw[show(some bb:VK.ptr.T)=some (⟨bb,[]⟩:O0).b from rfl,C0A hf];rfl
  refine(congrArg (xV _ [0,4,5,6]) (ed _ _)).mpr ?_
  and_intros<;> (first|exact wk_|refine A6 ?_|skip)
 exact B6 dU (_,S6) trivial [0]
def jY:E4:=⟨T,V4,I0,A9,24,[],none,.f⟩
theorem A6h:B3 Tryz.prog jY:=⟨P9,E6,A4⟩
theorem iC:F3 Tryz.prog jY:=⟨tOk,A6h⟩
theorem C0C (b:Nat) (d:G4) (S:Nat→Prop) (nm:Bs) (f:O0) (hf:H5 d.files nm=some f) (hg:d.lg≤1000000000):C5 Tryz.prog 41 [.c (.ptr 0 b 0),str nm] [C6 b d S] (fun _=>True) (fun _:Nat→Prop=>int .i64 0) (fun S=>[C6 b ⟨d.room,X8 d.files nm,d.lg⟩ S]):=by
 refine I4 (E:=jY) Tryz.func41 (fun M0 W hM0=>?_);obtain⟨l1,l2,e1,e2,e3⟩:=bH hf;have ep:Z6 (X8 d.files nm)=X8 (kk:=KK.str) (Z6 d.files) nm:=(B5G (kk:=KK.str) (fun f:O0=>some f.b) nm d.files).symm;refine A3 iC [] (fun bs=>?_);refine A5 [0] (B9w b d S nm f hf) (fun S1 _=>?_);refine A3 iC [false] (fun bs=>?_);refine A5 [0] (C3P b d S1 nm 0 hg) (fun S2 _=>?_);refine N1 0 (fun x hx=>?_);refine A3 iC [] (fun bs=>?_);refine U2 3 9 e1 (fun S3 S4=>?_);refine B4q 9 ?_;refine J7 0 (jG b ⟨d.room,X8 d.files nm,d.lg⟩) [0,1,2,3] {x with S:=S3} hx (fun S5=>?_) (h:=?hsh)
 case hsh=>
  show xV _ _ [.blk b 112 [.pv (i64 d.room),.mpt 1 x.bm,.own 2 x.v,.pv (i64 0),.pv (bv false),.pv (i64 x.n)],.mp x.bm .str .ptr (Z6 (X8 d.files nm)),.own x.v 280 .log x.l,O8 A6a (X8 d.files nm) S3];rw[ep,e3]
  and_intros<;> (first|exact wk_|refine A6 ?_|skip)
 exact B6 iC S5 trivial [0]
def yX:E4:=⟨T,V4,I0,A9,14,[],none,.f⟩
theorem B5Z:B3 Tryz.prog yX:=⟨P9,E6,A4⟩
theorem B0T:F3 Tryz.prog yX:=⟨tOk,B5Z⟩
theorem C6Q (n:Int) (h1:1≤n) (h2:n≤1048576):C5 Tryz.prog 19 [int .i64 n] [] (fun _=>True) (fun p:Nat×(Nat→Prop)=> .t [.c (.ptr 0 p.1 0),int .i64 0]) (fun p=>[C6 p.1 ⟨n,[],0⟩ p.2]):=by
 refine I4 (E:=yX) Tryz.func19 (fun M0 W hM0=>?_);refine N0 B0T (fun _=>some false) [false] (fun bs=>?_);refine gZ 1 2 280 rfl rfl ?_;refine A3z 3 A6a ?_;refine J7 1 (jG ?bb ⟨n,[],0⟩) [1,0,2,3] ⟨_,.slice none 0 0,[],fun _=>False,0⟩ (by simp[jG]) (fun S1=>?_);exact B6 B0T (_,S1) trivial [1]
section
open Go.RowKit
theorem A6i {x:Int} {us:Array Value} {M:B8} (h:T7 M ([i64 x].map .pv) us.toList):us= #[.int .i64 x]:=by
 obtain⟨h1,h2⟩:=h;obtain⟨l⟩:=us
 match l,h1,h2 with
 |[u],h1,h2=>
  have:=h2 0 _ u rfl rfl;cases this with|pv r=>cases r;rfl
theorem C0D {d:Int} {vs:List Value} {M:B8} (h:cB M [int .i64 d] vs.toArray):vs=[.int .i64 d]:=by
 obtain⟨h1,h2⟩:=h
 match vs,h1,h2 with
 |[u],h1,h2=>
  have:=h2 0 _ u rfl rfl;cases this with|c r=>cases r with|pv r=>cases r;rfl
theorem C3Q {vs:List Value} {M:B8} (h:cB M [] vs.toArray):vs=[]:=by
 obtain⟨h1,h2⟩:=h
 match vs,h1 with
 |[],_=>rfl
theorem A3F {y:Int} (M:B8):T7 M ([i64 y].map .pv) (#[Value.int .i64 y]:Array Value).toList:=by
 refine⟨rfl,fun j c u e1 e2=>?_⟩;cases j with
 |zero=>simp at e1 e2;subst e1 e2;exact .pv (.val rfl)
 |succ j=>simp at e1
theorem B5a (x d:Int) (h:L8 .i64 (x+d)) (w:World) (b:Nat) (hb:w.heap[b]? =some (.cells #[.int .i64 x] 47 (0,0))):
 Calls Tryz.prog 12 #[.pointer (some ⟨b,0,none⟩),.int .i64 d] w fun e w'=>e= .returned (.int .i64 (x+d))∧w'=w.setCell ⟨b,0,none⟩ (.int .i64 (x+d)):=by
 have hc:w.cell? ⟨b,0,none⟩=some (.int .i64 x):=by simp[World.cell?,hb]
 have hz:w.frozen? ⟨b,0,none⟩=false:=by simp[World.frozen?,hb]
 have hw:IntKind.i64.wrap (x+d)=x+d:=bS h;have hadd:=run_call_add (P:=Tryz.prog) Tryz.func23 (by kernel_rfl) (by kernel_rfl) (by kernel_rfl) .i64 (by kernel_rfl) (y:=d) (s:=x+d) hc hz (by simp[Op.intArith,hw])
 go_enter Tryz.func12,Tryz.ntmps12
 go_wp2
 go_ret
 exact⟨rfl,rfl⟩
theorem B1w (x:Int) (w:World) (b:Nat) (hb:w.heap[b]? =some (.cells #[.int .i64 x] 47 (0,0))):
 Calls Tryz.prog 238 #[.pointer (some ⟨b,0,none⟩)] w fun e w'=>e= .returned (.int .i64 x)∧w'=w:=by
 have hc:w.cell? ⟨b,0,none⟩=some (.int .i64 x):=by simp[World.cell?,hb]
 have hz:w.frozen? ⟨b,0,none⟩=false:=by simp[World.frozen?,hb]
 have hadd:=run_call_load (P:=Tryz.prog) Tryz.func268 (by kernel_rfl) (by kernel_rfl) (by kernel_rfl) .i64 (by kernel_rfl) hc
 go_enter Tryz.func238,Tryz.ntmps238
 go_wp2
 go_ret
 exact⟨rfl,rfl⟩
theorem A6j (w:World) (b:Nat) (x y:Int) (t:TypeId) (hb:w.heap[b]? =some (.cells #[.int .i64 x] t (0,0))):w.setCell ⟨b,0,none⟩ (.int .i64 y)=w.setRow b #[.int .i64 y]:=by
 have:=setCell_eq_setRow w b 0 #[.int .i64 x] t (0,0) (.int .i64 y) hb;rw[this];rfl
theorem A6k (w:World) (b:Nat) (x:Int) (t:TypeId) (hb:w.heap[b]? =some (.cells #[.int .i64 x] t (0,0))):w=w.setRow b #[.int .i64 x]:=by
 have hlt:b<w.heap.size:=(Array.getElem?_eq_some_iff.1 hb).1;have hget:=(Array.getElem?_eq_some_iff.1 hb).2;have:w.heap=(w.setRow b #[.int .i64 x]).heap:=by
  apply Array.ext (by simp[World.setRow]);intro i h1 h2;simp only[World.setRow,Array.getElem_modify];split
  ·rename_i e;subst e;simp[hget]
  ·rfl
 cases w;simp[World.setRow]at this⊢;exact this
theorem C3R (x d:Int) (h:L8 .i64 (x+d)):C2p Tryz.prog 12 47 [i64 x] [int .i64 d] (i64 (x+d)) [i64 (x+d)]:=by
 refine⟨⟨_,Tryz.func12,rfl,by decide⟩,fun M w b us vs hb hus hvs=>?_⟩;have:=A6i hus;subst this;have:=C0D hvs;subst this;refine(B5a x d h w b hb).mono fun e w' ⟨he,hw⟩=>⟨_,_,he,fun M'=> .val rfl,fun M'=>A3F M',?_⟩
 rw[hw];exact A6j _ _ _ _ _ hb
theorem C0E (x:Int):C2p Tryz.prog 238 47 [i64 x] [] (i64 x) [i64 x]:=by
 refine⟨⟨_,Tryz.func238,rfl,by decide⟩,fun M w b us vs hb hus hvs=>?_⟩;have:=A6i hus;subst this;have:=C3Q hvs;subst this;refine(B1w x w b hb).mono fun e w' ⟨he,hw⟩=>⟨_,_,he,fun M'=> .val rfl,fun M'=>A3F M',?_⟩
 rw[hw];exact A6k _ _ _ _ hb
def A8V:iX
 |[.val (.int .i64 x)],[.c (.pv (.val (.int .i64 d)))]=>some (L8 .i64 (x+d),i64 (x+d),[i64 (x+d)])
 |_,_=>none
def A4E:iX
 |[.val (.int .i64 x)],[]=>some (True,i64 x,[i64 x])
 |_,_=>none
theorem B1x:oQ Tryz.prog 12 47 A8V:=by
 intro cs args pre r cs' h hp;unfold A8V at h;split at h
 ·cases h;exact C3R _ _ hp
 ·cases h
theorem A8W:oQ Tryz.prog 238 47 A4E:=by
 intro cs args pre r cs' h hp;unfold A4E at h;split at h
 ·cases h;exact C0E _
 ·cases h
def A7:FuncId→Option (TypeId×iX):=wI 12 47 A8V (wI 238 47 A4E I0)
theorem A2:B0E Tryz.prog A7:=yB B1x (yB A8W E6)
end
def V5 (l:List UInt8) (at_ n:Int):Bool:=decide (0≤at_∧at_≤l.length∧n≤l.length-at_)
def iD (l:List UInt8) (at_ n:Int):List UInt8:=match V5 l at_ n with
 |true=>(l.take (at_+n).toNat).drop at_.toNat
 |false=>[]
def rX:E4:=⟨T,bG,I0,A9,33,[],none,.t⟩
theorem B1y:B3 Tryz.prog rX:=⟨O7,E6,A4⟩
theorem yY:F3 Tryz.prog rX:=⟨tOk,B1y⟩
theorem B5b (l:List UInt8) (at_:Int) (n:Int) (hl:l.length≤1000000) (h0:0≤n) (hn:n≤1000000):aE Tryz.prog 286 true [lst .byt l,int .i64 at_,int .i64 n] (.t [.c (.lst .byt (iD l at_ n)),.c (bv (V5 l at_ n))]):=by
 refine dF (E:=rX) Tryz.func286 (fun M0 W hM0=>?_);refine D3 yY 60 (fun _=>none) (fun bs=>?_);refine D4 rfl rfl (fun h=>?_) (fun h=>?_)
 ·have hb:V5 l at_ n=false:=by simp at h;simp[V5];omega
  refine D3 yY 60 (fun _=>none) (fun bs=>?_);exact D8 tOk hM0 rfl rfl ⟨trivial,trivial,trivial⟩ ⟨⟨rfl,by simp[iD,hb]⟩,hb.symm,trivial⟩
 ·have hb:V5 l at_ n=true:=by simp at h;simp[V5];omega
  refine D3 yY 60 (fun _=>none) (fun bs=>?_);exact D8 tOk hM0 rfl rfl ⟨trivial,trivial,trivial⟩ ⟨by simp only[iD,hb];rfl,hb.symm,trivial⟩
def A4F:C8
 |[.c (.pv (.lst .byt l)),.c (.pv (.val (.int .i64 at_))),.c (.pv (.val (.int .i64 n)))]=>some ((l.length≤1000000)∧(0≤n)∧(n≤1000000),true,.t [.c (.lst .byt (iD l at_ n)),.c (bv (V5 l at_ n))])
 |_=>none
theorem A8X:F5 Tryz.prog 286 A4F:=by
 intro args pre sh rv h hp;unfold A4F at h;split at h
 ·cases h;obtain⟨hl,h0,hn⟩:=hp;exact B5b _ _ _ hl h0 hn
 ·cases h
def rY:FuncId→Option C8:=E0 286 A4F bG
theorem pL:G9 Tryz.prog rY:=C1 A8X O7
def mA (n v:Int):Int:=if n<1∨8<n then 1 else if n<8∧v / 2 ^ (8*n).toNat≠0 then 6 else 0
def rZ (v k:Int):UInt8:=UInt8.ofNat (IntKind.u8.wrap (v / 2 ^ (8*k).toNat)).toNat
def G7 (n:Int) (big:Bool) (v:Int) (k:Nat):List UInt8:=(List.range k).map fun i:Nat=>rZ v (match big with|true=>n-1-i|false=>i)
theorem A3G (n:Int) (big:Bool) (v:Int) (k:Nat):G7 n big v (k+1)=G7 n big v k++[rZ v (match big with|true=>n-1-k|false=>k)]:=by
 simp[G7,List.range_succ]
def bC (l:List UInt8) (n:Int) (big:Bool) (v:Int):List UInt8:=if mA n v=0 then l++G7 n big v n.toNat else[]
def A4G:E4:=⟨T,rY,I0,A9,57,[],none,.t⟩
theorem A4H:B3 Tryz.prog A4G:=⟨pL,E6,A4⟩
theorem jZ:F3 Tryz.prog A4G:=⟨tOk,A4H⟩
theorem C3S (l:List UInt8) (n:Int) (big:Bool) (v:Int) (hl:l.length≤1000000) (hv:L8 .u64 v):aE Tryz.prog 225 false [lst .byt l,int .i64 n,bool big,int .u64 v] (.ot 5 .byt (bC l n big v) [.c (i64 (mA n v))]):=by
 refine dF (E:=A4G) Tryz.func225 (fun M0 W hM0=>?_);simp only[L8]at hv;refine D3 jZ 60 (fun _=>none) (fun bs=>?_);refine D4 rfl rfl (fun h=>?_) (fun h=>?_)
 ·refine D3 jZ 60 (fun _=>none) (fun bs=>?_);have he:mA n v=1:=by simp at h;simp[mA,h]
  exact D8 tOk hM0 rfl rfl ⟨trivial,trivial,trivial⟩ ⟨(show bC l n big v=[] by simp[bC,he]),⟨rfl,he.symm⟩,trivial⟩
 ·refine D3 jZ 60 (fun _=>none) (fun bs=>?_);refine D4 rfl rfl (fun h2=>?_) (fun h2=>?_)
  ·refine D3 jZ 60 (fun _=>none) (fun bs=>?_);have he:mA n v=6:=by simp at h h2;simp[mA,h2];omega
   exact D8 tOk hM0 rfl rfl ⟨trivial,trivial,trivial⟩ ⟨(show bC l n big v=[] by simp[bC,he]),⟨rfl,he.symm⟩,trivial⟩
  ·have he:mA n v=0:=by simp at h h2;simp[mA];omega
   have h1:1≤n∧n≤8:=by simp at h;omega
   clear h h2;refine D3 jZ 60 (fun _=>none) (fun bs=>?_);refine P8 (fun x:Nat×Value=>[(1,int .i64 n),(2,bool big),(3,int .u64 v),(37,int .i64 n),(38,int .i64 x.1),(10,.c (.own 0 x.2))]) (fun x=>[.own x.2 5 .byt (l++G7 n big v x.1)])
    (fun x=>x.1≤n.toNat) (fun x=>n.toNat-x.1) rfl [1] (0,?vv) (Nat.zero_le _) ?wk (fun x hx=>?_)
   case wk=>
    and_intros<;> (first|exact wk_|refine A6 ?_|skip)
    simp[G7]
   obtain⟨k,vv⟩:=x;simp only at hx;have hlen:(l++G7 n big v k).length≤1000008:=by simp[G7];omega
   refine D3 jZ 60 (fun _=>none) (fun bs=>?_);refine I6 rfl rfl (fun hk=>?_) (fun hk=>?_)
   ·have hk':(k:Int)<n:=hk;refine D3 jZ 60 (fun _=>none) (fun bs=>?_);cases big with
    |true=>
     refine cL rfl rfl rfl ?_;refine H8 tOk A4H 60 (fun _=>none) (fun bs=>rfl) (fun bs=>?_) (fun bs=>?_)
     ·and_intros<;> (intros;first|exact ob_|(simp[L8,IntKind.bits,G7];done)|(simp[L8,IntKind.bits,G7]at* <;> omega)|(simp_all;done)|(with_reducible assumption)|skip)
     refine G8 [2] (k+1,?v2) ?ok2 ?wk2
     case ok2=>exact⟨by simp only;omega,by simp only;omega⟩
     case wk2=>
      and_intros<;> (first|exact wk_|refine A6 ?_|skip)
      simp only[A3G,List.append_assoc];rfl
    |false=>
     refine fW rfl rfl rfl ?_;refine H8 tOk A4H 60 (fun _=>none) (fun bs=>rfl) (fun bs=>?_) (fun bs=>?_)
     ·and_intros<;> (intros;first|exact ob_|(simp[L8,IntKind.bits,G7];done)|(simp[L8,IntKind.bits,G7]at* <;> omega)|(simp_all;done)|(with_reducible assumption)|skip)
     refine G8 [2] (k+1,?v3) ?ok3 ?wk3
     case ok3=>exact⟨by simp only;omega,by simp only;omega⟩
     case wk3=>
      and_intros<;> (first|exact wk_|refine A6 ?_|skip)
      simp only[A3G,List.append_assoc];rfl
   ·refine D3 jZ 60 (fun _=>none) (fun bs=>?_);have hk':¬(k:Int)<n:=hk;have hkn:k=n.toNat:=by omega
    refine D8 tOk hM0 rfl rfl ?_ ?_
    ·and_intros<;> (intros;first|exact U3|omega|skip)
    ·refine⟨⟨rfl,rfl,rfl,A6 ?_⟩,⟨rfl,he.symm⟩,trivial⟩;show l++G7 n big v k=_;rw[hkn];simp[bC,he]
def B5c:C8
 |[.c (.pv (.lst .byt l)),.c (.pv (.val (.int .i64 n))),.c (.pv (.val (.bool big))),.c (.pv (.val (.int .u64 v)))]=>some ((l.length≤1000000)∧(L8 .u64 v),false,.ot 5 .byt (bC l n big v) [.c (i64 (mA n v))])
 |_=>none
theorem B5d:F5 Tryz.prog 225 B5c:=by
 intro args pre sh rv h hp;unfold B5c at h;split at h
 ·cases h;obtain⟨hl,hv⟩:=hp;exact C3S _ _ _ _ hl hv
 ·cases h
def A4I:FuncId→Option C8:=E0 225 B5c rY
theorem yZ:G9 Tryz.prog A4I:=C1 B5d pL
def pM (l:List UInt8) (at_ n:Int):Int:=if n<1∨8<n then 1 else if V5 l at_ n then 0 else 6
def sA (l:List UInt8) (at_ n:Int) (big:Bool) (i:Nat):UInt8:=l.getD (at_+(match big with|true=>(i:Int)|false=>n-1-i)).toNat 0
def A8Y (f:Nat→UInt8):Nat→Int
 |0=>0
 |k+1=>ior .u64 (IntKind.u64.wrap (A8Y f k*2 ^ 8)) ((f k).toNat:Int)
def K0 (l:List UInt8) (at_ n:Int) (big:Bool):Int:=if pM l at_ n=0 then A8Y (sA l at_ n big) n.toNat else 0
theorem zA {l:List UInt8} {at_ n k:Int} (hb:V5 l at_ n=true) (h0:0≤k) (hk:k<n):(iD l at_ n).getD k.toNat 0=l.getD (at_+k).toNat 0:=by
 have hb':=hb;simp[V5]at hb';simp only[iD,hb,List.getD,List.getElem?_drop,List.getElem?_take];have e:at_.toNat+k.toNat=(at_+k).toNat:=by omega
 rw[e,if_pos (by omega)]
theorem B1z {l:List UInt8} {at_ n:Int} (hb:V5 l at_ n=true) (h:0≤n):((iD l at_ n).length:Int)=n:=by
 have hb':=hb;simp[V5]at hb';simp only[iD,hb,List.length_drop,List.length_take];omega
def B0U (s:List UInt8):Int:=if s.length≤65535 then 0 else 2
def vD (l s:List UInt8):List UInt8:=if s.length≤65535 then bC l 2 false s.length++s else[]
def zC:E4:=⟨T,A4I,A7,A9,25,[],none,.t⟩
theorem B5e:B3 Tryz.prog zC:=⟨yZ,A2,A4⟩
theorem A4J:F3 Tryz.prog zC:=⟨tOk,B5e⟩
theorem C0F (l:List UInt8) (s:List UInt8) (hl:l.length≤1000000) (hs:s.length≤1000000):aE Tryz.prog 271 false [lst .byt l,str s] (.ot 5 .byt (vD l s) [.c (i64 (B0U s))]):=by
 refine dF (E:=zC) Tryz.func271 (fun M0 W hM0=>?_);refine D3 A4J 60 (fun _=>none) (fun bs=>?_);refine I6 rfl rfl (fun h=>?_) (fun h=>?_)
 ·refine D3 A4J 60 (fun _=>none) (fun bs=>?_);have hs2:¬s.length≤65535:=by omega
  exact D8 tOk hM0 rfl rfl ⟨trivial,trivial,trivial⟩ ⟨(show vD l s=[] by simp[vD,hs2]),⟨rfl,by simp[B0U,hs2]⟩,trivial⟩
 ·have hs2:s.length≤65535:=by omega
  have hpl:(bC l 2 false (0+s.length)).length≤1000002:=by simp only[bC];split<;> simp[G7];omega
  refine D3 A4J 60 (fun _=>none) (fun bs=>?_);refine D8 tOk hM0 rfl rfl ?_ ?_
  ·and_intros<;> (intros;first|exact U3|omega|skip)
  ·refine⟨⟨rfl,rfl,rfl,A6 ?_⟩,⟨rfl,?_⟩,trivial⟩
   ·show bC l 2 false (0+(s.length:Int))++s=_;simp[vD,hs2]
   ·show mA 2 (0+(s.length:Int))=_;simp[B0U,hs2,mA];omega
def A8Z:C8
 |[.c (.pv (.lst .byt l)),.c (.pv (.val (.string ⟨⟨s⟩⟩)))]=>some ((l.length≤1000000)∧(s.length≤1000000),false,.ot 5 .byt (vD l s) [.c (i64 (B0U s))])
 |_=>none
theorem B2A:F5 Tryz.prog 271 A8Z:=by
 intro args pre sh rv h hp;unfold A8Z at h;split at h
 ·cases h;obtain⟨hl,hs⟩:=hp;exact C0F _ _ hl hs
 ·cases h
def zD:FuncId→Option C8:=E0 271 A8Z A4I
theorem vE:G9 Tryz.prog zD:=C1 B2A yZ
theorem P3 {c:Int} (h:0≤c∧c≤6):(1:Int)≤2 ^ c.toNat∧(2:Int) ^ c.toNat≤64:=by
 have:c=0∨c=1∨c=2∨c=3∨c=4∨c=5∨c=6:=by omega
 rcases this with h|h|h|h|h|h|h<;> subst h<;> decide
def A4K (st ct:Int):Bool:=decide (2≤st) && decide (st≤65536) && decide (0≤ct) && decide (ct≤65536-st)
def U8 (k st ct sz sm c:Int):Bool:=
 if c<0∨6<c then false else if k=0∨k=1 then decide (st=0∧ct=0∧sz=0∧sm=0)
 else if k=2 then decide (ct=2 ^ c.toNat∧sz=0∧2≤st∧st≤65536∧ct≤65536-st)
 else if k=3 then decide (1≤ct∧ct<2 ^ c.toNat∧1≤sz∧(ct-1)*16<sz∧sz≤ct*16∧2≤st∧st≤65536∧ct≤65536-st)
 else false
def sB:E4:=⟨T,zD,A7,A9,24,[],none,.t⟩
theorem B2B:B3 Tryz.prog sB:=⟨vE,A2,A4⟩
theorem B5f:F3 Tryz.prog sB:=⟨tOk,B2B⟩
theorem B5g (e0:Int) (e1:Int) (e2:Int) (e3:Int) (e4:Int):aE Tryz.prog 255 false [.g [.pv (.val (.int .i64 e0)),.pv (.val (.int .i64 e1)),.pv (.val (.int .i64 e2)),.pv (.val (.int .i64 e3)),.pv (.val (.int .u32 e4))]] (.x (.c (bv (A4K e1 e2)))):=by
 refine dF (E:=sB) Tryz.func255 (fun M0 W hM0=>?_);refine D3 B5f 60 (fun _=>none) (fun bs=>?_);refine D8 tOk hM0 rfl rfl ⟨trivial,trivial⟩ ?_
 conv=>whnf
 rfl
def A4L:C8
 |[.g [.pv (.val (.int .i64 e0)),.pv (.val (.int .i64 e1)),.pv (.val (.int .i64 e2)),.pv (.val (.int .i64 e3)),.pv (.val (.int .u32 e4))]]=>some (True,false,.x (.c (bv (A4K e1 e2))))
 |_=>none
theorem A8a:F5 Tryz.prog 255 A4L:=by
 intro args pre sh rv h hp;unfold A4L at h;split at h
 ·cases h;exact B5g _ _ _ _ _
 ·cases h
def sC:FuncId→Option C8:=E0 255 A4L zD
theorem pN:G9 Tryz.prog sC:=C1 A8a vE
def A4M:E4:=⟨T,sC,A7,A9,75,[],none,.t⟩
theorem pO:B3 Tryz.prog A4M:=⟨pN,A2,A4⟩
theorem iE:F3 Tryz.prog A4M:=⟨tOk,pO⟩
theorem C3T (e0:Int) (e1:Int) (e2:Int) (e3:Int) (e4:Int) (c:Int):aE Tryz.prog 213 false [.g [.pv (.val (.int .i64 e0)),.pv (.val (.int .i64 e1)),.pv (.val (.int .i64 e2)),.pv (.val (.int .i64 e3)),.pv (.val (.int .u32 e4))],int .i64 c] (.x (.c (bv (U8 e0 e1 e2 e3 e4 c)))):=by
 refine dF (E:=A4M) Tryz.func213 (fun M0 W hM0=>?_);refine D3 iE 60 (fun _=>none) (fun bs=>?_);refine D4 rfl rfl (fun h=>?_) (fun h=>?_)
 ·refine D3 iE 60 (fun _=>none) (fun bs=>?_);have hb:U8 e0 e1 e2 e3 e4 c=false:=by simp at h;simp[U8,h]
  exact D8 tOk hM0 rfl rfl ⟨trivial,trivial⟩ hb.symm
 have hc:0≤c∧c≤6:=by simp at h;omega
 have hcn:¬(c<0∨6<c):=by omega
 clear h;have hp:=P3 hc;refine D3 iE 60 (fun _=>none) (fun bs=>?_);by_cases k0:e0=0
 ·refine cL rfl rfl (by simp[k0]) ?_;refine D3 iE 60 (fun _=>none) (fun bs=>?_);refine D8 tOk hM0 rfl rfl ⟨trivial,trivial⟩ ?_
  conv=>whnf
  simp[U8,hcn,k0]
 refine fW rfl rfl (by simp[k0]) ?_;refine D3 iE 60 (fun _=>none) (fun bs=>?_);by_cases k1:e0=1
 ·refine cL rfl rfl (by simp[k1]) ?_;refine D3 iE 60 (fun _=>none) (fun bs=>?_);refine D8 tOk hM0 rfl rfl ⟨trivial,trivial⟩ ?_
  conv=>whnf
  simp[U8,hcn,k1]
 refine fW rfl rfl (by simp[k1]) ?_;refine D3 iE 60 (fun _=>none) (fun bs=>?_);by_cases k2:e0=2
 ·refine cL rfl rfl (by simp[k2]) ?_;by_cases hok:e2=2 ^ c.toNat∧e3=0
  ·refine H8 tOk pO 60 (fun j=>match j with|1=>some true|_=>none) (fun bs=>rfl) (fun bs=>?_) (fun bs=>?_)
   ·simp[hok.1,hok.2]
   refine D8 tOk hM0 rfl rfl ⟨trivial,trivial⟩ ?_
   conv=>whnf
   simp[U8,hcn,k2,hok,A4K];rw[Bool.eq_iff_iff];simp;omega
  ·refine H8 tOk pO 60 (fun j=>match j with|1=>some false|_=>none) (fun bs=>rfl) (fun bs=>?_) (fun bs=>?_)
   ·simp;exact fun a b=>hok ⟨a,b⟩
   refine D8 tOk hM0 rfl rfl ⟨trivial,trivial⟩ ?_
   conv=>whnf
   simp[U8,hcn,k2];intro a b;exact absurd ⟨a,b⟩ hok
 refine fW rfl rfl (by simp[k2]) ?_;refine D3 iE 60 (fun _=>none) (fun bs=>?_);by_cases k3:e0=3
 ·refine cL rfl rfl (by simp[k3]) ?_;by_cases hok:((((1≤e2∧e2<2 ^ c.toNat)∧1≤e3)∧(e2-1)*16<e3)∧e3≤e2*16)
  ·refine H8 tOk pO 60 (fun j=>match j with|1=>some true|_=>none) (fun bs=>rfl) (fun bs=>?_) (fun bs=>?_)
   ·and_intros<;> (intros;first|exact U3|omega|skip)
   refine D8 tOk hM0 rfl rfl ⟨trivial,trivial⟩ ?_
   conv=>whnf
   simp[U8,hcn,k3,hok,A4K];rw[Bool.eq_iff_iff];simp;omega
  ·refine H8 tOk pO 60 (fun j=>match j with|1=>some false|_=>none) (fun bs=>rfl) (fun bs=>?_) (fun bs=>?_)
   ·and_intros<;> (intros;first|exact U3|omega|skip)
   refine D8 tOk hM0 rfl rfl ⟨trivial,trivial⟩ ?_
   conv=>whnf
   simp[U8,hcn,k3];intro a1 a2 a3 a4 a5;exact absurd ⟨⟨⟨⟨a1,a2⟩,a3⟩,a4⟩,a5⟩ hok
 refine fW rfl rfl (by simp[k3]) ?_;refine D3 iE 60 (fun _=>none) (fun bs=>?_);refine D8 tOk hM0 rfl rfl ⟨trivial,trivial⟩ ?_
 conv=>whnf
 simp[U8,hcn,k0,k1,k2,k3]
def B5h:C8
 |[.g [.pv (.val (.int .i64 e0)),.pv (.val (.int .i64 e1)),.pv (.val (.int .i64 e2)),.pv (.val (.int .i64 e3)),.pv (.val (.int .u32 e4))],.c (.pv (.val (.int .i64 c)))]=>some (True,false,.x (.c (bv (U8 e0 e1 e2 e3 e4 c))))
 |_=>none
theorem B5i:F5 Tryz.prog 213 B5h:=by
 intro args pre sh rv h hp;unfold B5h at h;split at h
 ·cases h;exact C3T _ _ _ _ _ _
 ·cases h
def A4N:FuncId→Option C8:=E0 213 B5h sC
theorem zE:G9 Tryz.prog A4N:=C1 B5i pN
theorem lJ {k st ct sz sm c:Int} (h:U8 k st ct sz sm c=true):(0≤k∧k≤3)∧(0≤st∧st≤65536)∧(0≤ct∧ct≤64)∧(0≤sz∧sz≤1024)∧(0≤c∧c≤6):=by
 unfold U8 at h;split at h
 ·cases h
 ·rename_i hc;have hp:=P3 (c:=c) (by omega);split at h
  ·simp at h;omega
  ·split at h
   ·simp at h;omega
   ·split at h
    ·simp at h;omega
    ·cases h
theorem pQ (l:List UInt8) (n:Int) (b:Bool) (v:Int):(bC l n b v).length≤l.length+n.toNat:=by
 unfold bC;split
 ·simp[G7]
 ·simp
def C0G (k st ct sz sm c:Int):Int:=if U8 k st ct sz sm c=true then 0 else 1
def zF (k ct:Int):List UInt8:=bC [UInt8.ofNat k.toNat,0] 2 false ct
def nF (l:List UInt8) (ns:List Int):Nat→List UInt8
 |0=>l
 |i+1=>bC (nF l ns i) 4 false (ns.getD i 0)
theorem zG (l:List UInt8) (ns:List Int) (i:Nat):(nF l ns i).length≤l.length+4*i:=by
 induction i with
 |zero=>simp[nF]
 |succ i ih=>have:=pQ (nF l ns i) 4 false (ns.getD i 0);simp only[nF];omega
def A4O (k st ct sz sm c:Int):List UInt8:=if U8 k st ct sz sm c=true then nF (zF k ct) [st,sz,sm] 3 else[]
theorem B5j (k st ct sz sm c:Int):(A4O k st ct sz sm c).length≤16:=by
 unfold A4O;split
 ·have h1:=zG (zF k ct) [st,sz,sm] 3;have h2:=pQ [UInt8.ofNat k.toNat,0] 2 false ct;simp only[zF]at h1⊢;simp at h2;omega
 ·simp
def zH:E4:=⟨T,A4N,A7,A9,47,[15],none,.t⟩
theorem A6l:B3 Tryz.prog zH:=⟨zE,A2,A4⟩
theorem pR:F3 Tryz.prog zH:=⟨tOk,A6l⟩
theorem C0H (e0:Int) (e1:Int) (e2:Int) (e3:Int) (e4:Int) (c:Int) (h4:L8 .u32 e4):aE Tryz.prog 289 false [.g [.pv (.val (.int .i64 e0)),.pv (.val (.int .i64 e1)),.pv (.val (.int .i64 e2)),.pv (.val (.int .i64 e3)),.pv (.val (.int .u32 e4))],int .i64 c] (.ot 5 .byt (A4O e0 e1 e2 e3 e4 c) [.c (i64 (C0G e0 e1 e2 e3 e4 c))]):=by
 refine dF (E:=zH) Tryz.func289 (fun M0 W hM0=>?_);simp only[L8]at h4;refine D3 pR 60 (fun _=>none) (fun bs=>?_);refine D4 rfl rfl (fun h=>?_) (fun h=>?_)
 ·refine D3 pR 60 (fun _=>none) (fun bs=>?_);have hb:U8 e0 e1 e2 e3 e4 c=false:=by simpa using h
  exact D8 tOk hM0 rfl rfl ⟨trivial,trivial,trivial⟩ ⟨(show A4O e0 e1 e2 e3 e4 c=[] by simp[A4O,hb]),⟨rfl,by simp[C0G,hb]⟩,trivial⟩
 have hb:U8 e0 e1 e2 e3 e4 c=true:=by simpa using h
 clear h;obtain⟨f1,f2,f3,f4,f5⟩:=lJ hb;refine D3 pR 60 (fun _=>none) (fun bs=>?_);have hlen:=fun i=>zG (zF e0 e2) [e1,e3,e4] i
 have hh:(zF e0 e2).length≤4:=pQ _ _ _ _;refine I1 3 [32] rfl ⟨rfl,trivial⟩ ?_;refine P8 (fun x:Nat×Value=>[(6,.c (.own 0 x.2)),(32,lst (.ints .i64) [e1,e3,e4]),(33,int .i64 3),(34,int .i64 x.1)]) (fun x=>[.own x.2 5 .byt (nF (zF e0 e2) [e1,e3,e4] x.1)])
  (fun x=>x.1≤3) (fun x=>3-x.1) rfl [2] (0,?v0) (Nat.zero_le _) ?wk (fun x hx=>?_)
 case wk=>and_intros<;> (first|exact wk_|refine A6 ?_|skip)
 obtain⟨i,v⟩:=x;simp only at hx;have hl:=hlen i;refine D3 pR 60 (fun _=>none) (fun bs=>?_);refine I6 rfl rfl (fun hk=>?_) (fun hk=>?_)
 ·have hk':i<3:=by omega
  have hr:0≤[e1,e3,e4].getD i 0∧[e1,e3,e4].getD i 0≤18446744073709551615:=by
   match i,hk' with
   |0,_=>simp;omega
   |1,_=>simp;omega
   |2,_=>simp;omega
  have hl2:(nF (zF e0 e2) [e1,e3,e4] (i,v).1).length≤1000000:=by simp only;omega
  refine H8 tOk A6l 60 (fun _=>none) (fun bs=>rfl) (fun bs=>?_) (fun bs=>?_)
  ·and_intros<;> (intros;first|exact trivial|exact rfl|omega|(simp at hr⊢;omega)|exact hr.1|exact hr.2)
  refine G8 [1] (i+1,?v1) ?ok1 ?wk1
  case ok1=>exact⟨by simp only;omega,by simp only;omega⟩
  case wk1=>
   and_intros<;> (first|exact wk_|refine A6 ?_|skip)
 ·have hk':i=3:=by omega
  subst hk';refine D3 pR 60 (fun _=>none) (fun bs=>?_);refine D8 tOk hM0 rfl rfl ⟨trivial,trivial,trivial⟩ ⟨⟨rfl,rfl,rfl,A6 ?_⟩,⟨rfl,by simp[C0G,hb]⟩,trivial⟩;simp only[A4O,hb,if_true]
def A8b:C8
 |[.g [.pv (.val (.int .i64 e0)),.pv (.val (.int .i64 e1)),.pv (.val (.int .i64 e2)),.pv (.val (.int .i64 e3)),.pv (.val (.int .u32 e4))],.c (.pv (.val (.int .i64 c)))]=>some ((L8 .u32 e4),false,.ot 5 .byt (A4O e0 e1 e2 e3 e4 c) [.c (i64 (C0G e0 e1 e2 e3 e4 c))])
 |_=>none
theorem B2C:F5 Tryz.prog 289 A8b:=by
 intro args pre sh rv h hp;unfold A8b at h;split at h
 ·cases h;have h4:=hp;exact C0H _ _ _ _ _ _ h4
 ·cases h
def zI:FuncId→Option C8:=E0 289 A8b A4N
theorem vF:G9 Tryz.prog zI:=C1 B2C zE
def leaf (t:List (List B0)) (i:Nat):List B0:=t.getD i []
def mM (k st ct sz sm:Int):Bool:=decide (k=0) && decide (st=0) && decide (ct=0) && decide (sz=0) && decide (sm=0)
def zJ:E4:=⟨T,zI,I0,A9,6,[],none,.t⟩
theorem B5k:B3 Tryz.prog zJ:=⟨vF,E6,A4⟩
theorem C0I:F3 Tryz.prog zJ:=⟨tOk,B5k⟩
theorem C0J (e0:Int) (e1:Int) (e2:Int) (e3:Int) (e4:Int):aE Tryz.prog 172 false [.g [.pv (.val (.int .i64 e0)),.pv (.val (.int .i64 e1)),.pv (.val (.int .i64 e2)),.pv (.val (.int .i64 e3)),.pv (.val (.int .u32 e4))]] (.x (.c (bv (mM e0 e1 e2 e3 e4)))):=by
 refine dF (E:=zJ) Tryz.func172 (fun M0 W hM0=>?_);refine D3 C0I 60 (fun _=>none) (fun bs=>?_);refine D8 tOk hM0 rfl rfl ⟨trivial,trivial⟩ ?_
 conv=>whnf
 simp[mM,Bool.and_assoc]
def A8c:C8
 |[.g [.pv (.val (.int .i64 e0)),.pv (.val (.int .i64 e1)),.pv (.val (.int .i64 e2)),.pv (.val (.int .i64 e3)),.pv (.val (.int .u32 e4))]]=>some (True,false,.x (.c (bv (mM e0 e1 e2 e3 e4))))
 |_=>none
theorem B2D:F5 Tryz.prog 172 A8c:=by
 intro args pre sh rv h hp;unfold A8c at h;split at h
 ·cases h;exact C0J _ _ _ _ _
 ·cases h
def zK:FuncId→Option C8:=E0 172 A8c zI
theorem vG:G9 Tryz.prog zK:=C1 B2D vF
def X6 (c:Int) (e:B0):Bool:=U8 e.kind e.start e.count e.size e.sum c
def Q2 (e:B0):Bool:=mM e.kind e.start e.count e.size e.sum
def K8:B0:=⟨0,0,0,0,0⟩
def eY (c n p:Int) (e:B0):Bool:=X6 c e && (Q2 e || decide (p<n))
def iF (c n:Int) (i:Nat) (l:List B0):Nat→Bool
 |0=>true
 |k+1=>iF c n i l k && eY c n (i*8+k) (l.getD k K8)
def O1 (l:List B0):Nat→Bool
 |0=>false
 |k+1=>O1 l k || !Q2 (l.getD k K8)
def jH (c n:Int) (i:Nat) (l:List B0):Bool:=decide (l.length=8) && (iF c n i l 8 && O1 l 8)
def R2 (t:List (List B0)) (n c:Int) (i:Nat):Bool:=(decide ((leaf t i).length=0) && decide (i+1<t.length)) || jH c n i (leaf t i)
def N4 (t:List (List B0)) (n c:Int):Nat→Bool
 |0=>true
 |k+1=>N4 t n c k && R2 t n c k
def F0 (t:List (List B0)) (n c:Int):Bool:= !(decide (n<0) || decide (4096<n) || decide (c<0) || decide (6<c)) && N4 t n c t.length
theorem cX {t:List (List B0)} {n c:Int} {i j:Nat} (h:N4 t n c i=false) (hij:i≤j):N4 t n c j=false:=by
 induction j with
 |zero=>
  have:i=0:=by omega
  subst this;exact h
 |succ j ih=>
  by_cases hi:i=j+1
  ·subst hi;exact h
  ·simp[N4,ih (by omega)]
theorem A8d {c n:Int} {l:List B0} {q i j:Nat} (h:iF c n q l i=false) (hij:i≤j):iF c n q l j=false:=by
 induction j with
 |zero=>
  have:i=0:=by omega
  subst this;exact h
 |succ j ih=>
  by_cases hi:i=j+1
  ·subst hi;exact h
  ·simp[iF,ih (by omega)]
theorem B5l {t:List (List B0)} {n c:Int} {i:Nat} (h:R2 t n c i=false) (hi:i<t.length):F0 t n c=false:=by
 have:N4 t n c t.length=false:=cX (i:=i+1) (by simp[N4,h]) hi;simp[F0,this]
theorem A6m {t:List (List B0)} {n c:Int} {x:Nat} (h1:¬((leaf t x).length=0∧x+1<t.length)) (h2:jH c n x (leaf t x)=false):R2 t n c x=false:=by
 have:(decide ((leaf t x).length=0) && decide (x+1<t.length))=false:=by
  rw[Bool.eq_false_iff];simp only[ne_eq,Bool.and_eq_true,decide_eq_true_eq];exact h1
 simp only[R2,this,h2];rfl
theorem gH (e:B0):mM e.kind e.start e.count e.size e.sum=Q2 e:=rfl
theorem kA (c:Int) (e:B0):U8 e.kind e.start e.count e.size e.sum c=X6 c e:=rfl
def sD:E4:=⟨T,zK,I0,A9,82,[],none,.t⟩
theorem dH:B3 Tryz.prog sD:=⟨vG,E6,A4⟩
theorem O2:F3 Tryz.prog sD:=⟨tOk,dH⟩
theorem B5m (t0:List (List B0)) (n:Int) (c:Int) (hl:t0.length≤1000000000) (hf:∀i,(leaf t0 i).length≤1000000000):aE Tryz.prog 132 false [.g [.pv (.lst .tbl t0)],int .i64 n,int .i64 c] (.x (.c (bv (F0 t0 n c)))):=by
 refine dF (E:=sD) Tryz.func132 (fun M0 W hM0=>?_);refine D3 O2 60 (fun _=>none) (fun bs=>?_);generalize(bs 0 0).bn=b;refine D4 (b:=decide (n<0) || decide (4096<n) || decide (c<0) || decide (6<c)) rfl rfl (fun h=>?_) (fun h=>?_)
 ·refine D3 O2 60 (fun _=>none) (fun bs=>?_);refine D8 tOk hM0 rfl rfl ⟨trivial,trivial⟩ ?_
  conv=>whnf
  simp only[F0,h];rfl
 have hb:0≤n∧n≤4096∧0≤c∧c≤6:=by simp at h;omega
 have hR:F0 t0 n c=N4 t0 n c t0.length:=by simp only[F0,h];rfl
 have hF:∀x,x<t0.length→R2 t0 n c x=false→F0 t0 n c=false:=fun x hx ho=>B5l ho hx
 refine D3 O2 60 (fun _=>none) (fun bs=>?_);refine P8 (fun x:Nat=>[(1,int .i64 n),(2,int .i64 c),(3,.c (.ptr 0 b 0)),(27,lst .tbl t0),(28,int .i64 t0.length),(29,int .i64 x)]) (fun x=>[.blk b 77 [.pv (.lst .tbl t0)]]) (fun x=>x≤t0.length∧N4 t0 n c x=true) (fun x=>t0.length-x) rfl [0] 0 ⟨Nat.zero_le _,rfl⟩ ?wk (fun x hx=>?_)
 case wk=>and_intros<;> (first|exact wk_|refine A6 ?_|skip)
 obtain⟨hx,hr⟩:=hx;refine D3 O2 60 (fun _=>none) (fun bs=>?_);refine I6 rfl rfl (fun hk=>?_) (fun hk=>?_)
 ·have hk':x<t0.length:=by omega
  have hlf:=hf x;have hlx:t0.getD (Int.toNat (x:Int)) LK.tbl.dft=leaf t0 x:=rfl;refine H8 tOk dH 60 (fun _=>none) (fun bs=>rfl) (fun bs=>?_) (fun bs=>?_)
  ·simp only[hlx]
   and_intros<;> (intros;first|exact U3|omega|skip)
  refine D4 (b:=decide (((leaf t0 x).length:Int)=0) && decide ((x:Int)<t0.length-1)) rfl rfl (fun h1=>?_) (fun h1=>?_)
  ·have h1':(leaf t0 x).length=0∧x+1<t0.length:=by
    simp only[Bool.and_eq_true,decide_eq_true_eq]at h1;omega
   refine D3 O2 60 (fun _=>none) (fun bs=>?_);refine G8 [0] (x+1) ?ok1 ?wk1
   case ok1=>exact⟨⟨hk',by simp[N4,hr,R2,h1'.2,List.eq_nil_of_length_eq_zero h1'.1]⟩,by omega⟩
   case wk1=>and_intros<;> (first|exact wk_|refine A6 ?_|skip)
  have h1':¬((leaf t0 x).length=0∧x+1<t0.length):=by
   intro hh;rw[Bool.eq_false_iff]at h1;apply h1;simp only[Bool.and_eq_true,decide_eq_true_eq];omega
  refine D3 O2 60 (fun _=>none) (fun bs=>?_);refine D4 (b:= !decide (((leaf t0 x).length:Int)=8)) rfl rfl (fun h2=>?_) (fun h2=>?_)
  ·refine D3 O2 60 (fun _=>none) (fun bs=>?_);refine D8 tOk hM0 rfl rfl ⟨trivial,trivial⟩ ?_
   conv=>whnf
   refine(hF x hk' (A6m h1' ?_)).symm;have:¬(leaf t0 x).length=8:=by simp at h2;omega
   simp[jH,this]
  have h8:(leaf t0 x).length=8:=by simp at h2;omega
  refine D3 O2 60 (fun _=>none) (fun bs=>?_);refine P8 (fun k:Nat=>[(1,int .i64 n),(2,int .i64 c),(3,.c (.ptr 0 b 0)),(7,int .i64 x),(8,lst .ent (leaf t0 x)),(9,bool (O1 (leaf t0 x) k)),(27,lst .tbl t0),(28,int .i64 t0.length),(29,int .i64 x),(48,lst .ent (leaf t0 x)),(49,int .i64 (leaf t0 x).length),(50,int .i64 k)]) (fun k=>[.blk b 77 [.pv (.lst .tbl t0)]]) (fun k=>k≤8∧iF c n x (leaf t0 x) k=true) (fun k=>8-k) rfl [0] 0 ⟨Nat.zero_le _,rfl⟩ ?wk2 (fun k hx2=>?_)
  case wk2=>and_intros<;> (first|exact wk_|refine A6 ?_|skip)
  obtain⟨hx2,hr2⟩:=hx2;have hrow:jH c n x (leaf t0 x)=false→F0 t0 n c=false:=fun hh=>hF x hk' (A6m h1' hh)
  have hrow2:jH c n x (leaf t0 x)=true→N4 t0 n c (x+1)=true:=fun hh=>by simp[N4,hr,R2,hh]
  clear hlx h1 h1' h2 hlf;generalize leaf t0 x=lf at *;have hx4:x≤1000000000:=by omega
  refine D3 O2 60 (fun _=>none) (fun bs=>?_);refine I6 rfl rfl (fun hk2=>?_) (fun hk2=>?_)
  ·have hk2':k<8:=by omega
   obtain⟨e,he⟩:∃e,lf.getD k K8=e:=⟨_,rfl⟩
   have he1:lf.getD (Int.toNat (k:Int)) LK.ent.dft=e:=he;have hno:eY c n (x*8+k) e=false→F0 t0 n c=false:=fun hh=>hrow (by
    have:iF c n x lf 8=false:=A8d (i:=k+1) (by simp only[iF,he,hh,Bool.and_false]) hk2';simp[jH,this])
   have hyes:eY c n (x*8+k) e=true→iF c n x lf (k+1)=true:=fun hh=>by simp only[iF,he,hr2,hh,Bool.and_self]
   have hsm:O1 lf (k+1)=(O1 lf k || !Q2 e):=by simp only[O1,he]
   cases hm:X6 c e with
   |false=>
    refine H8 tOk dH 60 (fun j=>match j with|4=>some true|8=>some true|_=>none) (fun bs=>rfl) (fun bs=>?_) (fun bs=>?_)
    ·simp only[he1,kA,hm]
     and_intros<;> (intros;first|exact U3|omega|skip)
    refine cL rfl rfl ?c1 ?_
    case c1=>simp[he1,kA,hm]
    refine D3 O2 60 (fun _=>none) (fun bs=>?_);refine D8 tOk hM0 rfl rfl ⟨trivial,trivial⟩ ?_
    conv=>whnf
    exact(hno (by simp[eY,hm])).symm
   |true=>
    refine H8 tOk dH 60 (fun j=>match j with|4=>some false|_=>none) (fun bs=>rfl) (fun bs=>?_) (fun bs=>?_)
    ·simp only[he1,kA,gH,hm]
     and_intros<;> (intros;first|exact U3|omega|skip)
    refine D4 rfl rfl (fun h3=>?_) (fun h3=>?_)
    ·simp only[he1,kA,gH,hm,Bool.not_true,Bool.false_or,Bool.and_eq_true,decide_eq_true_eq]at h3;refine D3 O2 60 (fun _=>none) (fun bs=>?_);refine D8 tOk hM0 rfl rfl ⟨trivial,trivial⟩ ?_
     conv=>whnf
     refine(hno ?_).symm;have h4:¬((x:Int)*8+k<n):=by omega
     have h5:Q2 e=false:=by simpa using h3.1
     simp[eY,h4,h5]
    ·simp only[he1,kA,gH,hm,Bool.not_true,Bool.false_or]at h3;have h4:eY c n (x*8+k) e=true:=by
      rw[Bool.eq_false_iff]at h3;simp only[ne_eq,Bool.and_eq_true,decide_eq_true_eq,Bool.not_eq_true']at h3;simp only[eY,hm,Bool.true_and,Bool.or_eq_true,decide_eq_true_eq];cases h5:Q2 e with
      |true=>exact .inl rfl
      |false=>exact .inr (by
       have:¬n≤(x:Int)*8+k:=fun hh=>h3 ⟨h5,hh⟩
       omega)
     cases hs:O1 lf k with
     |true=>
      refine H8 tOk dH 60 (fun j=>match j with|1=>some true|_=>none) (fun bs=>rfl) (fun bs=>?_) (fun bs=>?_)
      ·simp only[hs]
       and_intros<;> (intros;first|exact U3|omega|skip)
      refine G8 [0] (k+1) ?ok2 ?wk3
      case ok2=>exact⟨⟨hk2',hyes h4⟩,by omega⟩
      case wk3=>
       and_intros<;> (first|exact wk_|refine A6 ?_|skip)
       all_goals(simp only[hsm,hs];rfl)
     |false=>
      refine H8 tOk dH 60 (fun j=>match j with|1=>some false|_=>none) (fun bs=>rfl) (fun bs=>?_) (fun bs=>?_)
      ·simp only[he1,gH,hs]
       and_intros<;> (intros;first|exact U3|omega|skip)
      refine G8 [0] (k+1) ?ok3 ?wk4
      case ok3=>exact⟨⟨hk2',hyes h4⟩,by omega⟩
      case wk4=>
       and_intros<;> (first|exact wk_|refine A6 ?_|skip)
       all_goals(simp only[hsm,hs,he1,gH];rfl)
  ·have hk2':k=8:=by omega
   subst hk2';refine D3 O2 60 (fun _=>none) (fun bs=>?_);refine D4 (b:= !O1 lf 8) rfl rfl (fun h3=>?_) (fun h3=>?_)
   ·refine D3 O2 60 (fun _=>none) (fun bs=>?_);refine D8 tOk hM0 rfl rfl ⟨trivial,trivial⟩ ?_
    conv=>whnf
    refine(hrow ?_).symm;have h4:O1 lf 8=false:=by simpa using h3
    simp[jH,h4]
   ·refine D3 O2 60 (fun _=>none) (fun bs=>?_);refine G8 [0] (x+1) ?ok4 ?wk5
    case ok4=>
     refine⟨⟨hk',hrow2 ?_⟩,by omega⟩;have h4:O1 lf 8=true:=by simpa using h3
     simp[jH,h4,hr2,h8]
    case wk5=>and_intros<;> (first|exact wk_|refine A6 ?_|skip)
 ·have hk':x=t0.length:=by omega
  subst hk';refine D3 O2 60 (fun _=>none) (fun bs=>?_);refine D8 tOk hM0 rfl rfl ⟨trivial,trivial⟩ ?_
  conv=>whnf
  rw[hR,hr]
def A4P:C8
 |[.g [.pv (.lst .tbl t0)],.c (.pv (.val (.int .i64 n))),.c (.pv (.val (.int .i64 c)))]=>some ((t0.length≤1000000000)∧(∀i,(leaf t0 i).length≤1000000000),false,.x (.c (bv (F0 t0 n c))))
 |_=>none
theorem A8e:F5 Tryz.prog 132 A4P:=by
 intro args pre sh rv h hp;unfold A4P at h;split at h
 ·cases h;obtain⟨hl,hf⟩:=hp;exact B5m _ _ _ hl hf
 ·cases h
def sE:FuncId→Option C8:=E0 132 A4P zK
theorem pT:G9 Tryz.prog sE:=C1 A8e vG
theorem Q7 {t:List (List B0)} {i:Nat} (h:t.length≤i):leaf t i=[]:=by simp[leaf,List.getD,List.getElem?_eq_none h]
theorem zL {l:List B0}:∀{k:Nat},O1 l k=true→∃j,j<k∧Q2 (l.getD j K8)=false:=by
 intro k
 induction k with
 |zero=>intro h;cases h
 |succ k ih=>
  intro h;simp only[O1,Bool.or_eq_true,Bool.not_eq_true']at h;rcases h with h|h
  ·obtain⟨j,hj,h2⟩:=ih h;exact⟨j,by omega,h2⟩
  ·exact⟨k,by omega,h⟩
theorem pU {c n:Int} {i:Nat} {l:List B0}:∀{k:Nat},iF c n i l k=true→∀j,j<k→eY c n (i*8+j) (l.getD j K8)=true:=by
 intro k
 induction k with
 |zero=>intro _ j hj;omega
 |succ k ih=>
  intro h j hj;simp only[iF,Bool.and_eq_true]at h;by_cases e:j=k
  ·subst e;exact h.2
  ·exact ih h.1 j (by omega)
theorem sF {t:List (List B0)} {n c:Int} (h:F0 t n c=true) (h5:512<t.length):False:=by
 simp only[F0,Bool.and_eq_true,Bool.not_eq_true',Bool.or_eq_false_iff,decide_eq_false_iff_not]at h;obtain⟨⟨⟨⟨a1,a2⟩,a3⟩,a4⟩,hN⟩:=h;have hrow:R2 t n c (t.length-1)=true:=by
  cases ho:R2 t n c (t.length-1)with
  |true=>rfl
  |false=>
   have:N4 t n c t.length=false:=cX (i:=t.length-1+1) (by simp[N4,ho]) (by omega);rw[this]at hN;cases hN
 have hd:decide (t.length-1+1<t.length)=false:=by simp;omega
 simp only[R2,hd,Bool.and_false,Bool.false_or,jH,Bool.and_eq_true]at hrow;obtain⟨_,r1,r2⟩:=hrow;obtain⟨j,hj,h2⟩:=zL r2;have:=pU r1 j hj;simp only[eY,h2,Bool.false_or,Bool.and_eq_true,decide_eq_true_eq]at this;omega
def L4 (t:List (List B0)) (i:Int):B0:=if i<0 then K8 else(leaf t (i / 8).toNat).getD (i%8).toNat K8
def zM:E4:=⟨T,sE,I0,A9,34,[],none,.t⟩
theorem gI:B3 Tryz.prog zM:=⟨pT,E6,A4⟩
theorem A4Q:F3 Tryz.prog zM:=⟨tOk,gI⟩
theorem C0K (t0:List (List B0)) (i:Int) (hl:t0.length≤1000000000) (hf:∀i,(leaf t0 i).length≤1000000000) (hi:i≤9223372036854775807):aE Tryz.prog 149 false [.g [.pv (.lst .tbl t0)],int .i64 i] (.x (.g [i64 (L4 t0 i).kind,i64 (L4 t0 i).start,i64 (L4 t0 i).count,i64 (L4 t0 i).size,.val (.int .u32 (L4 t0 i).sum)])):=by
 refine dF (E:=zM) Tryz.func149 (fun M0 W hM0=>?_);by_cases h0:i<0
 ·refine H8 tOk gI 60 (fun _=>some true) (fun bs=>rfl) (fun bs=>?_) (fun bs=>?_)
  ·and_intros<;> (intros;first|exact ob_|(simp[L8,IntKind.bits,h0];done)|(simp[L8,IntKind.bits,h0]at* <;> omega)|(simp_all;done)|(with_reducible assumption)|skip)
  refine cL rfl rfl ?c1 ?_
  case c1=>simp[h0]
  refine D3 A4Q 60 (fun _=>none) (fun bs=>?_);refine D8 tOk hM0 rfl rfl ⟨rfl,trivial⟩ ?_;have:L4 t0 i=K8:=by unfold L4;rw[if_pos h0]
  rw[this];exact⟨⟨rfl,rfl⟩,⟨rfl,rfl⟩,⟨rfl,rfl⟩,⟨rfl,rfl⟩,⟨rfl,rfl⟩,trivial⟩
 have hq:0≤i / 8:=by omega
 have hq2:i / 8≤i:=by omega
 have hlx:t0.getD (Int.toNat (i / 8)) LK.tbl.dft=leaf t0 (i / 8).toNat:=rfl;have hfx:=hf (i / 8).toNat;have hA:L4 t0 i=(leaf t0 (i / 8).toNat).getD (i%8).toNat K8:=by unfold L4;rw[if_neg h0]
 by_cases h1:(t0.length:Int)≤i / 8
 ·refine H8 tOk gI 60 (fun _=>some false) (fun bs=>rfl) (fun bs=>?_) (fun bs=>?_)
  ·and_intros<;> (intros;first|exact ob_|(simp[L8,IntKind.bits,h0];done)|(simp[L8,IntKind.bits,h0]at* <;> omega)|(simp_all;done)|(with_reducible assumption)|skip)
  refine cL rfl rfl ?c2 ?_
  case c2=>simp[h0,h1]
  refine D3 A4Q 60 (fun _=>none) (fun bs=>?_);refine D8 tOk hM0 rfl rfl ⟨rfl,trivial⟩ ?_;have:L4 t0 i=K8:=by rw[hA,Q7 (by omega)];rfl
  rw[this];exact⟨⟨rfl,rfl⟩,⟨rfl,rfl⟩,⟨rfl,rfl⟩,⟨rfl,rfl⟩,⟨rfl,rfl⟩,trivial⟩
 refine H8 tOk gI 60 (fun _=>some false) (fun bs=>rfl) (fun bs=>?_) (fun bs=>?_)
 ·and_intros<;> (intros;first|exact ob_|(simp[L8,IntKind.bits,h0];done)|(simp[L8,IntKind.bits,h0]at* <;> omega)|(simp_all;done)|(with_reducible assumption)|skip)
 refine fW rfl rfl ?c3 ?_
 case c3=>simp[h0,h1]
 refine H8 tOk gI 60 (fun _=>none) (fun bs=>rfl) (fun bs=>?_) (fun bs=>?_)
 ·simp only[hlx]
  and_intros<;> (intros;first|exact U3|omega|skip)
 refine D4 rfl rfl (fun h2=>?_) (fun h2=>?_)
 ·refine D3 A4Q 60 (fun _=>none) (fun bs=>?_);refine D8 tOk hM0 rfl rfl ⟨rfl,trivial⟩ ?_;have:L4 t0 i=K8:=by
   rw[hA,List.getD,List.getElem?_eq_none]
   ·rfl
   ·simp only[hlx,decide_eq_true_eq]at h2;omega
  rw[this];exact⟨⟨rfl,rfl⟩,⟨rfl,rfl⟩,⟨rfl,rfl⟩,⟨rfl,rfl⟩,⟨rfl,rfl⟩,trivial⟩
 ·simp only[hlx,decide_eq_false_iff_not]at h2;refine H8 tOk gI 60 (fun _=>none) (fun bs=>rfl) (fun bs=>?_) (fun bs=>?_)
  ·simp only[hlx]
   and_intros<;> (intros;first|exact U3|omega|skip)
  refine D8 tOk hM0 rfl rfl ⟨rfl,trivial⟩ ?_;rw[hA];exact⟨⟨rfl,rfl⟩,⟨rfl,rfl⟩,⟨rfl,rfl⟩,⟨rfl,rfl⟩,⟨rfl,rfl⟩,trivial⟩
def A8f:C8
 |[.g [.pv (.lst .tbl t0)],.c (.pv (.val (.int .i64 i)))]=>some ((t0.length≤1000000000)∧(∀i,(leaf t0 i).length≤1000000000)∧(i≤9223372036854775807),false,.x (.g [i64 (L4 t0 i).kind,i64 (L4 t0 i).start,i64 (L4 t0 i).count,i64 (L4 t0 i).size,.val (.int .u32 (L4 t0 i).sum)]))
 |_=>none
theorem B2E:F5 Tryz.prog 149 A8f:=by
 intro args pre sh rv h hp;unfold A8f at h;split at h
 ·cases h;obtain⟨hl,hf,hi⟩:=hp;exact C0K _ _ hl hf hi
 ·cases h
def zN:FuncId→Option C8:=E0 149 A8f sE
theorem vH:G9 Tryz.prog zN:=C1 B2E pT
def env_clone:E4:=⟨T,zN,I0,A9,8,[],none,.t⟩
theorem eok_clone:B3 Tryz.prog env_clone:=⟨vH,E6,A4⟩
theorem ek_clone:F3 Tryz.prog env_clone:=⟨tOk,eok_clone⟩
theorem clone_fn (l:List B0) (hl:l.length≤1000000000):aE Tryz.prog 232 true [lst .ent l] (.x (.c (.lst .ent l))):=by
 refine dF (E:=env_clone) Tryz.func232 (fun M0 W hM0=>?_);refine D3 ek_clone 60 (fun _=>none) (fun bs=>?_);refine D4 rfl rfl (fun h=>?_) (fun h=>?_)
 ·have:=jO h;subst this;refine D3 ek_clone 60 (fun _=>none) (fun bs=>?_);refine D8 tOk hM0 rfl rfl ⟨trivial,trivial⟩ ?_;exact⟨rfl,rfl⟩
 ·refine D3 ek_clone 60 (fun _=>none) (fun bs=>?_);refine I1 1 [2] rfl ⟨rfl,trivial⟩ ?_;exact D8 tOk hM0 rfl rfl ⟨trivial,trivial⟩ rfl
def clone_s:C8
 |[.c (.pv (.lst .ent l))]=>some ((l.length≤1000000000),true,.x (.c (.lst .ent l)))
 |_=>none
theorem clone_s_ok:F5 Tryz.prog 232 clone_s:=by
 intro args pre sh rv h hp;unfold clone_s at h;split at h
 ·cases h;have hl:=hp;exact clone_fn _ hl
 ·cases h
def psi_clone:FuncId→Option C8:=E0 232 clone_s zN
theorem psi_clone_ok:G9 Tryz.prog psi_clone:=C1 clone_s_ok vH
def nG:E4:=⟨T,psi_clone,I0,A9,22,[],none,.t⟩
theorem nH:B3 Tryz.prog nG:=⟨psi_clone_ok,E6,A4⟩
theorem lK:F3 Tryz.prog nG:=⟨tOk,nH⟩
theorem B2F (t0:List (List B0)) (hl:t0.length≤1000000000) (hf:∀i,(leaf t0 i).length≤1000000000):aE Tryz.prog 173 true [.g [.pv (.lst .tbl t0)]] (.x (.g [.lst .tbl t0])):=by
 refine dF (E:=nG) Tryz.func173 (fun M0 W hM0=>?_);refine D3 lK 60 (fun _=>none) (fun bs=>?_);refine gZ 2 0 288 rfl rfl ?_;refine A8G (ns:=[0,1,2,3]) (fs:=fun b c d=>[(2,.c (.ptr 1 c 0)),(3,.c (.ptr 2 d 0)),(7,lst .tbl t0),(8,int .i64 t0.length),(9,int .i64 0)]) (hs:=fun b c d=>[.blk b 77 [.pv (.lst .tbl t0)],.blk c 77 [.pv (.nil .tbl)],.blk d 77 [.own 3 (.slice none 0 0)],.own (.slice none 0 0) 288 .tbl []]) ?b1 ?c1 ?d1 rfl ?wk0 (fun b c d=>?_)
 case wk0=>and_intros<;> (first|exact wk_|refine A6 ?_|skip)
 refine P8 (fun x:Nat×Value=>[(2,.c (.ptr 1 c 0)),(3,.c (.ptr 2 d 0)),(7,lst .tbl t0),(8,int .i64 t0.length),(9,int .i64 x.1)]) (fun x=>[.blk b 77 [.pv (.lst .tbl t0)],.blk c 77 [.pv (.nil .tbl)],.blk d 77 [.own 3 x.2],.own x.2 288 .tbl (t0.take x.1)]) (fun x=>x.1≤t0.length) (fun x=>t0.length-x.1) rfl [0,1,2,3] (0,.slice none 0 0) (Nat.zero_le _) ?wk (fun x hx=>?_)
 case wk=>and_intros<;> (first|exact wk_|refine A6 ?_|skip)
 obtain⟨i,v⟩:=x;dsimp only at hx⊢;refine D3 lK 60 (fun _=>none) (fun bs=>?_);refine I6 rfl rfl (fun hk=>?_) (fun hk=>?_)
 ·have hk':i<t0.length:=by omega
  have hfx:=hf i;have hlx:t0.getD (Int.toNat (i:Int)) LK.tbl.dft=leaf t0 i:=rfl;refine D3 lK 60 (fun _=>none) (fun bs=>?_);refine jF 4 rfl ?_;refine cI tOk nH rfl (fun _=>none) 5 [0,1,0,4,12,31,63,127] [] rfl (by decide+kernel) (fun bs=>rfl) (fun bs=>?_) (fun bs=>?_)
  ·simp only[hlx]
   and_intros<;> (intros;first|exact U3|omega|skip)
  refine H8 tOk nH 60 (fun _=>none) (fun bs=>rfl) (fun bs=>?_) (fun bs=>?_)
  ·simp only[hlx]
   and_intros<;> (intros;first|exact U3|omega|skip)
  refine G8 [0,1,2,9] (i+1,?v1) ?ok1 ?wk1
  case ok1=>exact⟨hk',by simp only;omega⟩
  case wk1=>
   and_intros<;> (first|exact wk_|refine A6 ?_|skip)
   all_goals(rw[List.take_add_one];simp[gE_ hk',hlx,leaf,List.getD])
 ·have hk':i=t0.length:=by omega
  subst hk';refine N8 2 0 3 rfl rfl rfl ?_;refine D3 lK 60 (fun _=>none) (fun bs=>?_);refine D8 tOk hM0 rfl rfl ⟨rfl,trivial⟩ ?_;exact⟨congrArg (PV.lst .tbl) List.take_length,trivial⟩
def pV:C8
 |[.g [.pv (.lst .tbl t0)]]=>some ((t0.length≤1000000000)∧(∀i,(leaf t0 i).length≤1000000000),true,.x (.g [.lst .tbl t0]))
 |_=>none
theorem vI:F5 Tryz.prog 173 pV:=by
 intro args pre sh rv h hp;unfold pV at h;split at h
 ·cases h;obtain⟨hl,hf⟩:=hp;exact B2F _ hl hf
 ·cases h
def nI:FuncId→Option C8:=E0 173 pV psi_clone
theorem mN:G9 Tryz.prog nI:=C1 vI psi_clone_ok
def kB:E4:=⟨T,nI,I0,A9,6,[],none,.t⟩
theorem A6n:B3 Tryz.prog kB:=⟨mN,E6,A4⟩
theorem A8g:F3 Tryz.prog kB:=⟨tOk,A6n⟩
theorem A8h (e0:Int) (e1:Int) (e2:Int) (e3:Int) (e4:Int):aE Tryz.prog 176 false [.g [.pv (.val (.int .i64 e0)),.pv (.val (.int .i64 e1)),.pv (.val (.int .i64 e2)),.pv (.val (.int .i64 e3)),.pv (.val (.int .u32 e4))]] (.x (.c (bv (!mM e0 e1 e2 e3 e4)))):=by
 refine dF (E:=kB) Tryz.func176 (fun M0 W hM0=>?_);refine D3 A8g 60 (fun _=>none) (fun bs=>?_);exact D8 tOk hM0 rfl rfl ⟨trivial,trivial⟩ rfl
def sG:C8
 |[.g [.pv (.val (.int .i64 e0)),.pv (.val (.int .i64 e1)),.pv (.val (.int .i64 e2)),.pv (.val (.int .i64 e3)),.pv (.val (.int .u32 e4))]]=>some (True,false,.x (.c (bv (!mM e0 e1 e2 e3 e4))))
 |_=>none
theorem A4R:F5 Tryz.prog 176 sG:=by
 intro args pre sh rv h hp;unfold sG at h;split at h
 ·cases h;exact A8h _ _ _ _ _
 ·cases h
def kC:FuncId→Option C8:=E0 176 sG nI
theorem kD:G9 Tryz.prog kC:=C1 A4R mN
def nJ (l:List B0):Nat→Int
 |0=> -1
 |k+1=>if 0≤nJ l k then nJ l k else match Q2 (l.getD k K8)with|true=> -1|false=>k
theorem A3H (l:List B0):∀k,decide (0≤nJ l k)=O1 l k:=by
 intro k
 induction k with
 |zero=>rfl
 |succ k ih=>
  simp only[O1,←ih,nJ];split
  ·rename_i h;simp[h]
  ·rename_i h;cases Q2 (l.getD k K8)<;> simp[h]
theorem B2G {l:List B0} {k j:Nat} (h:0≤nJ l k) (hj:k≤j):nJ l j=nJ l k:=by
 induction j with
 |zero=>
  have:k=0:=by omega
  rw[this]
 |succ j ih=>
  by_cases e:k=j+1
  ·rw[e]
  ·have:=ih (by omega);simp only[nJ];rw[if_pos (by rw[this];exact h),this]
theorem B0V {l:List B0} {k:Nat} (h:O1 l k=false):nJ l k= -1:=by
 cases k with
 |zero=>rfl
 |succ k=>
  have h2:=A3H l (k+1);rw[h]at h2;have h3:¬0≤nJ l (k+1):=of_decide_eq_false h2;simp only[nJ]at h3⊢;split
  ·rename_i h4;rw[if_pos h4]at h3;exact absurd h4 h3
  ·rename_i h4;rw[if_neg h4]at h3;cases hn:Q2 (l.getD k K8)with
   |true=>rfl
   |false=>rw[hn]at h3;simp only at h3;omega
def A4S:E4:=⟨T,kC,I0,A9,19,[],none,.t⟩
theorem C0L:B3 Tryz.prog A4S:=⟨kD,E6,A4⟩
theorem sH:F3 Tryz.prog A4S:=⟨tOk,C0L⟩
theorem C3U (l:List B0) (hl:l.length≤1000000000):aE Tryz.prog 233 false [lst .ent l,.c (.clo 176 [])] (.x (.c (i64 (nJ l l.length)))):=by
 refine dF (E:=A4S) Tryz.func233 (fun M0 W hM0=>?_);refine D3 sH 60 (fun _=>none) (fun bs=>?_);refine P8 (fun x:Nat=>[(0,lst .ent l),(1,.c (.clo 176 [])),(7,int .i64 l.length),(8,int .i64 x)]) (fun x=>[]) (fun x=>x≤l.length∧O1 l x=false) (fun x=>l.length-x) rfl [] 0 ⟨Nat.zero_le _,rfl⟩ ?wk (fun x hx=>?_)
 case wk=>and_intros<;> (first|exact wk_|refine A6 ?_|skip)
 obtain⟨hx,hs⟩:=hx;refine D3 sH 60 (fun _=>none) (fun bs=>?_);refine I6 rfl rfl (fun hk=>?_) (fun hk=>?_)
 ·have hk':x<l.length:=by omega
  refine D3 sH 60 (fun _=>none) (fun bs=>?_);refine D4 (b:= !Q2 (l.getD x K8)) rfl rfl (fun h=>?_) (fun h=>?_)
  ·refine D3 sH 60 (fun _=>none) (fun bs=>?_);refine D8 tOk hM0 rfl rfl ⟨trivial,trivial⟩ ?_;have h1:nJ l (x+1)=x:=by
    simp only[nJ];rw[if_neg (by rw[B0V hs];decide)];have:Q2 (l.getD x K8)=false:=by simpa using h
    rw[this]
   have h2:=B2G (l:=l) (k:=x+1) (j:=l.length) (by rw[h1];omega) hk';exact⟨rfl,(h2.trans h1).symm⟩
  ·refine D3 sH 60 (fun _=>none) (fun bs=>?_);refine G8 [] (x+1) ?ok ?wk2
   case ok=>exact⟨⟨hk',by simp only[O1,hs,h];rfl⟩,by omega⟩
   case wk2=>and_intros<;> (first|exact wk_|refine A6 ?_|skip)
 ·have hk':x=l.length:=by omega
  subst hk';refine D3 sH 60 (fun _=>none) (fun bs=>?_);exact D8 tOk hM0 rfl rfl ⟨trivial,trivial⟩ ⟨rfl,(B0V hs).symm⟩
def B5n:C8
 |[.c (.pv (.lst .ent l)),.c (.clo 176 [])]=>some ((l.length≤1000000000),false,.x (.c (i64 (nJ l l.length))))
 |_=>none
theorem B5o:F5 Tryz.prog 233 B5n:=by
 intro args pre sh rv h hp;unfold B5n at h;split at h
 ·cases h;have hl:=hp;exact C3U _ hl
 ·cases h
def A4T:FuncId→Option C8:=E0 233 B5n kC
theorem zO:G9 Tryz.prog A4T:=C1 B5o kD
def iG:E4:=⟨T,A4T,I0,A9,9,[],none,.t⟩
theorem A4U:B3 Tryz.prog iG:=⟨zO,E6,A4⟩
theorem A6o:F3 Tryz.prog iG:=⟨tOk,A4U⟩
theorem A6p (l:List B0) (hl:l.length≤1000000000):aE Tryz.prog 175 false [lst .ent l,.c (.clo 176 [])] (.x (.c (bv (O1 l l.length)))):=by
 refine dF (E:=iG) Tryz.func175 (fun M0 W hM0=>?_);refine D3 A6o 60 (fun _=>none) (fun bs=>?_);exact D8 tOk hM0 rfl rfl ⟨trivial,trivial⟩ (A3H l l.length)
def nK:C8
 |[.c (.pv (.lst .ent l)),.c (.clo 176 [])]=>some ((l.length≤1000000000),false,.x (.c (bv (O1 l l.length))))
 |_=>none
theorem A2U:F5 Tryz.prog 175 nK:=by
 intro args pre sh rv h hp;unfold nK at h;split at h
 ·cases h;have hl:=hp;exact A6p _ hl
 ·cases h
def iH:FuncId→Option C8:=E0 175 nK A4T
theorem jA:G9 Tryz.prog iH:=C1 A2U zO
def gJ (t:List (List B0)) (e:B0):Nat→Bool
 |0=>false
 |k+1=>gJ t e k || (X6 k e && F0 t 4096 k)
def zP:E4:=⟨T,iH,I0,A9,18,[],none,.t⟩
theorem zQ:B3 Tryz.prog zP:=⟨jA,E6,A4⟩
theorem lL:F3 Tryz.prog zP:=⟨tOk,zQ⟩
theorem C0M (t0:List (List B0)) (e0:Int) (e1:Int) (e2:Int) (e3:Int) (e4:Int) (hl:t0.length≤1000000000) (hf:∀i,(leaf t0 i).length≤1000000000):aE Tryz.prog 174 false [.g [.pv (.lst .tbl t0)],.g [.pv (.val (.int .i64 e0)),.pv (.val (.int .i64 e1)),.pv (.val (.int .i64 e2)),.pv (.val (.int .i64 e3)),.pv (.val (.int .u32 e4))]] (.x (.c (bv (gJ t0 ⟨e0,e1,e2,e3,e4⟩ 7)))):=by
 refine dF (E:=zP) Tryz.func174 (fun M0 W hM0=>?_);refine D3 lL 60 (fun _=>none) (fun bs=>?_);refine A3s (ns:=[0,1]) (fs:=fun b c=>[(2,.c (.ptr 0 b 0)),(3,.c (.ptr 1 c 0)),(6,int .i64 0)]) (hs:=fun b c=>[.blk b 77 [.pv (.lst .tbl t0)],.blk c 185 [.pv (i64 e0),.pv (i64 e1),.pv (i64 e2),.pv (i64 e3),.pv (.val (.int .u32 e4))]]) ?b1 ?c1 rfl ?wk0 (fun b c=>?_)
 case wk0=>and_intros<;> (first|exact wk_|refine A6 ?_|skip)
 refine P8 (fun x:Nat=>[(2,.c (.ptr 0 b 0)),(3,.c (.ptr 1 c 0)),(6,int .i64 x)]) (fun x=>[.blk b 77 [.pv (.lst .tbl t0)],.blk c 185 [.pv (i64 e0),.pv (i64 e1),.pv (i64 e2),.pv (i64 e3),.pv (.val (.int .u32 e4))]]) (fun x=>x≤7∧gJ t0 ⟨e0,e1,e2,e3,e4⟩ x=false) (fun x=>7-x) rfl [0,1] 0 ⟨Nat.zero_le _,rfl⟩ ?wk (fun x hx=>?_)
 case wk=>and_intros<;> (first|exact wk_|refine A6 ?_|skip)
 obtain⟨hx,hs⟩:=hx;refine D3 lL 60 (fun _=>none) (fun bs=>?_);refine I6 rfl rfl (fun hk=>?_) (fun hk=>?_)
 ·have hk':x<7:=by omega
  have hT:gJ t0 ⟨e0,e1,e2,e3,e4⟩ (x+1)=true→gJ t0 ⟨e0,e1,e2,e3,e4⟩ 7=true:=by
   intro h;have hx7:x=0∨x=1∨x=2∨x=3∨x=4∨x=5∨x=6:=by omega
   simp only[gJ,Bool.or_eq_true]at h⊢;rcases hx7 with rfl|rfl|rfl|rfl|rfl|rfl|rfl<;> simp only[gJ,Bool.or_eq_true]at h⊢<;> (revert h;generalize(_∨_:Prop)=q;intro h;first|exact h|exact .inl h|exact .inl (.inl h)|exact .inl (.inl (.inl h))|exact .inl (.inl (.inl (.inl h)))|exact .inl (.inl (.inl (.inl (.inl h))))|exact .inl (.inl (.inl (.inl (.inl (.inl h))))))
  have hmd:U8 e0 e1 e2 e3 e4 x=X6 x ⟨e0,e1,e2,e3,e4⟩:=rfl;cases hm:X6 x ⟨e0,e1,e2,e3,e4⟩with
  |true=>
   refine H8 tOk zQ 60 (fun _=>some true) (fun bs=>rfl) (fun bs=>?_) (fun bs=>?_)
   ·and_intros<;> (intros;first|exact ob_|(simp[L8,IntKind.bits,hmd,hm];done)|(simp[L8,IntKind.bits,hmd,hm]at* <;> omega)|(simp_all;done)|(with_reducible assumption)|skip)
   refine D4 (b:=X6 x ⟨e0,e1,e2,e3,e4⟩ && F0 t0 4096 x) rfl rfl (fun h=>?_) (fun h=>?_)
   ·refine D3 lL 60 (fun _=>none) (fun bs=>?_);refine D8 tOk hM0 rfl rfl ⟨trivial,trivial⟩ ?_;refine(hT ?_).symm;simp only[gJ,hs,h];rfl
   ·refine D3 lL 60 (fun _=>none) (fun bs=>?_);refine G8 [0,1] (x+1) ?ok ?wk2
    case ok=>exact⟨⟨hk',by simp only[gJ,hs,h];rfl⟩,by omega⟩
    case wk2=>and_intros<;> (first|exact wk_|refine A6 ?_|skip)
  |false=>
   refine H8 tOk zQ 60 (fun _=>some false) (fun bs=>rfl) (fun bs=>?_) (fun bs=>?_)
   ·and_intros<;> (intros;first|exact ob_|(simp[L8,IntKind.bits,hmd,hm];done)|(simp[L8,IntKind.bits,hmd,hm]at* <;> omega)|(simp_all;done)|(with_reducible assumption)|skip)
   refine fW rfl rfl ?c2 ?_
   case c2=>simp[hmd,hm]
   refine D3 lL 60 (fun _=>none) (fun bs=>?_);refine G8 [0,1] (x+1) ?ok3 ?wk3
   case ok3=>exact⟨⟨hk',by simp only[gJ,hs,hm];rfl⟩,by omega⟩
   case wk3=>and_intros<;> (first|exact wk_|refine A6 ?_|skip)
 ·have hk':x=7:=by omega
  subst hk';refine D3 lL 60 (fun _=>none) (fun bs=>?_);exact D8 tOk hM0 rfl rfl ⟨trivial,trivial⟩ hs.symm
def A8i:C8
 |[.g [.pv (.lst .tbl t0)],.g [.pv (.val (.int .i64 e0)),.pv (.val (.int .i64 e1)),.pv (.val (.int .i64 e2)),.pv (.val (.int .i64 e3)),.pv (.val (.int .u32 e4))]]=>some ((t0.length≤1000000000)∧(∀i,(leaf t0 i).length≤1000000000),false,.x (.c (bv (gJ t0 ⟨e0,e1,e2,e3,e4⟩ 7))))
 |_=>none
theorem B2H:F5 Tryz.prog 174 A8i:=by
 intro args pre sh rv h hp;unfold A8i at h;split at h
 ·cases h;obtain⟨hl,hf⟩:=hp;exact C0M _ _ _ _ _ _ hl hf
 ·cases h
def zR:FuncId→Option C8:=E0 174 A8i iH
theorem vJ:G9 Tryz.prog zR:=C1 B2H jA
end
end Go.Proofs.YtgmeedgkjlfpeaaGreat
namespace Go.Proofs.YtgmeedgkjlfpeaaGreat
open Go.Mt
def Th.T:Tb:=tbl (tyl.set 75 (some ⟨.slc 288 .tbh,1,24,[.pv (.nil .tbh)]⟩))
theorem Th.tOk:L9 Tryz.prog Th.T:=B4d (by kernel_rfl)
namespace Th
def env_clone:E4:=⟨T,zR,I0,A9,8,[],none,.t⟩
theorem eok_clone:B3 Tryz.prog env_clone:=⟨vJ,E6,A4⟩
theorem ek_clone:F3 Tryz.prog env_clone:=⟨tOk,eok_clone⟩
theorem clone_fn (l:List B0) (hl:l.length≤1000000000):aE Tryz.prog 232 false [lst .ent l] (.o 185 .ent l):=by
 refine dF (E:=env_clone) Tryz.func232 (fun M0 W hM0=>?_);refine D3 ek_clone 60 (fun _=>none) (fun bs=>?_);refine D4 rfl rfl (fun h=>?_) (fun h=>?_)
 ·have:=jO h;subst this;refine D3 ek_clone 60 (fun _=>none) (fun bs=>?_);exact D8 tOk hM0 rfl rfl ⟨trivial,trivial⟩ rfl
 ·refine D3 ek_clone 60 (fun _=>none) (fun bs=>?_);exact D8 tOk hM0 rfl rfl ⟨trivial,trivial⟩ ⟨rfl,rfl,rfl,A6 rfl⟩
def clone_s:C8
 |[.c (.pv (.lst .ent l))]=>some ((l.length≤1000000000),false,.o 185 .ent l)
 |_=>none
theorem clone_s_ok:F5 Tryz.prog 232 clone_s:=by
 intro args pre sh rv h hp;unfold clone_s at h;split at h
 ·cases h;have hl:=hp;exact clone_fn _ hl
 ·cases h
def psi_clone:FuncId→Option C8:=E0 232 clone_s zR
theorem psi_clone_ok:G9 Tryz.prog psi_clone:=C1 clone_s_ok vJ
def LL (t:List (List B0)) (q:Nat) (v:Value) (i:Nat):List TE:=((t.take i).map .l).set q (.v v)
theorem C0N {t:List (List B0)} {q i:Nat} (v:Value) (hi:i<t.length) (hq:i≠q):LL t q v (i+1)=LL t q v i++[.l (leaf t i)]:=by
 have e:t.take (i+1)=t.take i++[leaf t i]:=by
  rw[List.take_add_one,gE_ hi];simp[leaf,List.getD,gE_ hi]
 unfold LL;rw[e,List.map_append];have hlen:((t.take i).map TE.l).length=i:=by simp;omega
 rw[List.set_append];split
 ·rfl
 ·rename_i h;rw[hlen]at h⊢;have h2:q-i≠0:=by omega
  rw[List.set_eq_of_length_le (l:=List.map TE.l [leaf t i]) (by simp;omega),List.set_eq_of_length_le (by rw[hlen];omega)];rfl
theorem C4q {t:List (List B0)} {q:Nat} (v v':Value) (hq:q<t.length):LL t q v (q+1)=LL t q v' q++[.v v]:=by
 have e:t.take (q+1)=t.take q++[leaf t q]:=by
  rw[List.take_add_one,gE_ hq];simp[leaf,List.getD,gE_ hq]
 unfold LL;rw[e,List.map_append];have hlen:((t.take q).map TE.l).length=q:=by simp;omega
 rw[List.set_append,hlen,if_neg (by omega),List.set_eq_of_length_le (i:=q) (by rw[hlen];exact Nat.le_refl _)];simp
theorem B5p (t:List (List B0)) (q:Nat) (v:Value) (i:Nat) (h:i≤t.length):(LL t q v i).length=i:=by simp[LL];omega
def A4V:E4:=⟨T,psi_clone,I0,A9,22,[],none,.t⟩
theorem A4W:B3 Tryz.prog A4V:=⟨psi_clone_ok,E6,A4⟩
theorem A4X:F3 Tryz.prog A4V:=⟨tOk,A4W⟩
theorem C0O (t0:List (List B0)) (q:Nat) (hl:t0.length≤1000000000) (hf:∀i,(leaf t0 i).length≤1000000000):
 C3D Tryz.prog 173 [.g [.pv (.lst .tbl t0)]] 288 (fun v=>LL t0 q v t0.length) 185 (leaf t0 q):=by
 refine A8H (E:=A4V) Tryz.func173 rfl (by decide) rfl rfl (fun M0 W hM0=>?_);refine D3 A4X 60 (fun _=>none) (fun bs=>?_);refine gZ 2 0 288 rfl rfl ?_;refine C3C 3 rfl ?_;refine B4p 185 .ent ?_;refine A8G (ns:=[0,1,2,3,4]) (fs:=fun b c d=>[(2,.c (.ptr 1 c 0)),(3,.c (.ptr 2 d 0)),(7,lst .tbl t0),(8,int .i64 t0.length),(9,int .i64 0)]) (hs:=fun b c d=>[.blk b 77 [.pv (.lst .tbl t0)],.blk c 77 [.pv (.nil .tbl)],.blk d 77 [.own 3 (.slice none 0 0)],.own (.slice none 0 0) 288 .tbh [],.own (.slice none 0 0) 185 .ent []]) ?b1 ?c1 ?d1 rfl ?wk0 (fun b c d=>?_)
 case wk0=>and_intros<;> (first|exact wk_|refine A6 ?_|skip)
 refine P8 (fun x:Nat×Value×Value=>[(2,.c (.ptr 1 c 0)),(3,.c (.ptr 2 d 0)),(7,lst .tbl t0),(8,int .i64 t0.length),(9,int .i64 x.1)]) (fun x=>[.blk b 77 [.pv (.lst .tbl t0)],.blk c 77 [.pv (.nil .tbl)],.blk d 77 [.own 3 x.2.1],.own x.2.1 288 .tbh (LL t0 q x.2.2 x.1),.own x.2.2 185 .ent (if q<x.1 then leaf t0 q else[])]) (fun x=>x.1≤t0.length) (fun x=>t0.length-x.1) rfl [0,1,2,3,4] (0,.slice none 0 0,.slice none 0 0) (Nat.zero_le _) ?wk (fun x hx=>?_)
 case wk=>and_intros<;> (first|exact wk_|refine A6 ?_|skip)
 obtain⟨i,V,v⟩:=x;dsimp only at hx⊢;refine D3 A4X 60 (fun _=>none) (fun bs=>?_);refine I6 rfl rfl (fun hk=>?_) (fun hk=>?_)
 ·have hk':i<t0.length:=by omega
  have hfx:=hf i;have hlx:t0.getD (Int.toNat (i:Int)) LK.tbl.dft=leaf t0 i:=rfl;have hLL:=B5p t0 q v i hx;refine D3 A4X 60 (fun _=>none) (fun bs=>?_);refine jF 5 rfl ?_;refine cI tOk A4W rfl (fun _=>none) 5 [0,1,0,4,12,31,63,127] [] rfl (by decide+kernel) (fun bs=>rfl) (fun bs=>?_) (fun bs=>?_)
  ·simp only[hlx]
   and_intros<;> (intros;first|exact U3|omega|skip)
  refine H8 tOk A4W 60 (fun _=>none) (fun bs=>rfl) (fun bs=>?_) (fun bs=>?_)
  ·simp only[hlx,hLL]
   and_intros<;> (intros;first|exact U3|omega|skip)
  have hget:∀x:TE,(LL t0 q v i++[x])[i]? =some x:=fun x=>by
   rw[List.getElem?_append_right (by omega),hLL];simp
  have hset:∀x y:TE,(LL t0 q v i++[x]).set i y=LL t0 q v i++[y]:=fun x y=>by
   rw[List.set_append,hLL,if_neg (by omega)];simp
  by_cases hq:i=q
  ·subst hq;refine G8 [0,1,2,10,8] (i+1,?v1,?v2) ?ok1 ?wk1
   case wk1=>
    and_intros<;> (first|exact wk_|refine A6 ?_|skip)
    all_goals first
     |exact(C4q _ v hk').symm
     |exact(if_pos (Nat.lt_succ_self i)).symm
     |skip
   case ok1=>exact⟨hk',by simp only;omega⟩
  ·refine yK 10 8 i rfl (hget _) rfl ?_;refine G8 [0,1,2,10,4] (i+1,?v3,v) ?ok2 ?wk2
   case wk2=>
    and_intros<;> (first|exact wk_|refine A6 ?_|skip)
    all_goals first
     |exact(hset _ _).trans (C0N v hk' hq).symm
     |(
      have e:(q<i+1)=(q<i):=by(apply propext;omega)
      simp only[e])
     |skip
   case ok2=>exact⟨hk',by simp only;omega⟩
 ·have hk':i=t0.length:=by omega
  subst hk';refine D3 A4X 60 (fun _=>none) (fun bs=>?_);refine C3E tOk hM0 rfl 3 4 (v:=v) rfl ⟨rfl,trivial⟩ rfl ?_;have:(if q<t0.length then leaf t0 q else[])=leaf t0 q:=by
   split
   ·rfl
   ·rename_i h;exact(Q7 (by omega)).symm
  exact congrArg (fun l=>some (HB.own v 185 .ent l)) this
end Th
end Go.Proofs.YtgmeedgkjlfpeaaGreat
namespace Go.Proofs.YtgmeedgkjlfpeaaGreat
open Go.Mt
def cD (l:List (List B0)):Nat→Nat
 |0=>0
 |k+1=>match decide ((leaf l k).length=0)with
  |true=>cD l k
  |false=>k+1
def kE (l:List (List B0)):List (List B0):=l.take (cD l l.length)
def bI (l:List B0) (r:Nat) (e:B0):List B0:=(if l.length=0 then List.replicate 8 K8 else l).set r e
def eP (l:List B0):List B0:=match O1 l l.length with
 |true=>l
 |false=>[]
def zS (t:List (List B0)) (q r:Nat) (e:B0):List (List B0):=
 kE ((t++List.replicate (q+1-t.length) []).set q (eP (bI (leaf t q) r e)))
def cE (t:List (List B0)) (i:Int) (e:B0):List (List B0):=
 if i<0∨4096≤i∨gJ t e 7=false then t else zS t (i / 8).toNat (i%8).toNat e
theorem A3I {t:List (List B0)} {e:B0}:∀{k:Nat},gJ t e k=true→∃c:Int,F0 t 4096 c=true:=by
 intro k
 induction k with
 |zero=>intro h;cases h
 |succ k ih=>
  intro h;simp only[gJ,Bool.or_eq_true,Bool.and_eq_true]at h;rcases h with h|h
  ·exact ih h
  ·exact⟨k,h.2⟩
theorem sI {t:List (List B0)} {n c:Int} (h:F0 t n c=true) (i:Nat):(leaf t i).length=0∨(leaf t i).length=8:=by
 by_cases hi:i<t.length
 ·simp only[F0,Bool.and_eq_true]at h;have hrow:R2 t n c i=true:=by
   cases ho:R2 t n c i with
   |true=>rfl
   |false=>
    have:N4 t n c t.length=false:=cX (i:=i+1) (by simp[N4,ho]) hi;rw[this]at h;cases h.2
  simp only[R2,Bool.or_eq_true,Bool.and_eq_true,decide_eq_true_eq,jH]at hrow;rcases hrow with h|h
  ·exact .inl h.1
  ·exact .inr h.1
 ·rw[Q7 (by omega)];exact .inl rfl
namespace Th
def C2O:C8:=fun _=>none
theorem C3V {K:Nat}:F5 Tryz.prog K C2O:=by intro args pre sh rv h;cases h
def B5q:FuncId→Option C8:=E0 173 C2O psi_clone
theorem A6q:G9 Tryz.prog B5q:=C1 C3V psi_clone_ok
section
variable {P : Program} {E : E4} {B : Nat → Prop} {W : World} {M0 : B8} {Q : Exit → Act → World → Prop} {k : List Z3} {st : St}
theorem B0W (n m:Nat) {t:List (List B0)} {q:Nat} {V v:Value} {ty ty':TypeId} (hn:st.H n=some (.own V ty .tbh (LL t q v t.length))) (hm:st.H m=some (.own v ty' .ent (leaf t q)))
 (hk:G P E B W M0 Q k ⟨st.f,D7 (D7 st.H m none) n (some (.own V ty .tbl t)),st.nx⟩):G P E B W M0 Q k st:=by
 have hnm:n≠m:=fun e=>by
  subst e;rw[hn]at hm;simp only[Option.some.injEq,HB.own.injEq]at hm;cases hm.2.2.1
 have e0:LL t q v t.length=(t.map .l).set q (.v v):=by unfold LL;rw[List.take_length]
 have key:∀L:List TE,L=t.map .l→G P E B W M0 Q k ⟨st.f,D7 (D7 st.H m none) n (some (.own V ty .tbh L)),st.nx⟩:=by
  intro L hL;refine nB n t (B7 _ _ _) hL ?_;have:D7 (D7 (D7 st.H m none) n (some (HB.own V ty .tbh L))) n (some (.own V ty .tbl t))=D7 (D7 st.H m none) n (some (.own V ty .tbl t)):=by
   funext x
   by_cases e:x=n
   ·subst e;rw[B7,B7]
   ·rw[C2 _ _ e,C2 _ _ e,C2 _ _ e]
  exact this▸hk
 by_cases hq:q<t.length
 ·refine yK n m q hn ?_ hm (key _ ?_)
  ·rw[e0,List.getElem?_set];simp[hq]
  ·rw[e0,List.set_set];apply List.ext_getElem?;intro x;rw[List.getElem?_set];split
   ·rename_i hx;subst hx;simp[hq,leaf,List.getD]
   ·rfl
 ·refine B4q m ?_;have h2:LL t q v t.length=t.map .l:=by rw[e0,List.set_eq_of_length_le (by simp;omega)]
  have hn':D7 st.H m none n=some (.own V ty .tbh (t.map .l)):=by rw[C2 _ _ hnm,hn,h2]
  have:=key (t.map .l) rfl;have e3:D7 (D7 st.H m none) n (some (HB.own V ty LK.tbh (t.map .l)))=D7 st.H m none:=by
   funext x
   by_cases e:x=n
   ·subst e;rw[B7,hn']
   ·rw[C2 _ _ e]
  rw[e3]at this;exact this
end
def LE (t:List (List B0)) (q:Nat) (v:Value) (k:Nat):List TE:=LL t q v t.length++List.replicate k (.l [])
theorem C3W (t:List (List B0)) (q:Nat) (v:Value) (k:Nat):(LE t q v k).length=t.length+k:=by
 simp[LE,B5p t q v t.length (Nat.le_refl _)]
theorem C0P (t:List (List B0)) (q:Nat) (v:Value) (k:Nat):LE t q v (k+1)=LE t q v k++[.l []]:=by
 simp[LE,List.replicate_succ',List.append_assoc]
theorem C3X {t:List (List B0)} {q:Nat} (v:Value) {k:Nat} (h:q<t.length):(LE t q v k)[q]? =some (.v v):=by
 unfold LE LL;rw[List.getElem?_append_left (by simp;omega),List.take_length,List.getElem?_set];simp[h]
theorem C3Y {t:List (List B0)} {q:Nat} (v:Value) {k:Nat} (h:t.length≤q) (h2:q<t.length+k):(LE t q v k)[q]? =some (.l []):=by
 unfold LE;rw[List.getElem?_append_right (by simp[LL];omega),List.getElem?_replicate];simp[LL];omega
theorem C3Z (t:List (List B0)) (q:Nat) (v:Value) (k:Nat) (x:List B0):(LE t q v k).set q (.l x)=((t++List.replicate k []).set q x).map .l:=by
 have e:LE t q v k=((t++List.replicate k []).map TE.l).set q (.v v)∨LE t q v k=(t++List.replicate k []).map TE.l:=by
  unfold LE LL;rw[List.take_length];by_cases h:q<t.length
  ·left;rw[List.map_append,List.set_append,if_pos (by simpa using h)];simp
  ·right;rw[List.set_eq_of_length_le (by simp;omega)];simp
 rw[List.map_set];rcases e with e|e<;> rw[e]
 rw[List.set_set]
def pW:E4:=⟨T,B5q,I0,A9,84,[],none,.t⟩
theorem N2:B3 Tryz.prog pW:=⟨A6q,E6,A4⟩
theorem cY:F3 Tryz.prog pW:=⟨tOk,N2⟩
theorem C0Q (t0:List (List B0)) (i:Int) (e0:Int) (e1:Int) (e2:Int) (e3:Int) (e4:Int) (hl:t0.length≤1000000000) (hf:∀i,(leaf t0 i).length≤1000000000):aE Tryz.prog 96 true [.g [.pv (.lst .tbl t0)],int .i64 i,.g [.pv (.val (.int .i64 e0)),.pv (.val (.int .i64 e1)),.pv (.val (.int .i64 e2)),.pv (.val (.int .i64 e3)),.pv (.val (.int .u32 e4))]] (.x (.g [.lst .tbl (cE t0 i ⟨e0,e1,e2,e3,e4⟩)])):=by
 refine dF (E:=pW) Tryz.func96 (fun M0 W hM0=>?_);refine D3 cY 60 (fun _=>none) (fun bs=>?_);refine B9e (C0O t0 (i / 8).toNat hl hf) rfl rfl rfl rfl rfl ⟨trivial,trivial⟩ (fun u=>rfl) (fun V v=>?_);by_cases h0:i<0∨4096≤i
 ·refine H8 tOk N2 60 (fun j=>match j with|6=>some true|_=>none) (fun bs=>rfl) (fun bs=>?_) (fun bs=>?_)
  ·and_intros<;> (intros;first|exact ob_|(simp[L8,IntKind.bits,h0];done)|(simp[L8,IntKind.bits,h0]at* <;> omega)|(simp_all;done)|(with_reducible assumption)|skip)
  refine cL rfl rfl ?c1 ?_
  case c1=>simp[h0]
  refine B0W 3 4 rfl rfl ?_;refine N8 5 0 3 rfl rfl rfl ?_;refine D3 cY 60 (fun _=>none) (fun bs=>?_);refine D8 tOk hM0 rfl rfl ⟨rfl,trivial⟩ ?_;have:cE t0 i ⟨e0,e1,e2,e3,e4⟩=t0:=by unfold cE;rw[if_pos (by omega)]
  rw[this];exact⟨rfl,trivial⟩
 have h0a:¬i<0:=fun h=>h0 (.inl h)
 have h0b:¬4096≤i:=fun h=>h0 (.inr h)
 refine H8 tOk N2 60 (fun j=>match j with|6=>some false|_=>none) (fun bs=>rfl) (fun bs=>?_) (fun bs=>?_)
 ·and_intros<;> (intros;first|exact ob_|(simp[L8,IntKind.bits,h0a,h0b,hf];done)|(simp[L8,IntKind.bits,h0a,h0b,hf]at* <;> omega)|(simp_all;done)|(with_reducible assumption)|skip)
 cases hany:gJ t0 ⟨e0,e1,e2,e3,e4⟩ 7 with
 |false=>
  refine cL rfl rfl ?c2 ?_
  case c2=>simp[hany]
  refine B0W 3 4 rfl rfl ?_;refine N8 5 0 3 rfl rfl rfl ?_;refine D3 cY 60 (fun _=>none) (fun bs=>?_);refine D8 tOk hM0 rfl rfl ⟨rfl,trivial⟩ ?_;have:cE t0 i ⟨e0,e1,e2,e3,e4⟩=t0:=by unfold cE;rw[if_pos (.inr (.inr hany))]
  rw[this];exact⟨rfl,trivial⟩
 |true=>
  refine fW rfl rfl ?c3 ?_
  case c3=>simp[h0a,h0b,hany]
  have hS:cE t0 i ⟨e0,e1,e2,e3,e4⟩=zS t0 (i / 8).toNat (i%8).toNat ⟨e0,e1,e2,e3,e4⟩:=by
   unfold cE;rw[if_neg (by rw[hany];simp;omega)]
  rw[hS];obtain⟨cc,hcc⟩:=A3I hany;have hrow:=sI hcc (i / 8).toNat;clear hcc hS hany;generalize hqq:(i / 8).toNat=q at *;have hq:(q:Int)=i / 8:=by omega
  have hq5:q<512:=by omega
  refine D3 cY 60 (fun _=>none) (fun bs=>?_);refine A8G (ns:=[1,2,3,4,5]) (fs:=fun b c d=>[(1,int .i64 i),(5,.c (.ptr 0 b 0)),(6,.c (.ptr 1 c 0)),(7,.c (.ptr 4 d 0))]) (hs:=fun b c d=>[.blk b 185 [.pv (i64 e0),.pv (i64 e1),.pv (i64 e2),.pv (i64 e3),.pv (.val (.int .u32 e4))],.blk c 77 [.pv (.nil .tbl)],.own V 288 .tbh (LL t0 q v t0.length),.own v 185 .ent (leaf t0 q),.blk d 77 [.own 2 V]]) ?b1 ?c1 ?d1 rfl ?wk0 (fun b c d=>?_)
  case wk0=>and_intros<;> (first|exact wk_|refine A6 ?_|skip)
  have hlL:=hl;refine P8 (fun x:Nat×Value=>[(1,int .i64 i),(5,.c (.ptr 0 b 0)),(6,.c (.ptr 1 c 0)),(7,.c (.ptr 4 d 0))]) (fun x=>[.blk b 185 [.pv (i64 e0),.pv (i64 e1),.pv (i64 e2),.pv (i64 e3),.pv (.val (.int .u32 e4))],.blk c 77 [.pv (.nil .tbl)],.own x.2 288 .tbh (LE t0 q v x.1),.own v 185 .ent (leaf t0 q),.blk d 77 [.own 2 x.2]])
   (fun x=>x.1≤q+1-t0.length) (fun x=>q+1-t0.length-x.1) rfl [0,1,2,3,4] (0,V) (Nat.zero_le _) ?wk (fun x hx=>?_)
  case wk=>
   and_intros<;> (first|exact wk_|refine A6 ?_|skip)
   all_goals simp[LE]
  obtain⟨n,V⟩:=x;dsimp only at hx⊢;have hlen:=C3W t0 q v n;refine D3 cY 60 (fun _=>none) (fun bs=>?_);refine I6 (p:=((LE t0 q v n).length:Int)≤i / 8) rfl rfl (fun hk=>?_) (fun hk=>?_)
  ·have hk':t0.length+n≤q:=by omega
   refine H8 tOk N2 60 (fun _=>none) (fun bs=>rfl) (fun bs=>?_) (fun bs=>?_)
   ·simp only[hlen]
    and_intros<;> (intros;first|exact U3|omega|skip)
   refine G8 [0,1,6,3,4] (n+1,?v1) ?ok1 ?wk1
   case wk1=>
    and_intros<;> (first|exact wk_|refine A6 ?_|skip)
    all_goals(rw[C0P])
   case ok1=>exact⟨by simp only;omega,by simp only;omega⟩
  have hk':q<t0.length+n:=by omega
  refine H8 tOk N2 4 (fun _=>none) (fun bs=>rfl) (fun bs=>?_) (fun bs=>?_)
  ·simp only[hlen]
   and_intros<;> (intros;first|exact U3|omega|skip)
  obtain⟨r,hr⟩:∃r,(i%8).toNat=r:=⟨_,rfl⟩
  have hr8:r<8:=by omega
  have fin:∀(R:List (List B0)),kE R=zS t0 q r ⟨e0,e1,e2,e3,e4⟩→R.length≤1000000600→G Tryz.prog pW (low W.heap.size) W M0 (cO Tryz.prog Tryz.f96 (jS true M0 W (.x (.g [.lst .tbl (zS t0 q (i%8).toNat ⟨e0,e1,e2,e3,e4⟩)]))))
   [Z3.code (bod (lC (lft (lC (lC (lC (lC (lC (lC (lC (lC (lC (P2 Tryz.f96))))))))))))),Z3.blk 2,Z3.code (lC (lC (lC (lC (lC (lC (lC (lC (lC (lC (P2 Tryz.f96)))))))))))]
   (mk [(6,.c (.ptr 0 c 0)),(7,.c (.ptr 1 d 0)),(9,int .i64 R.length)] [.blk c 77 [.pv (.nil .tbl)],.blk d 77 [.pv (.lst .tbl R)]]):=by
   intro R hR hlR;rw[hr,←hR];refine P8 (fun n:Nat=>[(6,.c (.ptr 0 c 0)),(7,.c (.ptr 1 d 0)),(9,int .i64 n)]) (fun n=>[.blk c 77 [.pv (.nil .tbl)],.blk d 77 [.pv (.lst .tbl (R.take n))]]) (fun n=>n≤R.length∧cD R R.length=cD R n) (fun n=>n) rfl [0,1] R.length ⟨Nat.le_refl _,rfl⟩ ?wkf (fun n hx=>?_)
   case wkf=>
    and_intros<;> (first|exact wk_|refine A6 ?_|skip)
    all_goals(rw[List.take_length];exact rfl)
   obtain⟨hn1,hn2⟩:=hx;have hln:(R.take n).length=n:=by simp;omega
   have hle:0<n→(R.take n).getD (Int.toNat ((n:Int)-1)) LK.tbl.dft=leaf R (n-1):=by
    intro hn;rw[show Int.toNat ((n:Int)-1)=n-1 by omega];simp only[leaf,List.getD,List.getElem?_take];rw[if_pos (by omega)];rfl
   refine H8 tOk N2 60 (fun _=>none) (fun bs=>rfl) (fun bs=>?_) (fun bs=>?_)
   ·simp only[hln]
    and_intros<;> (intros;first|exact U3|omega|skip)
   refine D4 (b:=decide (0<(n:Int)) && decide ((((R.take n).getD (Int.toNat ((n:Int)-1)) LK.tbl.dft).length:Int)=0)) rfl rfl (fun h=>?_) (fun h=>?_)
   ·simp only[Bool.and_eq_true,decide_eq_true_eq]at h;have hn:0<n:=by omega
    rw[hle hn]at h;refine H8 tOk N2 60 (fun _=>none) (fun bs=>rfl) (fun bs=>?_) (fun bs=>?_)
    ·simp only[hln]
     and_intros<;> (intros;first|exact U3|omega|skip)
    obtain⟨j,rfl⟩:∃j,n=j+1:=⟨n-1,by omega⟩
    refine G8 [0,1] j ?okf ?wkf2
    case okf=>
     refine⟨⟨by omega,?_⟩,by omega⟩;rw[hn2];have:decide ((leaf R j).length=0)=true:=by
      have h3:((leaf R j).length:Int)=0:=h.2;simp only[decide_eq_true_eq];omega
     simp only[cD,this]
    case wkf2=>
     and_intros<;> (first|exact wk_|refine A6 ?_|skip)
     all_goals
      refine congrArg (PV.lst .tbl) ?_;rw[show Int.toNat (((j+1:Nat):Int)-1)=j by omega,List.take_take,Nat.min_eq_left (Nat.le_succ j)];rfl
   ·have hd:cD R n=n:=by
     cases n with
     |zero=>rfl
     |succ j=>
      rw[hle (by omega)]at h;have h2:decide ((leaf R j).length=0)=false:=by
       rw[Bool.eq_false_iff]at h⊢;intro hh;apply h;simp only[decide_eq_true_eq]at hh;have h3:(((leaf R (j+1-1)).length:Nat):Int)=0:=by
        show(((leaf R j).length:Nat):Int)=0;omega
       simp only[Bool.and_eq_true,decide_eq_true_eq];exact⟨by omega,h3⟩
      simp only[cD,h2]
    refine D3 cY 60 (fun _=>none) (fun bs=>?_);refine D8 tOk hM0 rfl rfl ⟨rfl,trivial⟩ ?_;refine⟨?_,trivial⟩;show PV.lst .tbl (R.take n)=PV.lst .tbl (kE R);unfold kE;rw[hn2,hd]
  have hnn:n=q+1-t0.length:=by omega
  have hset:zS t0 q r ⟨e0,e1,e2,e3,e4⟩=kE ((t0++List.replicate n []).set q (eP (bI (leaf t0 q) r ⟨e0,e1,e2,e3,e4⟩))):=by rw[hnn];rfl
  have hlenR:∀x,((t0++List.replicate n []).set q x).length≤1000000600:=fun x=>by simp;omega
  have hR0:∀x,((LE t0 q v n).set q (.l x))=((t0++List.replicate n []).set q x).map .l:=fun x=>C3Z t0 q v n x
  have hown:∀u:Value,((LE t0 q v n).set q (.v u))[q]? =some (.v u):=fun u=>by rw[List.getElem?_set];simp[hlen];omega
  have hset2:∀(u:Value) (x:List B0),((LE t0 q v n).set q (.v u)).set q (.l x)=((t0++List.replicate n []).set q x).map .l:=fun u x=>by rw[List.set_set];exact hR0 x
  have hqz:Int.toNat (i / 8)=q:=hqq;by_cases hc:q<t0.length
  ·have hn0:n=0:=by omega
   have hel:(LE t0 q v n).getD (Int.toNat (i / 8)) LK.tbh.dft= .v v:=by rw[hqq];simp[List.getD,C3X v hc]
   refine B4o 8 3 rfl (congrArg TE.pv hel) rfl ?_;rcases hrow with h8|h8
   ·refine D3 cY 60 (fun _=>none) (fun bs=>?_);refine cL rfl rfl (by simp[h8]) ?_;refine H8 tOk N2 60 (fun _=>none) (fun bs=>rfl) (fun bs=>?_) (fun bs=>?_)
    ·simp only[hr]
     and_intros<;> (intros;first|exact U3|omega|skip)
    have hS1:bI (leaf t0 q) r ⟨e0,e1,e2,e3,e4⟩=((List.replicate (Int.toNat 8) LK.ent.dft).set (i%8).toNat ⟨e0,e1,e2,e3,e4⟩):=by unfold bI;rw[if_pos h8,hr];rfl
    refine D4 rfl rfl (fun hs=>?_) (fun hs=>?_)
    ·refine H8 tOk N2 60 (fun _=>none) (fun bs=>rfl) (fun bs=>?_) (fun bs=>?_)
     ·simp only[hlen]
      and_intros<;> (intros;first|exact U3|omega|skip)
     have hS2:eP (bI (leaf t0 q) r ⟨e0,e1,e2,e3,e4⟩)=[]:=by
      rw[hS1];have:O1 ((List.replicate (Int.toNat 8) LK.ent.dft).set (i%8).toNat ⟨e0,e1,e2,e3,e4⟩) ((List.replicate (Int.toNat 8) LK.ent.dft).set (i%8).toNat ⟨e0,e1,e2,e3,e4⟩).length=false:=by simpa using hs
      simp only[eP,this]
     refine nB 2 ((t0++List.replicate n []).set q []) rfl (by rw[hqz];exact hR0 []) ?_;refine N8 4 0 2 rfl rfl rfl ?_;refine xY (ns:=[1,4]) (h:=?wkpa) rfl (fin ((t0++List.replicate n []).set q []) (by rw[hset,hS2]) (hlenR _))
     case wkpa=>
      and_intros<;> (first|exact wk_|refine A6 ?_|skip)
      all_goals(simp[hlen])
    ·refine H8 tOk N2 60 (fun _=>none) (fun bs=>rfl) (fun bs=>?_) (fun bs=>?_)
     ·simp only[hlen]
      and_intros<;> (intros;first|exact U3|omega|skip)
     have hS2:eP (bI (leaf t0 q) r ⟨e0,e1,e2,e3,e4⟩)=((List.replicate (Int.toNat 8) LK.ent.dft).set (i%8).toNat ⟨e0,e1,e2,e3,e4⟩):=by
      rw[hS1];have:O1 ((List.replicate (Int.toNat 8) LK.ent.dft).set (i%8).toNat ⟨e0,e1,e2,e3,e4⟩) ((List.replicate (Int.toNat 8) LK.ent.dft).set (i%8).toNat ⟨e0,e1,e2,e3,e4⟩).length=true:=by simpa using hs
      simp only[eP,this]
     refine yK 2 5 (Int.toNat (i / 8)) rfl (by rw[hqz];exact hown _) rfl ?_;refine nB 2 ((t0++List.replicate n []).set q ((List.replicate (Int.toNat 8) LK.ent.dft).set (i%8).toNat ⟨e0,e1,e2,e3,e4⟩)) rfl (by rw[hqz];exact hset2 _ _) ?_;refine N8 4 0 2 rfl rfl rfl ?_;refine xY (ns:=[1,4]) (h:=?wkpb) rfl (fin ((t0++List.replicate n []).set q ((List.replicate (Int.toNat 8) LK.ent.dft).set (i%8).toNat ⟨e0,e1,e2,e3,e4⟩)) (by rw[hset,hS2]) (hlenR _))
     case wkpb=>
      and_intros<;> (first|exact wk_|refine A6 ?_|skip)
      all_goals(simp[hlen])
   ·refine D3 cY 60 (fun _=>none) (fun bs=>?_);refine fW rfl rfl (by simp[h8]) ?_;refine H8 tOk N2 60 (fun _=>none) (fun bs=>rfl) (fun bs=>?_) (fun bs=>?_)
    ·simp only[hr]
     and_intros<;> (intros;first|exact U3|omega|skip)
    have hS1:bI (leaf t0 q) r ⟨e0,e1,e2,e3,e4⟩=(leaf t0 q).set r ⟨e0,e1,e2,e3,e4⟩:=by unfold bI;rw[if_neg (by omega)]
    have hr':(leaf t0 q).set (i%8).toNat ⟨e0,e1,e2,e3,e4⟩=(leaf t0 q).set r ⟨e0,e1,e2,e3,e4⟩:=by rw[hr]
    refine D4 rfl rfl (fun hs=>?_) (fun hs=>?_)
    ·refine H8 tOk N2 60 (fun _=>none) (fun bs=>rfl) (fun bs=>?_) (fun bs=>?_)
     ·simp only[hlen]
      and_intros<;> (intros;first|exact U3|omega|skip)
     have hS2:eP (bI (leaf t0 q) r ⟨e0,e1,e2,e3,e4⟩)=[]:=by
      rw[hS1,←hr'];have:O1 ((leaf t0 q).set (i%8).toNat ⟨e0,e1,e2,e3,e4⟩) ((leaf t0 q).set (i%8).toNat ⟨e0,e1,e2,e3,e4⟩).length=false:=by simpa using hs
      simp only[eP,this]
     refine nB 2 ((t0++List.replicate n []).set q []) rfl (by rw[hqz];exact hR0 []) ?_;refine N8 4 0 2 rfl rfl rfl ?_;refine xY (ns:=[1,4]) (h:=?wkx) rfl (fin ((t0++List.replicate n []).set q []) (by rw[hset,hS2]) (hlenR _))
     case wkx=>
      and_intros<;> (first|exact wk_|refine A6 ?_|skip)
      all_goals(simp[hlen])
    ·refine H8 tOk N2 60 (fun _=>none) (fun bs=>rfl) (fun bs=>?_) (fun bs=>?_)
     ·simp only[hlen]
      and_intros<;> (intros;first|exact U3|omega|skip)
     have hS2:eP (bI (leaf t0 q) r ⟨e0,e1,e2,e3,e4⟩)=(leaf t0 q).set (i%8).toNat ⟨e0,e1,e2,e3,e4⟩:=by
      rw[hS1,←hr'];have:O1 ((leaf t0 q).set (i%8).toNat ⟨e0,e1,e2,e3,e4⟩) ((leaf t0 q).set (i%8).toNat ⟨e0,e1,e2,e3,e4⟩).length=true:=by simpa using hs
      simp only[eP,this]
     refine yK 2 3 (Int.toNat (i / 8)) rfl (by rw[hqz];exact hown v) rfl ?_;refine nB 2 ((t0++List.replicate n []).set q ((leaf t0 q).set (i%8).toNat ⟨e0,e1,e2,e3,e4⟩)) rfl (by rw[hqz];exact hset2 v _) ?_;refine N8 4 0 2 rfl rfl rfl ?_;refine xY (ns:=[1,4]) (h:=?wky) rfl (fin ((t0++List.replicate n []).set q ((leaf t0 q).set (i%8).toNat ⟨e0,e1,e2,e3,e4⟩)) (by rw[hset,hS2]) (hlenR _))
     case wky=>
      and_intros<;> (first|exact wk_|refine A6 ?_|skip)
      all_goals(simp[hlen])
  ·have h8:(leaf t0 q).length=0:=by rw[Q7 (by omega)];rfl
   have hel:(LE t0 q v n).getD (Int.toNat (i / 8)) LK.tbh.dft= .l []:=by rw[hqq];simp[List.getD,C3Y v (show t0.length≤q by omega) hk']
   refine X5 8 (y:= .c (.pv (.lst .ent []))) rfl (fun M u h=>(show RA M (.c (.pv (TE.pv (.l [])))) u by rw[←hel];exact h)) ?_;refine D3 cY 60 (fun _=>none) (fun bs=>?_);refine cL rfl rfl (by simp) ?_;refine H8 tOk N2 60 (fun _=>none) (fun bs=>rfl) (fun bs=>?_) (fun bs=>?_)
   ·simp only[hr]
    and_intros<;> (intros;first|exact U3|omega|skip)
   have hS1:bI (leaf t0 q) r ⟨e0,e1,e2,e3,e4⟩=((List.replicate (Int.toNat 8) LK.ent.dft).set (i%8).toNat ⟨e0,e1,e2,e3,e4⟩):=by unfold bI;rw[if_pos h8,hr];rfl
   refine D4 rfl rfl (fun hs=>?_) (fun hs=>?_)
   ·refine H8 tOk N2 60 (fun _=>none) (fun bs=>rfl) (fun bs=>?_) (fun bs=>?_)
    ·simp only[hlen]
     and_intros<;> (intros;first|exact U3|omega|skip)
    have hS2:eP (bI (leaf t0 q) r ⟨e0,e1,e2,e3,e4⟩)=[]:=by
     rw[hS1];have:O1 ((List.replicate (Int.toNat 8) LK.ent.dft).set (i%8).toNat ⟨e0,e1,e2,e3,e4⟩) ((List.replicate (Int.toNat 8) LK.ent.dft).set (i%8).toNat ⟨e0,e1,e2,e3,e4⟩).length=false:=by simpa using hs
     simp only[eP,this]
    refine nB 2 ((t0++List.replicate n []).set q []) rfl (by rw[hqz];exact hR0 []) ?_;refine N8 4 0 2 rfl rfl rfl ?_;refine xY (ns:=[1,4]) (h:=?wkqa) rfl (fin ((t0++List.replicate n []).set q []) (by rw[hset,hS2]) (hlenR _))
    case wkqa=>
     and_intros<;> (first|exact wk_|refine A6 ?_|skip)
     all_goals(simp[hlen])
   ·refine H8 tOk N2 60 (fun _=>none) (fun bs=>rfl) (fun bs=>?_) (fun bs=>?_)
    ·simp only[hlen]
     and_intros<;> (intros;first|exact U3|omega|skip)
    have hS2:eP (bI (leaf t0 q) r ⟨e0,e1,e2,e3,e4⟩)=((List.replicate (Int.toNat 8) LK.ent.dft).set (i%8).toNat ⟨e0,e1,e2,e3,e4⟩):=by
     rw[hS1];have:O1 ((List.replicate (Int.toNat 8) LK.ent.dft).set (i%8).toNat ⟨e0,e1,e2,e3,e4⟩) ((List.replicate (Int.toNat 8) LK.ent.dft).set (i%8).toNat ⟨e0,e1,e2,e3,e4⟩).length=true:=by simpa using hs
     simp only[eP,this]
    refine yK 2 5 (Int.toNat (i / 8)) rfl (by rw[hqz];exact hown _) rfl ?_;refine nB 2 ((t0++List.replicate n []).set q ((List.replicate (Int.toNat 8) LK.ent.dft).set (i%8).toNat ⟨e0,e1,e2,e3,e4⟩)) rfl (by rw[hqz];exact hset2 _ _) ?_;refine N8 4 0 2 rfl rfl rfl ?_;refine xY (ns:=[1,4]) (h:=?wkqb) rfl (fin ((t0++List.replicate n []).set q ((List.replicate (Int.toNat 8) LK.ent.dft).set (i%8).toNat ⟨e0,e1,e2,e3,e4⟩)) (by rw[hset,hS2]) (hlenR _))
    case wkqb=>
     and_intros<;> (first|exact wk_|refine A6 ?_|skip)
     all_goals(simp[hlen])
def A8j:C8
 |[.g [.pv (.lst .tbl t0)],.c (.pv (.val (.int .i64 i))),.g [.pv (.val (.int .i64 e0)),.pv (.val (.int .i64 e1)),.pv (.val (.int .i64 e2)),.pv (.val (.int .i64 e3)),.pv (.val (.int .u32 e4))]]=>some ((t0.length≤1000000000)∧(∀i,(leaf t0 i).length≤1000000000),true,.x (.g [.lst .tbl (cE t0 i ⟨e0,e1,e2,e3,e4⟩)]))
 |_=>none
theorem B2I:F5 Tryz.prog 96 A8j:=by
 intro args pre sh rv h hp;unfold A8j at h;split at h
 ·cases h;obtain⟨hl,hf⟩:=hp;exact C0Q _ _ _ _ _ _ _ hl hf
 ·cases h
def psi_tset:FuncId→Option C8:=E0 96 A8j B5q
theorem psi_tset_ok:G9 Tryz.prog psi_tset:=C1 B2I A6q
end Th
end Go.Proofs.YtgmeedgkjlfpeaaGreat
namespace Go.Proofs.YtgmeedgkjlfpeaaGreat
open Go.Mt
noncomputable section
theorem wP {t:List (List B0)} {n c:Int} (h:F0 t n c=true):0≤c∧c≤6:=by
 simp only[F0,Bool.and_eq_true,Bool.not_eq_true',Bool.or_eq_false_iff,decide_eq_false_iff_not]at h;omega
theorem kF {c:Int} (h:0≤c∧c≤6):X6 c K8=true:=by
 unfold X6 U8;rw[if_neg (by omega),if_pos (.inl rfl)];rfl
theorem zT {t:List (List B0)} {n c:Int} (h:F0 t n c=true) {i:Nat} (hi:i<t.length):R2 t n c i=true:=by
 simp only[F0,Bool.and_eq_true]at h;cases ho:R2 t n c i with
 |true=>rfl
 |false=>
  have:N4 t n c t.length=false:=cX (i:=i+1) (by simp[N4,ho]) hi;rw[this]at h;cases h.2
theorem pX {t:List (List B0)} {n c:Int} (h:F0 t n c=true) (i j:Nat):X6 c ((leaf t i).getD j K8)=true:=by
 by_cases hj:j<(leaf t i).length
 ·by_cases hi:i<t.length
  ·have hrow:=zT h hi;have h0:decide ((leaf t i).length=0)=false:=by simp;intro e;rw[e]at hj;simp at hj
   simp only[R2,h0,Bool.false_and,Bool.false_or,jH,Bool.and_eq_true,decide_eq_true_eq]at hrow;have:=pU hrow.2.1 j (by omega);simp only[eY,Bool.and_eq_true]at this;exact this.1
  ·rw[Q7 (by omega)]at hj;simp at hj
 ·rw[List.getD,List.getElem?_eq_none (by omega)];exact kF (wP h)
theorem A6r {l:List B0} {c:Int} {e:B0} (hc:0≤c∧c≤6) (hl:∀j,X6 c (l.getD j K8)=true) (he:X6 c e=true) (r:Nat):∀j,X6 c ((bI l r e).getD j K8)=true:=by
 intro j;have key:∀m:List B0,(∀j,X6 c (m.getD j K8)=true)→X6 c ((m.set r e).getD j K8)=true:=by
  intro m hm;rw[List.getD,List.getElem?_set];split
  ·split
   ·exact he
   ·exact kF hc
  ·have:=hm j;rw[List.getD]at this;exact this
 unfold bI;split
 ·exact key _ (fun j=>by
   rw[List.getD,List.getElem?_replicate];split<;> exact kF hc)
 ·exact key _ hl
theorem A6s {l:List B0} (h:l.length=0∨l.length=8) (r:Nat) (e:B0):(bI l r e).length=8:=by
 unfold bI;split
 ·simp
 ·rcases h with h|h
  ·contradiction
  ·simpa using h
def C6R (c:Int) (l:List B0):Prop:=l.length=8∧(∀j,X6 c (l.getD j K8)=true)∧O1 l 8=true
def A8k (c:Int) (t:List (List B0)):Prop:=(0≤c∧c≤6)∧t.length≤512∧(∀i,(leaf t i).length=0∨C6R c (leaf t i))∧(0<t.length→(leaf t (t.length-1)).length≠0)
theorem iI {t:List (List B0)} {c:Int} (h:F0 t 4096 c=true):A8k c t:=by
 have h512:t.length≤512:=by
  by_cases hh:512<t.length
  ·exact(sF h hh).elim
  ·omega
 refine⟨wP h,h512,fun i=>?_,fun hp e=>?_⟩
 ·by_cases hi:i<t.length
  ·have hrow:=zT h hi;simp only[R2,Bool.or_eq_true,Bool.and_eq_true,decide_eq_true_eq,jH]at hrow;rcases hrow with hrow|⟨h8,_,hs⟩
   ·exact .inl hrow.1
   ·exact .inr ⟨h8,pX h i,hs⟩
  ·left;rw[Q7 (by omega)];rfl
 ·have hrow:=zT h (i:=t.length-1) (by omega);have hd:decide (t.length-1+1<t.length)=false:=by simp;omega
  simp only[R2,hd,Bool.and_false,Bool.false_or,jH,Bool.and_eq_true,decide_eq_true_eq]at hrow;omega
theorem A8l {t:List (List B0)} {c:Int} (h:A8k c t):F0 t 4096 c=true:=by
 obtain⟨hc,h512,hrow,hlast⟩:=h;have e:(decide ((4096:Int)<0) || decide (4096<(4096:Int)) || decide (c<0) || decide (6<c))=false:=by simp;omega
 simp only[F0,e,Bool.not_false,Bool.true_and];have key:∀k,k≤t.length→N4 t 4096 c k=true:=by
  intro k
  induction k with
  |zero=>intro _;rfl
  |succ k ih=>
   intro hk;simp only[N4,ih (by omega),Bool.true_and,R2,Bool.or_eq_true,Bool.and_eq_true,decide_eq_true_eq];rcases hrow k with h0|⟨h8,hm,hs⟩
   ·left
    refine⟨h0,?_⟩;by_cases e:k+1<t.length
    ·exact e
    ·have:=hlast (by omega);rw[show t.length-1=k by omega]at this;exact absurd h0 this
   ·right
    have hr:∀j,j≤8→iF c 4096 k (leaf t k) j=true:=by
     intro j
     induction j with
     |zero=>intro _;rfl
     |succ j ihj=>
      intro hj;have hp:decide (((k:Int)*8+j)<4096)=true:=by simp;omega
      simp only[iF,ihj (by omega),eY,hm,hp,Bool.or_true,Bool.and_self]
    simp only[jH,h8,hr 8 (Nat.le_refl _),hs,decide_true,Bool.and_self]
 exact key _ (Nat.le_refl _)
theorem zU (l:List (List B0)):∀k,cD l k≤k:=by
 intro k
 induction k with
 |zero=>exact Nat.le_refl _
 |succ k ih=>simp only[cD];split<;> omega
theorem A6t (l:List (List B0)):∀k i,cD l k≤i→i<k→(leaf l i).length=0:=by
 intro k
 induction k with
 |zero=>intro i _ h;omega
 |succ k ih=>
  intro i h1 h2;simp only[cD]at h1;split at h1
  ·rename_i hd;by_cases e:i=k
   ·subst e;simpa using hd
   ·exact ih i h1 (by omega)
  ·omega
theorem A8m (l:List (List B0)):∀k,0<cD l k→(leaf l (cD l k-1)).length≠0:=by
 intro k
 induction k with
 |zero=>intro h;simp[cD]at h
 |succ k ih=>
  intro h;simp only[cD]at h⊢;split
  ·rename_i hd;rw[hd]at h;exact ih h
  ·rename_i hd;simpa using hd
theorem A3J (l:List (List B0)) (i:Nat):leaf (kE l) i=leaf l i:=by
 have hle:=zU l l.length;by_cases h:i<cD l l.length
 ·unfold kE leaf;rw[List.getD,List.getD,List.getElem?_take,if_pos h]
 ·have h1:leaf (kE l) i=[]:=Q7 (by unfold kE;simp;omega);rw[h1];by_cases h2:i<l.length
  ·exact(List.eq_nil_of_length_eq_zero (A6t l l.length i (by omega) h2)).symm
  ·exact(Q7 (by omega)).symm
theorem A6u (l:List (List B0)):(kE l).length=cD l l.length:=by
 have:=zU l l.length;unfold kE;simp;omega
theorem B5r (l:List (List B0)) (q:Nat) (x:List B0) (hq:q<l.length) (i:Nat):leaf (l.set q x) i=if i=q then x else leaf l i:=by
 unfold leaf;rw[List.getD,List.getElem?_set];split
 ·rename_i e;subst e;simp[hq]
 ·rename_i e;rw[if_neg (fun h=>e h.symm)];rfl
theorem B2J (t:List (List B0)) (k i:Nat):leaf (t++List.replicate k []) i=leaf t i:=by
 unfold leaf;rw[List.getD,List.getD];by_cases h:i<t.length
 ·rw[List.getElem?_append_left h]
 ·rw[List.getElem?_append_right (by omega),List.getElem?_replicate,List.getElem?_eq_none (by omega:t.length≤i)];split<;> rfl
theorem A3K (t:List (List B0)) (q r:Nat) (e:B0) (i:Nat):leaf (zS t q r e) i=if i=q then eP (bI (leaf t q) r e)else leaf t i:=by
 unfold zS;rw[A3J,B5r _ _ _ (by simp;omega),B2J]
theorem B5s {t:List (List B0)} {c:Int} {e:B0} {q r:Nat} (h:A8k c t) (he:X6 c e=true) (hq:q<512):A8k c (zS t q r e):=by
 obtain⟨hc,h512,hrow,hlast⟩:=h;have hl8:(bI (leaf t q) r e).length=8:=A6s (by rcases hrow q with h|h;exact .inl h;exact .inr h.1) r e;have hlen:((t++List.replicate (q+1-t.length) []).set q (eP (bI (leaf t q) r e))).length≤512:=by simp;omega
 have hmt:∀j,X6 c ((leaf t q).getD j K8)=true:=by
  intro j;rcases hrow q with h|h
  ·rw[List.eq_nil_of_length_eq_zero h];exact kF hc
  ·exact h.2.1 j
 refine⟨hc,?_,fun i=>?_,fun hp=>?_⟩
 ·unfold zS;rw[A6u];have:=zU ((t++List.replicate (q+1-t.length) []).set q (eP (bI (leaf t q) r e))) ((t++List.replicate (q+1-t.length) []).set q (eP (bI (leaf t q) r e))).length;omega
 ·rw[A3K];split
  ·cases hs:O1 (bI (leaf t q) r e) (bI (leaf t q) r e).length with
   |false=>left;simp only[eP,hs];rfl
   |true=>
    right
    simp only[eP,hs];exact⟨hl8,A6r hc hmt he r,by rw[hl8]at hs;exact hs⟩
  ·exact hrow i
 ·unfold zS at hp⊢;rw[A6u]at hp⊢;rw[A3J];exact A8m _ _ hp
theorem X0 (t:List (List B0)) (j:Nat):L4 t j=(leaf t (j / 8)).getD (j%8) K8:=by
 unfold L4;rw[if_neg (by omega)];have e1:((j:Int) / 8).toNat=j / 8:=by omega
 have e2:((j:Int)%8).toNat=j%8:=by omega
 rw[e1,e2]
theorem A3L {c:Int} {e:B0} (h:X6 c e=true) (hn:Q2 e=true):e=K8:=by
 obtain⟨k,s,n,z,m⟩:=e;simp only[Q2,mM,Bool.and_eq_true,decide_eq_true_eq]at hn;obtain⟨⟨⟨⟨rfl,rfl⟩,rfl⟩,rfl⟩,rfl⟩:=hn;rfl
theorem B5t {l:List B0} {k:Nat} (h:O1 l k=false):∀j,j<k→Q2 (l.getD j K8)=true:=by
 induction k with
 |zero=>intro j hj;omega
 |succ k ih=>
  intro j hj;simp only[O1,Bool.or_eq_false_iff,Bool.not_eq_false']at h;by_cases e:j=k
  ·subst e;exact h.2
  ·exact ih h.1 j (by omega)
theorem B5u {l:List B0} {c:Int} (h8:l.length=8) (hm:∀j,X6 c (l.getD j K8)=true) (j:Nat):(eP l).getD j K8=l.getD j K8:=by
 unfold eP;cases hs:O1 l l.length with
 |true=>rfl
 |false=>
  simp only;by_cases hj:j<8
  ·rw[A3L (hm j) (B5t hs j (by omega))];simp[List.getD]
  ·simp[List.getD,List.getElem?_eq_none (show l.length≤j by omega)]
theorem B5v {l:List B0} {r:Nat} {e:B0} (h:l.length=0∨l.length=8) (hr:r<8) (j:Nat):(bI l r e).getD j K8=if j=r then e else l.getD j K8:=by
 have key:∀m:List B0,m.length=8→(m.set r e).getD j K8=if j=r then e else m.getD j K8:=by
  intro m hm;rw[List.getD,List.getElem?_set];split
  ·rename_i hh;subst hh;rw[if_pos (by omega),if_pos rfl];rfl
  ·rename_i hh;rw[if_neg (fun q=>hh q.symm)];rfl
 unfold bI;split
 ·rename_i h0;rw[key _ (by simp),List.eq_nil_of_length_eq_zero h0];have:(List.replicate 8 K8).getD j K8=K8:=by rw[List.getD,List.getElem?_replicate];split<;> rfl
  rw[this];simp[List.getD]
 ·rename_i h0;rcases h with h|h
  ·exact absurd h h0
  ·exact key l h
theorem C3a {t:List (List B0)} {e:B0} {c:Int} (h:F0 t 4096 c=true) (he:X6 c e=true):gJ t e 7=true:=by
 have hc:=wP h;have:c=0∨c=1∨c=2∨c=3∨c=4∨c=5∨c=6:=by omega
 rcases this with rfl|rfl|rfl|rfl|rfl|rfl|rfl<;> simp[gJ,h,he]
theorem B0X {t:List (List B0)} {e:B0} {c:Int} (h:F0 t 4096 c=true) (he:X6 c e=true) {i:Nat} (hi:i<4096):cE t i e=zS t (i / 8) (i%8) e:=by
 unfold cE;rw[if_neg (by rw[C3a h he];simp;omega)];have e1:((i:Int) / 8).toNat=i / 8:=by omega
 have e2:((i:Int)%8).toNat=i%8:=by omega
 rw[e1,e2]
theorem A3M {t:List (List B0)} {e:B0} {c:Int} (h:F0 t 4096 c=true) (he:X6 c e=true) (i:Int):F0 (cE t i e) 4096 c=true:=by
 by_cases hi:0≤i∧i<4096
 ·obtain⟨k,rfl⟩:∃k:Nat,i=k:=⟨i.toNat,by omega⟩
  rw[B0X h he (by omega)];exact A8l (B5s (iI h) he (by omega))
 ·have:cE t i e=t:=by unfold cE;rw[if_pos (by omega)]
  rw[this];exact h
theorem A8n {t:List (List B0)} {e:B0} {c:Int} (h:F0 t 4096 c=true) (he:X6 c e=true) {i:Nat} (hi:i<4096) (j:Nat):L4 (cE t i e) j=if j=i then e else L4 t j:=by
 have hg:=iI h;rw[B0X h he hi,X0,X0,A3K];have h08:(leaf t (i / 8)).length=0∨(leaf t (i / 8)).length=8:=by rcases hg.2.2.1 (i / 8)with h|h;exact .inl h;exact .inr h.1
 by_cases hq:j / 8=i / 8
 ·rw[if_pos hq,B5u (c:=c) (A6s h08 _ _) (A6r hg.1 (pX h _) he _),B5v h08 (by omega),hq];by_cases hr:j%8=i%8
  ·rw[if_pos hr,if_pos (by omega)]
  ·rw[if_neg hr,if_neg (by omega)]
 ·rw[if_neg hq,if_neg (by omega)]
theorem C0R {t u:List (List B0)} {c c':Int} (ht:F0 t 4096 c=true) (hu:F0 u 4096 c'=true) (h:∀j:Nat,j<4096→L4 t j=L4 u j):t=u:=by
 have gt:=iI ht;have gu:=iI hu;have key:∀{t u:List (List B0)} {c c':Int},A8k c t→A8k c' u→(∀j:Nat,j<4096→L4 t j=L4 u j)→∀i,(leaf t i).length≠0→(leaf u i).length≠0:=by
  intro t u c c' gt gu h i h0 hn;rcases gt.2.2.1 i with h1|⟨h8,hm,hs⟩
  ·exact h0 h1
  ·obtain⟨j,hj,hne⟩:=zL hs;have hi:i<512:=by
    by_cases hi:i<t.length
    ·have:=gt.2.1;omega
    ·rw[Q7 (by omega)]at h0;simp at h0
   have e:=h (i*8+j) (by omega);rw[X0,X0,show(i*8+j) / 8=i by omega,show(i*8+j)%8=j by omega,List.eq_nil_of_length_eq_zero hn]at e;rw[e]at hne;simp[List.getD,Q2,mM,K8]at hne
 have hleaf:∀i,leaf t i=leaf u i:=by
  intro i;by_cases h0:(leaf t i).length=0
  ·by_cases h1:(leaf u i).length=0
   ·rw[List.eq_nil_of_length_eq_zero h0,List.eq_nil_of_length_eq_zero h1]
   ·exact absurd h0 (key gu gt (fun j hj=>(h j hj).symm) i h1)
  ·have h1:=key gt gu h i h0;have l1:(leaf t i).length=8:=by rcases gt.2.2.1 i with h|h;exact absurd h h0;exact h.1
   have l2:(leaf u i).length=8:=by rcases gu.2.2.1 i with h|h;exact absurd h h1;exact h.1
   have hi:i<512:=by
    by_cases hi:i<t.length
    ·have:=gt.2.1;omega
    ·rw[Q7 (by omega)]at h0;simp at h0
   apply List.ext_getElem (by omega);intro j hj1 hj2;have e:=h (i*8+j) (by omega);rw[X0,X0,show(i*8+j) / 8=i by omega,show(i*8+j)%8=j by omega]at e;simpa[List.getD,gE_ hj1,gE_ hj2]using e
 have hlen:t.length=u.length:=by
  have k1:∀{t u:List (List B0)} {c:Int},A8k c t→(∀i,leaf t i=leaf u i)→t.length≤u.length:=by
   intro t u c gt hl;by_cases h0:t.length=0
   ·omega
   ·have:=gt.2.2.2 (by omega);rw[hl]at this;by_cases hh:t.length-1<u.length
    ·omega
    ·rw[Q7 (by omega)]at this;simp at this
  have:=k1 gt hleaf;have:=k1 gu (fun i=>(hleaf i).symm);omega
 apply List.ext_getElem hlen;intro i h1 h2;have:=hleaf i;simpa[leaf,List.getD,gE_ h1,gE_ h2]using this
theorem A8o {t:List (List B0)} {j:Nat} (h:t.length≤j / 8):L4 t j=K8:=by
 rw[X0,Q7 h];rfl
theorem C3b {t:List (List B0)} {c:Int} (h:F0 t 4096 c=true) (j:Nat):X6 c (L4 t j)=true:=by
 rw[X0];exact pX h _ _
def eQ (t:List (List B0)) (n:Nat):Nat→List (List B0)
 |0=>t
 |k+1=>match Q2 (L4 (eQ t n k) ((n+k:Nat):Int))with
  |true=>eQ t n k
  |false=>cE (eQ t n k) ((n+k:Nat):Int) K8
def A6v (t:List (List B0)) (n:Int):List (List B0):=match gJ t K8 7 with
 |true=>eQ t (max n 0).toNat (t.length*8-(max n 0).toNat)
 |false=>t
theorem any_ok {t:List (List B0)} (h:gJ t K8 7=true):∃c:Int,F0 t 4096 c=true:=A3I h
theorem A4Y {t:List (List B0)} {c:Int} (h:F0 t 4096 c=true) (n:Nat):∀k,F0 (eQ t n k) 4096 c=true∧∀j:Nat,j<4096→L4 (eQ t n k) j=if n≤j∧j<n+k then K8 else L4 t j:=by
 intro k
 induction k with
 |zero=>exact⟨h,fun j _=>by rw[if_neg (by omega)];rfl⟩
 |succ k ih=>
  obtain⟨i1,i2⟩:=ih;have hz:=kF (wP h);simp only[eQ];cases hn:Q2 (L4 (eQ t n k) ((n+k:Nat):Int))with
  |true=>
   refine⟨i1,fun j hj=>?_⟩;simp only;rw[i2 j hj];by_cases e:j=n+k
   ·subst e;have:=A3L (C3b i1 (n+k)) hn;rw[i2 _ hj]at this;rw[this,if_pos (by omega)]
   ·by_cases e2:n≤j∧j<n+k
    ·rw[if_pos e2,if_pos (by omega)]
    ·rw[if_neg e2,if_neg (by omega)]
  |false=>
   refine⟨A3M i1 hz _,fun j hj=>?_⟩;simp only;by_cases hb:n+k<4096
   ·rw[A8n i1 hz hb,i2 j hj];by_cases e:j=n+k
    ·rw[if_pos e,if_pos (by omega)]
    ·rw[if_neg e];by_cases e2:n≤j∧j<n+k
     ·rw[if_pos e2,if_pos (by omega)]
     ·rw[if_neg e2,if_neg (by omega)]
   ·have:cE (eQ t n k) ((n+k:Nat):Int) K8=eQ t n k:=by unfold cE;rw[if_pos (by omega)]
    rw[this,i2 j hj];by_cases e2:n≤j∧j<n+k
    ·rw[if_pos e2,if_pos (by omega)]
    ·rw[if_neg e2,if_neg (by omega)]
theorem B2K {t:List (List B0)} {c:Int} (h:F0 t 4096 c=true) (n:Nat) {k m:Nat} (hk:(eQ t n k).length*8≤n+k) (hm:t.length*8≤n+m):eQ t n k=eQ t n m:=by
 have a:=A4Y h n k;have b:=A4Y h n m;refine C0R a.1 b.1 (fun j hj=>?_);rw[b.2 j hj];by_cases e:n≤j∧j<n+m
 ·rw[if_pos e];by_cases e2:j<n+k
  ·rw[a.2 j hj,if_pos ⟨e.1,e2⟩]
  ·exact A8o (by omega)
 ·rw[if_neg e,a.2 j hj];by_cases e2:n≤j∧j<n+k
  ·rw[if_pos e2];exact(A8o (by omega)).symm
  ·rw[if_neg e2]
theorem nL {t:List (List B0)} {n c:Int} (h:F0 t n c=true) (i:Nat):(leaf t i).length≤8:=by rcases sI h i with h|h<;> omega
theorem sJ {t:List (List B0)} {n c:Int} (h:F0 t n c=true):t.length≤512:=by
 by_cases hh:512<t.length
 ·exact(sF h hh).elim
 ·omega
def B5w:FuncId→Option C8:=E0 173 pV Th.psi_tset
theorem A6w:G9 Tryz.prog B5w:=C1 vI Th.psi_tset_ok
def zV:E4:=⟨T,B5w,I0,A9,28,[],none,.t⟩
theorem dV:B3 Tryz.prog zV:=⟨A6w,E6,A4⟩
theorem pY:F3 Tryz.prog zV:=⟨tOk,dV⟩
theorem C0S (t0:List (List B0)) (n:Int) (hl:t0.length≤1000000000) (hf:∀i,(leaf t0 i).length≤1000000000) (hn:n≤9223372036854775807):aE Tryz.prog 95 true [.g [.pv (.lst .tbl t0)],int .i64 n] (.x (.g [.lst .tbl (A6v t0 n)])):=by
 refine dF (E:=zV) Tryz.func95 (fun M0 W hM0=>?_);refine D3 pY 60 (fun _=>none) (fun bs=>?_);obtain⟨m,hm⟩:∃m:Nat,max n 0=m:=⟨(max n 0).toNat,by omega⟩
 have hmt:(max n 0).toNat=m:=by omega
 cases ha:gJ t0 K8 7 with
 |false=>
  have hC:A6v t0 n=t0:=by simp only[A6v,ha]
  have hS:∀i,cE t0 i K8=t0:=fun i=>by unfold cE;rw[if_pos (.inr (.inr ha))]
  rw[hC];refine A3s (ns:=[0,1]) (fs:=fun b c=>[(2,.c (.ptr 0 b 0)),(4,.c (.ptr 1 c 0)),(5,int .i64 (max n 0))]) (hs:=fun b c=>[.blk b 77 [.pv (.lst .tbl t0)],.blk c 77 [.pv (.nil .tbl)]]) ?b1 ?c1 rfl ?wk0 (fun b c=>?_)
  case wk0=>and_intros<;> (first|exact wk_|refine A6 ?_|skip)
  rw[hm];refine P8 (fun x:Nat=>[(2,.c (.ptr 0 b 0)),(4,.c (.ptr 1 c 0)),(5,int .i64 x)]) (fun x=>[.blk b 77 [.pv (.lst .tbl t0)],.blk c 77 [.pv (.nil .tbl)]]) (fun x=>m≤x) (fun x=>4096-x) rfl [0,1] m (Nat.le_refl _) ?wk (fun x hx=>?_)
  case wk=>and_intros<;> (first|exact wk_|refine A6 ?_|skip)
  refine D3 pY 60 (fun _=>none) (fun bs=>?_);refine I6 (p:=(x:Int)<min ((t0.length:Int)*8) 4096) rfl rfl (fun hk=>?_) (fun hk=>?_)
  ·have hk':x<4096:=by omega
   refine H8 tOk dV 60 (fun _=>none) (fun bs=>rfl) (fun bs=>?_) (fun bs=>?_)
   ·and_intros<;> (intros;first|exact ob_|(simp[L8,IntKind.bits,hf];done)|(simp[L8,IntKind.bits,hf]at* <;> omega)|(simp_all;done)|(with_reducible assumption)|skip)
   refine D4 (b:= !Q2 (L4 t0 x)) rfl rfl (fun h2=>?_) (fun h2=>?_)
   ·refine H8 tOk dV 60 (fun _=>none) (fun bs=>rfl) (fun bs=>?_) (fun bs=>?_)
    ·and_intros<;> (intros;first|exact ob_|(simp[L8,IntKind.bits,hf];done)|(simp[L8,IntKind.bits,hf]at* <;> omega)|(simp_all;done)|(with_reducible assumption)|skip)
    refine G8 [0,1] (x+1) ?ok1 ?wk1
    case ok1=>exact⟨by omega,by omega⟩
    case wk1=>
     and_intros<;> (first|exact wk_|refine A6 ?_|skip)
     all_goals(exact congrArg (PV.lst .tbl) (hS x))
   ·refine D3 pY 60 (fun _=>none) (fun bs=>?_);refine G8 [0,1] (x+1) ?ok2 ?wk2
    case ok2=>exact⟨by omega,by omega⟩
    case wk2=>and_intros<;> (first|exact wk_|refine A6 ?_|skip)
  ·refine H8 tOk dV 60 (fun _=>none) (fun bs=>rfl) (fun bs=>?_) (fun bs=>?_)
   ·and_intros<;> (intros;first|exact ob_|(simp[L8,IntKind.bits,hf];done)|(simp[L8,IntKind.bits,hf]at* <;> omega)|(simp_all;done)|(with_reducible assumption)|skip)
   refine D8 tOk hM0 rfl rfl ⟨rfl,trivial⟩ ?_;exact⟨rfl,trivial⟩
 |true=>
  obtain⟨cc,hcc⟩:=any_ok ha;have hC:A6v t0 n=eQ t0 m (t0.length*8-m):=by simp only[A6v,ha,hmt]
  have hl512:=sJ hcc;rw[hC];refine A3s (ns:=[0,1]) (fs:=fun b c=>[(2,.c (.ptr 0 b 0)),(4,.c (.ptr 1 c 0)),(5,int .i64 (max n 0))]) (hs:=fun b c=>[.blk b 77 [.pv (.lst .tbl t0)],.blk c 77 [.pv (.nil .tbl)]]) ?b1 ?c1 rfl ?wk0 (fun b c=>?_)
  case wk0=>and_intros<;> (first|exact wk_|refine A6 ?_|skip)
  rw[hm];refine P8 (fun k:Nat=>[(2,.c (.ptr 0 b 0)),(4,.c (.ptr 1 c 0)),(5,int .i64 ((m+k:Nat):Int))]) (fun k=>[.blk b 77 [.pv (.lst .tbl (eQ t0 m k))],.blk c 77 [.pv (.nil .tbl)]]) (fun k=>True) (fun k=>4096-(m+k)) rfl [0,1] 0 trivial ?wk (fun k hx=>?_)
  case wk=>and_intros<;> (first|exact wk_|refine A6 ?_|skip)
  have hck:=(A4Y hcc m k).1;have hl2:=sJ hck;have hl3:∀i,(leaf (eQ t0 m k) i).length≤1000000000:=fun i=>Nat.le_trans (nL hck i) (by decide)
  refine D3 pY 60 (fun _=>none) (fun bs=>?_);refine I6 (p:=((m+k:Nat):Int)<min (((eQ t0 m k).length:Int)*8) 4096) rfl rfl (fun hk=>?_) (fun hk=>?_)
  ·have hk':m+k<4096:=by omega
   refine H8 tOk dV 60 (fun _=>none) (fun bs=>rfl) (fun bs=>?_) (fun bs=>?_)
   ·and_intros<;> (intros;first|exact ob_|(simp[L8,IntKind.bits,hl3];done)|(simp[L8,IntKind.bits,hl3]at* <;> omega)|(simp_all;done)|(with_reducible assumption)|skip)
   refine D4 (b:= !Q2 (L4 (eQ t0 m k) ((m+k:Nat):Int))) rfl rfl (fun h2=>?_) (fun h2=>?_)
   ·have h3:Q2 (L4 (eQ t0 m k) ((m+k:Nat):Int))=false:=by simpa using h2
    refine H8 tOk dV 60 (fun _=>none) (fun bs=>rfl) (fun bs=>?_) (fun bs=>?_)
    ·and_intros<;> (intros;first|exact ob_|(simp[L8,IntKind.bits,hl3];done)|(simp[L8,IntKind.bits,hl3]at* <;> omega)|(simp_all;done)|(with_reducible assumption)|skip)
    refine G8 [0,1] (k+1) ?ok1 ?wk1
    case ok1=>exact⟨trivial,by omega⟩
    case wk1=>
     and_intros<;> (first|exact wk_|refine A6 ?_|skip)
     all_goals(refine congrArg (PV.lst .tbl) ?_;simp only[eQ,h3];rfl)
   ·have h3:Q2 (L4 (eQ t0 m k) ((m+k:Nat):Int))=true:=by simpa using h2
    refine D3 pY 60 (fun _=>none) (fun bs=>?_);refine G8 [0,1] (k+1) ?ok2 ?wk2
    case ok2=>exact⟨trivial,by omega⟩
    case wk2=>
     and_intros<;> (first|exact wk_|refine A6 ?_|skip)
     all_goals(refine congrArg (PV.lst .tbl) ?_;simp only[eQ,h3])
  ·refine H8 tOk dV 60 (fun _=>none) (fun bs=>rfl) (fun bs=>?_) (fun bs=>?_)
   ·and_intros<;> (intros;first|exact ob_|(simp[L8,IntKind.bits,hl3];done)|(simp[L8,IntKind.bits,hl3]at* <;> omega)|(simp_all;done)|(with_reducible assumption)|skip)
   refine D8 tOk hM0 rfl rfl ⟨rfl,trivial⟩ ?_;refine⟨?_,trivial⟩;exact congrArg (PV.lst .tbl) (B2K hcc m (by omega) (by omega))
def A8p:C8
 |[.g [.pv (.lst .tbl t0)],.c (.pv (.val (.int .i64 n)))]=>some ((t0.length≤1000000000)∧(∀i,(leaf t0 i).length≤1000000000)∧(n≤9223372036854775807),true,.x (.g [.lst .tbl (A6v t0 n)]))
 |_=>none
theorem B2L:F5 Tryz.prog 95 A8p:=by
 intro args pre sh rv h hp;unfold A8p at h;split at h
 ·cases h;obtain⟨hl,hf,hn⟩:=hp;exact C0S _ _ hl hf hn
 ·cases h
def zW:FuncId→Option C8:=E0 95 A8p B5w
theorem vK:G9 Tryz.prog zW:=C1 B2L A6w
def eL (c:Int) (e:B0):List UInt8:=A4O e.kind e.start e.count e.size e.sum c
theorem B5x (c:Int) (e:B0):(eL c e).length≤16:=B5j _ _ _ _ _ _
def zX (c:Int) (l:List B0):Nat→List UInt8
 |0=>[]
 |k+1=>zX c l k++eL c (l.getD k K8)
theorem A3N (c:Int) (l:List B0):∀k,(zX c l k).length≤16*k:=by
 intro k
 induction k with
 |zero=>exact Nat.le_refl _
 |succ k ih=>simp only[zX,List.length_append];have:=B5x c (l.getD k K8);omega
def wA (t:List (List B0)):Nat→Nat
 |0=>0
 |i+1=>match decide ((leaf t i).length=0)with
  |true=>wA t i
  |false=>wA t i+1
def A2V (c:Int) (t:List (List B0)):Nat→List UInt8
 |0=>[]
 |i+1=>match decide ((leaf t i).length=0)with
  |true=>A2V c t i
  |false=>A2V c t i++bC [] 2 false i++zX c (leaf t i) 8
def A4Z (t:List (List B0)) (c:Int):List UInt8:=if F0 t 4096 c=true then bC [] 2 false (wA t t.length)++A2V c t t.length else[]
def B2M (t:List (List B0)) (c:Int):Int:=if F0 t 4096 c=true then 0 else 1
theorem C0T (t:List (List B0)):∀i,wA t i≤i:=by
 intro i
 induction i with
 |zero=>exact Nat.le_refl _
 |succ i ih=>simp only[wA];split<;> omega
theorem pZ (v:Int):(bC [] 2 false v).length≤2:=by
 unfold bC;split<;> simp[G7]
theorem A6x (c:Int) (t:List (List B0)):∀i,(A2V c t i).length≤130*i:=by
 intro i
 induction i with
 |zero=>exact Nat.le_refl _
 |succ i ih=>
  simp only[A2V];split
  ·omega
  ·simp only[List.length_append];have:=pZ i;have:=A3N c (leaf t i) 8;omega
def zY:E4:=⟨T,zW,I0,A9,70,[],none,.t⟩
theorem qA:B3 Tryz.prog zY:=⟨vK,E6,A4⟩
theorem eZ:F3 Tryz.prog zY:=⟨tOk,qA⟩
theorem C0U (t0:List (List B0)) (c:Int) (hl:t0.length≤1000000000) (hf:∀i,(leaf t0 i).length≤1000000000) (hs:∀i k,L8 .u32 ((leaf t0 i).getD k K8).sum):aE Tryz.prog 272 false [.g [.pv (.lst .tbl t0)],int .i64 c] (.ot 5 .byt (A4Z t0 c) [.c (i64 (B2M t0 c))]):=by
 refine dF (E:=zY) Tryz.func272 (fun M0 W hM0=>?_);refine H8 tOk qA 60 (fun _=>none) (fun bs=>rfl) (fun bs=>?_) (fun bs=>?_)
 ·and_intros<;> (intros;first|exact ob_|(simp[L8,IntKind.bits,hf];done)|(simp[L8,IntKind.bits,hf]at* <;> omega)|(simp_all;done)|(with_reducible assumption)|skip)
 cases hr:F0 t0 4096 c with
 |false=>
  refine cL rfl rfl (by simp[hr]) ?_;refine D3 eZ 60 (fun _=>none) (fun bs=>?_);have h1:B2M t0 c=1:=by simp[B2M,hr]
  have h2:A4Z t0 c=[]:=by simp[A4Z,hr]
  exact D8 tOk hM0 rfl rfl ⟨trivial,trivial,trivial⟩ ⟨h2,⟨rfl,h1.symm⟩,trivial⟩
 |true=>
 refine fW rfl rfl (by simp[hr]) ?_;have hE:B2M t0 c=0:=by simp[B2M,hr]
 have hL:A4Z t0 c=bC [] 2 false (wA t0 t0.length)++A2V c t0 t0.length:=by simp[A4Z,hr]
 rw[hE,hL];have h512:t0.length≤512:=by
  by_cases h:512<t0.length
  ·exact(sF hr h).elim
  ·omega
 refine D3 eZ 60 (fun _=>none) (fun bs=>?_);refine oY 7 5 rfl ?_;refine P8 (fun x:Nat×Value=>[(1,int .i64 c),(6,int .i64 (wA t0 x.1)),(7,.c (.own 0 x.2)),(23,lst .tbl t0),(24,int .i64 t0.length),(25,int .i64 x.1)]) (fun x=>[.own x.2 5 .byt (A2V c t0 x.1)])
  (fun x=>x.1≤t0.length) (fun x=>t0.length-x.1) rfl [1] (0,.slice none 0 0) (Nat.zero_le _) ?wk (fun x hx=>?_)
 case wk=>and_intros<;> (first|exact wk_|refine A6 ?_|skip)
 obtain⟨i,v⟩:=x;dsimp only at hx⊢;have hc1:=C0T t0 i;have hb1:=A6x c t0 i;refine D3 eZ 60 (fun _=>none) (fun bs=>?_);refine I6 rfl rfl (fun hk=>?_) (fun hk=>?_)
 ·have hk':i<t0.length:=by omega
  have hlx:t0.getD (Int.toNat (i:Int)) LK.tbl.dft=leaf t0 i:=rfl;refine D3 eZ 60 (fun _=>none) (fun bs=>?_);rcases sI hr i with h8|h8
  ·refine cL rfl rfl (show decide ((((t0.getD (Int.toNat (i:Int)) LK.tbl.dft).length:Nat):Int)=0)=true by rw[hlx,h8];rfl) ?_;refine D3 eZ 60 (fun _=>none) (fun bs=>?_);refine G8 [0] (i+1,v) ?ok1 ?wk1
   case ok1=>exact⟨hk',by simp only;omega⟩
   case wk1=>
    and_intros<;> (first|exact wk_|refine A6 ?_|skip)
    all_goals(simp only[wA,A2V,h8];rfl)
  refine fW rfl rfl (show decide ((((t0.getD (Int.toNat (i:Int)) LK.tbl.dft).length:Nat):Int)=0)=false by rw[hlx,h8];rfl) ?_;have hp2:=pZ i;refine H8 tOk qA 60 (fun _=>none) (fun bs=>rfl) (fun bs=>?_) (fun bs=>?_)
  ·simp only[hlx,h8]
   and_intros<;> (intros;first|exact U3|omega|skip)
  refine P8 (fun x:Nat×Value=>[(1,int .i64 c),(6,int .i64 ((wA t0 i:Int)+1)),(7,.c (.own 0 x.2)),(8,int .i64 i),(23,lst .tbl t0),(24,int .i64 t0.length),(25,int .i64 i),(44,lst .ent (leaf t0 i)),(45,int .i64 (leaf t0 i).length),(46,int .i64 x.1)]) (fun x=>[.own x.2 5 .byt (A2V c t0 i++bC [] 2 false i++zX c (leaf t0 i) x.1)])
   (fun x=>x.1≤8) (fun x=>8-x.1) rfl [2] (0,?v2) (Nat.zero_le _) ?wk2 (fun x hx2=>?_)
  case wk2=>
   and_intros<;> (first|exact wk_|refine A6 ?_|skip)
   all_goals(simp only[zX,List.append_nil])
  obtain⟨k,v2⟩:=x;dsimp only at hx2⊢;have he1:=A3N c (leaf t0 i) k;refine D3 eZ 60 (fun _=>none) (fun bs=>?_);refine I6 rfl rfl (fun hk2=>?_) (fun hk2=>?_)
  ·have hk2':k<8:=by omega
   have he2:=B5x c ((leaf t0 i).getD k K8);have he3:(A4O ((leaf t0 i).getD (Int.toNat (k:Int)) LK.ent.dft).kind ((leaf t0 i).getD (Int.toNat (k:Int)) LK.ent.dft).start ((leaf t0 i).getD (Int.toNat (k:Int)) LK.ent.dft).count ((leaf t0 i).getD (Int.toNat (k:Int)) LK.ent.dft).size ((leaf t0 i).getD (Int.toNat (k:Int)) LK.ent.dft).sum c).length≤16:=he2;refine H8 tOk qA 60 (fun _=>none) (fun bs=>rfl) (fun bs=>?_) (fun bs=>?_)
   ·and_intros<;> (intros;first|exact trivial|exact rfl|omega|(simp only[List.length_append];omega)|exact(hs i k).1|exact(hs i k).2|(simp[L8];omega)|skip)
   refine G8 [3] (k+1,?v3) ?ok3 ?wk3
   case ok3=>exact⟨hk2',by simp only;omega⟩
   case wk3=>
    and_intros<;> (first|exact wk_|refine A6 ?_|skip)
    all_goals(simp only[zX,List.append_assoc];rfl)
  ·have hk2':k=8:=by omega
   subst hk2';refine D3 eZ 60 (fun _=>none) (fun bs=>?_);refine G8 [0] (i+1,v2) ?ok4 ?wk4
   case ok4=>exact⟨hk',by simp only;omega⟩
   case wk4=>
    and_intros<;> (first|exact wk_|refine A6 ?_|skip)
    all_goals(simp only[wA,A2V,h8];rfl)
 ·have hk':i=t0.length:=by omega
  subst hk';have hp2:=pZ (wA t0 t0.length);refine D3 eZ 60 (fun _=>none) (fun bs=>?_);exact D8 tOk hM0 rfl rfl ⟨trivial,trivial,trivial⟩ ⟨⟨rfl,rfl,rfl,A6 rfl⟩,⟨rfl,rfl⟩,trivial⟩
def A8q:C8
 |[.g [.pv (.lst .tbl t0)],.c (.pv (.val (.int .i64 c)))]=>some ((t0.length≤1000000000)∧(∀i,(leaf t0 i).length≤1000000000)∧(∀i k,L8 .u32 ((leaf t0 i).getD k K8).sum),false,.ot 5 .byt (A4Z t0 c) [.c (i64 (B2M t0 c))])
 |_=>none
theorem B2N:F5 Tryz.prog 272 A8q:=by
 intro args pre sh rv h hp;unfold A8q at h;split at h
 ·cases h;obtain⟨hl,hf,hs⟩:=hp;exact C0U _ _ hl hf hs
 ·cases h
def V6:FuncId→Option C8:=E0 272 A8q zW
theorem N6:G9 Tryz.prog V6:=C1 B2N vK
def A4a:E4:=⟨T,V6,A7,A9,50,[],none,.t⟩
theorem C0V:B3 Tryz.prog A4a:=⟨N6,A2,A4⟩
theorem fP:F3 Tryz.prog A4a:=⟨tOk,C0V⟩
theorem C3c (l:List UInt8) (at_:Int) (n:Int) (big:Bool) (hl:l.length≤1000000):aE Tryz.prog 266 false [lst .byt l,int .i64 at_,int .i64 n,bool big] (.t [.c (.val (.int .u64 (K0 l at_ n big))),.c (i64 (pM l at_ n))]):=by
 refine dF (E:=A4a) Tryz.func266 (fun M0 W hM0=>?_);refine D3 fP 60 (fun _=>none) (fun bs=>?_);refine D4 rfl rfl (fun h=>?_) (fun h=>?_)
 ·refine D3 fP 60 (fun _=>none) (fun bs=>?_);have he:pM l at_ n=1:=by simp at h;simp[pM,h]
  exact D8 tOk hM0 rfl rfl ⟨trivial,trivial,trivial⟩ ⟨⟨rfl,by simp[K0,he]⟩,⟨rfl,he.symm⟩,trivial⟩
 have h1:1≤n∧n≤8:=by simp at h;omega
 clear h;refine D3 fP 60 (fun _=>none) (fun bs=>?_);refine D4 rfl rfl (fun h=>?_) (fun h=>?_)
 ·refine D3 fP 60 (fun _=>none) (fun bs=>?_);have hb:V5 l at_ n=false:=by simpa using h
  have he:pM l at_ n=6:=by simp[pM,hb];omega
  exact D8 tOk hM0 rfl rfl ⟨trivial,trivial,trivial⟩ ⟨⟨rfl,by simp[K0,he]⟩,⟨rfl,he.symm⟩,trivial⟩
 have hb:V5 l at_ n=true:=by simpa using h
 have he:pM l at_ n=0:=by simp[pM,hb];omega
 have hlen:=B1z hb (by omega);refine D3 fP 60 (fun _=>none) (fun bs=>?_);refine P8 (fun x:Nat=>[(2,int .i64 n),(3,bool big),(10,lst .byt (iD l at_ n)),(30,int .i64 n),(31,int .i64 x),(12,int .u64 (A8Y (sA l at_ n big) x))]) (fun x=>[])
  (fun x=>x≤n.toNat) (fun x=>n.toNat-x) rfl [] 0 (Nat.zero_le _) ?wk (fun x hx=>?_)
 case wk=>and_intros<;> (first|exact wk_|refine A6 ?_|skip)
 have hx':x≤n.toNat:=hx;refine D3 fP 60 (fun _=>none) (fun bs=>?_);refine I6 rfl rfl (fun hk=>?_) (fun hk=>?_)
 ·have hk':(x:Int)<n:=hk;refine D3 fP 60 (fun _=>none) (fun bs=>?_);cases big with
  |true=>
   refine cL rfl rfl rfl ?_;refine D3 fP 60 (fun _=>none) (fun bs=>?_);refine G8 [] (x+1) ?ok2 ?wk2
   case ok2=>exact⟨by omega,by omega⟩
   case wk2=>
    and_intros<;> (first|exact wk_|refine A6 ?_|skip)
    conv=>whnf
    simp only[A8Y,sA,←zA hb (show(0:Int)≤x by omega) hk'];rfl
  |false=>
   refine fW rfl rfl rfl ?_;refine D3 fP 60 (fun _=>none) (fun bs=>?_);refine G8 [] (x+1) ?ok3 ?wk3
   case ok3=>exact⟨by omega,by omega⟩
   case wk3=>
    and_intros<;> (first|exact wk_|refine A6 ?_|skip)
    conv=>whnf
    simp only[A8Y,sA,←zA hb (show(0:Int)≤n-1-x by omega) (by omega)];rfl
 ·refine D3 fP 60 (fun _=>none) (fun bs=>?_);have hk':¬(x:Int)<n:=hk;have hxn:x=n.toNat:=by omega
  exact D8 tOk hM0 rfl rfl ⟨trivial,trivial,trivial⟩ ⟨⟨rfl,by simp[K0,he,hxn]⟩,⟨rfl,he.symm⟩,trivial⟩
def B5y:C8
 |[.c (.pv (.lst .byt l)),.c (.pv (.val (.int .i64 at_))),.c (.pv (.val (.int .i64 n))),.c (.pv (.val (.bool big)))]=>some ((l.length≤1000000),false,.t [.c (.val (.int .u64 (K0 l at_ n big))),.c (i64 (pM l at_ n))])
 |_=>none
theorem B5z:F5 Tryz.prog 266 B5y:=by
 intro args pre sh rv h hp;unfold B5y at h;split at h
 ·cases h;have hl:=hp;exact C3c _ _ _ _ hl
 ·cases h
def A4b:FuncId→Option C8:=E0 266 B5y V6
theorem zZ:G9 Tryz.prog A4b:=C1 B5z N6
def mC (f:Nat→UInt8):Nat→Nat
 |0=>0
 |k+1=>mC f k*256+(f k).toNat
theorem B0Y (f:Nat→UInt8) (k:Nat):mC f k<256 ^ k:=by
 induction k with
 |zero=>simp[mC]
 |succ k ih=>
  have:=(f k).toNat_lt;simp only[mC,Nat.pow_succ];omega
theorem B6A {a b:Nat} (ha:a*256<18446744073709551616) (hb:b<256):ior .u64 (IntKind.u64.wrap ((a:Int)*2 ^ 8)) (b:Int)=((a*256+b:Nat):Int):=by
 have hw:IntKind.u64.wrap ((a:Int)*2 ^ 8)=((a*256:Nat):Int):=by
  rw[show(a:Int)*2 ^ 8=((a*256:Nat):Int) by simp];apply bS;simp only[L8];omega
 rw[hw];simp only[ior];have h1:BitVec.ofInt IntKind.u64.bits ((a*256:Nat):Int)=BitVec.ofNat 64 (a*256):=BitVec.ofInt_natCast ..;have h2:BitVec.ofInt IntKind.u64.bits (b:Int)=BitVec.ofNat 64 b:=BitVec.ofInt_natCast ..;rw[h1,h2];have h3:(BitVec.ofNat 64 (a*256) ||| BitVec.ofNat 64 b).toNat=a*256+b:=by
  rw[BitVec.toNat_or,BitVec.toNat_ofNat,BitVec.toNat_ofNat,Nat.mod_eq_of_lt (by omega),Nat.mod_eq_of_lt (by omega)];have:=Nat.two_pow_add_eq_or_of_lt (i:=8) (b:=b) (by omega) a;rw[Nat.mul_comm]at this;simpa using this.symm
 have key:∀n:Nat,n=a*256+b→IntKind.u64.wrap (n:Int)=((a*256+b:Nat):Int):=by
  intro n hn;subst hn;apply bS;simp only[L8];omega
 exact key _ h3
theorem sK (f:Nat→UInt8):∀k,k≤8→A8Y f k=(mC f k:Int):=by
 intro k
 induction k with
 |zero=>intro _;rfl
 |succ k ih=>
  intro hk;have h1:=B0Y f k;have h2:256 ^ k≤256 ^ 7:=Nat.pow_le_pow_right (by omega) (by omega);simp only[A8Y,ih (by omega),mC];exact B6A (by omega) (f k).toNat_lt
theorem C0W (x:Int):IntKind.u8.wrap x=x%256:=by simp[IntKind.wrap,IntKind.signed,IntKind.bits]
theorem A0A (v k:Nat):(rZ (v:Int) (k:Int)).toNat=v / 256 ^ k%256:=by
 simp only[rZ,C0W,UInt8.toNat_ofNat'];have e:(8*(k:Int)).toNat=8*k:=by omega
 have h1:(v:Int) / 2 ^ (8*(k:Int)).toNat=((v / 256 ^ k:Nat):Int):=by
  have h2:(256:Nat) ^ k=2 ^ (8*k):=by rw[Nat.pow_mul]
  rw[e,h2];simp
 rw[h1];omega
theorem C0X (l r:List UInt8) (n:Nat) (big:Bool) (v:Nat) (i:Nat) (hi:i<n):sA (l++G7 n big v n++r) l.length n big i=rZ (v:Int) ((n-1-i:Nat):Int):=by
 have key:∀j:Nat,j<n→(l++G7 n big v n++r).getD (l.length+j) 0=rZ (v:Int) (match big with|true=>(n:Int)-1-j|false=>j):=by
  intro j hj;have h1:j<(G7 n big v n).length:=by simp[G7,hj]
  rw[List.append_assoc];simp only[List.getD];rw[List.getElem?_append_right (by omega),Nat.add_sub_cancel_left,List.getElem?_append_left h1];cases big<;> simp[G7,hj]
 cases big with
 |true=>
  have:=key i hi;simp only[sA];rw[show((l.length:Int)+i).toNat=l.length+i by omega,this];simp only;rw[show((n:Int)-1-i)=((n-1-i:Nat):Int) by omega]
 |false=>
  have:=key (n-1-i) (by omega);simp only[sA];rw[show((l.length:Int)+((n:Int)-1-i)).toNat=l.length+(n-1-i) by omega,this]
theorem B6B (f:Nat→UInt8) (n v:Nat) (hv:v<256 ^ n) (hf:∀i,i<n→(f i).toNat=v / 256 ^ (n-1-i)%256):∀k,k≤n→mC f k=v / 256 ^ (n-k):=by
 intro k
 induction k with
 |zero=>intro _;simp[mC,Nat.div_eq_of_lt hv]
 |succ k ih=>
  intro hk;simp only[mC,ih (by omega),hf k (by omega)];have e:n-k=(n-1-k)+1:=by omega
  rw[e,Nat.pow_succ,←Nat.div_div_eq_div_mul,show n-(k+1)=n-1-k by omega];omega
theorem qB (l r:List UInt8) (n:Nat) (big:Bool) (v:Nat) (h1:1≤n) (h8:n≤8) (hv:v<256 ^ n):K0 (l++G7 n big v n++r) l.length n big=v∧pM (l++G7 n big v n++r) l.length n=0:=by
 have hlen:(l++G7 n big v n++r).length=l.length+n+r.length:=by simp[G7];omega
 have hb:V5 (l++G7 n big v n++r) l.length n=true:=by simp only[V5,hlen,decide_eq_true_eq];omega
 have he:pM (l++G7 n big v n++r) l.length n=0:=by unfold pM;rw[if_neg (by omega),if_pos hb]
 refine⟨?_,he⟩;simp only[K0,he,if_true,Int.toNat_natCast];rw[sK _ n h8,B6B _ n v hv (fun i hi=>by rw[C0X _ _ _ _ _ _ hi,A0A]) n (Nat.le_refl _)];simp
theorem C3d (k:Int) (h:0≤k):2 ^ (8*k).toNat=256 ^ k.toNat:=by
 have:(8*k).toNat=8*k.toNat:=by omega
 rw[this,show(256:Nat)=2 ^ 8 from rfl,←Nat.pow_mul]
theorem C0Y (k:Int) (x:Nat) (h1:1≤k) (h8:k≤8) (hx:x<256 ^ k.toNat):mA k (x:Int)=0:=by
 have:(x:Int) / 2 ^ (8*k).toNat=0:=by
  have h2:(x:Int) / 2 ^ (8*k).toNat=((x / 2 ^ (8*k).toNat:Nat):Int):=by simp
  rw[h2,C3d k (by omega),Nat.div_eq_of_lt hx];rfl
 simp only[mA];rw[if_neg (by omega),if_neg (by simp[this])]
theorem B6C {l:List UInt8} {n:Int} {big:Bool} {v:Int} (h:mA n v=0):(bC l n big v).length=l.length+n.toNat:=by simp[bC,h,G7]
def iJ (sq st ct:Int):Bool:=decide (1≤sq) && decide (sq≤2147483648) && decide (2≤st) && decide (st≤65536) && decide (1≤ct) && decide (ct≤1048576)
theorem qC {sq st ct:Int}:iJ sq st ct=true↔(1≤sq∧sq≤2147483648)∧(2≤st∧st≤65536)∧(1≤ct∧ct≤1048576):=by
 simp[iJ,and_assoc]
def A0B:E4:=⟨T,A4b,A7,A9,31,[],none,.t⟩
theorem B6D:B3 Tryz.prog A0B:=⟨zZ,A2,A4⟩
theorem C0Z:F3 Tryz.prog A0B:=⟨tOk,B6D⟩
theorem C0a (s0:Int) (s1:Int) (s2:Int) (s3:Int):aE Tryz.prog 208 false [.g [.pv (.val (.int .i64 s0)),.pv (.val (.int .i64 s1)),.pv (.val (.int .i64 s2)),.pv (.val (.int .u32 s3))]] (.x (.c (bv (iJ s0 s1 s2)))):=by
 refine dF (E:=A0B) Tryz.func208 (fun M0 W hM0=>?_);refine D3 C0Z 60 (fun _=>none) (fun bs=>?_);refine D8 tOk hM0 rfl rfl ⟨trivial,trivial⟩ ?_
 conv=>whnf
 rfl
def A8r:C8
 |[.g [.pv (.val (.int .i64 s0)),.pv (.val (.int .i64 s1)),.pv (.val (.int .i64 s2)),.pv (.val (.int .u32 s3))]]=>some (True,false,.x (.c (bv (iJ s0 s1 s2))))
 |_=>none
theorem B2O:F5 Tryz.prog 208 A8r:=by
 intro args pre sh rv h hp;unfold A8r at h;split at h
 ·cases h;exact C0a _ _ _ _
 ·cases h
def A0C:FuncId→Option C8:=E0 208 A8r A4b
theorem vL:G9 Tryz.prog A0C:=C1 B2O zZ
theorem C0b (l:List UInt8) (n:Nat) (v:Int) (h1:1≤n) (h8:n≤8) (h0:0≤v) (hv:v<(256 ^ n:Nat)):bC l n false v=l++G7 n false (v.toNat:Nat) n:=by
 have e:v=((v.toNat:Nat):Int):=by omega
 have he:=C0Y n v.toNat (by omega) (by omega) (by simp only[Int.toNat_natCast];omega);rw[e];simp only[bC,he,if_true,Int.toNat_natCast]
theorem B0Z (l:List UInt8) (v:Int) (h:0≤v) (h2:v≤4294967295):bC l 4 false v=l++G7 4 false (v.toNat:Nat) 4:=by
 have e4:((256 ^ 4:Nat):Int)=4294967296:=by decide
 exact C0b l 4 v (by omega) (by omega) h (by omega)
def slB (sq st ct sm:Int):List UInt8:=nF [] [sq,st,ct,sm] 4
theorem A8s {sq st ct sm:Int} (h0:0≤sq∧sq≤4294967295) (h1:0≤st∧st≤4294967295) (h2:0≤ct∧ct≤4294967295) (h3:0≤sm∧sm≤4294967295):
 slB sq st ct sm=G7 4 false (sq.toNat:Nat) 4++G7 4 false (st.toNat:Nat) 4++G7 4 false (ct.toNat:Nat) 4++G7 4 false (sm.toNat:Nat) 4:=by
 simp only[slB,nF,List.getD_cons_zero,List.getD_cons_succ];rw[B0Z _ sq h0.1 h0.2,B0Z _ st h1.1 h1.2,B0Z _ ct h2.1 h2.2,B0Z _ sm h3.1 h3.2,List.nil_append]
theorem A4c {sq st ct sm:Int} (h:iJ sq st ct=true) (h3:0≤sm∧sm≤4294967295):(slB sq st ct sm).length=16:=by
 rw[qC]at h;rw[A8s (by omega) (by omega) (by omega) h3];simp[G7]
def A0D:E4:=⟨T,A0C,A7,A9,34,[],none,.t⟩
theorem A0E:B3 Tryz.prog A0D:=⟨vL,A2,A4⟩
theorem B0a:F3 Tryz.prog A0D:=⟨tOk,A0E⟩
theorem C0c (s0:Int) (s1:Int) (s2:Int) (s3:Int) (hm:iJ s0 s1 s2=true) (h3:L8 .u32 s3):aE Tryz.prog 209 false [.g [.pv (.val (.int .i64 s0)),.pv (.val (.int .i64 s1)),.pv (.val (.int .i64 s2)),.pv (.val (.int .u32 s3))]] (.x (.g (jD (slB s0 s1 s2 s3) 0 16))):=by
 refine dF (E:=A0D) Tryz.func209 (fun M0 W hM0=>?_);simp only[L8]at h3;have hL:=A4c hm h3;have hms:=qC.1 hm;have hlen:=fun i=>zG [] [s0,s1,s2,s3] i
 refine D3 B0a 60 (fun _=>none) (fun bs=>?_);refine I1 2 [16] rfl ⟨rfl,trivial⟩ ?_;refine oY 3 5 rfl ?_;refine P8 (fun x:Nat×Nat×Nat×Value=>[(1,.c (.ptr 0 x.2.1 0)),(2,.c (.ptr 1 x.2.2.1 0)),(3,.c (.own 2 x.2.2.2)),(16,lst (.ints .i64) [s0,s1,s2,s3]),(17,int .i64 4),(18,int .i64 x.1)])
  (fun x=>[.blk x.2.1 135 [.pv (i64 s0),.pv (i64 s1),.pv (i64 s2),.pv (.val (.int .u32 s3))],.blk x.2.2.1 316 (List.replicate 16 (.pv (.val (.int .u8 0)))),.own x.2.2.2 5 .byt (nF [] [s0,s1,s2,s3] x.1)])
  (fun x=>x.1≤4) (fun x=>4-x.1) rfl [0,1,3] (0,?b0,?b1,?v0) (Nat.zero_le _) ?wk (fun x hx=>?_)
 case wk=>and_intros<;> (first|exact wk_|refine A6 ?_|skip)
 obtain⟨i,b0,b1,v⟩:=x;simp only at hx;dsimp only;have hl:=hlen i;refine D3 B0a 60 (fun _=>none) (fun bs=>?_);refine I6 rfl rfl (fun hk=>?_) (fun hk=>?_)
 ·have hk':i<4:=by omega
  have hr:0≤[s0,s1,s2,s3].getD i 0∧[s0,s1,s2,s3].getD i 0≤18446744073709551615:=by
   match i,hk' with
   |0,_=>simp;omega
   |1,_=>simp;omega
   |2,_=>simp;omega
   |3,_=>simp;omega
  have hl2:(nF [] [s0,s1,s2,s3] i).length≤1000000:=by simp at hl;omega
  refine H8 tOk A0E 60 (fun _=>none) (fun bs=>rfl) (fun bs=>?_) (fun bs=>?_)
  ·and_intros<;> (intros;first|exact trivial|exact rfl|omega|(simp at hr⊢;omega)|exact hr.1|exact hr.2)
  refine G8 [0,1,3] (i+1,?b2,?b3,?v1) ?ok1 ?wk1
  case ok1=>exact⟨by simp only;omega,by simp only;omega⟩
  case wk1=>
   and_intros<;> (first|exact wk_|refine A6 ?_|skip)
 ·have hk':i=4:=by omega
  subst hk';have e:∀z:List UInt8,z.length=16→(nF [] [s0,s1,s2,s3] 4).take z.length++z.drop (nF [] [s0,s1,s2,s3] 4).length=slB s0 s1 s2 s3:=by
   intro z hz;have hL':(nF [] [s0,s1,s2,s3] 4).length=16:=hL;rw[hz,hL',List.drop_eq_nil_of_le (by omega),List.append_nil,List.take_of_length_le (by omega)];rfl
  refine H8 tOk A0E 60 (fun _=>none) (fun bs=>rfl) (fun bs=>?_) (fun bs=>?_)
  ·simp only[e _ (show[UInt8.ofNat (Int.toNat 0),UInt8.ofNat (Int.toNat 0),UInt8.ofNat (Int.toNat 0),UInt8.ofNat (Int.toNat 0),UInt8.ofNat (Int.toNat 0),UInt8.ofNat (Int.toNat 0),UInt8.ofNat (Int.toNat 0),UInt8.ofNat (Int.toNat 0),UInt8.ofNat (Int.toNat 0),UInt8.ofNat (Int.toNat 0),UInt8.ofNat (Int.toNat 0),UInt8.ofNat (Int.toNat 0),UInt8.ofNat (Int.toNat 0),UInt8.ofNat (Int.toNat 0),UInt8.ofNat (Int.toNat 0),UInt8.ofNat (Int.toNat 0)].length=16 from rfl)]
   and_intros<;> (intros;first|exact trivial|exact rfl|omega|skip)
  refine D8 tOk hM0 rfl rfl ⟨rfl,trivial⟩ ?_;have e':=e [UInt8.ofNat (Int.toNat 0),UInt8.ofNat (Int.toNat 0),UInt8.ofNat (Int.toNat 0),UInt8.ofNat (Int.toNat 0),UInt8.ofNat (Int.toNat 0),UInt8.ofNat (Int.toNat 0),UInt8.ofNat (Int.toNat 0),UInt8.ofNat (Int.toNat 0),UInt8.ofNat (Int.toNat 0),UInt8.ofNat (Int.toNat 0),UInt8.ofNat (Int.toNat 0),UInt8.ofNat (Int.toNat 0),UInt8.ofNat (Int.toNat 0),UInt8.ofNat (Int.toNat 0),UInt8.ofNat (Int.toNat 0),UInt8.ofNat (Int.toNat 0)] rfl;rw[←e']
  and_intros<;> first|exact trivial|exact rfl
def A8t:C8
 |[.g [.pv (.val (.int .i64 s0)),.pv (.val (.int .i64 s1)),.pv (.val (.int .i64 s2)),.pv (.val (.int .u32 s3))]]=>some ((iJ s0 s1 s2=true)∧(L8 .u32 s3),false,.x (.g (jD (slB s0 s1 s2 s3) 0 16)))
 |_=>none
theorem B2P:F5 Tryz.prog 209 A8t:=by
 intro args pre sh rv h hp;unfold A8t at h;split at h
 ·cases h;obtain⟨hm,h3⟩:=hp;exact C0c _ _ _ _ hm h3
 ·cases h
def A0F:FuncId→Option C8:=E0 209 A8t A0C
theorem vM:G9 Tryz.prog A0F:=C1 B2P vL
theorem B6E (b:UInt8):(0:Int)≤((b.toNat:Nat):Int):=by omega
theorem B6F (b:UInt8):((b.toNat:Nat):Int)≤255:=by have:=b.toNat_lt;omega
def slE (sq st ct:Int):Int:=if iJ sq st ct=true then 0 else 1
def slL (sq st ct sm:Int):List UInt8:=if iJ sq st ct=true then slB sq st ct sm else[]
def C3e (L:List UInt8):List UInt8:=[UInt8.ofNat (Int.toNat ((L.getD 0 0).toNat:Int)),UInt8.ofNat (Int.toNat ((L.getD 1 0).toNat:Int)),UInt8.ofNat (Int.toNat ((L.getD 2 0).toNat:Int)),UInt8.ofNat (Int.toNat ((L.getD 3 0).toNat:Int)),
 UInt8.ofNat (Int.toNat ((L.getD 4 0).toNat:Int)),UInt8.ofNat (Int.toNat ((L.getD 5 0).toNat:Int)),UInt8.ofNat (Int.toNat ((L.getD 6 0).toNat:Int)),UInt8.ofNat (Int.toNat ((L.getD 7 0).toNat:Int)),
 UInt8.ofNat (Int.toNat ((L.getD 8 0).toNat:Int)),UInt8.ofNat (Int.toNat ((L.getD 9 0).toNat:Int)),UInt8.ofNat (Int.toNat ((L.getD 10 0).toNat:Int)),UInt8.ofNat (Int.toNat ((L.getD 11 0).toNat:Int)),
 UInt8.ofNat (Int.toNat ((L.getD 12 0).toNat:Int)),UInt8.ofNat (Int.toNat ((L.getD 13 0).toNat:Int)),UInt8.ofNat (Int.toNat ((L.getD 14 0).toNat:Int)),UInt8.ofNat (Int.toNat ((L.getD 15 0).toNat:Int))]
theorem C0d (L:List UInt8) (h:L.length=16):C3e L=L:=by
 match L,h with
 |[x0,x1,x2,x3,x4,x5,x6,x7,x8,x9,x10,x11,x12,x13,x14,x15],_=>simp[C3e]
def A0G:E4:=⟨T,A0F,A7,A9,11,[],none,.t⟩
theorem A6y:B3 Tryz.prog A0G:=⟨vM,A2,A4⟩
theorem B0b:F3 Tryz.prog A0G:=⟨tOk,A6y⟩
theorem C0e (s0:Int) (s1:Int) (s2:Int) (s3:Int) (h3:L8 .u32 s3):aE Tryz.prog 121 false [.g [.pv (.val (.int .i64 s0)),.pv (.val (.int .i64 s1)),.pv (.val (.int .i64 s2)),.pv (.val (.int .u32 s3))]] (.ot 316 .byt (slL s0 s1 s2 s3) [.c (i64 (slE s0 s1 s2))]):=by
 refine dF (E:=A0G) Tryz.func121 (fun M0 W hM0=>?_);have h3':=h3;simp only[L8]at h3';refine D3 B0b 60 (fun _=>none) (fun bs=>?_);refine D4 rfl rfl (fun h=>?_) (fun h=>?_)
 ·refine D3 B0b 60 (fun _=>none) (fun bs=>?_);have hb:iJ s0 s1 s2=false:=by simpa using h
  exact D8 tOk hM0 rfl rfl ⟨trivial,trivial,trivial⟩ ⟨(show slL s0 s1 s2 s3=[] by simp[slL,hb]),⟨rfl,by simp[slE,hb]⟩,trivial⟩
 have hb:iJ s0 s1 s2=true:=by simpa using h
 have hL:=A4c hb h3';have hu:∀i:Nat,(0:Int)≤((slB s0 s1 s2 s3).getD i 0).toNat∧(((slB s0 s1 s2 s3).getD i 0).toNat:Int)≤255:=fun i=>⟨B6E _,B6F _⟩
 refine H8 tOk A6y 60 (fun _=>none) (fun bs=>rfl) (fun bs=>?_) (fun bs=>?_)
 ·and_intros<;> (intros;first|exact trivial|exact rfl|exact h3'.1|exact h3'.2|exact B6E _|exact B6F _|exact hb|omega|skip)
 refine D8 tOk hM0 rfl rfl ⟨trivial,trivial,trivial⟩ ⟨⟨rfl,rfl,rfl,A6 ?_⟩,⟨rfl,by simp[slE,hb]⟩,trivial⟩;have:slL s0 s1 s2 s3=C3e (slB s0 s1 s2 s3):=by rw[C0d _ hL];simp[slL,hb]
 rw[this];rfl
def A8u:C8
 |[.g [.pv (.val (.int .i64 s0)),.pv (.val (.int .i64 s1)),.pv (.val (.int .i64 s2)),.pv (.val (.int .u32 s3))]]=>some ((L8 .u32 s3),false,.ot 316 .byt (slL s0 s1 s2 s3) [.c (i64 (slE s0 s1 s2))])
 |_=>none
theorem B2Q:F5 Tryz.prog 121 A8u:=by
 intro args pre sh rv h hp;unfold A8u at h;split at h
 ·cases h;have h3:=hp;exact C0e _ _ _ _ h3
 ·cases h
def A0H:FuncId→Option C8:=E0 121 A8u A0F
theorem vN:G9 Tryz.prog A0H:=C1 B2Q vM
theorem C0f (l:List UInt8) (at_:Int) (n:Nat) (hn:n≤8):0≤K0 l at_ n false∧K0 l at_ n false<(256 ^ n:Nat):=by
 unfold K0;split
 ·rw[show((n:Nat):Int).toNat=n by simp,sK _ n hn];have:=B0Y (sA l at_ n false) n;omega
 ·have:0<256 ^ n:=Nat.pow_pos (by omega);omega
theorem aR (l:List UInt8) (at_:Int):0≤K0 l at_ 4 false∧K0 l at_ 4 false≤4294967295:=by
 have:=C0f l at_ 4 (by omega);have e:((256 ^ 4:Nat):Int)=4294967296:=by decide
 rw[e]at this;have e2:((4:Nat):Int)=4:=rfl;rw[e2]at this;omega
theorem A8v (f:Nat→UInt8):∀n j,j<n→mC f n / 256 ^ (n-1-j)%256=(f j).toNat:=by
 intro n
 induction n with
 |zero=>intro j h;omega
 |succ n ih=>
  intro j hj;have hb:=(f n).toNat_lt;by_cases h:j=n
  ·subst h;simp only[mC,Nat.add_sub_cancel,Nat.sub_self,Nat.pow_zero,Nat.div_one];omega
  ·have e:n+1-1-j=(n-1-j)+1:=by omega
   rw[e,Nat.pow_succ,Nat.mul_comm,←Nat.div_div_eq_div_mul];have:mC f (n+1) / 256=mC f n:=by simp only[mC];omega
   rw[this];exact ih j (by omega)
theorem lM (b:List UInt8) (at_ n:Nat) (hn:1≤n) (h8:n≤8) (h:at_+n≤b.length):G7 n false (K0 b at_ n false) n=(b.drop at_).take n:=by
 have he:pM b at_ n=0:=by
  unfold pM;rw[if_neg (by omega),if_pos];simp only[V5,decide_eq_true_eq];omega
 have hv:K0 b at_ n false=((mC (sA b at_ n false) n:Nat):Int):=by
  simp only[K0,he,if_true,Int.toNat_natCast];exact sK _ n h8
 rw[hv];apply List.ext_getElem
 ·simp[G7];omega
 ·intro i h1 h2;have hi:i<n:=by simp[G7]at h1;exact h1
  have hd:=A8v (sA b at_ n false) n (n-1-i) (by omega);rw[show n-1-(n-1-i)=i by omega]at hd;have hs:sA b at_ n false (n-1-i)=b[at_+i]'(by omega):=by
   simp only[sA];rw[show((at_:Int)+((n:Int)-1-((n-1-i:Nat):Int))).toNat=at_+i by omega];simp[List.getD,gE_ (show at_+i<b.length by omega)]
  rw[hs]at hd;have hbt:=A0A (mC (sA b at_ n false) n) i;rw[hd]at hbt;simp only[G7,List.getElem_map,List.getElem_range,List.getElem_take,List.getElem_drop];exact UInt8.toNat_inj.1 hbt
def nM:E4:=⟨T,A0H,A7,A9,15,[],none,.t⟩
theorem A8w:B3 Tryz.prog nM:=⟨vN,A2,A4⟩
theorem B2R:F3 Tryz.prog nM:=⟨tOk,A8w⟩
theorem B2S (i:Int) (b:List UInt8) (hb:b.length≤1000000) (hi:0≤i∧i≤3):aE Tryz.prog 270 false [int .i64 i,.c (.cel [.lst .byt b])] (.x (.c (i64 (K0 b (i*4) 4 false)))):=by
 refine dF (E:=nM) Tryz.func270 (fun M0 W hM0=>?_);have h4:=aR b (i*4);refine D3 B2R 60 (fun _=>none) (fun bs=>?_);exact D8 tOk hM0 rfl rfl ⟨trivial,trivial⟩ ⟨rfl,rfl⟩
def A0I:C8
 |[.c (.pv (.val (.int .i64 i))),.c (.cel [.lst .byt b])]=>some ((b.length≤1000000)∧(0≤i∧i≤3),false,.x (.c (i64 (K0 b (i*4) 4 false))))
 |_=>none
theorem A6z:F5 Tryz.prog 270 A0I:=by
 intro args pre sh rv h hp;unfold A0I at h;split at h
 ·cases h;obtain⟨hb,hi⟩:=hp;exact B2S _ _ hb hi
 ·cases h
def nN:FuncId→Option C8:=E0 270 A0I A0H
theorem mO:G9 Tryz.prog nN:=C1 A6z vN
def gF (b:List UInt8):jC:=⟨K0 b 0 4 false,K0 b 4 4 false,K0 b 8 4 false,K0 b 12 4 false⟩
def gE (b:List UInt8):Int:=if b.length=16∧iJ (gF b).seq (gF b).start (gF b).count=true then 0 else 3
def gX (b:List UInt8):jC:=if gE b=0 then gF b else⟨0,0,0,0⟩
theorem C3f (b:List UInt8) (hl:b.length=16):slB (gF b).seq (gF b).start (gF b).count (gF b).sum=b:=by
 have p0:=lM b 0 4 (by omega) (by omega) (by omega);have p4:=lM b 4 4 (by omega) (by omega) (by omega);have p8:=lM b 8 4 (by omega) (by omega) (by omega);have p12:=lM b 12 4 (by omega) (by omega) (by omega);have g0:=aR b 0;have g4:=aR b 4;have g8:=aR b 8;have g12:=aR b 12;simp only[gF];rw[A8s g0 g4 g8 g12];rw[show(((K0 b 0 4 false).toNat:Nat):Int)=K0 b 0 4 false by omega,show(((K0 b 4 4 false).toNat:Nat):Int)=K0 b 4 4 false by omega,
  show(((K0 b 8 4 false).toNat:Nat):Int)=K0 b 8 4 false by omega,show(((K0 b 12 4 false).toNat:Nat):Int)=K0 b 12 4 false by omega]
 have q0:G7 4 false (K0 b 0 4 false) 4=(b.drop 0).take 4:=p0;have q4:G7 4 false (K0 b 4 4 false) 4=(b.drop 4).take 4:=p4;have q8:G7 4 false (K0 b 8 4 false) 4=(b.drop 8).take 4:=p8;have q12:G7 4 false (K0 b 12 4 false) 4=(b.drop 12).take 4:=p12;rw[q0,q4,q8,q12]
 match b,hl with
 |[x0,x1,x2,x3,x4,x5,x6,x7,x8,x9,x10,x11,x12,x13,x14,x15],_=>simp
def A0J:E4:=⟨T,nN,A7,A9,34,[19],none,.t⟩
theorem kG:B3 Tryz.prog A0J:=⟨mO,A2,A4⟩
theorem qD:F3 Tryz.prog A0J:=⟨tOk,kG⟩
theorem C0g (b:List UInt8) (hb:b.length≤1000000):aE Tryz.prog 247 false [lst .byt b] (.t [.g [i64 (gX b).seq,i64 (gX b).start,i64 (gX b).count,.val (.int .u32 (gX b).sum)],.c (i64 (gE b))]):=by
 refine dF (E:=A0J) Tryz.func247 (fun M0 W hM0=>?_);refine D3 qD 60 (fun _=>none) (fun bs=>?_);refine D4 rfl rfl (fun h=>?_) (fun h=>?_)
 ·refine D3 qD 60 (fun _=>none) (fun bs=>?_);have he:gE b=3:=by
   unfold gE;rw[if_neg]
   rintro ⟨a1,a2⟩
   simp at h;omega
  refine D8 tOk hM0 rfl rfl ⟨rfl,trivial,trivial⟩ ?_;simp only[gX,he];exact⟨⟨⟨rfl,rfl⟩,⟨rfl,rfl⟩,⟨rfl,rfl⟩,⟨rfl,rfl⟩,trivial⟩,⟨rfl,rfl⟩,trivial⟩
 have h1:b.length=16:=by simp at h;omega
 clear h;have g0:=aR b 0;have g4:=aR b 4;have g8:=aR b 8;have g12:=aR b 12;have g0':0≤K0 b (0*4) 4 false∧K0 b (0*4) 4 false≤4294967295:=g0;have g4':0≤K0 b (1*4) 4 false∧K0 b (1*4) 4 false≤4294967295:=g4;have g8':0≤K0 b (2*4) 4 false∧K0 b (2*4) 4 false≤4294967295:=g8;have g12':0≤K0 b (3*4) 4 false∧K0 b (3*4) 4 false≤4294967295:=g12;refine D3 qD 60 (fun _=>none) (fun bs=>?_);by_cases hm:iJ (gF b).seq (gF b).start (gF b).count=true
 ·have hm':iJ (K0 b (0*4) 4 false) (K0 b (1*4) 4 false) (K0 b (2*4) 4 false)=true:=hm;have henc:slB (K0 b (0*4) 4 false) (K0 b (1*4) 4 false) (K0 b (2*4) 4 false) (K0 b (3*4) 4 false)=b:=C3f b h1;refine cI tOk kG rfl (fun _=>some false) 9 [0,1,3,7,15,31,15,79,207,511,1023] [] rfl (by decide+kernel) (fun bs=>rfl) (fun bs=>?_) (fun bs=>?_)
  ·simp only[hm',henc]
   and_intros<;> (intros;first|exact U3|omega|skip)
  refine H8 tOk kG 60 (fun _=>some false) (fun bs=>rfl) (fun bs=>by and_intros<;> (intros;first|exact U3|omega|skip)) (fun bs=>?_);refine fW rfl rfl ?_ ?_
  ·simp only[hm',henc];simp
  refine D3 qD 60 (fun _=>none) (fun bs=>?_);have he:gE b=0:=by unfold gE;rw[if_pos ⟨h1,hm⟩]
  refine D8 tOk hM0 rfl rfl ⟨rfl,trivial,trivial⟩ ?_;simp only[gX,he,if_true];exact⟨⟨⟨rfl,rfl⟩,⟨rfl,rfl⟩,⟨rfl,rfl⟩,⟨rfl,rfl⟩,trivial⟩,⟨rfl,rfl⟩,trivial⟩
 ·have hm':iJ (K0 b (0*4) 4 false) (K0 b (1*4) 4 false) (K0 b (2*4) 4 false)=false:=by
   have:¬iJ (K0 b (0*4) 4 false) (K0 b (1*4) 4 false) (K0 b (2*4) 4 false)=true:=hm;simpa using this
  refine cI tOk kG rfl (fun _=>some true) 9 [0,1,3,7,15,31,15,79,207,511,1023] [] rfl (by decide+kernel) (fun bs=>rfl) (fun bs=>?_) (fun bs=>?_)
  ·simp only[hm']
   and_intros<;> (intros;first|exact U3|omega|skip)
  refine H8 tOk kG 60 (fun _=>some true) (fun bs=>rfl) (fun bs=>by and_intros<;> (intros;first|exact U3|omega|skip)) (fun bs=>?_);refine cL rfl rfl ?_ ?_
  ·simp only[hm']
  refine D3 qD 60 (fun _=>none) (fun bs=>?_);have he:gE b=3:=by
   unfold gE;rw[if_neg]
   rintro ⟨a1,a2⟩
   exact hm a2
  refine D8 tOk hM0 rfl rfl ⟨rfl,trivial,trivial⟩ ?_;simp only[gX,he];exact⟨⟨⟨rfl,rfl⟩,⟨rfl,rfl⟩,⟨rfl,rfl⟩,⟨rfl,rfl⟩,trivial⟩,⟨rfl,rfl⟩,trivial⟩
def A8x:C8
 |[.c (.pv (.lst .byt b))]=>some ((b.length≤1000000),false,.t [.g [i64 (gX b).seq,i64 (gX b).start,i64 (gX b).count,.val (.int .u32 (gX b).sum)],.c (i64 (gE b))])
 |_=>none
theorem B2T:F5 Tryz.prog 247 A8x:=by
 intro args pre sh rv h hp;unfold A8x at h;split at h
 ·cases h;have hb:=hp;exact C0g _ hb
 ·cases h
def A0K:FuncId→Option C8:=E0 247 A8x nN
theorem vO:G9 Tryz.prog A0K:=C1 B2T mO
def nO (a b:List UInt8):List jC:=if gE a≠0∧gE b≠0 then[]else if gE b≠0 then[gX a]else if gE a≠0 then[gX b]else if(gX a).seq<(gX b).seq then[gX b,gX a]else[gX a,gX b]
theorem B6G (a b:List UInt8):(nO a b).length≤2:=by unfold nO;(repeat' split)<;> simp
def sL:E4:=⟨T,A0K,A7,A9,48,[],none,.t⟩
theorem B2U:B3 Tryz.prog sL:=⟨vO,A2,A4⟩
theorem aS:F3 Tryz.prog sL:=⟨tOk,B2U⟩
theorem B6H (a:List UInt8) (b:List UInt8) (ha:a.length≤1000000) (hb:b.length≤1000000):aE Tryz.prog 202 false [lst .byt a,lst .byt b] (.o 135 .slt (nO a b)):=by
 refine dF (E:=sL) Tryz.func202 (fun M0 W hM0=>?_);refine D3 aS 60 (fun _=>none) (fun bs=>?_);refine D4 rfl rfl (fun h=>?_) (fun h=>?_)
 ·refine D3 aS 60 (fun _=>none) (fun bs=>?_);have hb:nO a b=[]:=by unfold nO;rw[if_pos (by simpa using h)]
  exact D8 tOk hM0 rfl rfl ⟨trivial,trivial⟩ hb
 have h1:¬(gE a≠0∧gE b≠0):=by simpa using h
 clear h;refine D3 aS 60 (fun _=>none) (fun bs=>?_);refine D4 rfl rfl (fun h=>?_) (fun h=>?_)
 ·refine D3 aS 60 (fun _=>none) (fun bs=>?_);have h2:gE b≠0:=by simpa using h
  refine D8 tOk hM0 rfl rfl ⟨trivial,trivial⟩ ⟨rfl,rfl,rfl,A6 ?_⟩;unfold nO;rw[if_neg h1,if_pos h2]
 have h2:¬gE b≠0:=by simpa using h
 clear h;refine D3 aS 60 (fun _=>none) (fun bs=>?_);refine D4 rfl rfl (fun h=>?_) (fun h=>?_)
 ·refine D3 aS 60 (fun _=>none) (fun bs=>?_);have h3:gE a≠0:=by simpa using h
  refine D8 tOk hM0 rfl rfl ⟨trivial,trivial⟩ ⟨rfl,rfl,rfl,A6 ?_⟩;unfold nO;rw[if_neg h1,if_neg h2,if_pos h3]
 have h3:¬gE a≠0:=by simpa using h
 clear h;refine D3 aS 60 (fun _=>none) (fun bs=>?_);refine I6 rfl rfl (fun h=>?_) (fun h=>?_)
 ·have h4:(gX a).seq<(gX b).seq:=h;refine D3 aS 60 (fun _=>none) (fun bs=>?_);refine D8 tOk hM0 rfl rfl ⟨trivial,trivial⟩ ⟨rfl,rfl,rfl,A6 ?_⟩;unfold nO;rw[if_neg h1,if_neg h2,if_neg h3,if_pos h4]
 ·have h4:¬(gX a).seq<(gX b).seq:=h;refine D3 aS 60 (fun _=>none) (fun bs=>?_);refine D8 tOk hM0 rfl rfl ⟨trivial,trivial⟩ ⟨rfl,rfl,rfl,A6 ?_⟩;unfold nO;rw[if_neg h1,if_neg h2,if_neg h3,if_neg h4]
def A4d:C8
 |[.c (.pv (.lst .byt a)),.c (.pv (.lst .byt b))]=>some ((a.length≤1000000)∧(b.length≤1000000),false,.o 135 .slt (nO a b))
 |_=>none
theorem A8y:F5 Tryz.prog 202 A4d:=by
 intro args pre sh rv h hp;unfold A4d at h;split at h
 ·cases h;obtain⟨ha,hb⟩:=hp;exact B6H _ _ ha hb
 ·cases h
def sM:FuncId→Option C8:=E0 202 A4d A0K
theorem qE:G9 Tryz.prog sM:=C1 A8y vO
theorem C3g {sq st ct sm:Int} (h0:0≤sq∧sq≤4294967295) (h1:0≤st∧st≤4294967295) (h2:0≤ct∧ct≤4294967295) (h3:0≤sm∧sm≤4294967295):gF (slB sq st ct sm)=⟨sq,st,ct,sm⟩:=by
 rw[A8s h0 h1 h2 h3];have g0:=(qB [] (G7 4 false (st.toNat:Nat) 4++G7 4 false (ct.toNat:Nat) 4++G7 4 false (sm.toNat:Nat) 4) 4 false sq.toNat (by omega) (by omega) (by omega)).1;have g4:=(qB (G7 4 false (sq.toNat:Nat) 4) (G7 4 false (ct.toNat:Nat) 4++G7 4 false (sm.toNat:Nat) 4) 4 false st.toNat (by omega) (by omega) (by omega)).1;have g8:=(qB (G7 4 false (sq.toNat:Nat) 4++G7 4 false (st.toNat:Nat) 4) (G7 4 false (sm.toNat:Nat) 4) 4 false ct.toNat (by omega) (by omega) (by omega)).1;have g12:=(qB (G7 4 false (sq.toNat:Nat) 4++G7 4 false (st.toNat:Nat) 4++G7 4 false (ct.toNat:Nat) 4) [] 4 false sm.toNat (by omega) (by omega) (by omega)).1
 have l4:(G7 4 false (sq.toNat:Nat) 4).length=4:=by simp[G7]
 have l8:(G7 4 false (sq.toNat:Nat) 4++G7 4 false (st.toNat:Nat) 4).length=8:=by simp[G7]
 have l12:(G7 4 false (sq.toNat:Nat) 4++G7 4 false (st.toNat:Nat) 4++G7 4 false (ct.toNat:Nat) 4).length=12:=by simp[G7]
 rw[l4]at g4;rw[l8]at g8;rw[l12]at g12;have e0:G7 4 false (sq.toNat:Nat) 4++G7 4 false (st.toNat:Nat) 4++G7 4 false (ct.toNat:Nat) 4++G7 4 false (sm.toNat:Nat) 4=[]++G7 4 false (sq.toNat:Nat) 4++(G7 4 false (st.toNat:Nat) 4++G7 4 false (ct.toNat:Nat) 4++G7 4 false (sm.toNat:Nat) 4):=by simp
 have e4:G7 4 false (sq.toNat:Nat) 4++G7 4 false (st.toNat:Nat) 4++G7 4 false (ct.toNat:Nat) 4++G7 4 false (sm.toNat:Nat) 4=G7 4 false (sq.toNat:Nat) 4++G7 4 false (st.toNat:Nat) 4++(G7 4 false (ct.toNat:Nat) 4++G7 4 false (sm.toNat:Nat) 4):=by simp
 rw[List.append_nil]at g12;generalize hX:G7 4 false (sq.toNat:Nat) 4++G7 4 false (st.toNat:Nat) 4++G7 4 false (ct.toNat:Nat) 4++G7 4 false (sm.toNat:Nat) 4=X at e0 e4 g8 g12;have r0:K0 X 0 4 false=sq:=by
  rw[e0];have g':K0 _ 0 4 false=((sq.toNat:Nat):Int):=g0;exact g'.trans (by omega)
 have r4:K0 X 4 4 false=st:=by
  rw[e4];have g':K0 _ 4 4 false=((st.toNat:Nat):Int):=g4;exact g'.trans (by omega)
 have r8:K0 X 8 4 false=ct:=by
  have g':K0 X 8 4 false=((ct.toNat:Nat):Int):=g8;rw[g'];omega
 have r12:K0 X 12 4 false=sm:=by
  have g':K0 X 12 4 false=((sm.toNat:Nat):Int):=g12;rw[g'];omega
 simp only[gF];rw[r0,r4,r8,r12]
theorem get_put {sq st ct sm:Int} (h:iJ sq st ct=true) (hs:0≤sm∧sm≤4294967295):slL sq st ct sm=slB sq st ct sm∧(slL sq st ct sm).length=16∧gE (slL sq st ct sm)=0∧gX (slL sq st ct sm)=⟨sq,st,ct,sm⟩:=by
 have hm:=qC.1 h;have e:slL sq st ct sm=slB sq st ct sm:=by simp[slL,h]
 have hl:=A4c h hs;have hg:=C3g (sq:=sq) (st:=st) (ct:=ct) (sm:=sm) (by omega) (by omega) (by omega) hs;have he:gE (slB sq st ct sm)=0:=by unfold gE;rw[if_pos ⟨hl,by rw[hg];exact h⟩]
 rw[e];exact⟨rfl,hl,he,by simp only[gX,he,if_true,hg]⟩
def A3O (c:Int):Int:=if B3s .u32 c 1=1 then mS .u32 (c / 2 ^ (1:Int).toNat) 2197175160 else c / 2 ^ (1:Int).toNat
def A0L:Nat→Int→Int
 |0,c=>c
 |n+1,c=>A3O (A0L n c)
def wd (k:Nat):Int:=A0L 4 (IntKind.u32.wrap k)
def tbC (f:Nat→Int) (k:Nat):List C:=(List.range 16).map fun j=> .pv (.val (.int .u32 (if j<k then f j else 0)))
def onC (f:Nat→Int) (d s:Int) (z:Int) (k:Nat):List C:= .pv (.val (.int .u32 d)):: .pv (.val (.int .i32 s)):: .pv (.val (.int .u32 z))::tbC f k
theorem qF (n:Int):0≤IntKind.u32.wrap n∧IntKind.u32.wrap n≤4294967295:=by
 rw[IntKind.wrap_u32];omega
theorem B6I {c:Int} (h:0≤c∧c≤4294967295):0≤A3O c∧A3O c≤4294967295:=by
 unfold A3O;split
 ·exact qF _
 ·simp;omega
theorem B6J {c:Int} (h:0≤c∧c≤4294967295):∀n,0≤A0L n c∧A0L n c≤4294967295:=by
 intro n
 induction n with
 |zero=>exact h
 |succ n ih=>exact B6I ih
def cF (b bx:Nat) (cs:List C):List HB:=[.blk b 382 cs,.blk bx 403 [.ptr 0 b 0]]
def sN:E4:=⟨T,bG,I0,A9,27,[],none,.f⟩
theorem B2V:B3 Tryz.prog sN:=⟨O7,E6,A4⟩
theorem H9:F3 Tryz.prog sN:=⟨tOk,B2V⟩
theorem C4r (b bx:Nat) (s:Int) (z:Int):C5 Tryz.prog 274 [.c (.ptr 1 bx 0)] (cF b bx (onC wd 0 s z 0)) (fun _=>True) (fun _:Unit=> .t []) (fun _=>cF b bx (onC wd 0 s z 16)):=by
 refine I4 (E:=sN) Tryz.func274 (fun M0 W hM0=>?_);refine A3 H9 [] (fun bs=>?_);refine V3 (fun k:Nat=>[(0,.c (.ptr 1 bx 0)),(4,int .i64 k)]) (fun k=>[.blk b 382 (onC wd 0 s z k),.blk bx 403 [.ptr 0 b 0]]) (fun k=>k≤16) (fun k=>16-k) [0,1] 0 (Nat.zero_le _) (fun k hk=>?_);refine A3 H9 [] (fun bs=>?_);refine I6 rfl rfl (fun h=>?_) (fun h=>?_)
 ·have hk':k<16:=by omega
  refine A3 H9 [] (fun bs=>?_);refine V3 (fun n:Nat=>[(0,.c (.ptr 1 bx 0)),(1,int .i64 k),(4,int .i64 k),(2,int .u32 (A0L n (IntKind.u32.wrap k))),(9,int .i64 n)]) (fun n=>[.blk b 382 (onC wd 0 s z k),.blk bx 403 [.ptr 0 b 0]]) (fun n=>n≤4) (fun n=>4-n) [0,1] 0 (Nat.zero_le _) (fun n hn=>?_);have hi:=B6J (qF k) n;refine A3 H9 [] (fun bs=>?_);refine I6 rfl rfl (fun h2=>?_) (fun h2=>?_)
  ·have hn':n<4:=by omega
   refine A3 H9 [] (fun bs=>?_);refine D4 rfl rfl (fun h3=>?_) (fun h3=>?_)
   ·refine A3 H9 [] (fun bs=>?_);refine G8 [0,1] (n+1) ⟨hn',by omega⟩ ?wk1
    case wk1=>
     and_intros<;> (first|exact wk_|refine A6 ?_|skip)
     all_goals(simp only[A0L,A3O];rw[if_pos (by simpa using h3)])
   ·refine A3 H9 [] (fun bs=>?_);refine G8 [0,1] (n+1) ⟨hn',by omega⟩ ?wk2
    case wk2=>
     and_intros<;> (first|exact wk_|refine A6 ?_|skip)
     all_goals(simp only[A0L,A3O];rw[if_neg (by simpa using h3)])
  ·have hn':n=4:=by omega
   subst hn';have hc:k=0∨k=1∨k=2∨k=3∨k=4∨k=5∨k=6∨k=7∨k=8∨k=9∨k=10∨k=11∨k=12∨k=13∨k=14∨k=15:=by omega
   rcases hc with rfl|rfl|rfl|rfl|rfl|rfl|rfl|rfl|rfl|rfl|rfl|rfl|rfl|rfl|rfl|rfl
   ·refine A3 H9 [] (fun bs=>?_);exact H3 [0,1] 1 ⟨by decide,by decide⟩
   ·refine A3 H9 [] (fun bs=>?_);exact H3 [0,1] 2 ⟨by decide,by decide⟩
   ·refine A3 H9 [] (fun bs=>?_);exact H3 [0,1] 3 ⟨by decide,by decide⟩
   ·refine A3 H9 [] (fun bs=>?_);exact H3 [0,1] 4 ⟨by decide,by decide⟩
   ·refine A3 H9 [] (fun bs=>?_);exact H3 [0,1] 5 ⟨by decide,by decide⟩
   ·refine A3 H9 [] (fun bs=>?_);exact H3 [0,1] 6 ⟨by decide,by decide⟩
   ·refine A3 H9 [] (fun bs=>?_);exact H3 [0,1] 7 ⟨by decide,by decide⟩
   ·refine A3 H9 [] (fun bs=>?_);exact H3 [0,1] 8 ⟨by decide,by decide⟩
   ·refine A3 H9 [] (fun bs=>?_);exact H3 [0,1] 9 ⟨by decide,by decide⟩
   ·refine A3 H9 [] (fun bs=>?_);exact H3 [0,1] 10 ⟨by decide,by decide⟩
   ·refine A3 H9 [] (fun bs=>?_);exact H3 [0,1] 11 ⟨by decide,by decide⟩
   ·refine A3 H9 [] (fun bs=>?_);exact H3 [0,1] 12 ⟨by decide,by decide⟩
   ·refine A3 H9 [] (fun bs=>?_);exact H3 [0,1] 13 ⟨by decide,by decide⟩
   ·refine A3 H9 [] (fun bs=>?_);exact H3 [0,1] 14 ⟨by decide,by decide⟩
   ·refine A3 H9 [] (fun bs=>?_);exact H3 [0,1] 15 ⟨by decide,by decide⟩
   ·refine A3 H9 [] (fun bs=>?_);exact H3 [0,1] 16 ⟨by decide,by decide⟩
 ·have hk':k=16:=by omega
  subst hk';refine A3 H9 [] (fun bs=>?_);exact Z5 H9 () trivial [0,1]
section
open Go.RowKit
theorem disable (w:World):(callFunc 316 #[]).run Tryz.prog w= .ok (.value (.tuple #[])) w:=run_call_mark0 Tryz.func316 (by kernel_rfl) (by kernel_rfl) (by kernel_rfl) .disable (by kernel_rfl) w
theorem enable (w:World):(callFunc 318 #[]).run Tryz.prog w= .ok (.value (.tuple #[])) w:=run_call_mark0 Tryz.func318 (by kernel_rfl) (by kernel_rfl) (by kernel_rfl) .enable (by kernel_rfl) w
theorem acquire (a:Addr) (w:World):(callFunc 319 #[.pointer (some a)]).run Tryz.prog w= .ok (.value (.tuple #[])) w:=run_call_marked Tryz.func319 (by kernel_rfl) (by kernel_rfl) (by kernel_rfl) .acquire (by kernel_rfl) a w
theorem releaseMerge (a:Addr) (w:World):(callFunc 321 #[.pointer (some a)]).run Tryz.prog w= .ok (.value (.tuple #[])) w:=run_call_marked Tryz.func321 (by kernel_rfl) (by kernel_rfl) (by kernel_rfl) .releaseMerge (by kernel_rfl) a w
theorem A0M (a:Addr) (x:Value) (u:FrameMode) (w:World) (hc:w.cell? a=some x) (hz:w.frozen? a=false):
 CallsD Tryz.prog 306 #[.pointer (some a),.bool true] u w fun e u' w'=>u'=u∧(e= .returned (.tuple #[])∧w'=w.drew.setCell a (.int .u32 1)):=by
 have hc':w.drew.cell? a=some x:=by go_simp
 have hz':w.drew.frozen? a=false:=by go_simp
 have hst:=run_call_store (P:=Tryz.prog) Tryz.func313 (by kernel_rfl) (by kernel_rfl) (by kernel_rfl) (by kernel_rfl) (k:= .u32) (y:=1) hc' hz'
 go_enter_d Tryz.func306,Tryz.ntmps306
 go_wp2
 go_region_calls
 all_goals(go_end0;exact⟨rfl,rfl⟩)
set_option maxRecDepth 100000 in
set_option maxHeartbeats 1600000 in
theorem wB (a:Addr) (u:FrameMode) (w:World) (hc:w.cell? a=some (.int .i32 1)) (hz:w.frozen? a=false):
 CallsD Tryz.prog 305 #[.pointer (some a)] u w fun e u' w'=>u'=u∧(e= .returned (.tuple #[])∧w'=w.setCell a (.int .i32 0)):=by
 have hd:=disable;have he:=enable;have hr:=releaseMerge;have hadd:=run_call_add (P:=Tryz.prog) Tryz.func322 (by kernel_rfl) (by kernel_rfl) (by kernel_rfl) .i32 (by kernel_rfl) (y:= -1) (s:=0) hc hz (by simp[go_sem];rfl);have hcv:=run_convert_to_unsafe (P:=Tryz.prog) (src:=445) (dst:=449) Tryz.underlying445 Tryz.underlying449 (by kernel_rfl) hc
 go_enter_d Tryz.func305,Tryz.ntmps305
 go_wp2
 go_end0
 go_wp2
 go_end0
 exact⟨rfl,rfl⟩
set_option maxRecDepth 100000 in
set_option maxHeartbeats 1600000 in
theorem B2W (a:Addr) (w:World) (hc:w.cell? a=some (.int .i32 0)) (hz:w.frozen? a=false):
 Calls Tryz.prog 304 #[.pointer (some a)] w fun e w'=>e= .returned (.tuple #[])∧w'=w.setCell a (.int .i32 1):=by
 have hd:=disable;have he:=enable;have ha:=acquire;have hcas:=run_call_cas_hit (P:=Tryz.prog) Tryz.func317 (by kernel_rfl) (by kernel_rfl) (by kernel_rfl) .i32 (by kernel_rfl) (y:=1) hc hz;have hc':(w.setCell a (.int .i32 1)).cell? a=some (.int .i32 1):=World.cell?_setCell_same w a _ hc;have hcv:=run_convert_to_unsafe (P:=Tryz.prog) (src:=445) (dst:=449) Tryz.underlying445 Tryz.underlying449 (by kernel_rfl) hc'
 go_enter Tryz.func304,Tryz.ntmps304
 go_wp2
 first|go_end0|(simp only[Exit.inBlock,Exit.then];refine bodyPost_ret (results_none rfl _ _ _) rfl ?_)|refine bodyPost_ret (results_none rfl _ _ _) rfl ?_
 go_wp2
 go_end0
 exact⟨rfl,rfl⟩
structure C2P (b:Nat) (w1:World):Prop where
 c0:w1.cell? ⟨b,0,none⟩=some (.int .u32 0)
 c1:w1.cell? ⟨b,1,none⟩=some (.int .i32 1)
 z0:w1.frozen? ⟨b,0,none⟩=false
 z1:w1.frozen? ⟨b,1,none⟩=false
set_option maxRecDepth 100000 in
set_option maxHeartbeats 1600000 in
theorem B6K (b bx:Nat) (w:World) (Post:World→Prop) (hP:∀w1,Post w1→C2P b w1)
 (h0:w.cell? ⟨b,0,none⟩=some (.int .u32 0)) (h1:w.cell? ⟨b,1,none⟩=some (.int .i32 0)) (f0:w.frozen? ⟨b,0,none⟩=false) (f1:w.frozen? ⟨b,1,none⟩=false)
 (hf:Calls Tryz.prog 274 #[.pointer (some ⟨bx,0,none⟩)] (w.setCell ⟨b,1,none⟩ (.int .i32 1)) fun e w'=>e= .returned (.tuple #[])∧Post w'):
 Calls Tryz.prog 291 #[.pointer (some ⟨b,0,none⟩),.func (.func 274) #[] #[.pointer (some ⟨bx,0,none⟩)]] w fun e w'=>e= .returned (.tuple #[])∧
  ∃w1,Post w1∧w'=(w1.drew.setCell ⟨b,0,none⟩ (.int .u32 1)).setCell ⟨b,1,none⟩ (.int .i32 0):=by
 have hl:=run_call_load (P:=Tryz.prog) Tryz.func303 (by kernel_rfl) (by kernel_rfl) (by kernel_rfl) .u32 (by kernel_rfl) (w:=w.setCell ⟨b,1,none⟩ (.int .i32 1)) (a:=⟨b,0,none⟩) (x:=0) ((World.cell?_setCell_other _ ⟨b,1,none⟩ ⟨b,0,none⟩ _ (by simp)).trans h0);have hnot:∀(x:Bool) (w:World),(Op.unary .not (.bool x)).run Tryz.prog w= .ok (.bool (!x)) w:=fun _ _=>rfl
 go_enter_defers Tryz.func291,Tryz.ntmps291
 go_wp2_with (first|(go_at_call 304;refine(B2W ⟨b,1,none⟩ _ (by simpa using h1) (by simpa using f1)).mono ?_;rintro e w' ⟨rfl,rfl⟩)|(go_at_call 274;refine hf.mono ?_;rintro e w1 ⟨rfl,hp⟩)|(go_at_call 290;go_in))
 go_wp2
 have hq:=hP _ hp;refine leaves_cons (f:=306) (args:= #[.pointer (some ⟨b,0,none⟩),.bool true]) (by simp) (by simp[go_sem]) ?_;refine(A0M ⟨b,0,none⟩ (.int .u32 0) .returning _ hq.c0 hq.z0).mono ?_
 rintro e u' w'' ⟨rfl,rfl,rfl⟩
 refine leaves_cons (f:=305) (args:= #[.pointer (some ⟨b,1,none⟩)]) (by simp[settle]) (by simp[go_sem]) ?_;refine(wB ⟨b,1,none⟩ _ _ ?_ (by simp[hq.z1])).mono ?_
 ·refine(World.cell?_setCell_other _ ⟨b,0,none⟩ ⟨b,1,none⟩ _ (by simp)).trans ?_;rw[World.cell?_drew];exact hq.c1
 rintro e u' w'' ⟨rfl,rfl,rfl⟩
 simp[Leaves,settle,results,Tryz.results291];exact⟨_,hp,rfl⟩
set_option maxRecDepth 100000 in
set_option maxHeartbeats 1600000 in
theorem B6L (b bx:Nat) (w:World) (Post:World→Prop) (hP:∀w1,Post w1→C2P b w1)
 (h0:w.cell? ⟨b,0,none⟩=some (.int .u32 0)) (h1:w.cell? ⟨b,1,none⟩=some (.int .i32 0)) (f0:w.frozen? ⟨b,0,none⟩=false) (f1:w.frozen? ⟨b,1,none⟩=false)
 (hf:Calls Tryz.prog 274 #[.pointer (some ⟨bx,0,none⟩)] (w.setCell ⟨b,1,none⟩ (.int .i32 1)) fun e w'=>e= .returned (.tuple #[])∧Post w'):
 Calls Tryz.prog 273 #[.pointer (some ⟨b,0,none⟩),.func (.func 274) #[] #[.pointer (some ⟨bx,0,none⟩)]] w fun e w'=>e= .returned (.tuple #[])∧
  ∃w1,Post w1∧w'=(w1.drew.setCell ⟨b,0,none⟩ (.int .u32 1)).setCell ⟨b,1,none⟩ (.int .i32 0):=by
 have hl:=run_call_load (P:=Tryz.prog) Tryz.func303 (by kernel_rfl) (by kernel_rfl) (by kernel_rfl) .u32 (by kernel_rfl) h0;have hnot:∀(x:Bool) (w:World),(Op.unary .not (.bool x)).run Tryz.prog w= .ok (.bool (!x)) w:=fun _ _=>rfl
 go_enter Tryz.func273,Tryz.ntmps273
 go_wp2_with (first|(go_at_call 291;refine(B6K b bx _ Post hP h0 h1 f0 f1 hf).mono ?_;rintro e w' ⟨rfl,hw⟩)|(go_at_call 290;go_in))
 go_end0
 exact⟨rfl,hw⟩
theorem C0h (a:Addr) (d:Int) (hd:¬d=0) (fv:Value) (w:World) (h0:w.cell? a=some (.int .u32 d)):
 Calls Tryz.prog 273 #[.pointer (some a),fv] w fun e w'=>e= .returned (.tuple #[])∧w'=w:=by
 have hl:=run_call_load (P:=Tryz.prog) Tryz.func303 (by kernel_rfl) (by kernel_rfl) (by kernel_rfl) .u32 (by kernel_rfl) h0;have hnot:∀(x:Bool) (w:World),(Op.unary .not (.bool x)).run Tryz.prog w= .ok (.bool (!x)) w:=fun _ _=>rfl
 have hd':(d !=0)=true:=by simp[hd]
 go_enter Tryz.func273,Tryz.ntmps273
 go_wp2
 go_end0
 exact⟨rfl,rfl⟩
end
section
open Go.RowKit
section
variable {B : Nat → Prop} {W w w' : World} {H : Nat → Option HB} {M : B8}
theorem A4e (hS:E2 B W H M w) {n b o:Nat} {ty:TypeId} {cs:List C} (hn:H n=some (.blk b ty cs)) (ho:o<cs.length) {c:PV} {v:Value} (hv:R M c v):E2 B W (D7 H n (some (.blk b ty (cs.set o (.pv c))))) M (w.setCell ⟨b,o,none⟩ v):=by
 obtain⟨q1,q2,us,q3,q4⟩:=hS.ok n _ hn;have hul:o<us.size:=by have:=q4.1;simp at this;omega
 rw[setCell_eq_setRow w b o us ty (0,0) v q3];refine hS.step (row:=some b) (J0 w b _) (fun b' hb'=>by cases hb';exact⟨q1,q2⟩) (nn:=n) (xx:= .blk b ty (cs.set o (.pv c))) (fun m x hm hx=>?_) (B7 _ _ _) ⟨q1,q2,us.setIfInBounds o v,?_,?_⟩ (fun b' hb'=> .inr hb')
 ·rw[C2 _ _ hm]at hx;exact⟨hx,fun b' hb'=>by cases hb';exact hS.inj n m _ x b (fun e=>hm e.symm) hn hx rfl⟩
 ·exact setRow_heap w b _ _ _ _ q3
 ·refine⟨by simpa using q4.1,fun j c' u e1 e2=>?_⟩;rw[List.getElem?_set]at e1;simp only[Array.toList_setIfInBounds,List.getElem?_set]at e2;by_cases hj:o=j
  ·subst hj;have:o<us.toList.length:=by simpa using hul
   rw[if_pos rfl,if_pos ho]at e1;rw[if_pos rfl,if_pos this]at e2;cases e2;cases e1;exact .pv hv
  ·simp only[hj,if_false]at e1 e2;exact q4.2 j c' u e1 e2
theorem C3h (hS:E2 B W H M w):E2 B w H M w:=⟨.refl B w,hS.base,hS.mem,hS.ok,hS.inj⟩
theorem B6M (hS:E2 B w' H M w) (h:I9 B W w'):E2 B W H M w:=⟨h.trans hS.below,hS.base,hS.mem,hS.ok,hS.inj⟩
theorem kH {b o:Nat} {ty:TypeId} {cs:List C} (h:W6 M B w (.blk b ty cs)) {v:Value} (hc:cs[o]? =some (.pv (.val v))):w.cell? ⟨b,o,none⟩=some v∧w.frozen? ⟨b,o,none⟩=false:=by
 obtain⟨q1,q2,us,q3,q4⟩:=h;have hol:o<cs.length:=(gS_.1 hc).1;have hul:o<us.size:=by have:=q4.1;simp at this;omega
 have h0:us[o]? =some us[o]:=Array.getElem?_eq_getElem hul;have h1:=q4.2 o _ us[o] hc (by rw[Array.getElem?_toList];exact h0);cases h1 with|pv r=>
 rw[r.val_eq]at h0;exact⟨by simp[World.cell?,q3,h0],by simp[World.frozen?,q3]⟩
end
theorem A4f {b bx:Nat} {cs cs':List C}:D7 (X4 (cF b bx cs)) 0 (some (.blk b 382 cs'))=X4 (cF b bx cs'):=by
 funext n
 match n with
 |0=>rfl
 |1=>rfl
 |n+2=>rfl
theorem C0i {b bx k:Nat} {cs:List C}:(∀(j:Nat) (h:HB),(cF b bx cs)[j]? =some h→¬h.has k)↔(b≠k∧bx≠k):=by
 constructor
 ·intro h;exact⟨fun e=>h 0 _ rfl (congrArg some e),fun e=>h 1 _ rfl (congrArg some e)⟩
 ·intro⟨h1,h2⟩ j h e hb
  match j,e with
  |0,e=>cases e;exact h1 (Option.some.inj hb)
  |1,e=>cases e;exact h2 (Option.some.inj hb)
theorem World.setCell_heap_size (w:World) (a:Addr) (v:Value):(w.setCell a v).heap.size=w.heap.size:=by
 simp[World.setCell]
def C2Q (f:Nat→Int) (dn:Bool):List C:=match dn with|true=>onC f 1 0 0 16|false=>onC f 0 0 0 0
theorem C2R (f:Nat→Int) (hf:f=wd) (b bx:Nat) (dn:Bool):C5 Tryz.prog 273 [.c (.ptr 0 b 0),.c (.clo 274 [.ptr 1 bx 0])] (cF b bx (C2Q f dn))
 (fun _:Unit=>True) (fun _=> .t []) (fun _=>cF b bx (onC f 1 0 0 16)):=by
 subst hf;refine⟨⟨_,Tryz.func273,rfl,by decide⟩,fun M w vs hS hra=>?_⟩;obtain⟨vs⟩:=vs;obtain⟨h1,h2⟩:=hra
 match vs,h1,h2 with
 |[u0,u1],h1,h2=>
  have e0:=h2 0 _ u0 rfl rfl;have e1:=h2 1 _ u1 rfl rfl;cases e0 with|c e0=>cases e0 with|ptr=>
  cases e1 with|c e1=>
  cases e1 with| @clo _ _ us hs hh=>
  obtain⟨us⟩:=us
  match us,hs,hh with
  |[p],hs,hh=>
  have hp:=hh 0 _ p rfl rfl;cases hp with|ptr=>
  cases dn with
  |true=>
   have hb0:=kH (o:=0) (hS.ok 0 _ rfl) rfl;refine(C0h ⟨b,0,none⟩ 1 (by decide) _ w hb0.1).mono fun e w' ⟨he,hw⟩=>⟨_,M,(),he,B8.ext_refl _ _,trivial,.t rfl (by simp),?_⟩
   subst hw;exact hS
  |false=>
   change E2 (jJ w (cF b bx (onC wd 0 0 0 0))) w (X4 (cF b bx (onC wd 0 0 0 0))) M w at hS
   have hb0:=kH (o:=0) (hS.ok 0 _ rfl) rfl;have hb1:=kH (o:=1) (hS.ok 0 _ rfl) rfl;have k1:E2 (jJ w (cF b bx (onC wd 0 0 0 0))) w (X4 (cF b bx (onC wd 0 1 0 0))) M (w.setCell ⟨b,1,none⟩ (.int .i32 1)):=by
    have:=A4e hS (n:=0) (o:=1) rfl (by simp[onC,tbC]) (c:= .val (.int .i32 1)) (v:= .int .i32 1) (.val rfl)
    rwa [A4f]at this
   have hfr:jJ (w.setCell ⟨b,1,none⟩ (.int .i32 1)) (cF b bx (onC wd 0 1 0 0))=jJ w (cF b bx (onC wd 0 0 0 0)):=by
    funext k
    simp only[jJ,C0i,World.setCell_heap_size]
   have k2:=C3h k1;rw[←hfr]at k2;have hc:=(C4r b bx 1 0).2 M _ #[.pointer (some ⟨bx,0,none⟩)] k2 ⟨rfl,fun j a v q1 q2=>by
    match j,q1,q2 with
    |0,q1,q2=>cases q1;cases q2;exact .c .ptr⟩
   rw[hfr]at hc;refine(B6L b bx w (fun w1=>∃M',B8.ext (jJ w (cF b bx (onC wd 0 0 0 0))) M M'∧E2 (jJ w (cF b bx (onC wd 0 0 0 0))) (w.setCell ⟨b,1,none⟩ (.int .i32 1)) (X4 (cF b bx (onC wd 0 1 0 16))) M' w1) (fun w1 ⟨M',_,hq⟩=>?_) hb0.1 hb1.1 hb0.2 hb1.2 (hc.mono fun e w1 ⟨v,M',_,he,hm,_,hv,hq⟩=>⟨?_,M',hm,hq⟩)).mono fun e w' ⟨he,w1,⟨M',hm,hq⟩,hw⟩=>⟨_,M',(),he,hm,trivial,.t rfl (by simp),?_⟩
   ·have c0:=kH (o:=0) (hq.ok 0 _ rfl) rfl;have c1:=kH (o:=1) (hq.ok 0 _ rfl) rfl;exact⟨c0.1,c1.1,c0.2,c1.2⟩
   ·cases hv with| @t _ us hs _=>
    obtain⟨us⟩:=us
    match us,hs with
    |[],_=>exact he
   ·have h0:I9 (jJ w (cF b bx (onC wd 0 0 0 0))) w (w.setCell ⟨b,1,none⟩ (.int .i32 1)):=k1.below;have q1:=A4e (hq.drew') (n:=0) (o:=0) rfl (by simp[onC,tbC]) (c:= .val (.int .u32 1)) (v:= .int .u32 1) (.val rfl);rw[A4f]at q1;have q2:=A4e q1 (n:=0) (o:=1) rfl (by simp[onC,tbC]) (c:= .val (.int .i32 0)) (v:= .int .i32 0) (.val rfl);rw[A4f]at q2;rw[hw];exact B6M q2 h0
def B2X (f:Nat→Int) (c:Int):Int:=f (c%16).toNat
def C4s (f:Nat→Int) (c:Int):Int:=mS .u32 (B2X f c) (c / 2 ^ (4:Int).toNat)
def C4t (f:Nat→Int) (c:Int) (x:UInt8):Int:=C4s f (C4s f (mS .u32 c (IntKind.u32.wrap x.toNat)))
def B2Y (f:Nat→Int) (c:Int) (l:Bs) (n:Nat):Int:=(l.take n).foldl (C4t f) c
theorem B6N {f:Nat→Int} {c d s z:Int} (hc:0≤c∧c≤4294967295):(onC f d s z 16)[3+(c%16).toNat*1]? =some (.pv (.val (.int .u32 (B2X f c)))):=by
 have h:(c%16).toNat<16:=by omega
 rw[show 3+(c%16).toNat*1=(c%16).toNat+1+1+1 by omega];simp only[onC,List.getElem?_cons_succ,tbC,List.getElem?_map,List.getElem?_range h,Option.map_some,B2X,if_pos h]
def C0j (f:Nat→Int) (b:Nat):Ob Bool:=⟨fun _=>True,fun dn=>[.blk b 382 (C2Q f dn)]⟩
abbrev C3i (f:Nat→Int) (b:Nat) (S:Nat→Prop):HB:=ThO (C0j f b) S
def sO:E4:=⟨T,bG,I0,A9,17,[],none,.f⟩
theorem sP:B3 Tryz.prog sO:=⟨O7,E6,A4⟩
theorem Y2:F3 Tryz.prog sO:=⟨tOk,sP⟩
theorem C2S (f:Nat→Int) (hf:f=wd) (b:Nat) (S:Nat→Prop) (c:Int) (hc:0≤c∧c≤4294967295):C5 Tryz.prog 254 [.c (.ptr 0 b 0),int .u32 c] [C3i f b S] (fun _=>True) (fun _:Nat→Prop=>int .u32 (B2X f c)) (fun S=>[C3i f b S]):=by
 refine I4 (E:=sO) Tryz.func254 (fun M0 W hM0=>?_);refine N1 0 (fun dn _=>?_);cases dn with
 |true=>
  refine A3 Y2 [] (fun bs=>?_);refine A5 [0,1] (C2R f hf b _ true) (fun _ _=>?_);refine D3 Y2 3 (fun _=>none) (fun bs=>?_);refine C2I tOk sP 6 (fun _=>none) rfl rfl rfl (fun bs=>rfl) (fun bs=>?_) (fun bs=>?_)
  ·and_intros<;> (intros;first|exact U3|omega|skip)
  refine C2L 0 (.pv (.val (.int .u32 (B2X f c)))) Y2 (B6N hc) ?_;refine A3 Y2 [] (fun bs=>?_);refine J7 0 (C0j f b) [0] true trivial (fun S'=>?_);exact B6 Y2 S' trivial [0]
 |false=>
  refine A3 Y2 [] (fun bs=>?_);refine A5 [0,1] (C2R f hf b _ false) (fun _ _=>?_);refine D3 Y2 3 (fun _=>none) (fun bs=>?_);refine C2I tOk sP 6 (fun _=>none) rfl rfl rfl (fun bs=>rfl) (fun bs=>?_) (fun bs=>?_)
  ·and_intros<;> (intros;first|exact U3|omega|skip)
  refine C2L 0 (.pv (.val (.int .u32 (B2X f c)))) Y2 (B6N hc) ?_;refine A3 Y2 [] (fun bs=>?_);refine J7 0 (C0j f b) [0] true trivial (fun S'=>?_);exact B6 Y2 S' trivial [0]
theorem B2Z (f:Nat→Int) (c:Int) {l:Bs} {n:Nat} (h:n<l.length) (d:UInt8):B2Y f c l (n+1)=C4t f (B2Y f c l n) (l.getD n d):=by
 unfold B2Y;have e:l.take (n+1)=l.take n++[l.getD n d]:=by rw[List.take_add_one,List.getD,gE_ h];rfl
 rw[e,List.foldl_append];rfl
def bJ (f:Nat→Int) (s:Int) (b:Bs):Int:=mS .u32 IntKind.u32.max (B2Y f (mS .u32 IntKind.u32.max s) b b.length)
theorem B0c (f:Nat→Int) (s:Int) (b:Bs):0≤bJ f s b∧bJ f s b≤4294967295:=qF _
def A0N:E4:=⟨T,sM,A7,A9,34,[],none,.t⟩
theorem B6O:B3 Tryz.prog A0N:=⟨qE,A2,A4⟩
theorem fA:F3 Tryz.prog A0N:=⟨tOk,B6O⟩
theorem C0k (sum:Int) (b:List UInt8) (hb:b.length≤1000000000):aE Tryz.prog 207 false [int .u32 sum,lst .byt b] (.x (.c (.val (.int .u32 (bJ wd sum b))))):=by
 refine dF (E:=A0N) Tryz.func207 (fun M0 W hM0=>?_);obtain⟨f,hf⟩:∃f,f=wd:=⟨_,rfl⟩
 rw[show bJ wd sum b=bJ f sum b by rw[hf]];refine A3 fA [] (fun bs=>?_);refine C2M ?_;refine A3 fA [] (fun bs=>?_);refine J7 0 (C0j f _) [0] false trivial (fun S1=>?_);refine V3 (fun p:Nat×Nat×(Nat→Prop)=>[(1,lst .byt b),(5,.c (.ptr 0 p.2.1 0)),(6,int .u32 (B2Y f (mS .u32 IntKind.u32.max sum) b p.1)),(11,lst .byt b),(12,int .i64 b.length),(13,int .i64 p.1)]) (fun p=>[C3i f p.2.1 p.2.2]) (fun p=>p.1≤b.length) (fun p=>b.length-p.1) [0] (0,_,S1) (Nat.zero_le _) (fun p hp=>?_);obtain⟨i,bb,S⟩:=p;simp only at hp;refine A3 fA [] (fun bs=>?_);refine I6 rfl rfl (fun hk=>?_) (fun hk=>?_)
 ·have hk':i<b.length:=by omega
  refine A3 fA [] (fun bs=>?_);refine A5 [0] (C2S f hf bb S (mS .u32 (B2Y f (mS .u32 IntKind.u32.max sum) b i) (IntKind.u32.wrap (b.getD i LK.byt.dft).toNat)) (qF _)) (fun S2 _=>?_);refine A3 fA [] (fun bs=>?_);refine A5 [0] (C2S f hf bb S2 _ (qF _)) (fun S3 _=>?_);refine A3 fA [] (fun bs=>?_);refine G8 [0] (i+1,bb,S3) ⟨hk',by simp only;omega⟩ ?wk1
  case wk1=>
   and_intros<;> (first|exact wk_|refine A6 ?_|skip)
   all_goals(rw[B2Z f _ hk' LK.byt.dft];rfl)
 ·have hk':i=b.length:=by omega
  subst hk';refine A3 fA [] (fun bs=>?_);refine C2M ?_;refine A3 fA [] (fun bs=>?_);exact D8 tOk hM0 rfl rfl ⟨trivial,trivial⟩ ⟨rfl,rfl⟩
def A8z:C8
 |[.c (.pv (.val (.int .u32 sum))),.c (.pv (.lst .byt b))]=>some ((b.length≤1000000000),false,.x (.c (.val (.int .u32 (bJ wd sum b)))))
 |_=>none
theorem B2a:F5 Tryz.prog 207 A8z:=by
 intro args pre sh rv h hp;unfold A8z at h;split at h
 ·cases h;have hb:=hp;exact C0k _ _ hb
 ·cases h
def A0O:FuncId→Option C8:=E0 207 A8z sM
theorem vP:G9 Tryz.prog A0O:=C1 B2a qE
def A0P:E4:=⟨T,A0O,A7,A9,5,[],none,.t⟩
theorem B6P:B3 Tryz.prog A0P:=⟨vP,A2,A4⟩
theorem C0l:F3 Tryz.prog A0P:=⟨tOk,B6P⟩
theorem C0m (b:List UInt8) (hb:b.length≤1000000000):aE Tryz.prog 120 false [lst .byt b] (.x (.c (.val (.int .u32 (bJ wd 0 b))))):=by
 refine dF (E:=A0P) Tryz.func120 (fun M0 W hM0=>?_);refine A3 C0l [] (fun bs=>?_);exact D8 tOk hM0 rfl rfl ⟨trivial,trivial⟩ ⟨rfl,rfl⟩
def A9A:C8
 |[.c (.pv (.lst .byt b))]=>some ((b.length≤1000000000),false,.x (.c (.val (.int .u32 (bJ wd 0 b)))))
 |_=>none
theorem B2b:F5 Tryz.prog 120 A9A:=by
 intro args pre sh rv h hp;unfold A9A at h;split at h
 ·cases h;have hb:=hp;exact C0m _ hb
 ·cases h
def aT:FuncId→Option C8:=E0 120 A9A A0O
theorem R3:G9 Tryz.prog aT:=C1 B2b vP
end
def b8 (n:Nat):UInt8:=UInt8.ofNat n
def V7 (n:Nat):Bs:=if n<15 then[]else List.replicate ((n-15) / 255) 255++[b8 ((n-15)%255)]
def jI (l n:Nat):UInt8:=b8 (min l 15*16+(if n=0 then 0 else min (n-4) 15))
def qG (p:Bs) (d n:Nat):Bs:=jI p.length n::(V7 p.length++p++(if n=0 then[]else b8 d::b8 (d / 256)::V7 (n-4)))
def A0Q:E4:=⟨T,aT,A7,A9,22,[],none,.f⟩
theorem B6Q:B3 Tryz.prog A0Q:=⟨R3,A2,A4⟩
theorem fB:F3 Tryz.prog A0Q:=⟨tOk,B6Q⟩
theorem C3j (v:Value) (l:Bs) (n:Nat) (hn:n≤1000000000) (hl:l.length≤1000000000):C5 Tryz.prog 307 [.c (.own 0 v),int .i64 n] [.own v 5 .byt l] (fun _=>True) (fun v':Value=> .c (.own 0 v')) (fun v'=>[.own v' 5 .byt (l++V7 n)]):=by
 refine I4 (E:=A0Q) Tryz.func307 (fun M0 W hM0=>?_);refine A3 fB [] (fun bs=>?_);refine I6 rfl rfl (fun h=>?_) (fun h=>?_)
 ·have e:V7 n=[]:=by unfold V7;rw[if_pos (by omega)]
  rw[e,List.append_nil];refine A3 fB [] (fun bs=>?_);exact B6 fB v trivial [0]
 ·have hn15:15≤n:=by omega
  have e:V7 n=List.replicate ((n-15) / 255) 255++[b8 ((n-15)%255)]:=by unfold V7;rw[if_neg (by omega)]
  refine A3 fB [] (fun bs=>?_);refine V3 (fun p:Nat×Value=>[(0,.c (.own 0 p.2)),(1,int .i64 ((n-15-255*p.1:Nat):Int))]) (fun p=>[.own p.2 5 .byt (l++List.replicate p.1 255)]) (fun p=>p.1≤(n-15) / 255) (fun p=>(n-15) / 255-p.1) [0] (0,v) (Nat.zero_le _) (fun p hp=>?_);obtain⟨j,v1⟩:=p;simp only at hp;refine A3 fB [] (fun bs=>?_);refine I6 rfl rfl (fun hk=>?_) (fun hk=>?_)
  ·have hj:j<(n-15) / 255:=by omega
   refine A3 fB [] (fun bs=>?_);refine G8 [2] (j+1,?vn) ?ok1 ?wk1
   case ok1=>exact⟨hj,by simp only;omega⟩
   case wk1=>
    and_intros<;> (first|exact wk_|refine A6 ?_|skip)
    all_goals first|(simp;omega)|(rw[List.replicate_succ',←List.append_assoc];rfl)
  ·have hj:j=(n-15) / 255:=by omega
   subst hj;have hw:IntKind.u8.wrap ((n-15-255*((n-15) / 255):Nat):Int)=(((n-15)%255:Nat):Int):=by rw[IntKind.wrap_u8];omega
   have h1:=uT ((n-15-255*((n-15) / 255):Nat):Int);have h2:=uU ((n-15-255*((n-15) / 255):Nat):Int);refine A3 fB [] (fun bs=>?_);refine B6 fB ?v3 trivial [2] (hl:=?hl)
   case hl=>
    and_intros<;> (first|exact wk_|refine A6 ?_|skip)
    all_goals(rw[e,←List.append_assoc];exact congrArg (fun t=>(l++List.replicate ((n-15) / 255) 255)++[t]) (congrArg UInt8.ofNat (by rw[hw];rfl)))
theorem C0n:∀a:Fin 16,∀b:Fin 16,ior .i64 ((a.val:Int)*2 ^ (4:Int).toNat) (b.val:Int)=((a.val*16+b.val:Nat):Int):=by decide+kernel
theorem C3k {x y:Nat} (hy:4≤y):ior .i64 (min (x:Int) 15*2 ^ (4:Int).toNat) (min ((y:Int)-4) 15)=((min x 15*16+min (y-4) 15:Nat):Int):=by
 have:=C0n ⟨min x 15,by omega⟩ ⟨min (y-4) 15,by omega⟩;rw[←this]
 congr 2<;> simp<;> omega
theorem B6R {x:Nat} (h:x<256):UInt8.ofNat (IntKind.u8.wrap (x:Int)).toNat=b8 x:=by
 have:IntKind.u8.wrap (x:Int)=x:=by rw[IntKind.wrap_u8];omega
 rw[this];rfl
theorem B0d (x:Nat):UInt8.ofNat (IntKind.u8.wrap (x:Int)).toNat=b8 x:=by
 have:IntKind.u8.wrap (x:Int)=((x%256:Nat):Int):=by rw[IntKind.wrap_u8];omega
 rw[this];apply UInt8.toNat_inj.1;simp[b8];omega
def A0R:E4:=⟨T,aT,A7,A9,46,[],none,.f⟩
theorem B6S:B3 Tryz.prog A0R:=⟨R3,A2,A4⟩
theorem iK:F3 Tryz.prog A0R:=⟨tOk,B6S⟩
theorem C4u (v:Value) (l p:Bs) (d n:Nat) (hd:d≤65535) (hn:n≤100000000) (hn4:n=0∨4≤n) (hp:p.length≤100000000) (hl:l.length≤100000000):C5 Tryz.prog 295 [.c (.own 0 v),lst .byt p,int .i64 d,int .i64 n] [.own v 5 .byt l] (fun _=>True) (fun v':Value=> .c (.own 0 v')) (fun v'=>[.own v' 5 .byt (l++qG p d n)]):=by
 refine I4 (E:=A0R) Tryz.func295 (fun M0 W hM0=>?_);have hal:(V7 p.length).length≤100000000:=by unfold V7;split<;> simp<;> omega
 rcases hn4 with rfl|hn4
 ·have et:UInt8.ofNat (IntKind.u8.wrap (min (p.length:Int) 15*2 ^ (4:Int).toNat)).toNat=jI p.length 0:=by
   rw[show min (p.length:Int) 15*2 ^ (4:Int).toNat=((min p.length 15*16:Nat):Int) by simp;omega,B6R (by omega)];simp[jI]
  refine A3 iK [false] (fun bs=>?_);refine A5 [2] (C3j ?v1 (l++[jI p.length 0]) p.length (by omega) (by simp;omega)) (fun v2 _=>?_) (hl:=?hl1)
  case hl1=>
   and_intros<;> (first|exact wk_|refine A6 ?_|skip)
   all_goals rw[et]
  refine A3 iK [true] (fun bs=>?_);refine B6 iK ?v3 trivial [3] (hl:=?hl2)
  case hl2=>
   and_intros<;> (first|exact wk_|refine A6 ?_|skip)
   all_goals simp[qG]
 ·have et:UInt8.ofNat (IntKind.u8.wrap (ior .i64 (min (p.length:Int) 15*2 ^ (4:Int).toNat) (min ((n:Int)-4) 15))).toNat=jI p.length n:=by
   rw[C3k hn4,B6R (by omega)];unfold jI;rw[if_neg (by omega)]
  refine A3 iK [true] (fun bs=>?_);refine A5 [2] (C3j ?v4 (l++[jI p.length n]) p.length (by omega) (by simp;omega)) (fun v2 _=>?_) (hl:=?hl3)
  case hl3=>
   and_intros<;> (first|exact wk_|refine A6 ?_|skip)
   all_goals rw[et]
  refine A3 iK [false] (fun bs=>?_);have e1:UInt8.ofNat (IntKind.u8.wrap (d:Int)).toNat=b8 d:=B0d d;have e2:UInt8.ofNat (IntKind.u8.wrap ((d:Int) / 2 ^ (8:Int).toNat)).toNat=b8 (d / 256):=by rw[show((d:Int) / 2 ^ (8:Int).toNat)=((d / 256:Nat):Int) by simp];exact B0d _
  refine A5 [5] (C3j ?v5 (l++[jI p.length n]++V7 p.length++p++[b8 d,b8 (d / 256)]) (n-4) (by omega) (by simp;omega)) (fun v3 _=>?_) (hl:=?hl4)
  case hl4=>
   and_intros<;> (first|exact wk_|refine A6 ?_|skip)
   all_goals rw[e1,e2]
  refine A3 iK [] (fun bs=>?_);refine B6 iK v3 trivial [5] (hl:=?hl5)
  case hl5=>
   and_intros<;> (first|exact wk_|refine A6 ?_|skip)
   all_goals(
    have:n≠0:=by omega
    simp[qG,this])
def cpy (o:Bs) (d:Nat):Nat→Bs
 |0=>o
 |n+1=>cpy o d n++[(cpy o d n).getD ((cpy o d n).length-d) 0]
theorem wQ (o:Bs) (d:Nat):∀n,(cpy o d n).length=o.length+n:=by
 intro n
 induction n with
 |zero=>rfl
 |succ n ih=>simp[cpy,ih];omega
inductive Pk:Bs→Bs→Bs→Prop
 |last (o p:Bs):Pk o (qG p 0 0) (o++p)
 |step (o p:Bs) (d n:Nat) (r x:Bs) (h1:0<d) (h2:d≤(o++p).length) (h3:d≤65535) (h4:4≤n) (h:Pk (cpy (o++p) d n) r x):Pk o (qG p d n++r) x
theorem Pk.le {o r x:Bs} (h:Pk o r x):o.length≤x.length:=by
 induction h with
 |last o p=>simp
 |step o p d n r x _ _ _ _ _ ih=>rw[wQ]at ih;simp at ih;omega
theorem Pk.ne {o r x:Bs} (h:Pk o r x):r≠[]:=by
 cases h<;> simp[qG]
theorem A4g (n:Nat):(V7 n).length≤n:=by unfold V7;split<;> simp<;> omega
theorem C0o (p:Bs) (d n:Nat) (h:4≤n):(qG p d n).length≤2*(p.length+n):=by
 have h1:=A4g p.length;have h2:=A4g (n-4);unfold qG;rw[if_neg (by omega)];simp;omega
theorem B6T (p:Bs) (d:Nat):(qG p d 0).length≤2*p.length+1:=by
 have h1:=A4g p.length;simp[qG];omega
def iL (b:Bs) (a:Nat) (m:List (KK.byt.T×VK.int.T)):Prop:=∀k p,H5 m k=some p→∃q:Nat,p=q∧q<a∧q+4≤b.length∧(b.drop q).take 4=k
theorem iL.set {b:Bs} {a:Nat} {m:List (KK.byt.T×VK.int.T)} (h:iL b a m) (ha:a+4≤b.length) {a':Nat} (h':a<a'):iL b a' (B4 m ((b.drop a).take 4) (a:Int)):=by
 intro k p hp;rw[K7]at hp;split at hp
 ·rename_i e;cases hp;exact⟨a,rfl,h',ha,e.symm⟩
 ·obtain⟨q,e,q1,q2,q3⟩:=h k p hp;exact⟨q,e,by omega,q2,q3⟩
theorem iL.le {b:Bs} {a a':Nat} {m:List (KK.byt.T×VK.int.T)} (h:iL b a m) (h':a≤a'):iL b a' m:=by
 intro k p hp;obtain⟨q,e,q1,q2,q3⟩:=h k p hp;exact⟨q,e,by omega,q2,q3⟩
theorem C0p {b:Bs} {a q:Nat} (hq:q<a):∀n,(∀i,i<n→b[q+i]? =b[a+i]?)→a+n≤b.length→cpy (b.take a) (a-q) n=b.take (a+n):=by
 intro n
 induction n with
 |zero=>intro _ _;rfl
 |succ n ih=>
  intro h1 h2;have e:=ih (fun i hi=>h1 i (by omega)) (by omega);have hl:(b.take (a+n)).length=a+n:=by simp;omega
  simp only[cpy,e,hl];rw[show a+(n+1)=(a+n)+1 by omega,List.take_add_one]
  congr 1
  have h3:=h1 n (by omega);rw[gE_ (by omega:a+n<b.length)]at h3;have e4:(List.take (a+n) b)[q+n]? =b[q+n]? :=by rw[List.getElem?_take,if_pos (by omega)]
  rw[List.getD,show a+n-(a-q)=q+n by omega,e4,h3,gE_ (by omega:a+n<b.length)];rfl
def mD (l:Bs):Bs:=[UInt8.ofNat ((l.getD 0 0).toNat:Int).toNat,UInt8.ofNat ((l.getD (0+1) 0).toNat:Int).toNat,UInt8.ofNat ((l.getD (0+1+1) 0).toNat:Int).toNat,UInt8.ofNat ((l.getD (0+1+1+1) 0).toNat:Int).toNat]
theorem C0q {l:Bs} (h:l.length=4):mD l=l:=by
 match l,h with
 |[a0,a1,a2,a3],_=>simp[mD]
def sQ:E4:=⟨T,aT,A7,A9,86,[],none,.f⟩
theorem B2c:B3 Tryz.prog sQ:=⟨R3,A2,A4⟩
theorem K9:F3 Tryz.prog sQ:=⟨tOk,B2c⟩
theorem C4v (b:Bs) (hb:b.length≤1000000):C5 Tryz.prog 283 [lst .byt b] [] (fun x:Value×Bs=>Pk [] x.2 b∧x.2.length≤2000001) (fun x=> .c (.own 0 x.1)) (fun x=>[.own x.1 5 .byt x.2]):=by
 refine I4 (E:=sQ) Tryz.func283 (fun M0 W hM0=>?_);refine A3 K9 [false] (fun bs=>?_);refine oY 4 5 rfl ?_;refine V3 (fun p:Nat×Nat×Bs×Value×List (KK.byt.T×VK.int.T)×Nat=>[(0,lst .byt b),(3,.c (.mpt 0 p.2.2.2.2.2)),(4,.c (.own 1 p.2.2.2.1)),(5,int .i64 p.2.1),(6,int .i64 p.1)]) (fun p=>[.mp p.2.2.2.2.2 .byt .int p.2.2.2.2.1,.own p.2.2.2.1 5 .byt p.2.2.1])
  (fun p=>(p.2.1≤p.1∧p.1≤b.length)∧p.2.2.1.length≤2*p.2.1∧iL b p.1 p.2.2.2.2.1∧∀r x,Pk (b.take p.2.1) r x→Pk [] (p.2.2.1++r) x) (fun p=>b.length-p.1) [0,1] (0,0,[],.slice none 0 0,[],_) ⟨⟨Nat.le_refl _,Nat.zero_le _⟩,Nat.le_refl _,(fun k p h=>by cases h),fun r x h=>h⟩ (fun p hp=>?_)
 obtain⟨a,f,out,v,m,bm⟩:=p;obtain⟨⟨h1,h2⟩,h3,h4,h5⟩:=hp;simp only at h1 h2 h3 h4 h5;refine A3 K9 [] (fun bs=>?_);refine I6 rfl rfl (fun hk=>?_) (fun hk=>?_)
 ·have ha:a+4≤b.length:=by omega
  refine A3 K9 [] (fun bs=>?_);refine yO 5 ?_;refine aQ 1 ?_;refine aQ 2 ?_;refine C4m 3 K9 ?_;refine G1 0 K9 (fun _=>?_);refine G1 4 K9 (fun _=>?_);refine jW ?_;refine D3 K9 1 (fun _=>none) (fun bs=>?_);refine aA [0,1,2] [(0,lst .byt b),(3,.c (.mpt 0 bm)),(4,.c (.own 1 v)),(5,int .i64 f),(6,int .i64 a),(7,.c (.ptr 2 ?bb 0))] [.mp bm .byt .int m,.own v 5 .byt out,.own (.slice (some ⟨?bb,0,none⟩) 4 4) 424 .byt ((b.drop a).take 4)] ?_ (h:=?wk1)
  case wk1=>
   and_intros<;> (first|exact wk_|refine A6 ?_|skip)
   all_goals(simp;omega)
  have hk4:((b.drop a).take 4).length=4:=by simp;omega
  have hkr:=C0q hk4;obtain⟨w,hwe,hw0,hw1⟩:∃w:Int,P0 VK.int.dft (H5 m (mD ((b.drop a).take 4)))=w∧0≤w∧w≤a:=by
   cases hm:H5 m (mD ((b.drop a).take 4))with
   |none=>exact⟨0,rfl,by omega,by omega⟩
   |some p=>obtain⟨q,e,q1,_⟩:=h4 _ p hm;subst e;exact⟨q,rfl,by omega,by omega⟩
  refine X9 K9 [] (fun bs=>?_) (fun bs=>?_)
  ·and_intros<;> first|exact trivial|omega|exact rfl|exact yM _|(intro _;first|exact trivial|(show L8 .i64 ((a:Int)-P0 VK.int.dft (H5 m (mD ((b.drop a).take 4))));rw[hwe];simp only[L8];omega))
  refine D4 rfl rfl (fun h=>?_) (fun h=>?_)
  ·refine A3 K9 [] (fun bs=>?_);refine G8 [0,1] (a+1,f,out,v,B4 m (mD ((b.drop a).take 4)) (a:Int),bm) ⟨⟨⟨by show f≤a+1;omega,by show a+1≤b.length;omega⟩,h3,by show iL b (a+1) (B4 m (mD _) (a:Int));rw[hkr];exact h4.set ha (Nat.lt_succ_self a),h5⟩,by simp only;omega⟩ ?wk2
   case wk2=>
    and_intros<;> (first|exact wk_|refine A6 ?_|skip)
  ·have hh:A5b (H5 m (mD ((b.drop a).take 4)))=true∧(a:Int)-P0 VK.int.dft (H5 m (mD ((b.drop a).take 4)))≤65535:=by
    have h':((!A5b (H5 m (mD ((b.drop a).take 4)))) || decide (65535<(a:Int)-P0 VK.int.dft (H5 m (mD ((b.drop a).take 4)))))=false:=h;simpa using h'
   cases hm:H5 m (mD ((b.drop a).take 4))with
   |none=>rw[hm]at hh;cases hh.1
   |some p=>
   obtain⟨q,e,q1,q2,q3⟩:=h4 _ p hm;subst e;have hqd:a-q≤65535:=by have:=hh.2;rw[hm]at this;simp[P0]at this;omega
   rw[hkr]at q3;have hm4:∀i,i<4→b[q+i]? =b[a+i]? :=fun i hi=>by
    have:=congrArg (fun l:Bs=>l[i]?) q3;simpa only[List.getElem?_take,hi,if_true,List.getElem?_drop]using this
   refine A3 K9 [] (fun bs=>?_);refine L5 (fun n:Nat=>[(0,lst .byt b),(3,.c (.mpt 0 bm)),(4,.c (.own 1 v)),(5,int .i64 f),(6,int .i64 a),(8,int .i64 q),(10,int .i64 n)]) (fun n=>[.mp bm .byt .int (B4 m (mD ((b.drop a).take 4)) (a:Int)),.own v 5 .byt out])
    (fun n=>4≤n∧a+n≤b.length∧∀i,i<n→b[q+i]? =b[a+i]?) (fun n=>b.length-(a+n)) [0,1] 4 ⟨Nat.le_refl _,ha,hm4⟩ ?wk3 (fun n hn=>?_)
   case wk3=>
    and_intros<;> (first|exact wk_|refine A6 ?_|skip)
    all_goals(show P0 VK.int.dft (H5 m (mD ((b.drop a).take 4)))=_;rw[hm];rfl)
   obtain⟨n1,n2,n3⟩:=hn;refine A3 K9 [] (fun bs=>?_);refine Q6 K9 19 [0,0,3,0,8,31,63,127,127,127,895,2047,4095,127,127,127,49279,123007,254079,524287,1048575] [] (fun bs=>?_);refine A3 K9 [] (fun bs=>?_);refine D4 rfl rfl (fun h=>?_) (fun h=>?_)
   ·have hl:a+n<b.length∧b.getD (q+n) 0=b.getD (a+n) 0:=by
     have h':(decide ((a:Int)+n<b.length) && decide (((b.getD ((q:Int)+n).toNat 0).toNat:Int)=((b.getD ((a:Int)+n).toNat 0).toNat:Int)))=true:=h;rw[show((q:Int)+n).toNat=q+n by omega,show((a:Int)+n).toNat=a+n by omega]at h';simp only[Bool.and_eq_true,decide_eq_true_eq]at h';exact⟨by omega,UInt8.toNat_inj.1 (by omega)⟩
    refine A3 K9 [] (fun bs=>?_);exact H3 [0,1] (n+1) ⟨⟨by omega,by omega,fun i hi=>by
     by_cases hin:i<n
     ·exact n3 i hin
     ·have:i=n:=by omega
      subst this;have h2:=hl.2;rw[List.getD,List.getD,gE_ (by omega:q+i<b.length),gE_ hl.1]at h2;rw[gE_ (by omega:q+i<b.length),gE_ hl.1];exact congrArg some h2⟩,by omega⟩
   ·have hsl:out.length≤100000000:=by omega
    have hP:((b.take a).drop f).length=a-f:=by simp;omega
    have hcat:b.take f++(b.take a).drop f=b.take a:=by
     rw[show b.take f=(b.take a).take f by rw[List.take_take,Nat.min_eq_left h1]];exact List.take_append_drop f (b.take a)
    refine A3 K9 [] (fun bs=>?_);refine A5 [1] (C4u v out ((b.take a).drop f) (a-q) n hqd (by omega) (.inr n1) (by omega) hsl) (fun v2 _=>?_);refine A3 K9 [] (fun bs=>?_);refine G8 [0,1] (a+n,a+n,out++qG ((b.take a).drop f) (a-q) n,v2,B4 m (mD ((b.drop a).take 4)) (a:Int),bm) ⟨⟨⟨Nat.le_refl _,n2⟩,?len,?seen,?enc⟩,by simp only;omega⟩ ?wk4
    case len=>
     have:=C0o ((b.take a).drop f) (a-q) n n1;show(out++_).length≤2*(a+n);rw[List.length_append];omega
    case seen=>
     show iL b (a+n) (B4 m (mD _) (a:Int));rw[hkr];exact h4.set ha (by omega)
    case enc=>
     intro r x hx;have hx':Pk (b.take (a+n)) r x:=hx;rw[←C0p q1 n n3 n2,←hcat]at hx';have:=h5 _ _ (Pk.step (b.take f) ((b.take a).drop f) (a-q) n r x (by omega) (by rw[hcat];simp;omega) hqd n1 hx');show Pk [] ((out++_)++r) x;rw[List.append_assoc];exact this
    case wk4=>
     and_intros<;> (first|exact wk_|refine A6 ?_|skip)
 ·have hsl:out.length≤100000000:=by omega
  have hbt:b.take ((b.length:Nat):Int).toNat=b:=by simp
  refine A3 K9 [] (fun bs=>?_);refine A5 [1] (C4u v out ((b.take ((b.length:Nat):Int).toNat).drop f) 0 0 (by omega) (by omega) (.inl rfl) (by rw[hbt];simp;omega) hsl) (fun v2 _=>?_);refine A3 K9 [] (fun bs=>?_);refine B6 K9 (v2,out++qG ((b.take ((b.length:Nat):Int).toNat).drop f) 0 0) ⟨?enc2,?len2⟩ [1]
  case enc2=>
   have:=h5 _ _ (Pk.last (b.take f) (b.drop f));rw[List.take_append_drop]at this;simp only[hbt];exact this
  case len2=>
   have:=B6T (b.drop f) 0;simp only[hbt,List.length_append];simp at this;omega
end
end Go.Proofs.YtgmeedgkjlfpeaaGreat
