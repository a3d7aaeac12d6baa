/-
  The program library and the walks of this claim, part 3 of 6.
-/
import Derived.Test.YtgmeedgkjlfpeaaGreatQ2
import Derived.OrdersIn
import Derived.Test.YtgmeedgkjlfpeaaGreatChecked
import Derived.Tactics
import Derived.Tactics2
import Derived.Laws.Pointers
import Derived.Laws.LoneSync
import Derived.Defers
import Derived.RegionTactic
import Derived.RegionCalls
import Derived.ChangeAlike
set_option linter.unusedSimpArgs false
set_option linter.unusedVariables false
set_option maxHeartbeats 4000000
namespace Go.Mt
open Go.RowKit
noncomputable section
def A6M (ns:List Nat) (H0:Nat→Option HB) (nx0:Nat):Nat→Option HB:=fun n=>match F8 n ns with
 |true=>none
 |false=>match Nat.blt n nx0 with
  |true=>H0 n
  |false=>none
def A6N (res:Nat→Option DR) (j:Nat) (r:Option DR):Nat→Option DR:=fun i=>match Nat.beq i j with
 |true=>r
 |false=>res i
def B1j (E:D9) (kn:Nat→Option Bool) (ops:List Oper) (ms:List Nat) (j0:Nat) (f0:Nat→Option Ent) (H0 HU:Nat→Option HB):List Oper→Nat→(Nat→Option DR)→Prop→Option ((Nat→Option DR)×Prop)
 |[],_,res,p=>some (res,p)
 |o::l,j,res,p=>match Nat.beq j j0 || T8 ms j0 j with
  |true=>B1j E kn ops ms j0 f0 H0 HU l (j+1) res p
  |false=>match cG E kn ops (C7 ops ops) j (mF ops ms f0 res j) (match T8 ms j j0 with|true=>H0|false=>HU) 0 o undef with
   |some (e,ob,none,none)=>B1j E kn ops ms j0 f0 H0 HU l (j+1) (A6N res j (some (e,ob,none,none))) (p∧ob)
   |_=>none
def B1k (E:D9) (kn:Nat→Option Bool) (ops:List Oper) (ms:List Nat) (j0:Nat) (f0:Nat→Option Ent) (H1:Nat→Option HB):List Oper→Nat→(Nat→Option DR)→Prop→Option ((Nat→Option DR)×Prop)
 |[],_,res,p=>some (res,p)
 |o::l,j,res,p=>match T8 ms j0 j with
  |false=>B1k E kn ops ms j0 f0 H1 l (j+1) res p
  |true=>match cG E kn ops (C7 ops ops) j (mF ops ms f0 res j) H1 0 o undef with
   |some (e,ob,none,none)=>B1k E kn ops ms j0 f0 H1 l (j+1) (A6N res j (some (e,ob,none,none))) (p∧ob)
   |_=>none
section
variable {P : Program} {E : D9} {B : Nat → Prop} {W : World} {M0 M : B5} {Q : Exit → Act → World → Prop} {k : List X8} {st : St} {a : Act} {w : World} {kn : Nat → Option Bool} {ops : List Oper} {ms : List Nat} {j0 : Nat} {f0 : Nat → Option Ent} {H0 HU H1 : Nat → Option HB}
theorem rC (res:Nat→Option DR) (j:Nat) (r:Option DR):A6N res j r j=r:=by simp[A6N]
theorem oU (res:Nat→Option DR) {j i:Nat} (r:Option DR) (h:i≠j):A6N res j r i=res i:=by
 have:Nat.beq i j=false:=by
  cases hb:Nat.beq i j with
  |false=>rfl
  |true=>rw[Nat.beq_eq]at hb;exact absurd hb h
 simp[A6N,this]
theorem B9h {m:Nat} (hlt:∀k j,j<ops.length→T8 ms k j=true→k<j):∀{l:List Oper} {i:Nat} {res res':Nat→Option DR} {p p':Prop},l=(ops.take m).drop i→B1j E kn ops ms j0 f0 H0 HU l i res p=some (res',p')→
 (∀k,k<i∨m≤k∨k=j0∨T8 ms j0 k=true→res' k=res k)∧(p'→p)∧∀(k:Nat) (o:Oper),i≤k→k<m→ops[k]? =some o→k≠j0→T8 ms j0 k=false→
  ∃e ob,res' k=some (e,ob,none,none)∧cG E kn ops (C7 ops ops) k (mF ops ms f0 res' k) (match T8 ms k j0 with|true=>H0|false=>HU) 0 o undef=some (e,ob,none,none)∧(p'→ob):=by
 intro l
 induction l with
 |nil=>
  intro i res res' p p' hl h;cases h;refine⟨fun _ _=>rfl,id,fun k o h1 h2 h3 _ _=>?_⟩;have:((ops.take m).drop i)[k-i]? =some o:=by rw[List.getElem?_drop,List.getElem?_take,show i+(k-i)=k from by omega,if_pos h2];exact h3
  rw[←hl]at this;cases this
 |cons o l ih=>
  intro i res res' p p' hl h;have hio:(ops.take m)[i]? =some o:=by
   have:=congrArg (fun l=>l[0]?) hl;simp only[List.getElem?_cons_zero,List.getElem?_drop,Nat.add_zero]at this;exact this.symm
  have him:i<m:=by
   rw[List.getElem?_take]at hio;split at hio
   ·assumption
   ·cases hio
  have hio':ops[i]? =some o:=by rw[List.getElem?_take,if_pos him]at hio;exact hio
  have hil:=(gS_.1 hio').1;have hl':l=(ops.take m).drop (i+1):=by
   have:=congrArg List.tail hl;simpa[List.tail_drop]using this
  simp only[B1j]at h;split at h
  ·rename_i hb;rw[Bool.or_eq_true,Nat.beq_eq]at hb;obtain⟨g1,g2,g3⟩:=ih hl' h;refine⟨fun k hk=>g1 k (hk.imp (fun h=>by omega) id),g2,fun k o' h1 h2 h3 h4 h5=>?_⟩;rcases Nat.lt_or_ge i k with hk|hk
   ·exact g3 k o' hk h2 h3 h4 h5
   ·have:k=i:=by omega
    subst this;rcases hb with hb|hb
    ·exact absurd hb h4
    ·rw[h5]at hb;cases hb
  ·rename_i hb;rw[Bool.or_eq_false_iff]at hb;split at h
   ·rename_i e ob hst;obtain⟨g1,g2,g3⟩:=ih hl' h;have hne:i≠j0:=fun e=>by subst e;simp at hb
    refine⟨fun k hk=>?_,fun hp=>(g2 hp).1,fun k o' h1 h2 h3 h4 h5=>?_⟩
    ·have hki:k≠i:=fun e=>by
      subst e;rcases hk with hk|hk|hk|hk
      ·omega
      ·omega
      ·exact hne hk
      ·rw[hb.2]at hk;cases hk
     rw[g1 k (hk.imp (fun h=>by omega) id),oU _ _ hki]
    ·rcases Nat.lt_or_ge i k with hk|hk
     ·exact g3 k o' hk h2 h3 h4 h5
     ·have:k=i:=by omega
      subst this;rw[hio']at h3;cases h3;have e1:res' k=some (e,ob,none,none):=by rw[g1 k (.inl (Nat.lt_succ_self _)),rC]
      refine⟨e,ob,e1,?_,fun hp=>(g2 hp).2⟩;rw[←hst];have:mF ops ms f0 res' k=mF ops ms f0 res k:=oQ fun q hq=>by
       have:=hlt q k hil hq;rw[g1 q (.inl (by omega)),oU _ _ (by omega)]
      rw[this]
   ·cases h
theorem B9i {m:Nat} (hlt:∀k j,j<ops.length→T8 ms k j=true→k<j):∀{l:List Oper} {i:Nat} {res res':Nat→Option DR} {p p':Prop},l=(ops.take m).drop i→B1k E kn ops ms j0 f0 H1 l i res p=some (res',p')→
 (∀k,k<i∨m≤k∨T8 ms j0 k=false→res' k=res k)∧(p'→p)∧∀(k:Nat) (o:Oper),i≤k→k<m→ops[k]? =some o→T8 ms j0 k=true→
  ∃e ob,res' k=some (e,ob,none,none)∧cG E kn ops (C7 ops ops) k (mF ops ms f0 res' k) H1 0 o undef=some (e,ob,none,none)∧(p'→ob):=by
 intro l
 induction l with
 |nil=>
  intro i res res' p p' hl h;cases h;refine⟨fun _ _=>rfl,id,fun k o h1 h2 h3 _=>?_⟩;have:((ops.take m).drop i)[k-i]? =some o:=by rw[List.getElem?_drop,List.getElem?_take,show i+(k-i)=k from by omega,if_pos h2];exact h3
  rw[←hl]at this;cases this
 |cons o l ih=>
  intro i res res' p p' hl h;have hio:(ops.take m)[i]? =some o:=by
   have:=congrArg (fun l=>l[0]?) hl;simp only[List.getElem?_cons_zero,List.getElem?_drop,Nat.add_zero]at this;exact this.symm
  have him:i<m:=by
   rw[List.getElem?_take]at hio;split at hio
   ·assumption
   ·cases hio
  have hio':ops[i]? =some o:=by rw[List.getElem?_take,if_pos him]at hio;exact hio
  have hil:=(gS_.1 hio').1;have hl':l=(ops.take m).drop (i+1):=by
   have:=congrArg List.tail hl;simpa[List.tail_drop]using this
  simp only[B1k]at h;split at h
  ·rename_i hb;obtain⟨g1,g2,g3⟩:=ih hl' h;refine⟨fun k hk=>g1 k (hk.imp (fun h=>by omega) id),g2,fun k o' h1 h2 h3 h5=>?_⟩;rcases Nat.lt_or_ge i k with hk|hk
   ·exact g3 k o' hk h2 h3 h5
   ·have:k=i:=by omega
    subst this;rw[hb]at h5;cases h5
  ·rename_i hb;split at h
   ·rename_i e ob hst;obtain⟨g1,g2,g3⟩:=ih hl' h;refine⟨fun k hk=>?_,fun hp=>(g2 hp).1,fun k o' h1 h2 h3 h5=>?_⟩
    ·have hki:k≠i:=fun e=>by
      subst e;rcases hk with hk|hk|hk
      ·omega
      ·omega
      ·rw[hb]at hk;cases hk
     rw[g1 k (hk.imp (fun h=>by omega) id),oU _ _ hki]
    ·rcases Nat.lt_or_ge i k with hk|hk
     ·exact g3 k o' hk h2 h3 h5
     ·have:k=i:=by omega
      subst this;rw[hio']at h3;cases h3;have e1:res' k=some (e,ob,none,none):=by rw[g1 k (.inl (Nat.lt_succ_self _)),rC]
      refine⟨e,ob,e1,?_,fun hp=>(g2 hp).2⟩;rw[←hst];have:mF ops ms f0 res' k=mF ops ms f0 res k:=oQ fun q hq=>by
       have:=hlt q k hil hq;rw[g1 q (.inl (by omega)),oU _ _ (by omega)]
      rw[this]
   ·cases h
structure B5A {X:Type} (E:D9) (kn:Nat→Option Bool) (ops:List Oper) (m:Nat) (ms:List Nat) (j0:Nat) (f0:Nat→Option Ent) (H0 HU:Nat→Option HB) (ok:X→Prop) (H1:X→Nat→Option HB) (R0:Nat→Option DR) (R:X→Nat→Option DR):Prop where
 chk:∀(j:Nat) (o:Oper),ops[j]? =some o→A6E E.N ops ms j o
 nd:I1 (xV ops)=true
 le:m≤ops.length
 j0m:j0<m
 tail:∀i,m≤i→i<ops.length→∀k,k<i→T8 ms k i=true
 stA:∀(j:Nat) (o:Oper),j<m→ops[j]? =some o→j≠j0→T8 ms j0 j=false→∃e ob,R0 j=some (e,ob,none,none)∧cG E kn ops (C7 ops ops) j (mF ops ms f0 R0 j) (match T8 ms j j0 with|true=>H0|false=>HU) 0 o undef=some (e,ob,none,none)∧ob
 stX:∀x,ok x→∀(j:Nat) (o:Oper),j<m→ops[j]? =some o→T8 ms j0 j=true→∃e ob,R x j=some (e,ob,none,none)∧cG E kn ops (C7 ops ops) j (mF ops ms f0 (R x) j) (H1 x) 0 o undef=some (e,ob,none,none)∧ob
 same:∀x j,j≠j0→T8 ms j0 j=false→R x j=R0 j
 u0:jC HU H0
 u1:∀x,jC HU (H1 x)
theorem inst_any {u:Value} (v:Value) {rv:RV} (h:(inst 0 u rv).2=none):inst 0 v rv=inst 0 u rv:=by
 cases rv with
 |x r=>rfl
 |t r=>rfl
 |o e k l=>cases h
 |ot e k l r=>cases h
theorem A2s {f:Nat→Option Ent} {H:Nat→Option HB} {o:Oper} {u:Value} (v:Value) {x:A} {ob:Prop} (h:mA E ops f H 0 o u=some (x,ob,none,none)):mA E ops f H 0 o v=some (x,ob,none,none):=by
 unfold mA at h⊢;cases hp:P9 E ops [] f H o with
 |some y=>simp only[hp]at h⊢;exact h
 |none=>
  simp only[hp]at h⊢;cases hq:jS ops f o.op with
  |some y=>simp only[hq]at h⊢;exact h
  |none=>
   simp only[hq]at h⊢;unfold aH at h⊢;split at h<;> (repeat' split at h)<;> first|(cases h;done)|(have hh:=h;simp only[Option.some.injEq,Prod.mk.injEq]at hh;rw[inst_any v hh.2.2.1];exact h)|(simp_all;done)
theorem B1l {i:Nat} {f:Nat→Option Ent} {H:Nat→Option HB} {o:Oper} {u:Value} (v:Value) {e:Option Ent} {ob:Prop} (h:cG E kn ops (C7 ops ops) i f H 0 o u=some (e,ob,none,none)):cG E kn ops (C7 ops ops) i f H 0 o v=some (e,ob,none,none):=by
 unfold cG at h⊢;split at h
 ·split at h
  ·rename_i h1;cases h;rw[A2s v h1]
  ·cases h
 ·split at h
  ·cases h
  ·split at h
   ·split at h
    ·split at h
     ·split at h
      ·split at h
       ·rename_i h1 h2;cases h;simp_all[A2s v h2]
       ·cases h
      ·simp_all
     ·simp_all
    ·cases h
   ·exact h
   ·cases h
def RR {X:Type} (R0:Nat→Option DR) (R:X→Nat→Option DR):Option X→Nat→Option DR
 |none=>R0
 |some x=>R x
def HY {X:Type} (H0:Nat→Option HB) (H1:X→Nat→Option HB):Option X→Nat→Option HB
 |none=>H0
 |some x=>H1 x
theorem B9j {X:Type} {m:Nat} {ok:X→Prop} {H1:X→Nat→Option HB} {R0:Nat→Option DR} {R:X→Nat→Option DR} (hT:K9 P E.T) (hΨ:B1 P E) (hF:B5A E kn ops m ms j0 f0 H0 HU ok H1 R0 R)
 (hcall:∀(S S':Nat→Prop) (f:Nat→Option Ent) (nx:Nat) (M:B5) (a:Act) (w:World) (K:Act→World→Prop) (o:Oper),ops[j0]? =some o→jC (mF ops ms f0 R0 j0) f→I7 E.N E.mrk B W M0 ops (C7 ops ops) S ⟨f,H0,nx⟩ M a w→¬S j0→(∀j,S j→S' j)→S' j0→
  (∀x e,ok x→R x j0=some (some e,True,none,none)→∀a' w' M',I7 E.N E.mrk B W M0 ops (C7 ops ops) S' ⟨vP f o.dst (some e),H1 x,nx⟩ M' a' w'→K a' w')→if Region.wanted o (yielded ops.toArray a.tmps)then o.wp P a w K Q else K (a.put o.dst undef) w)
 (hj0:∀x,∃e,R x j0=some (some e,True,none,none))
 (hQ:∀x,ok x→∀M a w,I7 E.N E.mrk B W M0 ops (C7 ops ops) (fun j=>j<m) ⟨jI ops f0 (R x) (ltB m),H1 x,0⟩ M a w→wpList P ops.toArray Q (Q6 m ops) a w):
 ∀(fuel:Nat) (listed:Array Bool) (a:Act) (w:World),listed.size=ops.length→(∀j,j<ops.length→H3 listed j=true→∀k,T8 ms k j=true→H3 listed k=true)→(∀j,H3 listed j=true→j<m)→
  ((List.range ops.length).countP (fun j=> !H3 listed j)≤fuel)→(∃(y:Option X) (M:B5),(H3 listed j0=true↔y≠none)∧(∀x,y=some x→ok x)∧I7 E.N E.mrk B W M0 ops (C7 ops ops) (fun j=>H3 listed j=true) ⟨jI ops f0 (RR R0 R y) (H3 listed),HY H0 H1 y,0⟩ M a w)→
  wpAny P .any ops.toArray Q fuel listed a w:=by
 have hblt:=qZ hF.chk;have hbtr:=A2q hF.chk;have j0l:j0<ops.length:=by have:=hF.le;have:=hF.j0m;omega
 have fin:∀(fuel:Nat) (listed:Array Bool) (a:Act) (w:World),listed.size=ops.length→(∀j,H3 listed j=true↔j<m)→((List.range ops.length).countP (fun j=> !H3 listed j)≤fuel)→(∃(y:Option X) (M:B5),(H3 listed j0=true↔y≠none)∧(∀x,y=some x→ok x)∧I7 E.N E.mrk B W M0 ops (C7 ops ops) (fun j=>H3 listed j=true) ⟨jI ops f0 (RR R0 R y) (H3 listed),HY H0 H1 y,0⟩ M a w)→wpAny P .any ops.toArray Q fuel listed a w:=by
  intro fuel listed a w hsz hall hcnt ⟨y,M,hy0,hyk,hS⟩;have hd:H3 listed=ltB m:=by
   funext k
   rw[Bool.eq_iff_iff,hall k];unfold ltB;rw[Nat.blt_eq]
  have hle:=hF.le;obtain⟨x,rfl⟩:∃x,y=some x:=by
   cases y with
   |none=>exact absurd rfl (hy0.1 ((hall j0).2 hF.j0m))
   |some x=>exact⟨x,rfl⟩
  refine B0M hF.chk hF.tail (ops.length-m) m (by omega) (Nat.le_refl _) fuel listed a w ?_ hsz (fun k _=>hall k) (hQ x (hyk x rfl) M a w ?_)
  ·refine Nat.le_trans ?_ hcnt;have:∀n,m≤n→n-m≤(List.range n).countP (fun j=> !H3 listed j):=by
    intro n
    induction n with
    |zero=>intro _;omega
    |succ n ih=>
     intro hn;rw[List.range_succ,List.countP_append];by_cases h:m=n+1
     ·omega
     ·have:=ih (by omega);have e:(!H3 listed n)=true:=by
       cases hq:H3 listed n with
       |false=>rfl
       |true=>have:=(hall n).1 hq;omega
      have e2:List.countP (fun j=> !H3 listed j) [n]=1:=by simp[List.countP_cons,e]
      omega
   exact this _ hle
  ·rw[hd]at hS;exact⟨hS.h,hS.old,hS.d,hS.n,hS.f,fun s j b x hx=>⟨by have:=(hS.g s j b x hx).1;unfold ltB at this;rwa [Nat.blt_eq]at this,(hS.g s j b x hx).2⟩⟩
 intro fuel
 induction fuel with
 |zero=>
  intro listed a w hsz hcl hdm hc hI;have hall:∀j,j<ops.length→H3 listed j=true:=by
   intro j hj;have h0:(List.range ops.length).countP (fun j=> !H3 listed j)=0:=by omega
   rw[List.countP_eq_zero]at h0;have:=h0 j (List.mem_range.2 hj);simpa using this
  exact fin 0 listed a w hsz (fun j=>⟨hdm j,fun hj=>hall j (by have:=hF.le;omega)⟩) hc hI
 |succ fuel ih=>
  intro listed a w hsz hcl hdm hc hI;by_cases hpre:∀j,j<m→H3 listed j=true
  ·exact fin (fuel+1) listed a w hsz (fun j=>⟨hdm j,hpre j⟩) hc hI
  have hex:∃j,j<m∧H3 listed j=false:=by
   apply Classical.byContradiction;intro hno;refine hpre fun j hj=>?_
   cases hd:H3 listed j with
   |true=>rfl
   |false=>exact absurd ⟨j,hj,hd⟩ hno
  refine⟨fun hr=>?_,fun i hi=>?_⟩
  ·exfalso;have hall:∀j,j<ops.length→H3 listed j=true:=by
    intro j
    induction j using Nat.strongRecOn with
    |_ j ihj=>
     intro hj;cases hd:H3 listed j with
     |true=>rfl
     |false=>
      exfalso;have hjr:j∈Region.ready .any ops.toArray listed:=by
       refine mem_ready.2 ⟨?_,ops[j],by simp[hj],fun e he hb=>?_⟩
       ·unfold H3 at hd;have hls:j<listed.size:=by omega
        simp[hls]at hd⊢;exact hd
       ·have hm:=gR (l:=ops[j].after.toList) (by simpa using he) hb;have hlt:=(hF.chk j _ (gE_ hj)).lt _ hm;exact ihj e.on hlt (by omega)
      rw[hr]at hjr;cases hjr
   obtain⟨j,hj,hd⟩:=hex;rw[hall j (by have:=hF.le;omega)]at hd;cases hd
  ·obtain⟨hun,o,ho,hall⟩:=mem_ready.1 hi;have ho':ops[i]? =some o:=by simpa using ho
   have hlt:i<ops.length:=(gS_.1 ho').1;have hls:i<listed.size:=by omega
   have hnd:H3 listed i=false:=by unfold H3;simp[hls]at hun⊢;exact hun
   have hck:=hF.chk i o ho';have hbd:∀k,T8 ms k i=true→H3 listed k=true:=by
    intro k hk;obtain⟨e,he,hke⟩:=(hck.bit k).1 hk;obtain⟨ed,q1,q2,q3⟩:=Y5 he;have hde:H3 listed e=true:=by rw[←q3];exact hall ed (by simpa using q1) q2
    rcases hke with rfl|hke
    ·exact hde
    ·exact hcl e (by have:=hck.lt e he;omega) hde k hke
   have him:i<m:=by
    rcases Nat.lt_or_ge i m with h'|h'
    ·exact h'
    ·exfalso;obtain⟨j,hj,hd⟩:=hex;rw[hbd j (hF.tail i h' hlt j (by omega))]at hd;cases hd
   have hdm':∀j,H3 (listed.setIfInBounds i true) j=true→j<m:=by
    intro j hj;rw[J7 hls,Bool.or_eq_true,Nat.beq_eq]at hj;rcases hj with hj|hj
    ·exact hdm j hj
    ·omega
   obtain⟨y,M,hy0,hyk,hS⟩:=hI;have hsz':(listed.setIfInBounds i true).size=ops.length:=by simp[hsz]
   have hcl':∀j,j<ops.length→H3 (listed.setIfInBounds i true) j=true→∀k,T8 ms k j=true→H3 (listed.setIfInBounds i true) k=true:=by
    intro j hj hdj k hk;rw[J7 hls]at hdj⊢;rw[Bool.or_eq_true]at hdj⊢;rcases hdj with hdj|hdj
    ·exact .inl (hcl j hj hdj k hk)
    ·rw[Nat.beq_eq]at hdj;subst hdj;exact .inl (hbd k hk)
   have hc':(List.range ops.length).countP (fun j=> !H3 (listed.setIfInBounds i true) j)≤fuel:=by
    have key:∀(l:List Nat),i∈l→l.countP (fun j=> !H3 (listed.setIfInBounds i true) j)+1≤l.countP (fun j=> !H3 listed j):=by
     intro l;have hle:∀(l:List Nat),l.countP (fun j=> !H3 (listed.setIfInBounds i true) j)≤l.countP (fun j=> !H3 listed j):=by
      intro l;refine List.countP_mono_left fun x _ hx=>?_
      rw[J7 hls]at hx;simp at hx⊢;exact hx.1
     induction l with
     |nil=>intro h;cases h
     |cons x l ihl=>
      intro h;rw[List.countP_cons,List.countP_cons];by_cases hxi:x=i
      ·subst hxi;have e1:(!H3 (listed.setIfInBounds x true) x)=false:=by rw[J7 hls];simp
       have e2:(!H3 listed x)=true:=by rw[hnd];rfl
       rw[e1,e2];simp;exact hle l
      ·have:=ihl ((List.mem_cons.1 h).resolve_left (fun e=>hxi e.symm));have e1:(!H3 (listed.setIfInBounds i true) x)=(!H3 listed x):=by
        rw[J7 hls];have:Nat.beq i x=false:=by
         cases hb:Nat.beq i x with
         |false=>rfl
         |true=>rw[Nat.beq_eq]at hb;exact absurd hb.symm hxi
        rw[this];simp
       rw[e1];omega
    have:=key _ (List.mem_range.2 hlt);omega
   have dlt:∀k,H3 listed k=true→k<ops.length:=fun k hd=>by
    rcases Nat.lt_or_ge k listed.size with h'|h'
    ·omega
    ·unfold H3 at hd;simp[Array.getElem?_eq_none h']at hd
   have lF:∀res:Nat→Option DR,jC (mF ops ms f0 res i) (jI ops f0 res (H3 listed)):=by
    intro res s x hx;simp only[mF]at hx;simp only[jI];split at hx
    ·exact hx
    ·rename_i k hw;obtain⟨ok,_,q2,_⟩:=fT hw;have hkl:k<ops.length:=by have:=(gS_.1 q2).1;simpa using this
     split at hx
     ·rename_i hbk;simp only[hbd k hbk];exact hx
     ·split at hx
      ·rename_i hbk;have:H3 listed k=false:=by
        cases hdk:H3 listed k with
        |false=>rfl
        |true=>
         exfalso;rw[Bool.or_eq_true]at hbk;rcases hbk with hbk|hbk
         ·rw[hcl k hkl hdk i hbk]at hnd;cases hnd
         ·rw[Nat.beq_eq]at hbk;subst hbk;rw[hnd]at hdk;cases hdk
       simp only[this];exact hx
      ·cases hx
   have slots:∀(res:Nat→Option DR) (e:Option Ent),drE (res i)=e→∀f,jC (jI ops f0 res (H3 listed)) f→jC (jI ops f0 res (H3 (listed.setIfInBounds i true))) (vP f o.dst e):=by
    intro res e he f hf s x hx;simp only[jI]at hx;by_cases hd:o.dst=some s
    ·have hw:=A6F (i:=0) hF.nd ho' hd;rw[Nat.zero_add]at hw;rw[hw]at hx;have:H3 (listed.setIfInBounds i true) i=true:=by rw[J7 hls];simp
     simp only[this,he]at hx;rw[hd];simp only[vP,bX,Nat.beq_refl];exact hx
    ·have hput:vP f o.dst e s=f s:=by
      cases hd2:o.dst with
      |none=>rfl
      |some d=>
       have:Nat.beq s d=false:=by
        cases hb:Nat.beq s d with
        |false=>rfl
        |true=>rw[Nat.beq_eq]at hb;subst hb;exact absurd hd2 hd
       simp only[vP,bX,this]
     rw[hput];refine hf s x ?_;simp only[jI];split at hx
     ·exact hx
     ·rename_i k hw;have hki:Nat.beq i k=false:=by
       cases hb:Nat.beq i k with
       |false=>rfl
       |true=>
        rw[Nat.beq_eq]at hb;subst hb;obtain⟨ok,_,q2,q3⟩:=fT hw;have:ops[i]? =some ok:=by simpa using q2
        rw[ho']at this;cases this;exact absurd q3 hd
      rw[J7 hls,hki,Bool.or_false]at hx;exact hx
   have notaft:H3 listed j0=false→∀k,H3 listed k=true→k≠j0∧T8 ms j0 k=false:=fun h k hk=>by
    refine⟨fun e=>(by subst e;rw[h]at hk;cases hk),?_⟩;cases hb:T8 ms j0 k with
    |false=>rfl
    |true=>rw[hcl k (dlt k hk) hk j0 hb]at h;cases h
   have main:if Region.wanted o (yielded ops.toArray a.tmps)then o.wp P a w (wpAny P .any ops.toArray Q fuel (listed.setIfInBounds i true)) Q else(wpAny P .any ops.toArray Q fuel (listed.setIfInBounds i true)) (a.put o.dst undef) w:=by
    by_cases hij:i=j0
    ·subst hij;have hy:y=none:=by
      cases y with
      |none=>rfl
      |some x=>have:=hy0.2 (by simp);rw[hnd]at this;cases this
     subst hy;refine hcall _ (fun j=>H3 (listed.setIfInBounds i true) j=true) _ _ M a w _ o ho' (lF R0) hS (by rw[hnd];simp) (fun j hj=>by rw[J7 hls,hj];rfl) (by rw[J7 hls];simp) fun x e hx he a' w' M' hS'=>?_
     refine ih (listed.setIfInBounds i true) a' w' hsz' hcl' hdm' hc' ⟨some x,M',by rw[J7 hls];simp,fun x' hx'=>by cases hx';exact hx,?_⟩;have e1:jI ops f0 R0 (H3 listed)=jI ops f0 (R x) (H3 listed):=A2r fun k _ hk=>(hF.same x k (notaft hnd k hk).1 (notaft hnd k hk).2).symm
     exact hS'.weaken (slots (R x) (some e) (by rw[he];rfl) _ (by rw[←e1];exact fun _ _ h=>h)) (fun _ _ h=>h)
    ·have go:∀(e:Option Ent) (ob:Prop),drE (RR R0 R y i)=e→ob→cG E kn ops (C7 ops ops) i (mF ops ms f0 (RR R0 R y) i) (HY H0 H1 y) 0 o undef=some (e,ob,none,none)→
      (if Region.wanted o (yielded ops.toArray a.tmps)then o.wp P a w (wpAny P .any ops.toArray Q fuel (listed.setIfInBounds i true)) Q else(wpAny P .any ops.toArray Q fuel (listed.setIfInBounds i true)) (a.put o.dst undef) w):=by
      intro e ob he hob hst;refine gL hT hΨ hS (i:=i) (S':=fun j=>H3 (listed.setIfInBounds i true) j=true) (by rw[hnd];simp) (fun j hj=>by rw[J7 hls,hj];rfl) (kn:=kn) (fun j b hg=>hbd j (hck.gd j b hg)) fun u=>?_
      have r5:=mQ (lF (RR R0 R y)) (fun _ _ h=>h) hst;have r5':=B1l u r5;obtain⟨nx',r6⟩:=oO hck.dst r5';refine⟨_,ob,r6,hob,fun a' w' M' hS'=>?_⟩;refine ih (listed.setIfInBounds i true) a' w' hsz' hcl' hdm' hc' ⟨y,M',?_,hyk,?_⟩
      ·rw[J7 hls];have:Nat.beq i j0=false:=by
        cases hb:Nat.beq i j0 with
        |false=>rfl
        |true=>rw[Nat.beq_eq]at hb;exact absurd hb hij
       rw[this,Bool.or_false];exact hy0
      ·exact hS'.weaken (slots (RR R0 R y) e he _ (fun _ _ h=>h)) (fun _ _ h=>h)
     cases hb:T8 ms j0 i with
     |true=>
      have hd0:=hbd j0 hb;cases y with
      |none=>exact absurd rfl (hy0.1 hd0)
      |some x=>
       obtain⟨e,ob,g1,g2,g3⟩:=hF.stX x (hyk x rfl) i o him ho' hb;exact go e ob (by show drE (R x i)=e;rw[g1];rfl) g3 g2
     |false=>
      obtain⟨e,ob,g1,g2,g3⟩:=hF.stA i o him ho' hij hb;have eR:∀k,k≠j0→T8 ms j0 k=false→RR R0 R y k=R0 k:=fun k h1 h2=>by
       cases y with
       |none=>rfl
       |some x=>exact hF.same x k h1 h2
      have eM:mF ops ms f0 (RR R0 R y) i=mF ops ms f0 R0 i:=oQ fun k hk=>eR k (fun e=>by subst e;rw[hk]at hb;cases hb) (by
       cases hb2:T8 ms j0 k with
       |false=>rfl
       |true=>rw[hbtr j0 k i hlt hk hb2]at hb;cases hb)
      refine go e ob (by rw[eR i hij hb,g1];rfl) g3 ?_;rw[eM];refine mQ (fun _ _ h=>h) ?_ g2;cases hb3:T8 ms i j0 with
      |true=>
       have:y=none:=by
        cases y with
        |none=>rfl
        |some x=>
         have:=hcl j0 j0l (hy0.2 (by simp)) i hb3;rw[hnd]at this;cases this
       subst this;exact fun _ _ h=>h
      |false=>
       cases y with
       |none=>exact hF.u0
       |some x=>exact hF.u1 x
   unfold wpOp;simp only[ho];split
   ·rename_i hw;rw[if_pos hw]at main;exact .inl main
   ·rename_i hw;rw[if_neg hw]at main;exact main
theorem B1m {X:Type} {N:Nat} {mrk:MK} {rs:List (Nat×Nat)} {S:Nat→Prop} {H:Nat→Option HB} {f:Nat→Option Ent} {nx:Nat} {o:Oper} {fo:Operand} {args:List Operand} {tys:List TypeId} {fid:Nat} {caps:List C} {az az':List A} {hs:List HB} {ok:X→Prop} {rx:X→A} {hs':X→List HB} {ns:List Nat} {K:Act→World→Prop} {nx0:Nat}
 (hS:I7 N mrk B W M0 ops rs S ⟨f,H,nx⟩ M a w) (hc:C5 P fid az hs ok rx hs') (hsim:uR (az'++caps.map A.c) az) (hl:vO ⟨fun _=>none,H,0⟩ ns hs) (hn:I1 ns=true)
 (ho:o.op= .call ⟨.value fo,⟨args⟩,⟨tys⟩⟩) (hfo:U7 f [] fo=some (.c (.clo fid caps))) (ha:aD (U7 f []) args=some az')
 (hk:∀x,ok x→∀v w' M',B5.ext B M M'→E1 B W (U1 (J9 H ns) (aF ns nx0) (hs' x) 0) M' w'→RA M' (A2C (aF ns nx0) (rx x)) v→K (a.put o.dst v) w'):o.wp P a w K Q:=by
 obtain⟨H2,g1,g2,g3,g4⟩:=oT hS.h hn hl;have hcl':J9 H2 ns=J9 H ns:=funext fun n=>by
  have key:∀(ns':List Nat) (A B:Nat→Option HB),(∀m,m∉ns'→A m=B m)→J9 A ns' n=J9 B ns' n:=by
   intro ns'
   induction ns' with
   |nil=>intro A B h;exact h n (by simp)
   |cons m l ih=>
    intro A B h;refine ih _ _ (fun q hq=>?_);by_cases e:q=m
    ·subst e;rw[B4,B4]
    ·rw[B9 _ _ e,B9 _ _ e];exact h q (by simp[e,hq])
  exact key ns _ _ g4
 obtain⟨dst,op,ty,pos,aft,guard⟩:=o;simp only at ho;subst ho;have hr:=I9 hS (Γ:=[]) (by simp);have k1:=rA hr _ _ ha;obtain⟨hS1,hback⟩:=B3y g1 (hs:=hs) g2 g3;obtain⟨us,hfv,hus⟩:∃us:List Value,a.eval fo= .func (.func fid) #[] us.toArray∧R8 M caps us:=by
  have:=hr _ _ hfo;cases this with|c h=>
  generalize a.eval fo=v at h;cases h with
  | @clo _ _ us hs hh=>exact⟨us.toList,by simp,by simpa using hs,fun j c u e1 e2=>hh j c u e1 (by simpa using e2)⟩
 have k3:cY M (caps.map A.c) us.toArray:=by
  refine⟨by simpa using hus.1,fun j c u e1 e2=>?_⟩;rw[List.getElem?_map]at e1;cases hc:caps[j]? with
  |none=>rw[hc]at e1;cases e1
  |some x=>rw[hc]at e1;cases e1;exact .c (hus.2 j x u hc (by simpa using e2))
 have k2:cY M az ((args.map a.eval).toArray++us.toArray):=A6J hsim (k1.app k3);obtain⟨⟨fn,q1,q2,q3⟩,hcall⟩:=hc;have hrun:(execOp a.eval ⟨dst,.call ⟨.value fo,⟨args⟩,⟨tys⟩⟩,ty,pos,aft,guard⟩).run P w= .ok (.enter fid ((args.map a.eval).toArray++us.toArray)) w:=by
  have e3':fn.name≠ "runtime.NumGoroutine" :=by simpa using q3
  have e2':fn.body≠none:=by intro e;rw[e]at q2;cases q2
  simp[execOp,resolve,invoke,hfv,Deferred.ofValue,callFunc,q1,e2',e3']
 unfold Oper.wp;rw[hrun,Oper.upon_enter];refine(hcall M w _ hS1 k2).mono fun e w' ⟨v,M',x,he,hM',hok,hv,hS'⟩=>?_
 subst he;obtain⟨hA,hE⟩:=hback M' w' (hs' x) (aF ns nx0) hM' hS';rw[hcl']at hA;exact hk x hok v w' M' hE hA (vY hv)
theorem B1n {ns:List Nat} {nx0 n:Nat} (h1:n∉ns) (h2:n<nx0):∀(L:List HB) (H:Nat→Option HB) (j:Nat),U1 H (aF ns nx0) L j n=H n:=by
 intro L
 induction L with
 |nil=>intro H j;rfl
 |cons x L ih=>
  intro H j;rw[U1,ih];refine B9 _ _ fun e=>?_
  unfold aF at e;rw[G0]at e;cases hj:ns[j]? with
  |some q=>rw[hj]at e;subst e;exact h1 (List.mem_of_getElem? hj)
  |none=>rw[hj]at e;simp only at e;omega
theorem B5B {ns:List Nat} {nx0:Nat}:jC (A6M ns H0 nx0) H0:=fun n x h=>by
 unfold A6M at h;split at h
 ·cases h
 ·split at h
  ·exact h
  ·cases h
theorem B1o {ns:List Nat} {nx0:Nat} (L:List HB):jC (A6M ns H0 nx0) (U1 (J9 H0 ns) (aF ns nx0) L 0):=fun n x h=>by
 unfold A6M at h;split at h
 ·cases h
 ·rename_i hm;split at h
  ·rename_i hb;have hn:n∉ns:=fun e=>by rw[fP e]at hm;cases hm
   rw[B1n hn (by rwa [Nat.blt_eq]at hb),A8H _ _ hn];exact h
  ·cases h
def A6O (H H':Nat→Option HB):List Nat→Prop
 |[]=>True
 |n::l=>H' n=H n∧A6O H H' l
theorem B5C {H H':Nat→Option HB}:∀{l:List Nat},A6O H H' l→∀n,F8 n l=true→H' n=H n:=by
 intro l
 induction l with
 |nil=>intro _ n h;cases h
 |cons m l ih=>
  intro h n hn;by_cases e:n=m
  ·subst e;exact h.1
  ·refine ih h.2 n ?_;simp only[F8,Bool.or_eq_true]at hn;exact hn.resolve_left fun hb=>e (Nat.eq_of_beq_eq_true hb)
def A8K (ns ks:List Nat) (H0:Nat→Option HB) (nx0:Nat):Nat→Option HB:=fun n=>match F8 n ks with
 |true=>H0 n
 |false=>A6M ns H0 nx0 n
theorem B9k {ns ks:List Nat} {nx0:Nat}:jC (A8K ns ks H0 nx0) H0:=fun n x h=>by
 unfold A8K at h;split at h
 ·exact h
 ·exact B5B n x h
theorem B5D {ns ks:List Nat} {nx0:Nat} (L:List HB) (hk:A6O H0 (U1 (J9 H0 ns) (aF ns nx0) L 0) ks):jC (A8K ns ks H0 nx0) (U1 (J9 H0 ns) (aF ns nx0) L 0):=fun n x h=>by
 unfold A8K at h;split at h
 ·rename_i hm;rw[B5C hk n hm];exact h
 ·exact B1o L n x h
theorem B9l {X:Type} (hE:F0 P E) (m:Nat) (ms:List Nat) (j0:Nat) (ns ks:List Nat) {c:Code} {f0:Nat→Option Ent} {H0:Nat→Option HB} {nx0:Nat} {fid:Nat} {az az':List A} {hs:List HB} {ok:X→Prop} {rx:X→A} {hs':X→List HB} {res0:Nat→Option DR} {p0:Prop} {res:X→Nat→Option DR} {p:X→Prop} {o:Oper} {fo:Operand} {args:List Operand} {tys:List TypeId} {caps:List C}
 (hc:C5 P fid az hs ok rx hs')
 (hp0:p0) (hpx:∀x,ok x→p x)
 (hk:∀x,ok x→G P E B W M0 Q (.ops (H6 c) m::k) ⟨jI (H6 c) f0 (res x) (ltB m),U1 (J9 H0 ns) (aF ns nx0) (hs' x) 0,nx0+(len (hs' x)-len ns)⟩)
 (hm:P.follows .mixedOrders=true) (kn:Nat→Option Bool) (hd:V2 c=true) (hchk:A2G E.N (H6 c) m ms=true)
 (hj0:Nat.blt j0 m=true) (ho:X0 (H6 c) j0=some o)
 (hg:o.guard=none) (hop:o.op= .call ⟨.value fo,⟨args⟩,⟨tys⟩⟩)
 (hA:B1j E kn (H6 c) ms j0 f0 H0 (A8K ns ks H0 nx0) (tke m (H6 c)) 0 (fun _=>none) True=some (res0,p0))
 (hX:∀x,B1k E kn (H6 c) ms j0 f0 (U1 (J9 H0 ns) (aF ns nx0) (hs' x) 0) (tke m (H6 c)) 0 (A6N res0 j0 (some (some (.u (A2C (aF ns nx0) (rx x))),True,none,none))) True=some (res x,p x))
 (hfo:U7 (mF (H6 c) ms f0 res0 j0) [] fo=some (.c (.clo fid caps))) (ha:aD (U7 (mF (H6 c) ms f0 res0 j0) []) args=some az') (hn:I1 ns=true)
 (hsim:uR (az'++caps.map A.c) az) (hl:vO ⟨fun _=>none,H0,0⟩ ns hs)
 (hks:∀x,A6O H0 (U1 (J9 H0 ns) (aF ns nx0) (hs' x) 0) ks) (hro:E.ro=none):G P E B W M0 Q (.code c::k) ⟨f0,H0,nx0⟩:=by
 intro M a w hS;cases c<;> simp only[V2,Bool.false_eq_true]at hd;rename_i id ops dr;cases dr<;> simp only[V2,Bool.false_eq_true]at hd;obtain⟨ops⟩:=ops;simp only[H6]at *;simp only[A2G,Bool.and_eq_true,Nat.ble_eq,O9]at hchk;obtain⟨⟨hc1,hc2⟩,hc3,hc4⟩:=hchk;rw[Nat.blt_eq]at hj0;rw[G0]at ho;refine wpIn_wide.2 ?_ |> fun(h:cwp none P (Code.region id ops.toArray true) (after none P Q k) a w)=>(by simp only[after,hro];exact h)
 refine wp_region_any hm ?_;have hS0:V1 E.N E.mrk B W M0 [] [] 0 ⟨f0,H0,nx0⟩ M a w:=hS;have hS1:=hS0.drawn (w.drawn+1);have hck:∀(j:Nat) (o:Oper),ops[j]? =some o→A6E E.N ops ms j o:=fun j o hj=>by
  have:=B0K rfl hc2 j o hj
  rwa [Nat.zero_add]at this
 have hlt:=qZ hck;obtain⟨a1,_,a3⟩:=B9h (m:=m) hlt (i:=0) (by rw[aC];simp) hA;have x1:=fun x=>B9i (m:=m) hlt (i:=0) (by rw[aC];simp) (hX x)
 have hjj:T8 ms j0 j0=false:=by
  cases hb:T8 ms j0 j0 with
  |false=>rfl
  |true=>have:=hlt j0 j0 (by omega) hb;omega
 have hRj:∀x,res x j0=some (some (.u (A2C (aF ns nx0) (rx x))),True,none,none):=fun x=>by
  rw[(x1 x).1 j0 (.inr (.inr hjj)),rC]
 have hF:B5A E kn ops m ms j0 f0 H0 (A8K ns ks H0 nx0) ok (fun x=>U1 (J9 H0 ns) (aF ns nx0) (hs' x) 0) res0 res:=by
  refine⟨hck,hc1,hc3,hj0,A6D hc4,fun j o hjm hj hne hb=>?_,fun x hx j o hjm hj hb=>?_,fun x j hne hb=>?_,B9k,fun x=>B5D _ (hks x)⟩
  ·obtain⟨e,ob,q1,q2,q3⟩:=a3 j o (Nat.zero_le _) hjm hj hne hb;exact⟨e,ob,q1,q2,q3 hp0⟩
  ·obtain⟨e,ob,q1,q2,q3⟩:=(x1 x).2.2 j o (Nat.zero_le _) hjm hj hb;exact⟨e,ob,q1,q2,q3 (hpx x hx)⟩
  ·rw[(x1 x).1 j (.inr (.inr hb)),oU _ _ hne]
 have hnone:∀j,H3 (Array.replicate ops.toArray.size false) j=false:=by
  intro j;unfold H3;simp only[Array.getD_eq_getD_getElem?,Array.getElem?_replicate];split<;> rfl
 refine B9j (B:=B) (W:=W) (M0:=M0) (Q:=after none P Q k) hE.T hE.Ψ hF (fun S S' f nx M' a' w' K o' ho' hlf hSP hnS hSS hS'j hKK=>?_) (fun x=>⟨_,hRj x⟩) (fun x hx M' a' w' hS'=>?_) _ _ _ _ (by simp) (fun j _ hd=>by rw[hnone j]at hd;cases hd) (fun j hd=>by rw[hnone j]at hd;cases hd) ?_ ⟨none,M,by rw[hnone];simp,fun x hx=>(by cases hx),?_⟩
 ·rw[ho]at ho';cases ho';have hw:Region.wanted o (yielded ops.toArray a'.tmps)=true:=by unfold Region.wanted;rw[hg]
  rw[if_pos hw];refine B1m (nx0:=nx0) hSP hc hsim hl hn hop (dJ hlf [] _ _ hfo) (xQ (dJ hlf []) ha) fun x hx v w2 M2 e1 e2 e3=>?_
  refine hKK x _ hx (hRj x) _ _ M2 (I7.put hSP hnS hSS e1 e2 (dK (hck j0 o ho).dst) (E6 _ _) (fun e' he=>?_) (by simp));cases he;exact e3
 ·have hg2:=hk x hx M' a' w';rw[hro]at hg2;refine hg2 ?_;exact⟨hS'.h,hS'.old,hS'.d,hS'.n,hS'.f,hS'.g⟩
 ·refine Nat.le_trans List.countP_le_length ?_;simp
 ·have hd0:H3 (Array.replicate ops.toArray.size false)=fun _=>false:=funext hnone
  rw[hd0];have e1:jI ops f0 res0 (fun _=>false)=f0:=by
   funext s;simp only[jI];split<;> rfl
  have h4:I7 E.N E.mrk B W M0 ops (C7 ops ops) (fun j=>(fun _=>false:Nat→Bool) j=true) ⟨f0,H0,nx0⟩ M a {w with drawn:=w.drawn+1}:=by
   refine⟨hS1.h,hS1.old,hS1.d,hS1.n,fun s e he=>?_,fun s j b x hx=>?_⟩
   ·cases e with
    |u x=>exact hS1.f s _ he
    |gd j b x=>have:=(hS1.g s j b x he).1;simp at this
   ·have:=(hS1.g s j b x hx).1;simp at this
  exact h4.weaken (by rw[show RR res0 res none=res0 from rfl,e1];exact fun _ _ h=>h) (fun _ _ h=>h)
end
section
variable {P : Program} {E : D9} {B : Nat → Prop} {W : World} {M0 M : B5} {Q : Exit → Act → World → Prop} {k : List X8} {st : St}
theorem rD {X:Type} (hE:F0 P E) (m:Nat) (ms:List Nat) (j0:Nat) (ns ks:List Nat) {c:Code} {f0:Nat→Option Ent} {H0:Nat→Option HB} {nx0:Nat} {fid:Nat} {az az':List A} {hs:List HB} {ok:X→Prop} {rx:X→A} {hs':X→List HB} {res0:Nat→Option DR} {p0:Prop} {res:X→Nat→Option DR} {p:X→Prop} {o:Oper} {fo:Operand} {args:List Operand} {tys:List TypeId} {caps:List C}
 (hc:C5 P fid az hs ok rx hs')
 (hk:∀x,ok x→G P E B W M0 Q (.ops (H6 c) m::k) ⟨jI (H6 c) f0 (res x) (ltB m),U1 (J9 H0 ns) (aF ns nx0) (hs' x) 0,nx0+(len (hs' x)-len ns)⟩)
 (hm:P.follows .mixedOrders=true:=by exact rfl) (hd:V2 c=true:=by exact rfl) (hchk:A2G E.N (H6 c) m ms=true:=by decide+kernel)
 (hj0:Nat.blt j0 m=true:=by exact rfl) (ho:X0 (H6 c) j0=some o:=by exact rfl)
 (hg:o.guard=none:=by exact rfl) (hop:o.op= .call ⟨.value fo,⟨args⟩,⟨tys⟩⟩:=by exact rfl)
 (hA:B1j E (fun _=>none) (H6 c) ms j0 f0 H0 (A8K ns ks H0 nx0) (tke m (H6 c)) 0 (fun _=>none) True=some (res0,p0):=by exact rfl)
 (hX:∀x,B1k E (fun _=>none) (H6 c) ms j0 f0 (U1 (J9 H0 ns) (aF ns nx0) (hs' x) 0) (tke m (H6 c)) 0 (A6N res0 j0 (some (some (.u (A2C (aF ns nx0) (rx x))),True,none,none))) True=some (res x,p x):=by exact fun x=>rfl)
 (hfo:U7 (mF (H6 c) ms f0 res0 j0) [] fo=some (.c (.clo fid caps)):=by exact rfl) (ha:aD (U7 (mF (H6 c) ms f0 res0 j0) []) args=some az':=by exact rfl) (hn:I1 ns=true:=by exact rfl)
 (hsim:uR (az'++caps.map A.c) az:=by and_intros<;> first|exact trivial|exact rfl|omega|(refine A6 ?_;first|exact rfl|(simp;done)|(simp_all;done))|(simp;done)|(simp_all;done)) (hl:vO ⟨fun _=>none,H0,0⟩ ns hs:=by and_intros<;> first|exact trivial|exact rfl|omega|(refine A6 ?_;first|exact rfl|(simp;done)|(simp_all;done))|(simp;done)|(simp_all;done))
 (hks:∀x,A6O H0 (U1 (J9 H0 ns) (aF ns nx0) (hs' x) 0) ks:=by(intro x;and_intros<;> first|exact trivial|exact rfl)) (hro:E.ro=none:=by exact rfl) (hp0:p0:=by and_intros<;> (intros;first|exact trivial|omega|exact rfl|exact A2I _|exact uG _|exact uH _|exact gO _|exact lA _|(simp only;omega)|(simp;done)|(simp;omega)|(simp only[L1,IntKind.bits];omega)|(simp_all;done)|(simp_all;omega))) (hpx:∀x,ok x→p x:=by(intro x hx;and_intros<;> (intros;first|exact trivial|omega|exact rfl|exact A2I _|exact uG _|exact uH _|exact gO _|exact lA _|(simp only;omega)|(simp;done)|(simp;omega)|(simp only[L1,IntKind.bits];omega)|(simp_all;done)|(simp_all;omega)))):G P E B W M0 Q (.code c::k) ⟨f0,H0,nx0⟩:=
 B9l hE m ms j0 ns ks hc hp0 hpx hk hm (fun _=>none) hd hchk hj0 ho hg hop hA hX hfo ha hn hsim hl hks hro
theorem R3 (hE:F0 P E) (m:Nat) (ms:List Nat) (ks:List (Nat×Nat)) {c:Code} {st':(Nat→Value)→St} {ob:(Nat→Value)→Prop} (hk:∀bs,G P E B W M0 Q (.ops (H6 c) m::k) (st' bs))
 (hm:P.follows .mixedOrders=true:=by exact rfl) (hd:V2 c=true:=by exact rfl) (hchk:A2G E.N (H6 c) m ms=true:=by decide+kernel)
 (h:∀bs,uM E (fun _=>none) (H6 c) m ms ks st bs=some (st' bs,ob bs):=by exact fun bs=>rfl) (hro:E.ro=none:=by exact rfl) (ho:∀bs,ob bs:=by(intro bs;and_intros<;> (intros;first|exact trivial|omega|exact rfl|exact A2I _|exact uG _|exact uH _|exact gO _|exact lA _|(simp only;omega)|(simp;done)|(simp;omega)|(simp only[L1,IntKind.bits];omega)|(simp_all;done)|(simp_all;omega)))):G P E B W M0 Q (.code c::k) st:=
 bY hE.T hE.Ψ hm (fun _=>none) m ms ks hd hchk h ho hk hro
theorem mC (hE:F0 P E) (m:Nat) (ms:List Nat) (ks:List (Nat×Nat)) {c:Code} {st':(Nat→Value)→St} {ob:(Nat→Value)→Prop} (ho:∀bs,ob bs) (hk:∀bs,G P E B W M0 Q (.ops (H6 c) m::k) (st' bs))
 (hm:P.follows .mixedOrders=true:=by exact rfl) (hd:V2 c=true:=by exact rfl) (hchk:A2G E.N (H6 c) m ms=true:=by decide+kernel)
 (h:∀bs,uM E (fun _=>none) (H6 c) m ms ks st bs=some (st' bs,ob bs):=by exact fun bs=>rfl) (hro:E.ro=none:=by exact rfl):G P E B W M0 Q (.code c::k) st:=
 bY hE.T hE.Ψ hm (fun _=>none) m ms ks hd hchk h ho hk hro
theorem C8 (hE:F0 P E) (n:Nat) (kn:Nat→Option Bool) {k':(Nat→Nat→Value)→List X8} {st':(Nat→Nat→Value)→St} {ob:(Nat→Nat→Value)→Prop}
 (hk:∀bs,G P E B W M0 Q (k' bs) (st' bs)) (h:∀bs,run E kn n k st bs= .mk (k' bs) (st' bs) (ob bs):=by exact fun bs=>rfl) (ho:∀bs,ob bs:=by intro bs;and_intros<;> (intros;first|exact ob_|(simp[L1,IntKind.bits];done)|(simp[L1,IntKind.bits]at* <;> omega)|(simp_all;done)|(with_reducible assumption))):G P E B W M0 Q k st:=
 G8 hE.T hE.Ψ n kn h ho hk
theorem C2P (hE:F0 P E) (kn:Nat→Option Bool) (m:Nat) (ms:List Nat) (ks:List (Nat×Nat)) {c:Code} {st':(Nat→Value)→St} {ob:(Nat→Value)→Prop} (hk:∀bs,G P E B W M0 Q (.ops (H6 c) m::k) (st' bs))
 (hm:P.follows .mixedOrders=true:=by exact rfl) (hd:V2 c=true:=by exact rfl) (hchk:A2G E.N (H6 c) m ms=true:=by decide+kernel)
 (h:∀bs,uM E kn (H6 c) m ms ks st bs=some (st' bs,ob bs):=by exact fun bs=>rfl) (hro:E.ro=none:=by exact rfl) (ho:∀bs,ob bs:=by intro bs;and_intros<;> (intros;first|exact ob_|(simp[L1,IntKind.bits];done)|(simp[L1,IntKind.bits]at* <;> omega)|(simp_all;done)|(with_reducible assumption))):G P E B W M0 Q (.code c::k) st:=
 bY hE.T hE.Ψ hm kn m ms ks hd hchk h ho hk hro
theorem L7 (hE:F0 P E) (kn:Nat→Option Bool) (ds:List Bool) {k':(Nat→Nat→Nat→Value)→List X8} {st':(Nat→Nat→Nat→Value)→St} {ob:(Nat→Nat→Nat→Value)→Prop}
 (hk:∀bs,G P E B W M0 Q (k' bs) (st' bs)) (h:∀bs,A3l E kn 60 ds k st bs= .mk (k' bs) (st' bs) (ob bs):=by exact fun bs=>rfl)
 (ho:∀bs,ob bs:=by(intro bs;and_intros<;> (intros;first|exact trivial|omega|exact rfl|exact A2I _|exact uG _|exact uH _|exact gO _|exact lA _|(simp only;omega)|(simp;done)|(simp;omega)|(simp only[L1,IntKind.bits];omega)|(simp_all;done)|(simp_all;omega)))):G P E B W M0 Q k st:=J3 hE kn ds ho hk h
theorem V3 {X:Type} (F:X→List (Nat×A)) (H:X→List HB) (ok:X→Prop) (μ:X→Nat) {c:Code} (ns:List Nat) (x0:X) (hx0:ok x0)
 (body:∀x,ok x→G P E B W M0 Q (.code (bod c):: .lp (LJ E B W M0 F H (fun y=>ok y∧μ y<μ x))::k) (mk (F x) (H x))) (hc:qU c=true:=by exact rfl) (hw:Wk st ns (F x0) (H x0):=by and_intros<;> first|exact trivial|exact rfl|omega|(refine A6 ?_;first|exact rfl|(simp;done)|(simp_all;done))|(simp;done)|(simp_all;done)):G P E B W M0 Q (.code c::k) st:=
 P1 F H ok μ hc ns x0 hx0 hw body
theorem K3 {X:Type} (F:X→List (Nat×A)) (H:X→List HB) (ok:X→Prop) (μ:X→Nat) {c:Code} (ns:List Nat) (x0:X) (hx0:ok x0) (hw:Wk st ns (F x0) (H x0))
 (body:∀x,ok x→G P E B W M0 Q (.code (bod c):: .lp (LJ E B W M0 F H (fun y=>ok y∧μ y<μ x))::k) (mk (F x) (H x))) (hc:qU c=true:=by exact rfl):G P E B W M0 Q (.code c::k) st:=
 P1 F H ok μ hc ns x0 hx0 hw body
theorem I0 {X:Type} {F:X→List (Nat×A)} {H:X→List HB} {ok:X→Prop} (ns:List Nat) (x:X) (hx:ok x) (h:Wk st ns (F x) (H x):=by and_intros<;> first|exact trivial|exact rfl|omega|(refine A6 ?_;first|exact rfl|(simp;done)|(simp_all;done))|(simp;done)|(simp_all;done)):G P E B W M0 Q (.lp (LJ E B W M0 F H ok)::k) st:=G3 ns x hx h
theorem X3 (ns:List Nat) (fs':List (Nat×A)) (hs':List HB) (hk:G P E B W M0 Q k (mk fs' hs')) (h0:hdI k=0:=by exact rfl) (h:Wk st ns fs' hs':=by and_intros<;> first|exact trivial|exact rfl|omega|(refine A6 ?_;first|exact rfl|(simp;done)|(simp_all;done))|(simp;done)|(simp_all;done)):G P E B W M0 Q k st:=xN h0 h hk
structure Ob (X:Type) where
 ok:X→Prop
 f:X→List HB
abbrev ThO {X:Type} (o:Ob X) (S:Nat→Prop):HB:=OB o.ok o.f S
theorem N0 (n:Nat) {X:Type} {o:Ob X} {S:Nat→Prop}
 (hk:∀x,o.ok x→G P E B W M0 Q k ⟨st.f,U1 (D4 st.H n none) (opN n st.nx) (o.f x) 0,st.nx+(len (o.f x)-1)⟩) (hn:st.H n=some (ThO o S):=by exact rfl):G P E B W M0 Q k st:=C3R n hn hk
theorem J8 (n:Nat) {X:Type} (o:Ob X) (ns:List Nat) (x:X) (hx:o.ok x)
 (hk:∀S,G P E B W M0 Q k ⟨st.f,D4 (J9 st.H ns) n (some (ThO o S)),st.nx⟩) (hnd:I1 ns=true:=by exact rfl) (h:vO st ns (o.f x):=by and_intros<;> first|exact trivial|exact rfl|omega|(refine A6 ?_;first|exact rfl|(simp;done)|(simp_all;done))|(simp;done)|(simp_all;done)):G P E B W M0 Q k st:=C3S n ns x hx hk hnd h
theorem aJ (n m:Nat) {α:Type} {e:α→(Nat→Prop)→HB} {l l1 l2:List α} {x:α} {S:Nat→Prop} (he:l=l1++x::l2)
 (hk:∀S1 S2,G P E B W M0 Q k ⟨st.f,D4 (D4 st.H n (some (U2 e (l1++l2) S1))) m (some (e x S2)),m+1⟩) (hn:st.H n=some (U2 e l S):=by exact rfl) (hm:st.H m=none:=by exact rfl):G P E B W M0 Q k st:=by
 subst he;exact C3T n m hn hm (fun S1 S2 M a w hS=>hk S1 S2 M a w ⟨hS.h,hS.old,hS.d,hS.n,hS.f,hS.g⟩)
theorem gU (n m:Nat) {α:Type} {e:α→(Nat→Prop)→HB} {l l1 l2:List α} {x:α} {S S2:Nat→Prop} (he:l=l1++x::l2)
 (hk:∀S1,G P E B W M0 Q k ⟨st.f,D4 (D4 st.H m none) n (some (U2 e l S1)),st.nx⟩) (hn:st.H n=some (U2 e (l1++l2) S):=by exact rfl) (hm:st.H m=some (e x S2):=by exact rfl) (hnm:n≠m:=by decide):G P E B W M0 Q k st:=by
 subst he;exact B4z n m l1 l2 hn hm hnm hk
theorem Z3 (s m:Nat) {v:Option Nat} {b:Nat} (hv:v=some b) (hk:G P E B W M0 Q k ⟨bX st.f s (some (.u (.c (.ptr m b 0)))),st.H,st.nx⟩) (h:st.f s=some (.u (.c (.opt v))):=by exact rfl):G P E B W M0 Q k st:=by
 subst hv;exact W8 s h (fun M v hr=>by cases hr with|c hr=>cases hr;exact .c .ptr) hk
theorem jU (s:Nat) {v:Option Nat} (hv:v=none) (hk:G P E B W M0 Q k ⟨bX st.f s (some (.u (pv (.val (.pointer none))))),st.H,st.nx⟩) (h:st.f s=some (.u (.c (.opt v))):=by exact rfl):G P E B W M0 Q k st:=by
 subst hv;exact W8 s h (fun M v hr=>by cases hr with|c hr=>cases hr;exact .c (.pv (.val rfl))) hk
theorem oV {kk:KK} {V V':Type} (g:V→V') (k:kk.T):∀l:List (kk.T×V),H9 (kk:=kk) (l.map fun p=>(p.1,g p.2)) k=(H9 l k).map g:=by
 intro l
 induction l with
 |nil=>rfl
 |cons p l ih=>simp only[List.map_cons,H9];cases kk.eqb k p.1<;> simp[ih]
theorem B5E {kk:KK} {V V':Type} (g:V→V') (k:kk.T) (v:V):∀l:List (kk.T×V),C1 (kk:=kk) (l.map fun p=>(p.1,g p.2)) k (g v)=(C1 l k v).map fun p=>(p.1,g p.2):=by
 intro l
 induction l with
 |nil=>rfl
 |cons p l ih=>simp only[List.map_cons,C1];cases kk.eqb k p.1<;> simp[ih]
theorem B5F {kk:KK} {V V':Type} (g:V→V') (k:kk.T):∀l:List (kk.T×V),Y3 (kk:=kk) (l.map fun p=>(p.1,g p.2)) k=(Y3 l k).map fun p=>(p.1,g p.2):=by
 intro l
 induction l with
 |nil=>rfl
 |cons p l ih=>simp only[List.map_cons,Y3];cases kk.eqb k p.1<;> simp[ih]
theorem aX {kk:KK} {V:Type} {k:kk.T} {v:V}:∀{l:List (kk.T×V)},H9 l k=some v→∃l1 l2,l=l1++(k,v)::l2∧(∀w,C1 l k w=l1++(k,w)::l2)∧Y3 l k=l1++l2:=by
 intro l
 induction l with
 |nil=>intro h;cases h
 |cons p l ih=>
  intro h;simp only[H9]at h;cases hb:kk.eqb k p.1 with
  |true=>
   rw[hb]at h;cases h;have:=KK.eqb_iff.1 hb;subst this;exact⟨[],l,rfl,fun w=>by simp[C1,hb],by simp[Y3,hb]⟩
  |false=>
   rw[hb]at h;obtain⟨l1,l2,h1,h2,h3⟩:=ih h;exact⟨p::l1,l2,by rw[h1];rfl,fun w=>by simp[C1,hb,h2],by simp[Y3,hb,h3]⟩
theorem dL {kk:KK} {V:Type} {k:kk.T} {v:V}:∀{l:List (kk.T×V)},H9 l k=none→C1 l k v=l++[(k,v)]:=by
 intro l
 induction l with
 |nil=>intro _;rfl
 |cons p l ih=>
  intro h;simp only[H9]at h;cases hb:kk.eqb k p.1 with
  |true=>rw[hb]at h;cases h
  |false=>rw[hb]at h;simp[C1,hb,ih h]
instance kkDec (k:KK):DecidableEq k.T:=fun a b=>decidable_of_iff (k.eqb a b=true) KK.eqb_iff
theorem U3 {kk:KK} {V:Type} {k k':kk.T} {v:V}:∀{l:List (kk.T×V)},H9 (C1 l k v) k'=if k'=k then some v else H9 l k':=by
 intro l
 induction l with
 |nil=>
  simp only[C1,H9];cases hb:kk.eqb k' k with
  |true=>rw[if_pos (KK.eqb_iff.1 hb)]
  |false=>rw[if_neg (fun e=>by rw[KK.eqb_iff.2 e]at hb;cases hb)]
 |cons p l ih=>
  simp only[C1,H9];by_cases hp:k=p.1
  ·rw[KK.eqb_iff.2 hp];simp only[H9];by_cases hk:k'=p.1
   ·rw[KK.eqb_iff.2 hk,if_pos (hk.trans hp.symm)]
   ·have:kk.eqb k' p.1=false:=by cases hb:kk.eqb k' p.1 with
     |false=>rfl
     |true=>exact absurd (KK.eqb_iff.1 hb) hk
    rw[this,if_neg (fun e=>hk (e.trans hp))]
  ·have hb:kk.eqb k p.1=false:=by cases hb:kk.eqb k p.1 with
    |false=>rfl
    |true=>exact absurd (KK.eqb_iff.1 hb) hp
   rw[hb];simp only[H9,ih];by_cases hk:k'=p.1
   ·have h1:¬k'=k:=fun e=>hp (e.symm.trans hk)
    simp only[KK.eqb_iff.2 hk,h1,if_false]
   ·have:kk.eqb k' p.1=false:=by cases hb:kk.eqb k' p.1 with
     |false=>rfl
     |true=>exact absurd (KK.eqb_iff.1 hb) hk
    rw[this]
end
section
variable {P : Program} {E : D9} {B : Nat → Prop} {W : World} {M0 M F : B5} {Q : Exit → Act → World → Prop} {k : List X8} {st : St} {a : Act} {w : World} {N : Nat} {mrk : MK} {sh : Bool} {J Jx : B5 → Nat → World → Prop} {n : Nat} {ops : List Oper} {rs : List (Nat × Nat)} {S : Nat → Prop}
theorem A3n (hro:E.ro=some 0) (hmk:E.mrk= .f) (hJ:cH J) {all rest:List Oper} {j d ty:Nat} {pos:String} {fo:Operand} {xs:List Operand} {ts:List TypeId} {aft gd} (hg:gT all st.f ⟨some d,.call ⟨.value fo,⟨xs⟩,⟨ts⟩⟩,ty,pos,aft,gd⟩) (hops:Q6 j all=⟨some d,.call ⟨.value fo,⟨xs⟩,⟨ts⟩⟩,ty,pos,aft,gd⟩::rest)
 {lid i:Nat} {Y:Type} (ev:Y→List Value) (ea:Y→List A) (hev:∀M y vs,cY M (ea y) vs→vs=(ev y).toArray) {y:Y} (hf:U7 st.f [] fo=some (pv (.val (.func (.yield lid) #[] #[])))) (hx:aD (U7 st.f []) xs=some (ea y))
 (h0:J M0 i W) (hy:∀Mi W,J Mi i W→Mi.on W→YieldAt Fence.wide 0 P lid (ev y).toArray W fun e W'=>
  (e= .returned (.bool true)∧J Mi (i+1) W'∧Mi.on W')∨(e= .returned (.bool false)∧Jx Mi (i+1) W'∧Mi.on W'))
 {f':Bool→Nat→Option Ent} (hput:∀b,O5 E.N j (C7 all all) st.f (some d) (some (.u (bool b)))=some (f' b))
 (yes:∀W' M',J M' (i+1) W'→G P E (low W'.heap.size) W' M' Q (.ops all (j+1)::k) ⟨f' true,fun _=>none,st.nx⟩)
 (no:∀W' M',Jx M' (i+1) W'→G P E (low W'.heap.size) W' M' Q (.ops all (j+1)::k) ⟨f' false,fun _=>none,st.nx⟩):
 G P E (low W.heap.size) W M0 Q (.ops all j::k) st:=by
 intro M a w hS;have hS:V1 E.N E.mrk (low W.heap.size) W M0 all (C7 all all) j st M a w:=hS;simp only[after];rw[hro,hops];intro hnd;have hrest:Q6 (j+1) all=rest:=by
  rw[Q0]at hops⊢;have:=congrArg List.tail hops;simpa[List.tail_drop]using this
 have hJw:=hJ M0 M i W w h0 hS.h.below.low hS.h.mem hS.d.kp (fun k o hk hlt=>hS.old k o hk hlt);have hfv:a.eval fo= .func (.yield lid) #[] #[]:=(I9 hS (Γ:=[]) (by simp) _ _ hf).val_inv;have hxv:(xs.map a.eval).toArray=(ev y).toArray:=hev M y _ (rA (I9 hS (Γ:=[]) (by simp)) _ _ hx);obtain⟨fn,tmps,az,bd,hrun,hround⟩:=hy M w hJw hS.h.mem;refine wpListIn_step fun K hK=>?_
 rw[if_pos (lB hS hg)];refine⟨fun f _=>A7q 0 f,?_⟩;have hex:(execOp a.eval ⟨some d,.call ⟨.value fo,⟨xs⟩,⟨ts⟩⟩,ty,pos,aft,gd⟩).run P w= .ok (.round lid fn tmps az bd) w:=by
  rw[←hrun];have hxv':Array.map a.eval xs.toArray=(ev y).toArray:=by rw[←hxv];simp
  simp[execOp,resolve,invoke,hfv,hxv',Deferred.ofValue]
 rw[Oper.semAt_eq _ _ _ (by intro c e;cases e),hex];refine⟨fun e=>(by cases e),hround.mono ?_⟩;have go:∀(b:Bool) (w':World),M.on w'→G P E (low w'.heap.size) w' M Q (.ops all (j+1)::k) ⟨f' b,fun _=>none,st.nx⟩→K (a.put (some d) (.bool b)) w':=by
  intro b w' hon hG;refine hK _ _ ?_;have hS1:=I7.rebase hmk hS (w':=w') hon;have hS2:=I7.put (S':=fun q=>q<j+1) (i:=j) (M':=M) (H':=fun _=>none) (nx':=st.nx) (dst:=some d) (e:=some (.u (bool b))) (v:= .bool b) hS1 (Nat.lt_irrefl j) (fun q hq=>Nat.lt_succ_of_lt hq) (B5.ext_refl _ _) hS1.h (hput b) (E6 _ _)
   (fun e' he=>by cases he;exact .c (.pv (.val rfl))) (by simp)
  have:=hG M _ _ hS2;simp only[after,hro,hrest]at this;exact this (fun o ho=>hnd o (List.mem_cons_of_mem _ ho))
 rintro e w' (⟨rfl,h1,h2⟩|⟨rfl,h1,h2⟩)
 ·exact go true w' h2 (yes w' M h1)
 ·exact go false w' h2 (no w' M h1)
theorem F0.df (h:F0 P E) (m:MK):F0 P {E with mrk:=m}:=⟨h.T,⟨h.Ψ.fn,h.Ψ.pt,h.Ψ.co⟩⟩
abbrev dfr (f:Nat) (bs:List Nat):Deferred:={target:= .fn (.func f) (bs.map fun b=>vL (some b)).toArray,args:= #[]}
def B0O (P:Program) (f:FuncId) {X:Type} (az:List A) (hs:List HB) (ok:X→Prop) (hs':X→List HB):Prop:=
 qQ P f∧∀(M:B5) (w:World) (vs:Array Value) (u:FrameMode),E1 (fH w hs) w (X0 hs) M w→cY M az vs→CallsDIn Fence.wide 0 P f vs u w fun e u' w'=>u'=u∧∃v M' x,e= .returned v∧B5.ext (fH w hs) M M'∧ok x∧E1 (fH w hs) w (X0 (hs' x)) M' w'
def B5G (P:Program) (fn:Func) (R:Ending→World→Prop):Exit→Act→World→Prop:=bodyPost P fn R
theorem uS {X:Type} {f:FuncId} {fn:Func} {args:List A} {hs:List HB} {ok:X→Prop} {hs':X→List HB} (hf:P.funcs[f]? =some fn) (hb:fn.body.isNone=false) (hnm:(fn.name== "runtime.NumGoroutine")=false) (hN:fn.ntmps=E.N) (hl:Nat.ble (len args) E.N=true)
 (h:∀M0 W,M0.on W→G P E (fH W hs) W M0 (B5G P fn (R2 M0 W hs ok (fun _=> .t []) hs')) [.code (N8 fn)] (uP args hs)) (hro:E.ro=none:=by rfl) (hdl:E.mrk.dl=[]:=by rfl):B0O P f args hs ok hs':=by
 refine⟨⟨fn,hf,hb,hnm⟩,fun M0 w vs u hS0 hra=>?_⟩;cases hbd:fn.body with
 |none=>rw[hbd]at hb;cases hb
 |some c=>
  rw[Nat.ble_eq,O9]at hl;have hcd:CallsDIn Fence.wide 0 P f vs u w fun e u' w'=>u'=u∧R2 M0 w hs ok (fun _=> .t []) hs' e w':=by
   refine callsDIn_of_wp hf hbd trivial ?_;have hg:=h M0 w hS0.mem M0 ⟨vs++Array.replicate (fn.ntmps-vs.size) undef,[]⟩ w ⟨hS0,fun _ _ e _=>e,.nil hdl.symm (B5.le_refl _),by simp[hra.1];omega,fun s e he=>?_,fun s j b x hx=>?_⟩
   ·have hfb:N8 fn=c:=by simp[N8,hbd]
    have hg2:cwp E.ro P (N8 fn) (after E.ro P (B5G P fn (R2 M0 w hs ok (fun _=> .t []) hs')) []) _ w:=hg;rw[hfb,hro]at hg2;exact wpIn_mono hg2 (fun e a w q=>q)
   ·simp only[uP,G0]at he;split at he
    ·rename_i x hx;cases he;have hlt:s<vs.size:=by rw[hra.1];exact(gS_.1 hx).1
     obtain⟨u,hu⟩:=bI vs s hlt;exact⟨u,by simp[Array.getElem?_append_left hlt,hu],hra.2 s x u hx hu⟩
    ·cases he
   ·simp only[uP,G0]at hx;split at hx<;> cases hx
  refine hcd.mono fun e u' w' ⟨h1,h2⟩=>⟨h1,?_⟩
  obtain⟨v,M',x,q1,q2,q3,q4,q5⟩:=h2;exact⟨v,M',x,q1,q2,q3,q5⟩
theorem B0P {X:Type} {hs:List HB} (hE:F0 P E) {fn:Func} {az:List A} {ob:Prop} {ok:X→Prop} {rx:X→A} {hs':X→List HB} (x:X) (hok:ok x) (ms:List Nat)
 (h:Y4 E.T st.f st.H fn.results.toList=some (az,ob):=by exact rfl) (hob:ob:=by and_intros<;> first|exact trivial|exact rfl) (hm:I1 ms=true:=by exact rfl) (hmk:E.mrk= .f:=by exact rfl)
 (hr:qT (B1e az) (rx x):=by and_intros<;> first|exact trivial|exact rfl|omega|(refine A6 ?_;first|exact rfl|(simp;done)|(simp_all;done))|(simp;done)|(simp_all;done)) (hl:vO ⟨fun _=>none,st.H,0⟩ ms (hs' x):=by and_intros<;> first|exact trivial|exact rfl|omega|(refine A6 ?_;first|exact rfl|(simp;done)|(simp_all;done))|(simp;done)|(simp_all;done)):
 G P E (fH W hs) W M0 (B5G P fn (R2 M0 W hs ok rx hs')) [] st:=by
 intro M a w hS;have hS:V1 E.N E.mrk (fH W hs) W M0 [] [] 0 st M a w:=hS;have h1:=lC hmk hE.T (P:=P) hS h hob (ok:=ok) x hok ms hr hm hl;rw[hS.nodef hmk]at h1;exact⟨hS.nodef hmk,h1⟩
theorem C2Q {all:List Oper} {i:Nat} {o:Oper} {fo:Operand} {f:Nat} {caps:List C} {bs:List Nat}
 (hk:G P {E with mrk:= .d [dfr f bs]} B W M0 Q (.ops all (i+1)::k) st)
 (hmk:E.mrk= .f:=by exact rfl) (hro:E.ro=none:=by exact rfl) (hd:Q6 i all=o::Q6 (i+1) all:=by exact rfl) (hg:o.guard=none:=by exact rfl) (ho:o.op= .defer ⟨.value fo,⟨[]⟩,⟨[]⟩⟩:=by exact rfl) (hdst:o.dst=none:=by exact rfl)
 (hfo:U7 st.f [] fo=some (.c (.clo f caps)):=by exact rfl) (hbs:B3u caps=some bs:=by exact rfl):G P E B W M0 Q (.ops all i::k) st:=by
 intro M a w hS;have hS:V1 E.N E.mrk B W M0 all (C7 all all) i st M a w:=hS;show wA E.ro P all.toArray (after E.ro P Q k) (Q6 i all) a w;rw[hd];refine N1 fun K hK=>?_
 have hw:Region.wanted o (yielded all.toArray a.tmps)=true:=by simp[Region.wanted,hg]
 rw[if_pos hw];obtain⟨dst,op,ty,pos,aft,guard⟩:=o;simp only at ho hdst;subst ho hdst;have hfv:a.eval fo= .func (.func f) #[] (bs.map fun b=>vL (some b)).toArray:=by
  have:=I9 hS (Γ:=[]) (by simp) _ _ hfo;generalize a.eval fo=v at this;cases this with|c h=>
  cases h with
  | @clo _ _ us hs hh=>
   have:=A9y caps bs us.toList hbs ⟨by simpa using hs,fun j c u e1 e2=>hh j c u e1 (by simpa using e2)⟩;rw[←this]
 have hrun:(execOp a.eval ⟨none,.defer ⟨.value fo,⟨[]⟩,⟨[]⟩⟩,ty,pos,aft,guard⟩).run P w= .ok (.defer (dfr f bs)) w:=by
  simp[execOp,resolve,hfv,Deferred.ofValue]
 unfold Oper.wp;rw[hrun,Oper.upon_defer];refine hK _ _ ?_;have hdf:=hS.nodef hmk;have hS2:V1 E.N (.d [dfr f bs]) B W M0 all (C7 all all) (i+1) st M ({a with defers:=dfr f bs::a.defers}.put none undef) w:=
  ⟨hS.h,hS.old,⟨⟨[],fun _=>rfl,List.nodup_nil,by simp[Act.put,hdf,MK.dl],fun _ h=>by cases h⟩,hS.d.kp⟩,hS.n,hS.f,fun s j b x hx=>⟨Nat.lt_succ_of_lt (hS.g s j b x hx).1,(hS.g s j b x hx).2⟩⟩
 exact hk M _ w hS2
def B0Q:List A→Option (List Nat)
 |[]=>some []
 | .c (.ptr _ b 0)::l=>match B0Q l with
  |some bs=>some (b::bs)
  |none=>none
 |_=>none
theorem B5H:∀{az:List A} {bs:List Nat},B0Q az=some bs→cY M az (bs.map fun b=>vL (some b)).toArray:=by
 intro az
 induction az with
 |nil=>intro bs h;cases h;exact⟨rfl,by simp⟩
 |cons x az ih=>
  intro bs h;unfold B0Q at h;split at h
  ·rename_i heq;cases heq
  ·rename_i n b l heq;cases heq;split at h
   ·rename_i bs' hb;cases h;obtain⟨i1,i2⟩:=ih hb;refine⟨by simpa using i1,fun j c v e1 e2=>?_⟩;cases j with
    |zero=>simp at e1 e2;subst e1 e2;exact .c .ptr
    |succ j=>simp at e1 e2;exact i2 j c v e1 (by simpa using e2)
   ·cases h
  ·cases h
theorem C2R {X:Type} {fn:Func} {R:Ending→World→Prop} {c:Code} {f:Nat} {bs:List Nat} {az:List A} {hs:List HB} {ok:X→Prop} {hs':X→List HB} (ns:List Nat) (hct:B0O P f az hs ok hs')
 (hk:∀x,ok x→G P {E with mrk:= .f} B W M0 (aU P fn R) [] ⟨st.f,U1 (J9 st.H ns) (aF ns st.nx) (hs' x) 0,st.nx+(len (hs' x)-len ns)⟩)
 (hc:iT c=true:=by exact rfl) (hmk:E.mrk= .d [dfr f bs]:=by exact rfl) (hro:E.ro=none:=by exact rfl) (hps:B0Q az=some bs:=by exact rfl) (hn:I1 ns=true:=by exact rfl)
 (hl:vO ⟨fun _=>none,st.H,0⟩ ns hs:=by and_intros<;> first|exact trivial|exact rfl|omega|(refine A6 ?_;first|exact rfl|(simp;done)|(simp_all;done))|(simp;done)|(simp_all;done)):G P E B W M0 (aU P fn R) (.code c::k) st:=by
 intro M a w hS;have hS:V1 E.N E.mrk B W M0 [] [] 0 st M a w:=hS;cases c<;> simp only[iT,Bool.false_eq_true]at hc;simp only[after];refine wpIn_ret (cZ ?_);obtain⟨H2,g1,g2,g3,g4⟩:=oT hS.h hn hl;have hcl':J9 H2 ns=J9 st.H ns:=by
  have key:∀(ns':List Nat) (A B:Nat→Option HB),(∀m,m∉ns'→A m=B m)→∀n,J9 A ns' n=J9 B ns' n:=by
   intro ns'
   induction ns' with
   |nil=>intro A B h n;exact h n (by simp)
   |cons m l ih=>
    intro A B h n;refine ih _ _ (fun q hq=>?_) n;by_cases e:q=m
    ·subst e;rw[B4,B4]
    ·rw[B9 _ _ e,B9 _ _ e];exact h q (by simp[e,hq])
  exact funext (key ns _ _ g4)
 obtain⟨hS1,hback⟩:=B3y g1 (hs:=hs) g2 g3;obtain⟨Ds,d0,d1,d2,d3⟩:=hS.d.df;have hD:a.defers=[dfr f bs]:=by rw[d2,d0 (by rw[hmk];simp),hmk];rfl
 obtain⟨⟨fn',q1,q2,q3⟩,hcall⟩:=hct;show LeavesInM Fence.wide 0 P fn a.tmps R a.defers .returning w;rw[hD];have hinv:(invoke (dfr f bs).target (dfr f bs).args).run P w= .ok (.enter f (bs.map fun b=>vL (some b)).toArray) w:=by
  have e3':fn'.name≠ "runtime.NumGoroutine" :=by simpa using q3
  have e2':fn'.body≠none:=by intro e;rw[e]at q2;cases q2
  simp[invoke,callFunc,q1,e2',e3']
 refine⟨by simp,.inr ⟨fun e=>(by cases e),.func f,_,f,_,rfl,hinv,fun g _=>trivial,?_⟩⟩;refine(hcall M w _ .returning hS1 (B5H hps)).mono fun e u' w' ⟨hu,v,M',x,he,hM',hok,hS'⟩=>?_
 subst he hu;obtain⟨hA,hEx⟩:=hback M' w' (hs' x) (aF ns st.nx) hM' hS';rw[hcl']at hA;have hS3:V1 E.N .f B W M0 [] [] 0 ⟨st.f,U1 (J9 st.H ns) (aF ns st.nx) (hs' x) 0,st.nx+(len (hs' x)-len ns)⟩ M' ⟨a.tmps,[]⟩ w':=
  ⟨hA,fun k o hk hB=>hS.old k o (hEx.2 k o hk hB) hB,.nil rfl (B5.le_trans hS.d.kp hEx.1),hS.n,fun s e he=>by
   obtain⟨v,v1,v2⟩:=hS.f s e he;exact⟨v,v1,v2.mono hEx.1⟩,hS.g⟩
 exact hk x hok M' _ w' hS3
end
section
variable {P : Program} {E : D9} {B : Nat → Prop} {W : World} {M0 M F : B5} {Q : Exit → Act → World → Prop} {k : List X8} {st : St} {a : Act} {w w' : World} {N : Nat} {mrk : MK} {H H' : Nat → Option HB}
theorem yE (n m:Nat) {α:Type} {e:α→(Nat→Prop)→HB} {l l0 l1 l2:List α} {x:α} {S S2:Nat→Prop} (he:l=l1++x::l2) (h0:l0=l1++l2)
 (hk:∀S1,G P E B W M0 Q k ⟨st.f,D4 (D4 st.H m none) n (some (U2 e l S1)),st.nx⟩) (hn:st.H n=some (U2 e l0 S):=by exact rfl) (hm:st.H m=some (e x S2):=by exact rfl) (hnm:n≠m:=by decide):G P E B W M0 Q k st:=by
 subst he h0;exact B4z n m l1 l2 hn hm hnm hk
theorem E1.nobig (hS:E1 B W H M w) {α:Type} (e:α→(Nat→Prop)→HB) (n:Nat) (hn:H n=none):E1 B W (D4 H n (some (U2 e [] fun _=>False))) M w:=by
 refine⟨hS.below,hS.base,hS.mem,fun m y hy=>?_,fun m m' y y' b hmm e1 e2 hb=>?_⟩
 ·by_cases hm:m=n
  ·subst hm;rw[B4]at hy;cases hy;exact⟨fun k hk=>hk.elim,fun M' w' _ _ _=>⟨[],rfl,fun h hh=>by simp[cB]at hh,fun i j x y b _ e=>by simp[cB]at e⟩⟩
  ·rw[B9 _ _ hm]at hy;exact hS.ok m y hy
 ·by_cases hm:m=n
  ·subst hm;rw[B4]at e1;cases e1;exact hb.elim
  ·rw[B9 _ _ hm]at e1;by_cases hm':m'=n
   ·subst hm';rw[B4]at e2;cases e2;exact fun h=>h.elim
   ·rw[B9 _ _ hm']at e2;exact hS.inj m m' y y' b hmm e1 e2 hb
theorem A3o (n:Nat) {α:Type} (e:α→(Nat→Prop)→HB) (hk:G P E B W M0 Q k ⟨st.f,D4 st.H n (some (U2 e [] fun _=>False)),n+1⟩) (hn:st.H n=none:=by exact rfl):G P E B W M0 Q k st:=by
 intro M a w hS;exact hk M a w ⟨hS.h.nobig e n hn,hS.old,hS.d,hS.n,hS.f,hS.g⟩
theorem C2S (n:Nat) (c:C) {all:List Oper} {i:Nat} {o:Oper} {t:TypeId} {x:Operand} {b off m:Nat} {ty:TypeId} {cs:List C} {ti:TI} {f':Nat→Option Ent} (hE:F0 P E) (hc:cs[off]? =some c)
 (hk:G P E B W M0 Q (.ops all (i+1)::k) ⟨f',st.H,st.nx⟩) (hn:st.H n=some (.blk b ty cs):=by exact rfl) (hd:Q6 i all=o::Q6 (i+1) all:=by exact rfl) (hg:o.guard=none:=by exact rfl) (ho:o.op= .load t x:=by exact rfl)
 (hx:U7 st.f [] x=some (.c (.ptr m b off)):=by exact rfl) (ht:E.T t=some ti:=by exact rfl) (hag:ti.kind.agg=false:=by exact rfl) (hf:O5 E.N i (C7 all all) st.f o.dst (some (.u (.c c)))=some f':=by exact rfl):G P E B W M0 Q (.ops all i::k) st:=by
 intro M a w hS;show wA E.ro P all.toArray (after E.ro P Q k) (Q6 i all) a w;rw[hd];refine N1 fun K hK=>?_
 have hw:Region.wanted o (yielded all.toArray a.tmps)=true:=by unfold Region.wanted;rw[hg]
 rw[if_pos hw];obtain⟨dst,op,ty',pos,aft,guard⟩:=o;simp only at ho hg hf;subst ho hg;have hr:=I9 hS (Γ:=[]) (by simp);obtain⟨h1,h2,us,h3,h4⟩:=hS.h.ok _ _ hn;have hlt:=(gS_.1 hc).1;have hla:ldA E.T t (Q6 off cs)=some (.c c):=by
  unfold ldA;rw[ht];simp only[hag];rw[Q0,List.drop_eq_getElem_cons hlt,(gS_.1 hc).2]
 obtain⟨v,g1,g2⟩:=mK (w:=w) (M:=M) (b:=b) (o:=off) hE.T hla (fun j c hj=>by
  rw[Q0,List.getElem?_drop]at hj;have hlt:=(gS_.1 hj).1;obtain⟨u,hu⟩:=bI us (off+j) (by have:=h4.1;simp at this;omega);exact⟨u,by simp[World.cell?,h3,hu],h4.2 _ c _ hj (by simpa using hu)⟩)
 have hrun:(execOp a.eval ⟨dst,.load t x,ty',pos,aft,none⟩).run P w= .ok (.value v) w:=by simp[execOp,Instr.loadAt,(hr _ _ hx).ptr_inv,Instr.sureAddr,g1]
 refine F9 hrun (hK _ _ (hk M _ w (I7.put hS (S':=fun j=>j<i+1) (Nat.lt_irrefl i) (fun j hj=>Nat.lt_succ_of_lt hj) (B5.ext_refl _ _) hS.h hf (E6 _ _) (fun e' he=>?_) (by simp))));cases he;exact g2
theorem C2T {all:List Oper} {i:Nat} {o:Oper} {t:TypeId} {x:Operand} {n:Int} {f':Nat→Option Ent}
 (hk:G P E B W M0 Q (.ops all (i+1)::k) ⟨f',st.H,st.nx⟩) (hd:Q6 i all=o::Q6 (i+1) all:=by exact rfl) (hg:o.guard=none:=by exact rfl) (ho:o.op= .unOp .xor t x:=by exact rfl)
 (hx:U7 st.f [] x=some (int .u32 n):=by exact rfl) (hf:O5 E.N i (C7 all all) st.f o.dst (some (.u (int .u32 (fG .u32 IntKind.u32.max n))))=some f':=by exact rfl):G P E B W M0 Q (.ops all i::k) st:=by
 intro M a w hS;show wA E.ro P all.toArray (after E.ro P Q k) (Q6 i all) a w;rw[hd];refine N1 fun K hK=>?_
 have hw:Region.wanted o (yielded all.toArray a.tmps)=true:=by unfold Region.wanted;rw[hg]
 rw[if_pos hw];obtain⟨dst,op,ty',pos,aft,guard⟩:=o;simp only at ho hg hf;subst ho hg;have hr:=I9 hS (Γ:=[]) (by simp);have hxv:=(hr _ _ hx).val_inv;have hrun:(execOp a.eval ⟨dst,.unOp .xor t x,ty',pos,aft,none⟩).run P w= .ok (.value (.int .u32 (fG .u32 IntKind.u32.max n))) w:=by simp[execOp,hxv,Op.unary,Op.intBits,fG];rfl
 refine F9 hrun (hK _ _ (hk M _ w (I7.put hS (S':=fun j=>j<i+1) (Nat.lt_irrefl i) (fun j hj=>Nat.lt_succ_of_lt hj) (B5.ext_refl _ _) hS.h hf (E6 _ _) (fun e' he=>?_) (by simp))));cases he;exact .c (.pv (.val rfl))
theorem B1p {ops:List Oper} {l:List Nat} {n:Nat} (i:Nat) (hT:K9 P E.T) {o:Oper} {f':Nat→Option Ent} {t:TypeId} {y olo:Operand} {e s1 s2:Nat} {z:List C} {k0 k':LK} {L:List k0.T} {ka:IntKind} {lo:Int} (hnth:X0 ops i=some o) (ho:o.op= .slice t y (some olo) none none) (hy:U7 st.f [] y=some (lst k0 L)) (hlo:U7 st.f [] olo=some (int ka lo))
 (hk0:E.T t=some ⟨.slc e k',s1,s2,z⟩) (hsz:Nat.beq k'.sz k0.sz=true) (hb:0≤lo∧lo≤L.length) (hi:F8 i l=false) (hsel:Region.noSelect ops.toArray=true) (hrd:aI l (I2 .any o.after.toList)=true) (hfr:frB ops l o i ops 0=true) (hg:gT ops st.f o)
 (hf:O5 E.N i (C7 ops ops) st.f o.dst (some (.u (lst k0 ((L.take ((L.length:Nat):Int).toNat).drop lo.toNat))))=some f') (hk:GA P E B W M0 Q k ops n (i::l) ⟨f',st.H,st.nx⟩):GA P E B W M0 Q k ops (n+1) l st:=
 B4t i _ hnth hi hsel hrd hfr hg (fun M a w hS=>by
  obtain⟨dst,op,ty,pos,aft,guard⟩:=o;simp only at ho;subst ho;have hr:=I9 hS (Γ:=[]) (by simp);have hp:K2 E.T st.H false (U7 st.f []) ty (.slice t y (some olo) none none)=some (lst k0 ((L.take ((L.length:Nat):Int).toNat).drop lo.toNat),0≤lo∧lo≤L.length):=by
   have hy':U7 st.f [] y=some (.c (.pv (.lst k0 L))):=hy;simp only[K2,hy',eC,hlo,hk0,hsz,A5X,U9]
  obtain⟨v,g1,g2⟩:=A9x (dst:=dst) (pos:=pos) (after:=aft) (guard:=guard) hT hS.h hr (fun _=>rfl) hp hb;refine⟨v,g2,fun w'=>?_⟩;have hu:=(hT _ _ hk0).und;simp only at hu;obtain⟨hu,inf,hinf,hsz'⟩:=hu;have h1:=hr _ _ hy;cases h1 with|c h1=>cases h1 with|pv h1=>
  obtain⟨ad,c,b,o,hv,q1,q2,q3,q4,q5⟩:=h1.lst_inv;have hs:A5X L.length (some (int ka lo)) none none=some (lo,((L.length:Nat):Int),0≤lo∧lo≤L.length):=rfl;have key:∀w':World,(execOp a.eval ⟨dst,.slice t y (some olo) none none,ty,pos,aft,guard⟩).run P w'= .ok (.value (.slice (if c=lo.toNat then ad else ad.map (·.add (lo.toNat*inf.size))) (L.length-lo.toNat) (c-lo.toNat))) w':=by
   intro w';obtain⟨_,_,_,m,q6,q7,q8,q9⟩:=kY (P:=P) (w:=w') hr (rd:=U7 st.f []) (olo:=some olo) (ohi:=none) (omx:=none) (lo:=some (int ka lo)) (hi:=none) (mx:=none) (by simp only[eC,hlo]) rfl rfl hs hb (sl:=true) q1;have:=q8 rfl;subst this;simp only[Option.map_some,Option.map_none]at q9;simp[execOp,Instr.sliceAt,hv,run_underlying hu,Instr.slice,q9,Go.sizeOf,D7 hinf]
  have e1:=key w;rw[g1]at e1;cases e1;exact key w') hf hk
theorem vR (n:Nat) {c:Code} (hk:GA P E B W M0 Q k (H6 c) n [] st) (hm:P.follows .mixedOrders=true:=by exact rfl) (hd:V2 c=true:=by exact rfl) (hn:len (H6 c)=n:=by exact rfl) (hro:E.ro=none:=by exact rfl):G P E B W M0 Q (.code c::k) st:=C4s hm hd _ rfl n hn hk hro
theorem X4 {ops:List Oper} {l:List Nat} {r:Nat} (i:Nat) {o:Oper} {y:Operand} {f':Nat→Option Ent} {x:A} (hk:GA P E B W M0 Q k ops r (i::l) ⟨f',st.H,st.nx⟩) (hnth:X0 ops i=some o:=by exact rfl) (ho:o.op= .move y:=by exact rfl) (hx:U7 st.f [] y=some x:=by exact rfl) (hi:F8 i l=false:=by exact rfl) (hsel:Region.noSelect ops.toArray=true:=by decide+kernel) (hrd:aI l (I2 .any o.after.toList)=true:=by exact rfl) (hfr:frB ops l o i ops 0=true:=by decide+kernel) (hg:o.guard=none:=by exact rfl)
 (hf:O5 E.N i (C7 ops ops) st.f o.dst (some (.u x))=some f':=by exact rfl):GA P E B W M0 Q k ops (r+1) l st:=A3j i hnth ho hx hi hsel hrd hfr hg hf hk
theorem C4u {ops:List Oper} {l:List Nat} {n:Nat} (i:Nat) (hE:F0 P E) {o:Oper} {f':Nat→Option Ent} {t:TypeId} {y olo:Operand} {e s1 s2:Nat} {z:List C} {k0 k':LK} {L:List k0.T} {ka:IntKind} {lo:Int} (hk:GA P E B W M0 Q k ops n (i::l) ⟨f',st.H,st.nx⟩) (hnth:X0 ops i=some o:=by exact rfl) (ho:o.op= .slice t y (some olo) none none:=by exact rfl) (hy:U7 st.f [] y=some (lst k0 L):=by exact rfl) (hlo:U7 st.f [] olo=some (int ka lo):=by exact rfl)
 (hk0:E.T t=some ⟨.slc e k',s1,s2,z⟩:=by exact rfl) (hsz:Nat.beq k'.sz k0.sz=true:=by exact rfl) (hi:F8 i l=false:=by exact rfl) (hsel:Region.noSelect ops.toArray=true:=by decide+kernel) (hrd:aI l (I2 .any o.after.toList)=true:=by exact rfl) (hfr:frB ops l o i ops 0=true:=by decide+kernel) (hg:o.guard=none:=by exact rfl)
 (hf:O5 E.N i (C7 ops ops) st.f o.dst (some (.u (lst k0 ((L.take ((L.length:Nat):Int).toNat).drop lo.toNat))))=some f':=by exact rfl) (hb:0≤lo∧lo≤L.length:=by(constructor<;> first|omega|(simp only;omega))):GA P E B W M0 Q k ops (n+1) l st:=B1p i hE.T hnth ho hy hlo hk0 hsz hb hi hsel hrd hfr (by unfold gT;rw[hg];trivial) hf hk
theorem F7 {ops:List Oper} {l:List Nat} {r:Nat} (i:Nat) (hE:F0 P E) {o:Oper} {st':Value→St} {ob:Value→Prop} (hk:∀u,GA P E B W M0 Q k ops r (i::l) (st' u)) (h1:rdL l ops 0=[i]:=by exact rfl) (ho:X0 ops i=some o:=by exact rfl) (hi:F8 i l=false:=by exact rfl) (hg:gdB l o.guard=true:=by exact rfl)
 (h:∀u,O0 E (fun _=>none) ops (C7 ops ops) i st.f st.H st.nx o u=some (st' u,ob u):=by exact fun u=>rfl) (hob:∀u,ob u:=by(intro bs;and_intros<;> (intros;first|exact trivial|omega|exact rfl|exact A2I _|exact uG _|exact uH _|exact gO _|(simp only;omega)|(simp;done)|(simp;omega)|(simp_all;done)|(simp_all;omega)))):GA P E B W M0 Q k ops (r+1) l st:=C3O i hE.T hE.Ψ (fun _=>none) h1 ho hi hg h hob hk
theorem iV {ops:List Oper} {l:List Nat} {r:Nat} (hk:G P E B W M0 Q (.ops ops (len ops)::k) st) (h:rdL l ops 0=[]:=by exact rfl) (hro:E.ro=none:=by exact rfl):GA P E B W M0 Q k ops r l st:=B9f h hk hro
theorem rE (s n j0:Nat) {f b:Nat} {ty:TypeId} {caps:List C} {ys:List PV} (hs:st.f s=some (.u (.c (.clo f caps)))) (hj0:caps[j0]? =some (.ptr n b 0)) (hn:st.H n=some (.blk b ty (ys.map .pv)))
 (hk:G P E B W M0 Q k ⟨bX st.f s (some (.u (.c (.clo f (caps.set j0 (.cel ys)))))),D4 st.H n none,st.nx⟩):G P E B W M0 Q k st:=by
 intro M a w hS;obtain⟨q1,q2,us,q3,q4⟩:=hS.h.ok _ _ hn
 let M':B5:=fun j=>if j=b then w.heap[b]? else M j
 have hle:M.le M':=by
  intro j o e;by_cases hj:j=b
  ·subst hj;rw[q2]at e;cases e
  ·simp[M',hj,e]
 have hH:∀m x,D4 st.H n none m=some x→m≠n∧st.H m=some x:=fun m x hm=>by
  by_cases e:m=n
  ·subst e;rw[B4]at hm;cases hm
  ·rw[B9 _ _ e]at hm;exact⟨e,hm⟩
 have hSH:E1 B W (D4 st.H n none) M' w:=by
  refine⟨hS.h.below,hS.h.base,?_,?_,fun m m' x x' c hm a1 a2=>hS.h.inj m m' x x' c hm (hH m x a1).2 (hH m' x' a2).2⟩
  ·intro j o e;by_cases hj:j=b
   ·subst hj;simpa[M']using e
   ·simp only[M',hj,if_false]at e;exact hS.h.mem j o e
  ·intro m x hx;obtain⟨e1,e2⟩:=hH m x hx;have hok:=hS.h.ok m x e2;refine hok.keep hle (fun c hc=>?_) (fun c hc=>rfl);have hcb:c≠b:=fun e=>hS.h.inj n m _ x b (fun h=>e1 h.symm) hn e2 rfl (e▸hc)
   simp only[M',hcb,if_false];exact(HB.block_lt hok hc).2.2
 refine hk M' a w ⟨hSH,fun k o hk hkB=>?_,hS.d.mono hle rfl,hS.n,fun s' e he=>?_,fun s' j c x hx=>?_⟩
 ·have hkb:k≠b:=fun e=>q1 (e▸hkB)
  simp only[M',hkb,if_false]at hk;exact hS.old k o hk hkB
 ·simp only[bX]at he;split at he
  ·rename_i hb;rw[Nat.beq_eq]at hb;subst hb;cases he;obtain⟨v,v1,v2⟩:=hS.f _ _ hs;refine⟨v,v1,?_⟩;cases v2 with
   |c v2=>
    cases v2 with
    |clo hz hc=>
     rename_i vs;refine .c (.clo (by simpa using hz) fun j c u e1 e2=>?_);by_cases hjj:j=j0
     ·subst hjj;have hjl:=(gS_.1 hj0).1;rw[List.getElem?_set,if_pos rfl,if_pos hjl]at e1;cases e1;have:=hc j _ u hj0 e2;cases this;have hu:∀j y,ys[j]? =some y→∃v,us[j]? =some v∧R M' y v:=fun j y e=>by
       have hlt:j<us.size:=by
        have h9:us.toList.length=(ys.map C.pv).length:=q4.1;rw[List.length_map,Array.length_toList]at h9;rw[h9];exact(gS_.1 e).1
       have h2:=q4.2 j (.pv y) us[j] (by rw[List.getElem?_map,e];rfl) (by simp[hlt]);cases h2 with
       |pv h2=>exact⟨us[j],Array.getElem?_eq_getElem hlt,h2.mono hle⟩
      refine .cel b 0 (fun j=>us.getD j undef) (fun j y e=>?_) (fun j y e=>?_)
      ·obtain⟨v,h1,h2⟩:=hu j y e;simp[B5.cell,M',q3,h1]
      ·obtain⟨v,h1,h2⟩:=hu j y e;have:us.getD j undef=v:=by simp[h1]
       simp only[this];exact h2
     ·rw[List.getElem?_set,if_neg (fun e=>hjj e.symm)]at e1;exact(hc j c u e1 e2).mono hle
  ·obtain⟨v,v1,v2⟩:=hS.f s' e he;exact⟨v,v1,v2.mono hle⟩
 ·simp only[bX]at hx;split at hx
  ·cases hx
  ·exact hS.g s' j c x hx
end
def fz0 (b:Nat) (cs:List C):C→C→Prop
 | .ptr _ b' o,.cel ys=>b'=b∧o=0∧cs=ys.map .pv
 | .ptr _ b' o,.bx x=>b'=b∧o=0∧cs=[x]
 |c,c'=>c=c'
def fzs (b:Nat) (cs:List C):List C→List C→Prop
 |[],[]=>True
 |x::xs,y::ys=>fz0 b cs x y∧fzs b cs xs ys
 |_,_=>False
def fzC (b:Nat) (cs:List C):C→C→Prop
 | .clo f xs,.clo f' ys=>f=f'∧fzs b cs xs ys
 |c,c'=>fz0 b cs c c'
def fzL (f:Nat→Option Ent) (b:Nat) (cs:List C):List (Nat×C)→Prop
 |[]=>True
 |(s,c')::r=>(match f s with
  |some (.u (.c c))=>fzC b cs c c'
  |_=>False)∧fzL f b cs r
def B9m (f:Nat→Option Ent):List (Nat×C)→Nat→Option Ent
 |[]=>f
 |(s,c)::r=>bX (B9m f r) s (some (.u (.c c)))
section
variable {P : Program} {E : D9} {B : Nat → Prop} {W : World} {M0 M F : B5} {Q : Exit → Act → World → Prop} {k : List X8} {st : St} {a : Act} {w w' : World} {N : Nat} {mrk : MK}
theorem B5I {b:Nat} {cs:List C} {us:Array Value} {M M':B5} (hle:M.le M') (hM:∀j u,us[j]? =some u→M'.cell b j=some u) (hcs:R8 M cs us.toList) {c c':C} (h:fz0 b cs c c') {v:Value} (r:RC M c v):RC M' c' v:=by
 have hu:∀j c,cs[j]? =some c→∃u,us[j]? =some u∧RC M' c u:=fun j c e=>by
  have hlt:j<us.size:=by
   have h9:us.toList.length=cs.length:=hcs.1;rw[Array.length_toList]at h9;rw[h9];exact(gS_.1 e).1
  exact⟨us[j],Array.getElem?_eq_getElem hlt,(hcs.2 j c us[j] e (by simp[hlt])).mono hle⟩
 unfold fz0 at h;split at h
 ·obtain⟨rfl,rfl,rfl⟩:=h;cases r;rename_i ys;have hy:∀j y,ys[j]? =some y→∃u,us[j]? =some u∧R M' y u:=fun j y e=>by
   obtain⟨u,u1,u2⟩:=hu j (.pv y) (by rw[List.getElem?_map,e];rfl);cases u2 with|pv u2=>exact⟨u,u1,u2⟩
  refine .cel _ 0 (fun j=>us.getD j undef) (fun j y e=>?_) (fun j y e=>?_)
  ·obtain⟨v,h1,h2⟩:=hy j y e;rw[Nat.zero_add,hM j v h1];simp[h1]
  ·obtain⟨v,h1,h2⟩:=hy j y e;have:us.getD j undef=v:=by simp[h1]
   simp only[this];exact h2
 ·obtain⟨rfl,rfl,rfl⟩:=h;cases r;obtain⟨u,u1,u2⟩:=hu 0 _ rfl;exact .bx _ 0 (hM 0 u u1) u2
 ·subst h;exact r.mono hle
theorem B9n {b:Nat} {cs:List C}:∀{xs ys:List C},fzs b cs xs ys→xs.length=ys.length∧∀(j:Nat) x y,xs[j]? =some x→ys[j]? =some y→fz0 b cs x y:=by
 intro xs
 induction xs with
 |nil=>
  intro ys h;cases ys with
  |nil=>exact⟨rfl,fun j x y e=>by simp at e⟩
  |cons y ys=>exact h.elim
 |cons x xs ih=>
  intro ys h;cases ys with
  |nil=>exact h.elim
  |cons y ys=>
   obtain⟨h1,h2⟩:=h;obtain⟨i1,i2⟩:=ih h2;refine⟨by simp[i1],fun j x' y' e1 e2=>?_⟩;cases j with
   |zero=>simp at e1 e2;subst e1 e2;exact h1
   |succ j=>exact i2 j x' y' (by simpa using e1) (by simpa using e2)
theorem B9o (n:Nat) (L:List (Nat×C)) {b:Nat} {ty:TypeId} {cs:List C}
 (hk:G P E B W M0 Q k ⟨B9m st.f L,D4 st.H n none,st.nx⟩) (hn:st.H n=some (.blk b ty cs):=by exact rfl) (hL:fzL st.f b cs L:=by and_intros<;> first|exact rfl|exact trivial):G P E B W M0 Q k st:=by
 intro M a w hS;obtain⟨q1,q2,us,q3,q4⟩:=hS.h.ok _ _ hn
 let M':B5:=fun j=>if j=b then w.heap[b]? else M j
 have hle:M.le M':=by
  intro j o e;by_cases hj:j=b
  ·subst hj;rw[q2]at e;cases e
  ·simp[M',hj,e]
 have hM':∀j u,us[j]? =some u→M'.cell b j=some u:=fun j u e=>by simp[B5.cell,M',q3,e]
 have hH:∀m x,D4 st.H n none m=some x→m≠n∧st.H m=some x:=fun m x hm=>by
  by_cases e:m=n
  ·subst e;rw[B4]at hm;cases hm
  ·rw[B9 _ _ e]at hm;exact⟨e,hm⟩
 have hSH:E1 B W (D4 st.H n none) M' w:=by
  refine⟨hS.h.below,hS.h.base,?_,?_,fun m m' x x' c hm a1 a2=>hS.h.inj m m' x x' c hm (hH m x a1).2 (hH m' x' a2).2⟩
  ·intro j o e;by_cases hj:j=b
   ·subst hj;simpa[M']using e
   ·simp only[M',hj,if_false]at e;exact hS.h.mem j o e
  ·intro m x hx;obtain⟨e1,e2⟩:=hH m x hx;have hok:=hS.h.ok m x e2;refine hok.keep hle (fun c hc=>?_) (fun c hc=>rfl);have hcb:c≠b:=fun e=>hS.h.inj n m _ x b (fun h=>e1 h.symm) hn e2 rfl (e▸hc)
   simp only[M',hcb,if_false];exact(HB.block_lt hok hc).2.2
 have hf:∀(L:List (Nat×C)),fzL st.f b cs L→∀s e,B9m st.f L s=some e→(∃(c c':C) (v:Value),e= .u (.c c')∧a.tmps[s]? =some v∧RC M' c' v)∨st.f s=some e:=by
  intro L
  induction L with
  |nil=>intro _ s e h;exact .inr h
  |cons p r ih=>
   obtain⟨s0,c'⟩:=p;intro hL s e h;obtain⟨h1,h2⟩:=hL;simp only[B9m,bX]at h;split at h
   ·rename_i hb;rw[Nat.beq_eq]at hb;subst hb;cases h;split at h1
    ·rename_i c hc;obtain⟨v,v1,v2⟩:=hS.f _ _ hc;refine .inl ⟨c,c',v,rfl,v1,?_⟩;cases v2 with
     |c v2=>
      unfold fzC at h1;split at h1
      ·obtain⟨rfl,h1⟩:=h1;obtain⟨g1,g2⟩:=B9n h1;cases v2 with
       |clo hz hc'=>
        refine .clo (by rw[hz,g1]) (fun j c u e1 e2=>?_);have hjl:=(gS_.1 e1).1;obtain⟨x,hx⟩:∃x,_=some x:=⟨_,gE_ (by rw[g1];exact hjl)⟩
        exact B5I hle hM' q4 (g2 j x c hx e1) (hc' j x u hx e2)
      ·exact B5I hle hM' q4 h1 v2
    ·exact h1.elim
   ·exact ih h2 s e h
 refine hk M' a w ⟨hSH,fun k o hk hkB=>?_,hS.d.mono hle rfl,hS.n,fun s e he=>?_,fun s j c x hx=>?_⟩
 ·have hkb:k≠b:=fun e=>q1 (e▸hkB)
  simp only[M',hkb,if_false]at hk;exact hS.old k o hk hkB
 ·rcases hf L hL s e he with⟨c,c',v,rfl,v1,v2⟩|h
  ·exact⟨v,v1,.c v2⟩
  ·obtain⟨v,v1,v2⟩:=hS.f s e h;exact⟨v,v1,v2.mono hle⟩
 ·rcases hf L hL s _ hx with⟨c,c',v,h,_⟩|h
  ·cases h
  ·exact hS.g s j c x h
theorem C4v {all:List Oper} {i:Nat} {o:Oper} {t:TypeId} {x:Operand} {y:C} {ti:TI} {f':Nat→Option Ent} (hE:F0 P E)
 (hk:G P E B W M0 Q (.ops all (i+1)::k) ⟨f',st.H,st.nx⟩) (hd:Q6 i all=o::Q6 (i+1) all:=by exact rfl) (hg:o.guard=none:=by exact rfl) (ho:o.op= .load t x:=by exact rfl)
 (hx:U7 st.f [] x=some (.c (.bx y)):=by exact rfl) (ht:E.T t=some ti:=by exact rfl) (hag:ti.kind.agg=false:=by exact rfl) (hf:O5 E.N i (C7 all all) st.f o.dst (some (.u (.c y)))=some f':=by exact rfl):G P E B W M0 Q (.ops all i::k) st:=by
 intro M a w hS;show wA E.ro P all.toArray (after E.ro P Q k) (Q6 i all) a w;rw[hd];refine N1 fun K hK=>?_
 have hw:Region.wanted o (yielded all.toArray a.tmps)=true:=by unfold Region.wanted;rw[hg]
 rw[if_pos hw];obtain⟨dst,op,ty',pos,aft,guard⟩:=o;simp only at ho hg hf;subst ho hg;have hr:=I9 hS (Γ:=[]) (by simp);have h1:=hr _ _ hx;generalize hv:a.eval x=v0 at h1;cases h1 with|c h1=>
 cases h1 with| @bx _ u b off hc hy=>
 have hla:ldA E.T t [y]=some (.c y):=by
  unfold ldA;rw[ht];simp only[hag]
 obtain⟨v,g1,g2⟩:=mK (w:=w) (M:=M) (b:=b) (o:=off) hE.T hla (fun j c hj=>by
  cases j with
  |zero=>cases hj;exact⟨u,B5.cell_on hS.h.mem hc,hy⟩
  |succ j=>cases hj)
 have hrun:(execOp a.eval ⟨dst,.load t x,ty',pos,aft,none⟩).run P w= .ok (.value v) w:=by simp[execOp,Instr.loadAt,hv,Instr.sureAddr,g1]
 refine F9 hrun (hK _ _ (hk M _ w (I7.put hS (S':=fun j=>j<i+1) (Nat.lt_irrefl i) (fun j hj=>Nat.lt_succ_of_lt hj) (B5.ext_refl _ _) hS.h hf (E6 _ _) (fun e' he=>?_) (by simp))));cases he;exact g2
theorem B1q {X:Type} (hT:K9 P E.T) {fn:Func} {hs:List HB} (hdl:E.mrk.dl=[]) (hlow:∀k o,M0 k=some o→fH W hs k) {az:List A} {ob:Prop} (h:Y4 E.T st.f st.H fn.results.toList=some (az,ob)) (hob:ob)
 {ok:X→Prop} {rx:X→A} {hs':X→List HB} (x:X) (hok:ok x) (ms:List Nat) (hr:qT (B1e az) (rx x)) (hm:I1 ms=true) (hl:vO ⟨fun _=>none,st.H,0⟩ ms (hs' x)):
 ∀{M:B5} {a:Act} {w:World},V1 E.N E.mrk (fH W hs) W M0 [] [] 0 st M a w→LeavesInM Fence.wide 0 P fn a.tmps (R2 M0 W hs ok rx hs') a.defers .returning w:=by
 have key:∀(Ds:List Nat) {M:B5} {a:Act} {w:World},V1 E.N E.mrk (fH W hs) W M0 [] [] 0 st M a w→Ds.Nodup→a.defers=Ds.map A2F→(E.mrk≠ .t→Ds=[])→(∀D,D∈Ds→¬fH W hs D∧M D=some (.deferred (some [])))→
  LeavesInM Fence.wide 0 P fn a.tmps (R2 M0 W hs ok rx hs') a.defers .returning w:=by
  intro Ds
  induction Ds with
  |nil=>
   intro M a w hS _ e _ _;rw[e];have hS2:V1 E.N (MK.f) (fH W hs) W M0 [] [] 0 st M a w:=⟨hS.h,hS.old,.nil e hS.d.kp,hS.n,hS.f,hS.g⟩
   have:=lC (E:={E with mrk:= .f}) (P:=P) (fn:=fn) rfl hT hS2 h hob (ok:=ok) x hok ms hr hm hl;rw[e]at this;exact this
  |cons D Ds ih=>
   intro M a w hS hn e hmk hD;rw[e];obtain⟨hB,hm⟩:=hD D (by simp);have hl:=hS.h.mem D _ hm;refine⟨by simp,.inl ⟨D,_,rfl,run_takeDeferred hl,?_⟩⟩;have hd':∀D',D'∈Ds→¬fH W hs D'∧(M.put D (.deferred none)) D'=some (.deferred (some [])):=fun D' h'=>by
    have:=hD D' (List.mem_cons_of_mem _ h');refine⟨this.1,?_⟩;rw[B5.put_ne _ _ (fun e=>by subst e;exact(List.nodup_cons.1 hn).1 h')];exact this.2
   have hk:M0.le (M.put D (.deferred none)):=fun k o hk=>by
    rw[B5.put_ne _ _ (fun e=>hB (by subst e;exact hlow _ _ hk))];exact hS.d.kp k o hk
   have hS':V1 E.N E.mrk (fH W hs) W M0 [] [] 0 st (M.put D (.deferred none)) ⟨a.tmps,Ds.map A2F⟩ (w.putObj D (.deferred none)):=
    V1.turn hS hl rfl hB (fun n x hx hh=>by have:=(HB.block_lt (hS.h.ok n x hx) hh).2.2;rw[hm]at this;cases this) hS.old rfl ⟨⟨Ds,fun e=>(by have:=hmk e;cases this),(List.nodup_cons.1 hn).2,by simp[hdl],hd'⟩,hk⟩
   exact ih hS' (List.nodup_cons.1 hn).2 rfl (fun e=>(by have:=hmk e;cases this)) hd'
 intro M a w hS;obtain⟨Ds,h0,h1,h2,h3⟩:=hS.d.df;exact key Ds hS h1 (by rw[h2,hdl,List.append_nil]) h0 h3
theorem C3U {X:Type} {hs:List HB} (hE:F0 P E) {fn:Func} {c:Code} {az:List A} {ob:Prop} {ok:X→Prop} {rx:X→A} {hs':X→List HB} (hlow:∀k o,M0 k=some o→fH W hs k) (x:X) (hok:ok x) (ms:List Nat)
 (h:Y4 E.T st.f st.H fn.results.toList=some (az,ob):=by exact rfl) (hob:ob:=by and_intros<;> first|exact trivial|exact rfl) (hc:iT c=true:=by exact rfl) (hm:I1 ms=true:=by exact rfl) (hdl:E.mrk.dl=[]:=by exact rfl)
 (hr:qT (B1e az) (rx x):=by and_intros<;> first|exact trivial|exact rfl|omega|(refine A6 ?_;first|exact rfl|(simp;done)|(simp_all;done))|(simp;done)|(simp_all;done)) (hl:vO ⟨fun _=>none,st.H,0⟩ ms (hs' x):=by and_intros<;> first|exact trivial|exact rfl|omega|(refine A6 ?_;first|exact rfl|(simp;done)|(simp_all;done))|(simp;done)|(simp_all;done)):
 G P E (fH W hs) W M0 (aU P fn (R2 M0 W hs ok rx hs')) (.code c::k) st:=by
 intro M a w hS;cases c<;> simp only[iT,Bool.false_eq_true]at hc;simp only[after];exact wpIn_ret (cZ (B1q hE.T hdl hlow h hob x hok ms hr hm hl hS))
def onN (Q:Exit→Act→World→Prop):Exit→Act→World→Prop:=fun e a w=>match e with
 | .normal=>Q .normal a w
 |_=>False
theorem C4w {Q:Exit→Act→World→Prop} {l:Nat} {ops:Array Oper} {i:Nat} {K K':Act→World→Prop} {a:Act} {w:World} (hnd:∀o,ops[i]? =some o→∀c,o.op≠ .defer c) (hK:∀a w,K a w→K' a w) (hh:wpOp P ops (onN Q) i K a w):wpOpIn (Fence.wide.inRound l) 0 P ops Q i K' a w:=by
 unfold wpOp at hh;unfold wpOpIn;cases ho:ops[i]? with
 |none=>rw[ho]at hh;exact hK _ _ hh
 |some o=>
  rw[ho]at hh;simp only at hh⊢;split
  ·rename_i hw;rw[if_pos hw]at hh;rcases hh with hh|⟨_,_,_,h⟩
   ·refine⟨fun _ _=>trivial,?_⟩;rw[Oper.semAt_eq _ _ _ (hnd o ho)];unfold Oper.wp at hh;generalize(execOp a.eval o).run P w=r at *;have hd:(Fence.wide.inRound l).depth.isSome=true→1≤0:=fun h=>by cases h
    cases r with
    |ok n w'=>
     cases n<;> simp only[Oper.upon]at hh<;> simp only[Oper.uponIn]<;>
      first
       |exact hh.elim
       |exact hK _ _ hh
       |exact⟨hd,CallsIn.inRound l (callsIn_wide.2 (Calls.mono hh (fun e w2 he=>by
        cases e with
        |returned v=>exact hK _ _ he
        |panicked c=>exact he.elim
        |outgrown=>obtain⟨_,_,h⟩:=he;exact h.elim)))⟩
       |exact⟨hd,fun c cs _=>by
        obtain⟨v,w2,h1,h2⟩:=hh c cs;exact⟨v,w2,hK _ _ h1,stepsIn_wide.2 h2⟩⟩
    |halt x w'=>cases x<;> simp only[Oper.upon]at hh<;> exact hh.elim
   ·exact h.elim
  ·rename_i hw;rw[if_neg hw]at hh;exact⟨fun _ _=>trivial,hK _ _ hh⟩
theorem C3V {Q:Exit→Act→World→Prop} {l:Nat} {ops:Array Oper} (hnd:∀(i:Nat) (o:Oper),ops[i]? =some o→∀c,o.op≠ .defer c):∀{r:Nat} {listed:Array Bool} {a:Act} {w:World},wpAny P .any ops (onN Q) r listed a w→wpAnyIn (Fence.wide.inRound l) 0 P .any ops Q r listed a w:=by
 intro r
 induction r with
 |zero=>intro listed a w hh;exact hh
 |succ r ih=>intro listed a w hh;exact⟨fun h0=>hh.1 h0,fun i hi=>C4w (hnd i) (fun a w hk=>ih hk) (hh.2 i hi)⟩
theorem C6S {E0:D9} (h:G P E B W M0 Q k st) (hk:hdI k=0) (hN:E0.N=E.N:=by exact rfl) (hm:E0.mrk=E.mrk:=by exact rfl) (hro:E0.ro=none:=by exact rfl):G P E0 B W M0 (onN (after E.ro P Q k)) [] st:=by
 intro M a w hS;have hS:V1 E0.N E0.mrk B W M0 [] [] 0 st M a w:=hS;rw[hN,hm]at hS;exact h M a w (hS.hd hk)
theorem C4x {E0:D9} {l:Nat} (hE:F0 P E0) (he:E={E0 with ro:=some (l+1)}) (m:Nat) (ms:List Nat) (ks:List (Nat×Nat)) {c:Code} {st':(Nat→Value)→St} {ob:(Nat→Value)→Prop} (hk:∀bs Q',(∀st2,G P E B W M0 Q k st2→G P E0 B W M0 Q' [] st2)→G P E0 B W M0 Q' [.ops (H6 c) m] (st' bs)) (h0:hdI k=0:=by exact rfl)
 (hm:P.follows .mixedOrders=true:=by exact rfl) (hd:V2 c=true:=by exact rfl) (hnd:ndB (H6 c)=true:=by exact rfl) (hchk:A2G E0.N (H6 c) m ms=true:=by decide+kernel)
 (h:∀bs,uM E0 (fun _=>none) (H6 c) m ms ks st bs=some (st' bs,ob bs):=by exact fun bs=>rfl) (hro:E0.ro=none:=by exact rfl) (ho:∀bs,ob bs:=by(intro bs;and_intros<;> (intros;first|exact trivial|omega|exact rfl|(simp only;omega)|(simp;done)|(simp_all;done)|(simp_all;omega)))):G P E B W M0 Q (.code c::k) st:=by
 subst he;intro M a w hS;cases c<;> simp only[V2,Bool.false_eq_true]at hd;rename_i id ops dr;cases dr<;> simp only[V2,Bool.false_eq_true]at hd;obtain⟨ops⟩:=ops;have hnd:=B4M hnd;simp only[H6]at hchk h hk hnd;simp only[after];show Code.wpIn (Fence.wide.inRound l) 0 P (Code.region id ops.toArray true) _ a w;exact wpIn_region_any hm (C3V (fun i o hi=>hnd o (by rw[List.getElem?_toArray]at hi;exact List.mem_of_getElem? hi)) (A6G (k:=[]) hE.T hE.Ψ (fun _=>none) m ms ks hchk h ho (fun bs=>hk bs _ fun st2 h2=>C6S h2 h0 rfl rfl hro) hro hS))
end
end
end Go.Mt
namespace Go.Proofs.YtgmeedgkjlfpeaaGreat
open Go.Mt
noncomputable section
theorem wk_ {p:Prop} (h:p:=by first|exact rfl|exact trivial|omega):p:=h
theorem ob_ {p:Prop} (h:p:=by first|exact trivial|exact rfl|omega|exact uG _|exact uH _|exact gO _|exact lA _|(simp only[L1,IntKind.bits];omega)):p:=h
theorem U0 {p:Prop} (h:p:=by first|exact ob_|(simp[L1,IntKind.bits];done)|(simp[L1,IntKind.bits]at* <;> omega)|(simp_all;done)|(with_reducible assumption)):p:=h
theorem U8 {p:Prop} (h:p:=by and_intros<;> first|exact trivial|assumption):p:=h
theorem I6 {E:D9} {X:Type} {f:FuncId} {fn:Func} {args:List A} {hs:List HB} {ok:X→Prop} {rx:X→A} {hs':X→List HB} (hf:Tryz.prog.funcs[f]? =some fn) (h:∀M0 W,M0.on W→G Tryz.prog E (fH W hs) W M0 (aU Tryz.prog fn (R2 M0 W hs ok rx hs')) [.code (N8 fn)] (uP args hs)) (hb:fn.body.isNone=false:=by exact rfl) (hnm:(fn.name== "runtime.NumGoroutine")=false:=by decide) (hN:fn.ntmps=E.N:=by exact rfl) (hl:Nat.ble (len args) E.N=true:=by exact rfl) (hro:E.ro=none:=by exact rfl) (hdl:E.mrk.dl=[]:=by exact rfl):C5 Tryz.prog f args hs ok rx hs':=A8D hf hb hnm hN hl h hro hdl
theorem cJ {E:D9} {f:FuncId} {fn:Func} {args:List A} {sh:Bool} {rv:RV} (hf:Tryz.prog.funcs[f]? =some fn) (h:∀M0 W,M0.on W→G Tryz.prog E (low W.heap.size) W M0 (aU Tryz.prog fn (jR sh M0 W rv)) [.code (N8 fn)] (lT args)) (hb:fn.body.isNone=false:=by exact rfl) (hnm:(fn.name== "runtime.NumGoroutine")=false:=by decide) (hN:fn.ntmps=E.N:=by exact rfl) (hl:Nat.ble (len args) E.N=true:=by exact rfl) (hro:E.ro=none:=by exact rfl) (hdl:E.mrk.dl=[]:=by exact rfl):aA Tryz.prog f sh args rv:=B1T hf hb hnm hN hl h hro hdl

abbrev tI (k:IntKind) (b:Nat):Option TI:=some ⟨.int k,1,b,[.pv (.val (.int k 0))]⟩
abbrev tO:Option TI:=some ⟨.other,1,8,[.pv (.val .nilFunc)]⟩
abbrev tP (n:Nat):Option TI:=some ⟨.ptr n,1,8,[.pv (.val (.pointer none))]⟩
abbrev pI:C:= .pv (.val (.int .i64 0))
abbrev pS:C:= .pv (.val (.string ⟨⟨[]⟩⟩))
abbrev pP:C:= .pv (.val (.pointer none))
abbrev pF:C:= .pv (.val .nilFunc)
abbrev p8:C:= .pv (.val (.int .u8 0))
def tyl:List (Option TI):=[none,tO,tI .i64 8,tI .i64 8,
 some ⟨.bool,1,1,[.pv (.val (.bool false))]⟩,tI .u8 1,none,none,none,
 some ⟨.str,1,16,[pS]⟩,none,none,tI .u64 8,none,none,tP 454,tP 457,tP 465,none,none,none,tI .i32 4,
 some ⟨.slc 5 .byt,1,24,[.pv (.nil .byt)]⟩,tO,tP 49,none,tO,tI .i64 8,
 some ⟨.slc 9 .str,1,24,[.pv (.nil .str)]⟩,
 some ⟨.slc 234 .spn,1,24,[.pv (.nil .spn)]⟩,
 some ⟨.strct [(0,1,false),(1,1,false),(2,1,false),(3,1,false),(4,1,false),(5,1,false)],6,96,[pI,.pv (.nil .byt),.pv (.nil .str),.pv (.nil .spn),pI,pI]⟩,
 some ⟨.strct [(0,1,false),(1,1,false),(2,1,false),(3,1,false),(4,1,false),(5,1,false)],6,96,[pI,.pv (.nil .byt),.pv (.nil .str),.pv (.nil .spn),pI,pI]⟩,tO,
 some ⟨.strct [(0,1,false),(1,1,false),(2,1,false),(3,1,false),(4,1,false),(5,1,false),(6,1,false)],7,88,[pI,pS,pS,pI,pI,pI,.pv (.nil .byt)]⟩,
 some ⟨.strct [(0,1,false),(1,1,false),(2,1,false),(3,1,false),(4,1,false),(5,1,false),(6,1,false)],7,88,[pI,pS,pS,pI,pI,pI,.pv (.nil .byt)]⟩,tO,tO,tP 112,none,tO,tO,tO,
 some ⟨.map .str .ptr,1,8,[.pv (.val (.map none))]⟩,
 some ⟨.strct [],0,0,[]⟩,
 some ⟨.strct [],0,0,[]⟩,
 some ⟨.strct [],0,0,[]⟩,
 some ⟨.strct [(0,0,true),(0,0,true),(0,1,false)],1,8,[pI]⟩,
 some ⟨.strct [(0,0,true),(0,0,true),(0,1,false)],1,8,[pI]⟩,
 some ⟨.strct [(0,1,false),(1,1,false),(2,1,true)],3,24,[pP,.pv (.val (.map none)),pI]⟩,
 some ⟨.strct [(0,1,false),(1,1,false),(2,1,true)],3,24,[pP,.pv (.val (.map none)),pI]⟩,tO,tO,tO,tO,tO,tO,tP 139,none,tO,tO,none,tO,none,tO,tP 47,tO,tP 2,tO,tO,
 some ⟨.slc 116 .lnk,1,24,[.pv (.nil .lnk)]⟩,tO,tO,none,tO,tO,
 some ⟨.slc 288 .tbl,1,24,[.pv (.nil .tbl)]⟩,
 some ⟨.strct [(0,1,false)],1,24,[.pv (.nil .tbl)]⟩,
 some ⟨.strct [(0,1,false)],1,24,[.pv (.nil .tbl)]⟩,
 some ⟨.slc 97 .sht,1,24,[.pv (.nil .sht)]⟩,
 some ⟨.slc 89 .bms,1,24,[.pv (.nil .bms)]⟩,
 some ⟨.slc 3 (.ints .i64),1,24,[.pv (.nil (.ints .i64))]⟩,
 some ⟨.strct [(0,1,false),(1,1,false),(2,1,false),(3,1,true),(4,1,false),(5,1,false),(6,1,false)],7,128,[pI,pI,pS,.pv (.nil .tbl),.pv (.nil .sht),.pv (.nil .bms),.pv (.nil (.ints .i64))]⟩,
 some ⟨.strct [(0,1,false),(1,1,false),(2,1,false),(3,1,true),(4,1,false),(5,1,false),(6,1,false)],7,128,[pI,pI,pS,.pv (.nil .tbl),.pv (.nil .sht),.pv (.nil .bms),.pv (.nil (.ints .i64))]⟩,tO,tO,
 some ⟨.slc 56 .ptr,1,24,[.pv (.nil .ptr)]⟩,tO,tO,
 some ⟨.strct [(0,1,false),(1,1,false),(2,1,false)],3,48,[pS,.pv (.val (.bool false)),.pv (.nil .spn)]⟩,
 some ⟨.strct [(0,1,false),(1,1,false),(2,1,false)],3,48,[pS,.pv (.val (.bool false)),.pv (.nil .spn)]⟩,tO,tO,none,tO,none,tO,
 some ⟨.strct [(0,1,false),(1,1,false),(2,1,true)],3,48,[pS,pI,.pv (.nil .tbl)]⟩,
 some ⟨.strct [(0,1,false),(1,1,false),(2,1,true)],3,48,[pS,pI,.pv (.nil .tbl)]⟩,tO,tO,tO,tO,tO,tO,tO,tO,none,tO,tO,
 some ⟨.map .str .ptr,1,8,[.pv (.val (.map none))]⟩,
 some ⟨.slc 280 .log,1,24,[.pv (.nil .log)]⟩,
 some ⟨.strct [(0,1,false),(1,1,false),(2,1,false),(3,1,false),(4,1,false),(5,1,true)],6,64,[pI,.pv (.val (.map none)),.pv (.nil .log),pI,.pv (.val (.bool false)),pI]⟩,
 some ⟨.strct [(0,1,false),(1,1,false),(2,1,false),(3,1,false),(4,1,false),(5,1,true)],6,64,[pI,.pv (.val (.map none)),.pv (.nil .log),pI,.pv (.val (.bool false)),pI]⟩,tO,tO,
 some ⟨.strct [(0,1,false),(1,1,false)],2,32,[pS,pS]⟩,
 some ⟨.strct [(0,1,false),(1,1,false)],2,32,[pS,pS]⟩,tO,tP 123,none,tO,
 some ⟨.slc 125 .sec,1,24,[.pv (.nil .sec)]⟩,
 some ⟨.strct [(0,1,false),(1,1,false)],2,48,[.pv (.nil .sec),.pv (.nil .sec)]⟩,
 some ⟨.strct [(0,1,false),(1,1,false)],2,48,[.pv (.nil .sec),.pv (.nil .sec)]⟩,
 some ⟨.arr 16 5,16,16,[p8,p8,p8,p8,p8,p8,p8,p8,p8,p8,p8,p8,p8,p8,p8,p8]⟩,
 some ⟨.arr 16 5,16,16,[p8,p8,p8,p8,p8,p8,p8,p8,p8,p8,p8,p8,p8,p8,p8,p8]⟩,
 some ⟨.map .str .str,1,8,[.pv (.val (.map none))]⟩,tO,tO,tO,none,
 some ⟨.map .str .int,1,8,[.pv (.val (.map none))]⟩,
 some ⟨.slc 82 .mta,1,24,[.pv (.nil .mta)]⟩,tI .u32 4,
 some ⟨.strct [(0,1,false),(1,1,false),(2,1,false),(3,1,false)],4,32,[pI,pI,pI,.pv (.val (.int .u32 0))]⟩,
 some ⟨.strct [(0,1,false),(1,1,false),(2,1,false),(3,1,false)],4,32,[pI,pI,pI,.pv (.val (.int .u32 0))]⟩,tP 328,tP 325,
 some ⟨.strct [(0,1,false),(1,1,false),(2,7,true),(9,7,true),(16,1,false),(17,4,true),(21,1,false),(22,1,false),(23,1,false),(24,1,true)],25,368,[pP,pS,pI,pI,pS,.pv (.nil .tbl),.pv (.nil .sht),.pv (.nil .bms),.pv (.nil (.ints .i64)),pI,pI,pS,.pv (.nil .tbl),.pv (.nil .sht),.pv (.nil .bms),.pv (.nil (.ints .i64)),.pv (.nil .mta),pI,pI,pI,.pv (.val (.int .u32 0)),.pv (.val (.bool false)),pP,pP,pI]⟩,
 some ⟨.strct [(0,1,false),(1,1,false),(2,7,true),(9,7,true),(16,1,false),(17,4,true),(21,1,false),(22,1,false),(23,1,false),(24,1,true)],25,368,[pP,pS,pI,pI,pS,.pv (.nil .tbl),.pv (.nil .sht),.pv (.nil .bms),.pv (.nil (.ints .i64)),pI,pI,pS,.pv (.nil .tbl),.pv (.nil .sht),.pv (.nil .bms),.pv (.nil (.ints .i64)),.pv (.nil .mta),pI,pI,pI,.pv (.val (.int .u32 0)),.pv (.val (.bool false)),pP,pP,pI]⟩,tO,none,tO,tO,tO,tO,tO,tO,tO,tI .u64 8,none,tO,
 some ⟨.slc 156 .pcs,1,24,[.pv (.nil .pcs)]⟩,none,tO,
 some ⟨.strct [(0,1,false),(1,1,false),(2,1,false)],3,24,[pI,pI,pI]⟩,
 some ⟨.strct [(0,1,false),(1,1,false),(2,1,false)],3,24,[pI,pI,pI]⟩,none,tO,tO,tO,none,tO,
 some ⟨.slc 174 .rcd,1,24,[.pv (.nil .rcd)]⟩,
 some ⟨.strct [(0,1,false),(1,1,false),(2,1,false)],3,40,[.pv (.val (.bool false)),pI,.pv (.nil .rcd)]⟩,
 some ⟨.strct [(0,1,false),(1,1,false),(2,1,false)],3,40,[.pv (.val (.bool false)),pI,.pv (.nil .rcd)]⟩,tO,tO,tO,tO,tO,tO,tO,
 some ⟨.strct [(0,1,false),(1,1,false)],2,32,[pI,.pv (.nil .byt)]⟩,
 some ⟨.strct [(0,1,false),(1,1,false)],2,32,[pI,.pv (.nil .byt)]⟩,tO,tO,none,tO,
 some ⟨.strct [(0,1,false),(1,1,false)],2,16,[pI,pI]⟩,
 some ⟨.strct [(0,1,false),(1,1,false)],2,16,[pI,pI]⟩,
 some ⟨.strct [(0,1,false),(1,1,false),(2,1,false)],3,24,[pI,pI,pI]⟩,
 some ⟨.strct [(0,1,false),(1,1,false),(2,1,false)],3,24,[pI,pI,pI]⟩,tO,
 some ⟨.strct [(0,1,false),(1,1,false),(2,1,false),(3,1,false),(4,1,false)],5,40,[pI,pI,pI,pI,.pv (.val (.int .u32 0))]⟩,
 some ⟨.strct [(0,1,false),(1,1,false),(2,1,false),(3,1,false),(4,1,false)],5,40,[pI,pI,pI,pI,.pv (.val (.int .u32 0))]⟩,tO,tO,none,tO,tO,tO,tO,tO,tO,tO,tO,tO,none,tO,tO,tO,tO,tO,tO,none,tO,tO,tO,tO,none,tO,tO,
 some ⟨.slc 216 .lin,1,24,[.pv (.nil .lin)]⟩,tO,
 some ⟨.strct [(0,1,false),(1,1,false),(2,5,true)],7,56,[pI,pI,pI,pI,pI,pI,.pv (.val (.int .u32 0))]⟩,
 some ⟨.strct [(0,1,false),(1,1,false),(2,5,true)],7,56,[pI,pI,pI,pI,pI,pI,.pv (.val (.int .u32 0))]⟩,
 some ⟨.slc 135 .slt,1,24,[.pv (.nil .slt)]⟩,none,tO,tO,tP 223,
 some ⟨.strct [(0,7,true),(7,1,false),(8,1,false)],9,160,[pI,pI,pS,.pv (.nil .tbl),.pv (.nil .sht),.pv (.nil .bms),.pv (.nil (.ints .i64)),pI,.pv (.nil (.ints .i64))]⟩,
 some ⟨.strct [(0,7,true),(7,1,false),(8,1,false)],9,160,[pI,pI,pS,.pv (.nil .tbl),.pv (.nil .sht),.pv (.nil .bms),.pv (.nil (.ints .i64)),pI,.pv (.nil (.ints .i64))]⟩,none,tO,tO,tO,tO,
 some ⟨.slc 71 .fn,1,24,[.pv (.nil .fn)]⟩,tO,tO,tO,
 some ⟨.strct [(0,1,false),(1,1,false)],2,16,[pI,pI]⟩,
 some ⟨.strct [(0,1,false),(1,1,false)],2,16,[pI,pI]⟩,tO,tO,tO,tO,none,tO,tO,tO,tI .i64 8,none,tO,tO,tO,tO,tO,tO,tO,tI .u64 8,none,tO,tO,tO,tO,tO,tO,tO,tO,tO,tP 265,
 some ⟨.strct [(0,1,false),(1,1,false)],2,32,[.pv (.nil .byt),.pv (.val (.int .u32 0))]⟩,
 some ⟨.strct [(0,1,false),(1,1,false)],2,32,[.pv (.nil .byt),.pv (.val (.int .u32 0))]⟩,none,none,none,tO,tO,none,none,
 some ⟨.strct [(0,1,false),(1,1,false)],2,16,[pI,pI]⟩,
 some ⟨.strct [(0,1,false),(1,1,false)],2,16,[pI,pI]⟩,tO,tO,tP 97,tO,
 some ⟨.strct [(0,1,false),(1,1,false),(2,16,true)],18,40,[pS,pI,p8,p8,p8,p8,p8,p8,p8,p8,p8,p8,p8,p8,p8,p8,p8,p8]⟩,
 some ⟨.strct [(0,1,false),(1,1,false),(2,16,true)],18,40,[pS,pI,p8,p8,p8,p8,p8,p8,p8,p8,p8,p8,p8,p8,p8,p8,p8,p8]⟩,tO,tO,tO,tO,tO,tO,tO,
 some ⟨.slc 185 .ent,1,24,[.pv (.nil .ent)]⟩,tO,tO,none,tO,tO,tP 89,tO,tO,tO,tO,
 some ⟨.map .ent .int,1,8,[.pv (.val (.map none))]⟩,tO,tO,tO,tO,tO,tO,tO,tO,tO,tO,tO,tO,tO,tO,tO,tO,
 some ⟨.arr 16 5,16,16,[p8,p8,p8,p8,p8,p8,p8,p8,p8,p8,p8,p8,p8,p8,p8,p8]⟩,tO,tO,tO,tO,tO,tO,
 some ⟨.map .int .ptr,1,8,[.pv (.val (.map none))]⟩,
 some ⟨.strct [(0,1,false),(1,1,false),(2,1,true)],3,24,[pI,.pv (.val (.map none)),pI]⟩,
 some ⟨.strct [(0,1,false),(1,1,false),(2,1,true)],3,24,[pI,.pv (.val (.map none)),pI]⟩,
 some ⟨.slc 354 .knw,1,24,[.pv (.nil .knw)]⟩,
 some ⟨.strct [(0,1,false),(1,1,true)],2,32,[.pv (.nil .knw),pI]⟩,
 some ⟨.strct [(0,1,false),(1,1,true)],2,32,[.pv (.nil .knw),pI]⟩,tI .u64 8,tO,tO,tO,tP 3,tO,none,tO,tO,tO,tO,tO,tO,none,tO,tO,tO,tO,tO,tP 350,
 some ⟨.strct [(0,1,false),(1,1,false),(2,1,false)],3,40,[.pv (.nil .byt),pI,.pv (.val (.bool false))]⟩,
 some ⟨.strct [(0,1,false),(1,1,false),(2,1,false)],3,40,[.pv (.nil .byt),pI,.pv (.val (.bool false))]⟩,tO,tO,
 some ⟨.strct [(0,1,false),(1,5,true)],6,48,[.pv (.val (.int .u64 0)),pI,pI,pI,pI,.pv (.val (.int .u32 0))]⟩,
 some ⟨.strct [(0,1,false),(1,5,true)],6,48,[.pv (.val (.int .u64 0)),pI,pI,pI,pI,.pv (.val (.int .u32 0))]⟩,tO,tO,tO,tO,tO,tO,none,tO,tO,tP 366,
 some ⟨.strct [(0,1,false)],1,24,[.pv (.nil .byt)]⟩,
 some ⟨.strct [(0,1,false)],1,24,[.pv (.nil .byt)]⟩,tO,tO,tO,tO,
 some ⟨.strct [],0,0,[]⟩,
 some ⟨.strct [(0,0,true),(0,1,false)],1,4,[.pv (.val (.int .u32 0))]⟩,
 some ⟨.strct [(0,0,true),(0,1,false)],1,4,[.pv (.val (.int .u32 0))]⟩,
 some ⟨.strct [(0,1,false),(1,1,false)],2,8,[.pv (.val (.int .i32 0)),.pv (.val (.int .u32 0))]⟩,
 some ⟨.strct [(0,1,false),(1,1,false)],2,8,[.pv (.val (.int .i32 0)),.pv (.val (.int .u32 0))]⟩,
 some ⟨.strct [(0,0,true),(0,2,true)],2,8,[.pv (.val (.int .i32 0)),.pv (.val (.int .u32 0))]⟩,
 some ⟨.strct [(0,0,true),(0,2,true)],2,8,[.pv (.val (.int .i32 0)),.pv (.val (.int .u32 0))]⟩,
 some ⟨.strct [(0,0,true),(0,1,true),(1,2,true)],3,12,[.pv (.val (.int .u32 0)),.pv (.val (.int .i32 0)),.pv (.val (.int .u32 0))]⟩,
 some ⟨.strct [(0,0,true),(0,1,true),(1,2,true)],3,12,[.pv (.val (.int .u32 0)),.pv (.val (.int .i32 0)),.pv (.val (.int .u32 0))]⟩,
 some ⟨.arr 16 133,16,64,[.pv (.val (.int .u32 0)),.pv (.val (.int .u32 0)),.pv (.val (.int .u32 0)),.pv (.val (.int .u32 0)),.pv (.val (.int .u32 0)),.pv (.val (.int .u32 0)),.pv (.val (.int .u32 0)),.pv (.val (.int .u32 0)),.pv (.val (.int .u32 0)),.pv (.val (.int .u32 0)),.pv (.val (.int .u32 0)),.pv (.val (.int .u32 0)),.pv (.val (.int .u32 0)),.pv (.val (.int .u32 0)),.pv (.val (.int .u32 0)),.pv (.val (.int .u32 0))]⟩,
 some ⟨.strct [(0,3,true),(3,16,true)],19,76,[.pv (.val (.int .u32 0)),.pv (.val (.int .i32 0)),.pv (.val (.int .u32 0)),.pv (.val (.int .u32 0)),.pv (.val (.int .u32 0)),.pv (.val (.int .u32 0)),.pv (.val (.int .u32 0)),.pv (.val (.int .u32 0)),.pv (.val (.int .u32 0)),.pv (.val (.int .u32 0)),.pv (.val (.int .u32 0)),.pv (.val (.int .u32 0)),.pv (.val (.int .u32 0)),.pv (.val (.int .u32 0)),.pv (.val (.int .u32 0)),.pv (.val (.int .u32 0)),.pv (.val (.int .u32 0)),.pv (.val (.int .u32 0)),.pv (.val (.int .u32 0))]⟩,
 some ⟨.strct [(0,3,true),(3,16,true)],19,76,[.pv (.val (.int .u32 0)),.pv (.val (.int .i32 0)),.pv (.val (.int .u32 0)),.pv (.val (.int .u32 0)),.pv (.val (.int .u32 0)),.pv (.val (.int .u32 0)),.pv (.val (.int .u32 0)),.pv (.val (.int .u32 0)),.pv (.val (.int .u32 0)),.pv (.val (.int .u32 0)),.pv (.val (.int .u32 0)),.pv (.val (.int .u32 0)),.pv (.val (.int .u32 0)),.pv (.val (.int .u32 0)),.pv (.val (.int .u32 0)),.pv (.val (.int .u32 0)),.pv (.val (.int .u32 0)),.pv (.val (.int .u32 0)),.pv (.val (.int .u32 0))]⟩,tO,tP 329,none,tO,tP 389,
 some ⟨.strct [(0,1,false),(1,1,false),(2,1,false),(3,1,false)],4,64,[.pv (.nil .byt),.pv (.val (.bool false)),pI,.pv (.nil (.ints .i64))]⟩,
 some ⟨.strct [(0,1,false),(1,1,false),(2,1,false),(3,1,false)],4,64,[.pv (.nil .byt),.pv (.val (.bool false)),pI,.pv (.nil (.ints .i64))]⟩,tO,tO,tO,none,tO,tO,none,tO,tO,tO,tO,tO,tO,tP 382,tO,tO,tO,tO,tO,
 some ⟨.map .int .int,1,8,[.pv (.val (.map none))]⟩,tO,tO,tO,tO,none,tO,tP 418,
 some ⟨.strct [(0,1,false),(1,1,false)],2,32,[.pv (.nil .byt),pI]⟩,
 some ⟨.strct [(0,1,false),(1,1,false)],2,32,[.pv (.nil .byt),pI]⟩,tO,tP 379,tO,tO,
 some ⟨.map .byt .int,1,8,[.pv (.val (.map none))]⟩,
 some ⟨.arr 4 5,4,4,[p8,p8,p8,p8]⟩,tO,tO,tO,tO,tO,tO,tP 373,tO,tP 133,tO,tO,
 some ⟨.strct [],0,0,[]⟩,none,tO,none,tO,tP 377,tO,tO,tO,tP 375,tO,tP 21,tO,none,tO,tO,tO,none,none,
 some ⟨.arr 0 16,0,0,[]⟩,none,none,none,none,tO,tP 5,none,none,none,none]
def T:Tb:=tbl tyl
theorem tOk:K9 Tryz.prog T:=B4a (by kernel_rfl)
abbrev Bs:=List UInt8
structure P7 where
 b:Nat
 now:List Bs
abbrev vS:=List (KK.str.T×P7)
structure H8 where
 room:Int
 files:vS
 lg:Nat
def Y7 (l:vS):List (KK.str.T×VK.ptr.T):=l.map fun p=>(p.1,some p.2.b)
def A3p (p:KK.str.T×P7):Ob (Value×List Bs):=⟨fun _=>∀s∈p.2.now,s.length=16,fun x=>[.blk p.2.b 123 [.own 1 x.1,.pv (.lst .sec x.2)],.own x.1 125 .sec p.2.now]⟩
abbrev A6P (p:KK.str.T×P7) (S:Nat→Prop):HB:=ThO (A3p p) S
structure DX where
 bm:Nat
 v:Value
 l:List A7i
 S:Nat→Prop
 n:Int
def jE (b:Nat) (d:H8):Ob DX:=⟨fun x=>x.l.length≤d.lg,fun x=>[.blk b 112 [.pv (i64 d.room),.mpt 1 x.bm,.own 2 x.v,.pv (i64 0),.pv (bv false),.pv (i64 x.n)],.mp x.bm .str .ptr (Y7 d.files),.own x.v 280 .log x.l,U2 A6P d.files x.S]⟩
abbrev D3 (b:Nat) (d:H8) (S:Nat→Prop):HB:=ThO (jE b d) S
def A3q:D9:=⟨T,aW,H7,A9,11,[],none,.f⟩
theorem B9p:B1 Tryz.prog A3q:=⟨O4,E3,A4⟩
theorem B5J:F0 Tryz.prog A3q:=⟨tOk,B9p⟩
theorem dUp (b:Nat) (d:H8) (S:Nat→Prop):C5 Tryz.prog 114 [.c (.ptr 0 b 0)] [D3 b d S] (fun _=>True) (fun _:Nat→Prop=>int .i64 0) (fun S=>[D3 b d S]):=by
 refine I6 (E:=A3q) Tryz.func114 (fun M0 W hM0=>?_);refine N0 0 (fun x hx=>?_);refine A3 B5J [false,false] (fun bs=>?_);refine J8 0 (jE b d) [0,1,2,3] x hx (fun S'=>?_);exact B3 B5J S' trivial [0]
theorem lkP {l:vS} {nm:Bs} {f:P7} (h:H9 l nm=some f):O8 VK.ptr.dft (H9 (Y7 l) nm)=some f.b:=by unfold Y7;rw[oV (fun f:P7=>some f.b),h];rfl
theorem lkN {l:vS} {nm:Bs} (h:H9 l nm=none):O8 VK.ptr.dft (H9 (Y7 l) nm)=none:=by unfold Y7;rw[oV (fun f:P7=>some f.b),h];rfl
theorem B9q {l:vS} {nm:Bs} (h:H9 l nm=none):H9 (Y7 l) nm=none:=by unfold Y7;rw[oV (fun f:P7=>some f.b),h];rfl
def yF:D9:=⟨T,aW,H7,A9,22,[],none,.f⟩
theorem B5K:B1 Tryz.prog yF:=⟨O4,E3,A4⟩
theorem wJ:F0 Tryz.prog yF:=⟨tOk,B5K⟩
theorem B9r (b:Nat) (d:H8) (S:Nat→Prop) (nm:Bs) (f:P7) (hf:H9 d.files nm=some f):C5 Tryz.prog 55 [.c (.ptr 0 b 0),str nm] [D3 b d S] (fun _=>True) (fun _:Nat→Prop=> .t [.c (.ptr 9 f.b 0),int .i64 0]) (fun S=>[D3 b d S]):=by
 refine I6 (E:=yF) Tryz.func55 (fun M0 W hM0=>?_);refine A3 wJ [] (fun bs=>?_);refine A5 [0] (dUp b d S) (fun S1 _=>?_);refine N0 0 (fun x hx=>?_);refine A3 wJ [false] (fun bs=>?_);refine Z3 7 9 (lkP hf) ?_;refine Z3 19 9 (lkP hf) ?_;refine A3 wJ [false] (fun bs=>?_);refine J8 0 (jE b d) [0,1,2,3] x hx (fun S'=>?_);exact B3 wJ S' trivial [0]
def rF:D9:=⟨T,aW,H7,A9,22,[],none,.f⟩
theorem B1r:B1 Tryz.prog rF:=⟨O4,E3,A4⟩
theorem oW:F0 Tryz.prog rF:=⟨tOk,B1r⟩
theorem C4y (b:Nat) (d:H8) (S:Nat→Prop) (nm:Bs) (hf:H9 d.files nm=none):C5 Tryz.prog 55 [.c (.ptr 0 b 0),str nm] [D3 b d S] (fun _=>True) (fun _:Nat→Prop=> .t [pv (.val (.pointer none)),int .i64 4]) (fun S=>[D3 b d S]):=by
 refine I6 (E:=rF) Tryz.func55 (fun M0 W hM0=>?_);refine A3 oW [] (fun bs=>?_);refine A5 [0] (dUp b d S) (fun S1 _=>?_);refine N0 0 (fun x hx=>?_);refine A3 oW [false] (fun bs=>?_);refine jU 7 (lkN hf) ?_;refine jU 19 (lkN hf) ?_;refine A3 oW [true] (fun bs=>?_);refine J8 0 (jE b d) [0,1,2,3] x hx (fun S'=>?_);exact B3 oW S' trivial [0]
def rG:D9:=⟨T,aW,H7,A9,22,[],none,.f⟩
theorem B1s:B1 Tryz.prog rG:=⟨O4,E3,A4⟩
theorem yG:F0 Tryz.prog rG:=⟨tOk,B1s⟩
theorem B0R (b:Nat) (d:H8) (S:Nat→Prop) (nm:Bs) (f:P7) (hf:H9 d.files nm=some f):C5 Tryz.prog 38 [.c (.ptr 0 b 0),str nm] [D3 b d S] (fun _=>True) (fun _:Nat→Prop=> .t [int .i64 f.now.length,int .i64 0]) (fun S=>[D3 b d S]):=by
 refine I6 (E:=rG) Tryz.func38 (fun M0 W hM0=>?_);obtain⟨l1,l2,e1,e2,e3⟩:=aX hf;refine N0 0 (fun x hx=>?_);refine A3 yG [false] (fun bs=>?_);refine Z3 6 4 (lkP hf) ?_;refine Z3 15 4 (lkP hf) ?_;refine aJ 3 4 e1 (fun S1 S2=>?_);refine N0 4 (fun y hy=>?_);refine A3 yG [false] (fun bs=>?_);refine J8 4 (A3p (nm,f)) [4,5] y hy (fun S3=>?_);refine gU 3 4 e1 (fun S4=>?_);refine J8 0 (jE b d) [0,1,2,3] {x with S:=S4} hx (fun S'=>?_);exact B3 yG S' trivial [0]
theorem C2U {s:Bs} (h:s.length=16):[UInt8.ofNat ((s.getD 0 0).toNat:Int).toNat,UInt8.ofNat ((s.getD 1 0).toNat:Int).toNat,UInt8.ofNat ((s.getD 2 0).toNat:Int).toNat,UInt8.ofNat ((s.getD 3 0).toNat:Int).toNat,UInt8.ofNat ((s.getD 4 0).toNat:Int).toNat,UInt8.ofNat ((s.getD 5 0).toNat:Int).toNat,UInt8.ofNat ((s.getD 6 0).toNat:Int).toNat,UInt8.ofNat ((s.getD 7 0).toNat:Int).toNat,UInt8.ofNat ((s.getD 8 0).toNat:Int).toNat,UInt8.ofNat ((s.getD 9 0).toNat:Int).toNat,UInt8.ofNat ((s.getD 10 0).toNat:Int).toNat,UInt8.ofNat ((s.getD 11 0).toNat:Int).toNat,UInt8.ofNat ((s.getD 12 0).toNat:Int).toNat,UInt8.ofNat ((s.getD 13 0).toNat:Int).toNat,UInt8.ofNat ((s.getD 14 0).toNat:Int).toNat,UInt8.ofNat ((s.getD 15 0).toNat:Int).toNat]=s:=by
 match s,h with
 |[a0,a1,a2,a3,a4,a5,a6,a7,a8,a9,a10,a11,a12,a13,a14,a15],_=>simp
def gV (l:List Bs) (a n:Nat):Bs:=((l.drop a).take n).flatten
theorem A6Q {l:List Bs} {a i:Nat} (d:Bs) (h:a+i<l.length):gV l a (i+1)=gV l a i++l.getD (a+i) d:=by
 unfold gV;rw[List.take_add_one,List.getElem?_drop,gE_ h];simp[List.getD,gE_ h]
theorem B9s {l:List Bs} (hl:∀s∈l,s.length=16) (a n:Nat):(gV l a n).length≤n*16:=by
 unfold gV;have:∀m:List Bs,(∀s∈m,s.length=16)→m.flatten.length=m.length*16:=by
  intro m
  induction m with
  |nil=>intro _;rfl
  |cons x m ih=>intro h;simp[h x (by simp),ih (fun s hs=>h s (by simp[hs])),Nat.add_mul];omega
 rw[this _ (fun s hs=>hl s (List.mem_of_mem_drop (List.mem_of_mem_take hs)))];simp;omega
def B5L (b:Nat) (d:H8) (x:DX) (l:vS) (S:Nat→Prop):List HB:=[.blk b 112 [.pv (i64 d.room),.mpt 1 x.bm,.own 2 x.v,.pv (i64 0),.pv (bv false),.pv (i64 x.n)],.mp x.bm .str .ptr (Y7 d.files),.own x.v 280 .log x.l,U2 A6P l S]
def rH:D9:=⟨T,aW,H7,A9,65,[],none,.f⟩
theorem B1t:B1 Tryz.prog rH:=⟨O4,E3,A4⟩
theorem fU:F0 Tryz.prog rH:=⟨tOk,B1t⟩
theorem A6R (b:Nat) (d:H8) (S:Nat→Prop) (nm:Bs) (f:P7) (hf:H9 d.files nm=some f) (at_ n:Nat) (hn:at_+n≤f.now.length) (hm:f.now.length≤1000000):C5 Tryz.prog 22 [.c (.ptr 0 b 0),str nm,int .i64 at_,int .i64 n] [D3 b d S] (fun _=>True) (fun x:(Nat→Prop)×Value=> .t [.c (.own 1 x.2),int .i64 0]) (fun x=>[D3 b d x.1,.own x.2 5 .byt (gV f.now at_ n)]):=by
 refine I6 (E:=rH) Tryz.func22 (fun M0 W hM0=>?_);obtain⟨l1,l2,e1,e2,e3⟩:=aX hf;refine A3 fU [] (fun bs=>?_);refine A5 [0] (B9r b d S nm f hf) (fun S1 _=>?_);refine N0 0 (fun x hx=>?_);refine aJ 3 9 e1 (fun S2 S3=>?_);refine N0 9 (fun y hy=>?_);refine A3 fU [false,false,false,false,false] (fun bs=>?_);refine lZ 12 5 rfl ?_;refine K3 (fun p:Nat×Value=>[(54,.c (.osl 5 y.1 at_ (at_+n) 16)),(55,int .i64 n),(56,int .i64 p.1),(12,.c (.own 6 p.2))]) (fun p=>B5L b d x (l1++l2) S2++[.blk f.b 123 [.own 5 y.1,.pv (.lst .sec y.2)],.own y.1 125 .sec f.now,.own p.2 5 .byt (gV f.now at_ p.1)]) (fun p=>p.1≤n) (fun p=>n-p.1) [0,1,2,3,9,10,11] (0,.slice none 0 0) (Nat.zero_le _) ?wk (fun p hp=>?_)
 case wk=>
  and_intros<;> (first|exact wk_|refine A6 ?_|skip)
  all_goals first|(simp;omega)|rfl
 refine A3 fU [] (fun bs=>?_);refine I4 rfl rfl (fun hk=>?_) (fun hk=>?_)
 ·have hk':p.1<n:=by omega
  have hcl:(gV f.now at_ p.1).length≤p.1*16:=B9s hy _ _;have hlt:at_+p.1<f.now.length:=by omega
  have hs:(f.now.getD (at_+p.1) LK.sec.dft).length=16:=by rw[List.getD,gE_ hlt];exact hy _ (List.getElem_mem hlt)
  refine A3 fU [] (fun bs=>?_);refine G3 [0,1,2,3,4,5,8] (p.1+1,?v1) ?ok1 ?wk1
  case ok1=>exact⟨hk',by simp only;omega⟩
  case wk1=>
   and_intros<;> (first|exact wk_|refine A6 ?_|skip)
   all_goals first|(rw[A6Q LK.sec.dft hlt];exact congrArg _ (C2U hs))
 ·have hk':p.1=n:=by omega
  refine A3 fU [] (fun bs=>?_);refine J8 4 (A3p (nm,f)) [4,5] y hy (fun S4=>?_);refine gU 3 4 e1 (fun S5=>?_);refine J8 0 (jE b d) [0,1,2,3] {x with S:=S5} hx (fun S'=>?_);rw[hk'];exact B3 fU (S',p.2) trivial [0,6]
def szs (l:vS):List Int:=l.map fun p=>(p.2.now.length:Int)
def usd (l:vS) (vs:List Nat):Int:=(vs.map fun i=>(szs l).getD i 0).sum
def aK (l:vS):Int:=(szs l).sum
theorem lD {n:Nat}:∀{vs:List Nat},vs.Nodup→(∀i∈vs,i<n)→vs.length≤n:=by
 intro vs h1 h2;have hp:vs.Perm ((List.range n).filter (fun i=>decide (i∈vs))):=(List.perm_ext_iff_of_nodup h1 (List.nodup_range.filter _)).2 (fun i=>by simp only[List.mem_filter,List.mem_range,decide_eq_true_eq];exact⟨fun h=>⟨h2 i h,h⟩,fun h=>h.2⟩);rw[hp.length_eq];exact Nat.le_trans (List.length_filter_le _ _) (by simp)
theorem B5M {l m:List Int} (h:l.Perm m):l.sum=m.sum:=by
 induction h with
 |nil=>rfl
 |cons x _ ih=>simp[ih]
 |swap x y l=>simp;omega
 |trans _ _ h1 h2=>exact h1.trans h2
theorem B9t {l:vS} {vs:List Nat} (h1:vs.Nodup) (h2:∀i∈vs,i<l.length) (h3:∀i,i<l.length→i∈vs):usd l vs=aK l:=by
 have hp:vs.Perm (List.range l.length):=(List.perm_ext_iff_of_nodup h1 List.nodup_range).2 (fun i=>⟨fun h=>List.mem_range.2 (h2 i h),fun h=>h3 i (List.mem_range.1 h)⟩);unfold usd aK;rw[B5M (hp.map _)]
 congr 1
 refine List.ext_getElem (by simp[szs]) (fun i h4 h5=>?_);simp only[szs,List.length_map]at h5;simp[List.getD,szs,h5]
theorem C3W {l:vS} {N:Nat} (hl:∀p∈l,p.2.now.length≤N):∀vs:List Nat,0≤usd l vs∧usd l vs≤vs.length*N:=by
 intro vs
 induction vs with
 |nil=>simp[usd]
 |cons i vs ih=>
  have h1:usd l (i::vs)=(szs l).getD i 0+usd l vs:=by simp[usd]
  have h2:0≤(szs l).getD i 0∧(szs l).getD i 0≤N:=by
   unfold szs;rw[List.getD,List.getElem?_map];cases hi:l[i]? with
   |none=>simp
   |some p=>have:=hl p (List.mem_of_getElem? hi);simp;omega
  rw[h1]
  constructor
  ·omega
  ·have:((i::vs).length:Int)*N=vs.length*N+N:=by simp[Int.add_mul]
   omega
theorem B5N {l:vS} {j:Nat} (vs:List Nat) (h:j<l.length):usd l (j::vs)=usd l vs+l[j].2.now.length:=by
 have:(szs l).getD j 0=l[j].2.now.length:=by simp[List.getD,szs,h]
 simp only[usd,List.map_cons,List.sum_cons,this];omega
theorem B5O {l:vS} {j:Nat} (h:j<l.length):((Y7 l).getD j (KK.str.dft,VK.ptr.dft)).2=some l[j].2.b:=by
 simp[List.getD,Y7,h]
def C4z (b:Nat) (d:H8) (x:DX) (l:vS) (f:P7) (y:Value×List Bs) (S:Nat→Prop):List HB:=B5L b d x l S++[.blk f.b 123 [.own 5 y.1,.pv (.lst .sec y.2)],.own y.1 125 .sec f.now]
theorem B5P {α:Type} {l1 l2:List α} {x:α} {j:Nat} (h:j<(l1++x::l2).length) (hj:j≠l1.length):∃m1 m2,l1++l2=m1++(l1++x::l2)[j]::m2:=by
 have hm:(l1++x::l2)[j]∈l1++l2:=by
  simp only[List.length_append,List.length_cons]at h;rcases Nat.lt_or_ge j l1.length with h1|h1
  ·rw[List.getElem_append_left h1];exact List.mem_append.2 (.inl (List.getElem_mem h1))
  ·rw[List.getElem_append_right h1];obtain⟨q,hq⟩:∃q,j-l1.length=q+1:=⟨j-l1.length-1,by omega⟩
   simp only[hq,List.getElem_cons_succ];exact List.mem_append.2 (.inr (List.getElem_mem _))
 obtain⟨s,t,e⟩:=List.append_of_mem hm;exact⟨s,t,e⟩
def rI:D9:=⟨T,aW,H7,A9,25,[],none,.f⟩
theorem B1u:B1 Tryz.prog rI:=⟨O4,E3,A4⟩
theorem bR:F0 Tryz.prog rI:=⟨tOk,B1u⟩
theorem C5A (b:Nat) (d:H8) (x:DX) (nm:Bs) (f:P7) (l1 l2:vS) (y:Value×List Bs) (S:Nat→Prop) (he:d.files=l1++(nm,f)::l2) (hl:∀p∈d.files,p.2.now.length≤65536) (hn:d.files.length≤32):C5 Tryz.prog 210 [.c (.ptr 0 b 0)] (C4z b d x (l1++l2) f y S) (fun _=>True) (fun _:Nat→Prop=>int .i64 (aK d.files)) (fun S=>C4z b d x (l1++l2) f y S):=by
 refine I6 (E:=rI) Tryz.func210 (fun M0 W hM0=>?_);refine A3 bR [false] (fun bs=>?_);refine V3 (fun vs:List Nat×Nat×(Nat→Prop)=>[(3,int .i64 (usd d.files vs.1)),(12,.c (.ptr 1 vs.2.1 0))]) (fun vs=>[.blk b 112 [.pv (i64 d.room),.mpt 1 x.bm,.own 2 x.v,.pv (i64 0),.pv (bv false),.pv (i64 x.n)],.mpr x.bm .str .ptr (Y7 d.files) vs.2.1 vs.1,.own x.v 280 .log x.l,U2 A6P (l1++l2) vs.2.2,.blk f.b 123 [.own 5 y.1,.pv (.lst .sec y.2)],.own y.1 125 .sec f.now]) (fun vs=>vs.1.Nodup∧∀i∈vs.1,i<d.files.length) (fun vs=>d.files.length-vs.1.length) [0,1,2,3,4,5] ([],?bi,S) ⟨List.nodup_nil,by simp⟩ (fun vs hv=>?_)
 refine A3 bR [] (fun bs=>?_);refine A8J 1 rfl (fun j hj hnv=>?_) (fun hall=>?_)
 ·have hj':j<d.files.length:=by simpa[Y7]using hj
  have hnd:(j::vs.1).Nodup:=List.nodup_cons.2 ⟨hnv,hv.1⟩;have hlt:∀i∈j::vs.1,i<d.files.length:=fun i hi=>by
   rcases List.mem_cons.1 hi with rfl|hi
   ·exact hj'
   ·exact hv.2 i hi
  have hle:=lD hnd hlt;simp only[List.length_cons]at hle;have hu:=C3W hl vs.1;have hs:d.files[j].2.now.length≤65536:=hl _ (List.getElem_mem hj');have hb:((vs.1.length:Nat):Int)*65536≤32*65536:=by omega
  have hb2:usd d.files vs.1≤32*65536:=by have:=hu.2;omega
  have hc:=B5N vs.1 hj';by_cases hjf:j=l1.length
  ·have ef:d.files[j]=(nm,f):=by simp[he,hjf]
   have ep:=B5O hj';rw[ef]at ep hs hc;refine A3 bR [true] (fun bs=>?_);refine Z3 18 4 ep ?_;refine A3 bR [] (fun bs=>?_);refine G3 [0,1,2,3,4,5] (j::vs.1,vs.2.1,vs.2.2) ⟨⟨hnd,hlt⟩,by simp only[List.length_cons];omega⟩ ?wk1
   case wk1=>
    and_intros<;> (first|exact wk_|refine A6 ?_|skip)
    all_goals exact hc.symm
  ·have h0:∃m1 m2,l1++l2=m1++d.files[j]::m2:=by
    have hj2:j<(l1++(nm,f)::l2).length:=he▸hj';have:=B5P hj2 hjf;simpa only[he]using this
   obtain⟨m1,m2,hm⟩:=h0;refine A3 bR [true] (fun bs=>?_);refine Z3 18 9 (B5O hj') ?_;refine aJ 3 9 hm (fun S1 S2=>?_);refine N0 9 (fun z hz=>?_);refine A3 bR [] (fun bs=>?_);refine J8 9 (A3p d.files[j]) [9,10] z hz (fun S3=>?_);refine gU 3 9 hm (fun S4=>?_);refine G3 [0,1,2,3,4,5] (j::vs.1,vs.2.1,S4) ⟨⟨hnd,hlt⟩,by simp only[List.length_cons];omega⟩ ?wk2
   case wk2=>
    and_intros<;> (first|exact wk_|refine A6 ?_|skip)
    all_goals exact hc.symm
 ·have e:=B9t hv.1 hv.2 (fun i hi=>hall i (by simpa[Y7]using hi));refine A3 bR [false] (fun bs=>?_);refine B4y 1 ?_;rw[e];exact B3 bR vs.2.2 trivial [0,1,2,3,4,5]
def rJ:D9:=⟨T,aW,H7,A9,15,[],none,.t⟩
theorem B1v:B1 Tryz.prog rJ:=⟨O4,E3,A4⟩
theorem B5Q:F0 Tryz.prog rJ:=⟨tOk,B1v⟩
theorem B5R (r0:List UInt8) (r1:Int) (r2:Int) (r3:Int) (r4:Int) (r5:Int) (r6:Int) (r7:Int) (r8:Int) (r9:Int) (r10:Int) (r11:Int) (r12:Int) (r13:Int) (r14:Int) (r15:Int) (r16:Int) (r17:Int) (nm0:List UInt8) (fr0:Int):aA Tryz.prog 162 false [.g [.pv (.val (.string ⟨⟨r0⟩⟩)),.pv (.val (.int .i64 r1)),.pv (.val (.int .u8 r2)),.pv (.val (.int .u8 r3)),.pv (.val (.int .u8 r4)),.pv (.val (.int .u8 r5)),.pv (.val (.int .u8 r6)),.pv (.val (.int .u8 r7)),.pv (.val (.int .u8 r8)),.pv (.val (.int .u8 r9)),.pv (.val (.int .u8 r10)),.pv (.val (.int .u8 r11)),.pv (.val (.int .u8 r12)),.pv (.val (.int .u8 r13)),.pv (.val (.int .u8 r14)),.pv (.val (.int .u8 r15)),.pv (.val (.int .u8 r16)),.pv (.val (.int .u8 r17))],.c (.cel [(.val (.string ⟨⟨nm0⟩⟩))]),.c (.cel [(.val (.int .i64 fr0))])] (.x (.c (bv (decide (r0=nm0) && decide (fr0≤r1))))):=by
 refine cJ (E:=rJ) Tryz.func162 (fun M0 W hM0=>?_);refine A3 B5Q [] (fun bs=>?_);exact D5 tOk hM0 rfl rfl ⟨trivial,trivial⟩ rfl
def A3r:C3
 |[.g [.pv (.val (.string ⟨⟨r0⟩⟩)),.pv (.val (.int .i64 r1)),.pv (.val (.int .u8 r2)),.pv (.val (.int .u8 r3)),.pv (.val (.int .u8 r4)),.pv (.val (.int .u8 r5)),.pv (.val (.int .u8 r6)),.pv (.val (.int .u8 r7)),.pv (.val (.int .u8 r8)),.pv (.val (.int .u8 r9)),.pv (.val (.int .u8 r10)),.pv (.val (.int .u8 r11)),.pv (.val (.int .u8 r12)),.pv (.val (.int .u8 r13)),.pv (.val (.int .u8 r14)),.pv (.val (.int .u8 r15)),.pv (.val (.int .u8 r16)),.pv (.val (.int .u8 r17))],.c (.cel [(.val (.string ⟨⟨nm0⟩⟩))]),.c (.cel [(.val (.int .i64 fr0))])]=>some (True,false,.x (.c (bv (decide (r0=nm0) && decide (fr0≤r1)))))
 |_=>none
theorem A8L:E9 Tryz.prog 162 A3r:=by
 intro args pre sh rv h hp;unfold A3r at h;split at h
 ·cases h;exact B5R _ _ _ _ _ _ _ _ _ _ _ _ _ _ _ _ _ _ _ _
 ·cases h
def fV:FuncId→Option C3:=D6 162 A3r aW
theorem cP:G4 Tryz.prog fV:=B8 A8L O4
def A2t (v:Value) (l:List A7i) (b1 b2:Nat) (nm:Bs) (fr:Int):List HB:=[.own v 280 .log l,.blk b1 9 [.pv (sv nm)],.blk b2 3 [.pv (i64 fr)]]
abbrev fcl (b1 b2:Nat):A:= .c (.clo 162 [.ptr 1 b1 0,.ptr 2 b2 0])
def yH:D9:=⟨T,fV,H7,A9,19,[],none,.f⟩
theorem B5S:B1 Tryz.prog yH:=⟨cP,E3,A4⟩
theorem eP:F0 Tryz.prog yH:=⟨tOk,B5S⟩
theorem C6T (v:Value) (l:List A7i) (b1 b2:Nat) (nm:Bs) (fr:Int) (hl:l.length≤1000000000):C5 Tryz.prog 227 [.c (.own 0 v),fcl b1 b2] (A2t v l b1 b2 nm fr) (fun i:Int=> -1≤i∧i<l.length) (fun i=>int .i64 i) (fun _=>A2t v l b1 b2 nm fr):=by
 refine I6 (E:=yH) Tryz.func227 (fun M0 W hM0=>?_);refine A3 eP [] (fun bs=>?_);refine V3 (fun i:Nat=>[(0,.c (.own 0 v)),(1,fcl b1 b2),(7,int .i64 l.length),(8,int .i64 i)]) (fun _=>A2t v l b1 b2 nm fr) (fun i=>i≤l.length) (fun i=>l.length-i) [0,1,2] 0 (Nat.zero_le _) (fun i hi=>?_);refine A3 eP [] (fun bs=>?_);refine I4 rfl rfl (fun hk=>?_) (fun hk=>?_)
 ·have hk':i<l.length:=by omega
  refine A3 eP [] (fun bs=>?_);refine C6 rfl rfl (fun h=>?_) (fun h=>?_)
  ·refine A3 eP [] (fun bs=>?_);exact B3 eP (i:Int) ⟨by omega,by omega⟩ [0,1,2]
  ·refine A3 eP [] (fun bs=>?_);exact I0 [0,1,2] (i+1) ⟨hk',by omega⟩
 ·refine A3 eP [] (fun bs=>?_);exact B3 eP (-1) ⟨by omega,by omega⟩ [0,1,2]
def yI:D9:=⟨T,fV,H7,A9,42,[],none,.f⟩
theorem B5T:B1 Tryz.prog yI:=⟨cP,E3,A4⟩
theorem X9:F0 Tryz.prog yI:=⟨tOk,B5T⟩
theorem C6U (v:Value) (l:List A7i) (b1 b2:Nat) (nm:Bs) (fr:Int) (hl:l.length≤1000000000):C5 Tryz.prog 161 [.c (.own 0 v),fcl b1 b2] (A2t v l b1 b2 nm fr) (fun x:Value×List A7i=>x.2.length≤l.length) (fun x=> .c (.own 0 x.1)) (fun x=>A2t x.1 x.2 b1 b2 nm fr):=by
 refine I6 (E:=yI) Tryz.func161 (fun M0 W hM0=>?_);refine A3 X9 [] (fun bs=>?_);refine A5 [0,1,2] (C6T v l b1 b2 nm fr hl) (fun i0 hi0=>?_);refine A3 X9 [] (fun bs=>?_);refine I4 rfl rfl (fun hk=>?_) (fun hk=>?_)
 ·refine A3 X9 [] (fun bs=>?_);exact B3 X9 (v,l) (Nat.le_refl _) [0,1,2]
 ·have h0:0≤i0:=by omega
  obtain⟨i0,rfl⟩:=Int.eq_ofNat_of_zero_le h0;refine A3 X9 [] (fun bs=>?_);refine V3 (fun x:Nat×Nat×List A7i=>[(0,.c (.own 0 v)),(1,fcl b1 b2),(5,int .i64 x.2.1),(6,int .i64 x.1)]) (fun x=>A2t v x.2.2 b1 b2 nm fr) (fun x=>x.2.1<x.1∧x.1≤l.length∧x.2.2.length=l.length) (fun x=>l.length-x.1) [0,1,2] (i0+1,i0,l) ⟨Nat.lt_succ_self _,by simp only;omega,rfl⟩ (fun x hx=>?_);obtain⟨j,i,s⟩:=x;obtain⟨h1,h2,h3⟩:=hx;simp only at h1 h2 h3;refine A3 X9 [] (fun bs=>?_);refine I4 rfl rfl (fun hk2=>?_) (fun hk2=>?_)
  ·have hj:j<l.length:=by simp only at hk2;omega
   refine A3 X9 [] (fun bs=>?_);refine C6 rfl rfl (fun h=>?_) (fun h=>?_)
   ·refine Q2 X9 [] (fun bs=>?_) (fun bs=>?_)
    ·and_intros<;> first|exact trivial|omega|(simp only;omega)|exact rfl|exact A2I _
    refine G3 [0,1,2] (j+1,i+1,?l1) ?ok1 ?wk1
    case wk1=>and_intros<;> (first|exact wk_|refine A6 ?_|skip)
    case ok1=>exact⟨⟨by simp only;omega,hj,by simp only[List.length_set];exact h3⟩,by simp only;omega⟩
   ·refine A3 X9 [] (fun bs=>?_);exact I0 [0,1,2] (j+1,i,s) ⟨⟨by simp only;omega,hj,h3⟩,by simp only;omega⟩
  ·refine B9b 0 rfl (fun e1 _=>?_) (fun b cap e hc hm=>?_)
   ·exfalso;simp only at e1;rw[e1]at h3;simp at h3;omega
   subst e;refine W8 0 (y:=pv (.val (.slice (some ⟨b,0,none⟩) s.length cap))) rfl (fun M v h=>by rw[h.own_inv];exact .c (.pv (.val rfl))) ?_;refine B9d 0 i rfl (by simp only;omega) ?_;refine A3 X9 [] (fun bs=>?_);refine A8E 0 (lo:=i) (hi:=s.length) tOk rfl rfl rfl rfl rfl rfl rfl rfl rfl ?_ hc rfl ?_
   ·simp;omega
   refine A3 X9 [] (fun bs=>?_);refine W8 4 (y:=pv (.val (.slice (some ⟨b,0,none⟩) i cap))) rfl (fun M v h=>by rw[h.val_inv];simp[sli];exact .c (.pv (.val rfl))) ?_;refine B4n 4 0 rfl rfl rfl ?_;exact B3 X9 (.slice (some ⟨b,0,none⟩) i cap,s.take i) (by simp;omega) [0,1,2]
def mT:D9:=⟨T,fV,H7,A9,8,[],none,.t⟩
theorem A8M:B1 Tryz.prog mT:=⟨cP,E3,A4⟩
theorem rK:F0 Tryz.prog mT:=⟨tOk,A8M⟩
theorem B1w (l:List (List UInt8)) (hl:l.length≤1000000):aA Tryz.prog 212 false [lst .sec l] (.o 125 .sec l):=by
 refine cJ (E:=mT) Tryz.func212 (fun M0 W hM0=>?_);refine C8 rK 60 (fun _=>none) (fun bs=>?_);refine C6 rfl rfl (fun h=>?_) (fun h=>?_)
 ·have e:=jM h;subst e;refine C8 rK 60 (fun _=>none) (fun bs=>?_);exact D5 tOk hM0 rfl rfl ⟨trivial,trivial⟩ rfl
 ·refine C8 rK 60 (fun _=>none) (fun bs=>?_);exact D5 tOk hM0 rfl rfl ⟨trivial,trivial⟩ ⟨rfl,rfl,rfl,A6 (List.nil_append l)⟩
def yJ:C3
 |[.c (.pv (.lst .sec l))]=>some ((l.length≤1000000),false,.o 125 .sec l)
 |_=>none
theorem A6S:E9 Tryz.prog 212 yJ:=by
 intro args pre sh rv h hp;unfold yJ at h;split at h
 ·cases h;have hl:=hp;exact B1w _ hl
 ·cases h
def V4:FuncId→Option C3:=D6 212 yJ fV
theorem P2:G4 Tryz.prog V4:=B8 A6S cP
def yK:D9:=⟨T,V4,H7,A9,15,[],none,.f⟩
theorem B5U:B1 Tryz.prog yK:=⟨P2,E3,A4⟩
theorem A3s:F0 Tryz.prog yK:=⟨tOk,B5U⟩
theorem C3X (b:Nat) (d:H8) (S:Nat→Prop) (nm:Bs) (fr:Int) (hg:d.lg≤1000000000):C5 Tryz.prog 82 [.c (.ptr 0 b 0),str nm,int .i64 fr] [D3 b d S] (fun _=>True) (fun _:Nat→Prop=> .t []) (fun S=>[D3 b d S]):=by
 refine I6 (E:=yK) Tryz.func82 (fun M0 W hM0=>?_);refine N0 0 (fun x hx=>?_);refine A3 A3s [] (fun bs=>?_);refine A5 [2,4,5] (C6U x.v x.l _ _ nm fr (Nat.le_trans hx hg)) (fun y hy=>?_);refine A3 A3s [] (fun bs=>?_);refine J8 0 (jE b d) [0,1,2,3] {x with v:=y.1,l:=y.2} (Nat.le_trans hy hx) (fun S'=>?_);exact Y6 A3s S' trivial [0]
def mU:D9:=⟨T,V4,H7,A9,27,[],none,.f⟩
theorem A8N:B1 Tryz.prog mU:=⟨P2,E3,A4⟩
theorem fW:F0 Tryz.prog mU:=⟨tOk,A8N⟩
theorem B5V (b:Nat) (d:H8) (S:Nat→Prop) (nm:Bs) (f:P7) (hf:H9 d.files nm=some f) (hg:d.lg≤1000000000) (hm:f.now.length≤1000000):C5 Tryz.prog 125 [.c (.ptr 0 b 0),str nm] [D3 b d S] (fun _=>True) (fun _:Nat→Prop=>int .i64 0) (fun S=>[D3 b d S]):=by
 refine I6 (E:=mU) Tryz.func125 (fun M0 W hM0=>?_);obtain⟨l1,l2,e1,e2,e3⟩:=aX hf;refine A3 fW [] (fun bs=>?_);refine A5 [0] (B9r b d S nm f hf) (fun S1 _=>?_);refine N0 0 (fun x hx=>?_);refine aJ 3 9 e1 (fun S2 S3=>?_);refine N0 9 (fun y hy=>?_);refine A3 fW [false] (fun bs=>?_);refine K7 9 1 11 rfl rfl rfl ?_;refine J8 9 (A3p (nm,f)) [9,10] (y.1,f.now) hy (fun S4=>?_);refine gU 3 9 e1 (fun S5=>?_);refine J8 0 (jE b d) [0,1,2,3] {x with S:=S5} hx (fun S6=>?_);refine A3 fW [] (fun bs=>?_);refine A5 [0] (C3X b d S6 nm 0 hg) (fun S7 _=>?_);refine A3 fW [] (fun bs=>?_);exact B3 fW S7 trivial [0]
section
open Go.RowKit
theorem B1x (x d:Int) (cs:Array Value) (ty:TypeId) (w:World) (b o:Nat) (hb:w.heap[b]? =some (.cells cs ty (0,0))) (ho:cs[o]? =some (.int .i64 x)):
 Calls Tryz.prog 12 #[.pointer (some ⟨b,o,none⟩),.int .i64 d] w fun e w'=>∃s:Int,e= .returned (.int .i64 s)∧w'=w.setCell ⟨b,o,none⟩ (.int .i64 s):=by
 have hc:w.cell? ⟨b,o,none⟩=some (.int .i64 x):=by simp[World.cell?,hb,ho]
 have hz:w.frozen? ⟨b,o,none⟩=false:=by simp[World.frozen?,hb]
 have hadd:=run_call_add (P:=Tryz.prog) Tryz.func23 (by kernel_rfl) (by kernel_rfl) (by kernel_rfl) .i64 (by kernel_rfl) (y:=d) (s:=IntKind.i64.wrap (x+d)) hc hz (by simp[Op.intArith])
 go_enter Tryz.func12,Tryz.ntmps12
 go_wp2
 go_ret
 exact⟨_,rfl,rfl⟩
theorem A2J (b ty o:Nat) (cs:List C) (rest:List HB) (x d:Int) (ho:cs[o]? =some (.pv (i64 x))):C5 Tryz.prog 12 [.c (.ptr 0 b o),int .i64 d] (.blk b ty cs::rest)
 (fun _:Int=>True) (fun r=>int .i64 r) (fun r=> .blk b ty (cs.set o (.pv (i64 r)))::rest):=by
 refine⟨⟨_,Tryz.func12,rfl,by decide⟩,fun M w vs hS hra=>?_⟩;obtain⟨q1,q2,us,q3,q4⟩:=hS.ok 0 _ rfl;have hol:o<cs.length:=(gS_.1 ho).1;have hul:o<us.size:=by have:=q4.1;simp at this;omega
 have huo:us[o]? =some (.int .i64 x):=by
  have h0:us[o]? =some us[o]:=Array.getElem?_eq_getElem hul;have h1:=q4.2 o _ us[o] ho (by rw[Array.getElem?_toList];exact h0);cases h1 with|pv r=>rw[h0,r.val_eq]
 obtain⟨vs⟩:=vs;obtain⟨h1,h2⟩:=hra
 match vs,h1,h2 with
 |[u0,u1],h1,h2=>
  have e0:=h2 0 _ u0 rfl rfl;have e1:=h2 1 _ u1 rfl rfl;cases e0 with|c e0=>cases e0 with|ptr=>
  have:=e1.val_inv;subst this;refine(B1x x d us ty w b o q3 huo).mono fun e w' ⟨s,he,hw⟩=>⟨_,M,s,he,B5.ext_refl _ _,trivial,.c (.pv (.val rfl)),?_⟩
  have hsr:=setCell_eq_setRow w b o us ty (0,0) (.int .i64 s) q3;rw[hw,hsr];refine hS.step (row:=some b) (I8 w b _) (fun b' hb'=>by cases hb';exact⟨q1,q2⟩) (nn:=0) (xx:= .blk b ty (cs.set o (.pv (i64 s)))) (fun n x hn hx=>?_) rfl ⟨q1,q2,us.setIfInBounds o (.int .i64 s),?_,?_⟩ (fun b' hb'=> .inr hb')
  ·cases n with
   |zero=>exact absurd rfl hn
   |succ n=>exact⟨hx,fun b' hb'=>by cases hb';exact hS.inj 0 (n+1) _ x b (by simp) rfl hx rfl⟩
  ·exact setRow_heap w b _ _ _ _ q3
  ·refine⟨by simpa using q4.1,fun j c u e1 e2=>?_⟩;rw[List.getElem?_set]at e1;simp only[Array.toList_setIfInBounds,List.getElem?_set]at e2;by_cases hj:o=j
   ·subst hj;simp[hol]at e1;have:o<us.toList.length:=by simpa using hul
    rw[if_pos rfl,if_pos this]at e2;cases e2;subst e1;exact .pv (.val rfl)
   ·simp only[hj,if_false]at e1 e2;exact q4.2 j c u e1 e2
end
abbrev jV:Bs:=List.replicate 16 0
def grown (l:List Bs) (n:Nat):List Bs:=l++List.replicate (n-l.length) jV
def Y8 (l:List Bs) (a:Nat) (s:Bs):List Bs:=(grown l (a+1)).set a s
def yL:D9:=⟨T,V4,H7,A9,79,[],none,.f⟩
theorem B5W:B1 Tryz.prog yL:=⟨P2,E3,A4⟩
theorem Y0:F0 Tryz.prog yL:=⟨tOk,B5W⟩
theorem C6V (b:Nat) (d:H8) (S:Nat→Prop) (nm:Bs) (f:P7) (hf:H9 d.files nm=some f) (a:Nat) (dat:Bs) (hb:16≤dat.length) (ha:a≤1000000) (hm:f.now.length≤1000000) (hg:d.lg≤1000000000):C5 Tryz.prog 211 [.c (.ptr 0 b 0),str nm,.c (.ptr 9 f.b 0),int .i64 a,lst .byt dat] [D3 b d S] (fun _=>True) (fun _:Nat→Prop=>int .i64 0) (fun S=>[D3 b ⟨d.room,C1 d.files nm ⟨f.b,Y8 f.now a (dat.take 16)⟩,d.lg+1⟩ S]):=by
 refine I6 (E:=yL) Tryz.func211 (fun M0 W hM0=>?_);obtain⟨l1,l2,e1,e2,e3⟩:=aX hf;refine N0 0 (fun x hx=>?_);refine aJ 3 9 e1 (fun S2 S3=>?_);refine N0 9 (fun y hy=>?_);refine A3 Y0 [false] (fun bs=>?_);refine A5 [0,1,2,3] (A2J b 112 5 [.pv (i64 d.room),.mpt 1 x.bm,.own 2 x.v,.pv (i64 0),.pv (bv false),.pv (i64 x.n)] [.mp x.bm .str .ptr (Y7 d.files),.own x.v 280 .log x.l,U2 A6P (l1++l2) S2] x.n 1 rfl) (fun r _=>?_);refine A3 Y0 [] (fun bs=>?_);refine K3 (fun p:List Bs×Value×Nat=>[(0,.c (.ptr 0 b 0)),(1,str nm),(2,.c (.ptr 4 f.b 0)),(3,int .i64 a),(11,.c (.ptr 6 p.2.2 0))]) (fun p=>B5L b d {x with n:=r} (l1++l2) S2++[.blk f.b 123 [.own 5 p.2.1,.pv (.lst .sec y.2)],.own p.2.1 125 .sec p.1,.own (.slice (some ⟨p.2.2,0,none⟩) 16 16) 125 .byt (dat.take 16)]) (fun p=>(∃i,p.1=f.now++List.replicate i jV)∧f.now.length≤p.1.length∧p.1.length≤max f.now.length (a+1)) (fun p=>a+1-p.1.length) [0,1,2,3,9,10,11] (f.now,y.1,?bb) ⟨⟨0,by simp⟩,Nat.le_refl _,Nat.le_max_left _ _⟩ ?wk (fun p hp=>?_)
 case wk=>
  and_intros<;> (first|exact wk_|refine A6 ?_|skip)
  all_goals(rw[List.drop_eq_nil_of_le (by simpa using hb),List.append_nil];rfl)
 obtain⟨now,v,bb⟩:=p;obtain⟨⟨i,h1⟩,h2,h3⟩:=hp;simp only at h1 h2 h3;have hy2:∀s∈now,s.length=16:=by
  intro s hs;rw[h1]at hs;rcases List.mem_append.1 hs with h|h
  ·exact hy s h
  ·rw[(List.mem_replicate.1 h).2];rfl
 refine A3 Y0 [] (fun bs=>?_);refine I4 rfl rfl (fun hk=>?_) (fun hk=>?_)
 ·have hk':now.length≤a:=by simp only at hk;omega
  refine A3 Y0 [] (fun bs=>?_);refine B4s tOk rfl rfl rfl rfl rfl rfl rfl rfl ?_;refine A3 Y0 [] (fun bs=>?_);refine G3 [0,1,2,3,4,8,6] (now++[jV],bs 0 0 1,bb) ?ok1 ?wk1
  case wk1=>
   and_intros<;> (first|exact wk_|refine A6 ?_|skip)
  case ok1=>exact⟨⟨⟨i+1,by simp only;rw[h1,List.append_assoc,←List.replicate_succ']⟩,by simp;omega,by simp;omega⟩,by simp;omega⟩
 ·have hk':a<now.length:=by simp only at hk;omega
  have hl:x.l.length≤d.lg:=hx;have hq:(dat.take 16).length=16:=by simp;omega
  have hi:i=a+1-f.now.length:=by have:=congrArg List.length h1;simp at this;omega
  have hg2:Y8 f.now a (dat.take 16)=now.set a (dat.take 16):=by unfold Y8;rw[show grown f.now (a+1)=now from by rw[h1,hi];rfl]
  refine A3 Y0 [] (fun bs=>?_);refine jD 7 rfl ?_;refine R3 Y0 6 [0,1,3,7,0,0,63,127] [(7,5)] (fun bs=>?_);refine A3 Y0 [] (fun bs=>?_);refine jD 13 rfl ?_;refine R3 Y0 11 [0,0,2,6,14,0,0,0,224,480,1022,2047,4095,8191] [(10,2)] (fun bs=>?_);refine A3 Y0 [] (fun bs=>?_);refine J8 4 (A3p (nm,⟨f.b,Y8 f.now a (dat.take 16)⟩)) [4,5] (v,y.2) ?hok (fun S4=>?_) (h:=?hsh)
  case hok=>
   intro s hs;have hs':s∈now.set a (dat.take 16):=hg2▸hs;rcases List.mem_or_eq_of_mem_set hs' with h|h
   ·exact hy2 s h
   ·rw[h];exact hq
  case hsh=>
   rw[hg2]
   and_intros<;> (first|exact wk_|refine A6 ?_|skip)
   all_goals exact congrArg (List.set now a) (C2U hq)
  refine gU 3 4 (e2 ⟨f.b,Y8 f.now a (dat.take 16)⟩) (fun S5=>?_);refine J8 0 (jE b ⟨d.room,C1 d.files nm ⟨f.b,Y8 f.now a (dat.take 16)⟩,d.lg+1⟩) [0,1,23,3] {x with n:=r,v:=?vv,l:=?ll,S:=S5} ?hok2 (fun S6=>?_) (h:=?hsh2)
  case hsh2=>
   have ep:Y7 (C1 d.files nm ⟨f.b,Y8 f.now a (dat.take 16)⟩)=Y7 d.files:=by
    rw[e2];conv=>rhs;rw[e1]
    simp[Y7]
   have ed:∀y:DX,(jE b ⟨d.room,C1 d.files nm ⟨f.b,Y8 f.now a (dat.take 16)⟩,d.lg+1⟩).f y=[.blk b 112 [.pv (i64 d.room),.mpt 1 y.bm,.own 2 y.v,.pv (i64 0),.pv (bv false),.pv (i64 y.n)],.mp y.bm .str .ptr (Y7 d.files),.own y.v 280 .log y.l,U2 A6P (C1 d.files nm ⟨f.b,Y8 f.now a (dat.take 16)⟩) y.S]:=fun y=>by rw[←ep];rfl
   rw[ed]
   and_intros<;> (first|exact wk_|refine A6 ?_|skip)
  case hok2=>show List.length _≤d.lg+1;simp;omega
  refine A3 Y0 [] (fun bs=>?_);exact B3 Y0 S6 trivial [0]
theorem rL {kk:KK} {V:Type} {k:kk.T} {v:V}:∀{l:List (kk.T×V)},H9 l k=some v→C1 l k v=l:=by
 intro l h;obtain⟨l1,l2,e1,e2,_⟩:=aX h;rw[e2 v];exact e1.symm
theorem fX {kk:KK} {V:Type} {k:kk.T} {v w:V}:∀{l:List (kk.T×V)},C1 (C1 l k v) k w=C1 l k w:=by
 intro l
 induction l with
 |nil=>simp[C1,KK.eqb_iff.2 rfl]
 |cons p l ih=>
  by_cases h:kk.eqb k p.1=true
  ·simp[C1,h]
  ·have h':kk.eqb k p.1=false:=by simpa using h
   simp[C1,h',ih]
theorem A6T {kk:KK} {V:Type} {k:kk.T} {v:V} {l:List (kk.T×V)}:H9 (C1 l k v) k=some v:=by rw[U3];simp
def fK (l:List Bs) (a:Nat) (dat:Bs):Nat→List Bs
 |0=>l
 |i+1=>Y8 (fK l a dat i) (a+i) ((dat.drop (16*i)).take 16)
theorem yM (l:List Bs) (a:Nat) (s:Bs):(Y8 l a s).length=max l.length (a+1):=by simp[Y8,grown];omega
theorem B9u (l:List Bs) (a:Nat) (dat:Bs):∀i,(fK l a dat i).length≤max l.length (a+i):=by
 intro i
 induction i with
 |zero=>simp[fK];omega
 |succ i ih=>simp only[fK,yM];omega
theorem A6U {kk:KK} {V:Type} {k:kk.T} {v w:V} {l:List (kk.T×V)} (h:H9 l k=some v):(C1 l k w).length=l.length:=by
 obtain⟨l1,l2,e1,e2,_⟩:=aX h;rw[e2 w,e1];simp
theorem B0S (l:vS):0≤aK l:=by
 unfold aK szs
 induction l with
 |nil=>simp
 |cons p l ih=>simp only[List.map_cons,List.sum_cons];omega
def mV:D9:=⟨T,V4,H7,A9,83,[],none,.f⟩
theorem A8O:B1 Tryz.prog mV:=⟨P2,E3,A4⟩
theorem W4:F0 Tryz.prog mV:=⟨tOk,A8O⟩
theorem A8P (b:Nat) (d:H8) (S:Nat→Prop) (nm:Bs) (f:P7) (hf:H9 d.files nm=some f) (a n:Nat) (dat:Bs) (hd:dat.length=16*n) (h1:0<n) (ha:a+n≤65536) (hl:∀p∈d.files,p.2.now.length≤65536) (hn:d.files.length≤32) (hr:((a+n:Nat):Int)-f.now.length≤d.room-aK d.files) (hu:aK d.files≤d.room) (hrm:d.room≤1048576) (hg:d.lg+n≤1000000000):C5 Tryz.prog 123 [.c (.ptr 0 b 0),str nm,int .i64 a,lst .byt dat] [D3 b d S] (fun _=>True) (fun _:Nat→Prop=>int .i64 0) (fun S=>[D3 b ⟨d.room,C1 d.files nm ⟨f.b,fK f.now a dat n⟩,d.lg+n⟩ S]):=by
 refine I6 (E:=mV) Tryz.func123 (fun M0 W hM0=>?_);obtain⟨l1,l2,e1,e2,e3⟩:=aX hf;have hlf:f.now.length≤65536:=hl (nm,f) (by rw[e1];simp);have hu0:=B0S d.files;refine A3 W4 [] (fun bs=>?_);refine A5 [0] (B9r b d S nm f hf) (fun S1 _=>?_);refine A3 W4 [false,false,false,false,false,false] (fun bs=>?_);refine N0 0 (fun x hx=>?_);refine aJ 3 9 e1 (fun S2 S3=>?_);refine N0 9 (fun y hy=>?_);refine rD W4 17 [0,0,3,0,8,24,56,120,255,511,0,1024,3072,7168,0,16384,64512,131071,262143] 15 [0,1,2,3,9,10] [0,9,10] (C5A b d x nm f l1 l2 y S2 e1 hl hn) (fun S4 _=>?_);refine A3 W4 [false] (fun bs=>?_);refine J8 9 (A3p (nm,f)) [9,10] y hy (fun S5=>?_)
 refine gU 3 9 e1 (fun S6=>?_);refine J8 0 (jE b d) [0,1,2,3] {x with S:=S6} hx (fun S7=>?_);refine K3 (fun p:Nat×(Nat→Prop)=>[(0,.c (.ptr 0 b 0)),(1,str nm),(2,int .i64 a),(3,lst .byt dat),(9,.c (.ptr 9 f.b 0)),(64,int .i64 n),(65,int .i64 p.1)]) (fun p=>[D3 b ⟨d.room,C1 d.files nm ⟨f.b,fK f.now a dat p.1⟩,d.lg+p.1⟩ p.2]) (fun p=>p.1≤n) (fun p=>n-p.1) [0] (0,S7) (Nat.zero_le _) ?wk (fun p hp=>?_)
 case wk=>
  have e0:C1 d.files nm ⟨f.b,fK f.now a dat 0⟩=d.files:=rL (v:=f) hf;rw[show(⟨d.room,C1 d.files nm ⟨f.b,fK f.now a dat (0,S7).1⟩,d.lg+(0,S7).1⟩:H8)=d by show(⟨d.room,C1 d.files nm ⟨f.b,fK f.now a dat 0⟩,d.lg⟩:H8)=d;rw[e0]]
  and_intros<;> (first|exact wk_|refine A6 ?_|skip)
  all_goals(simp[hd];omega)
 obtain⟨i,S8⟩:=p;simp only at hp;refine A3 W4 [] (fun bs=>?_);refine I4 rfl rfl (fun hk=>?_) (fun hk=>?_)
 ·have hk':i<n:=by omega
  have hw:=B9u f.now a dat i;have hda:(dat.take ((dat.length:Nat):Int).toNat).drop ((i:Int)*16).toNat=dat.drop (16*i):=by rw[show((dat.length:Nat):Int).toNat=dat.length by omega,List.take_length,show((i:Int)*16).toNat=16*i by omega]
  refine A3 W4 [] (fun bs=>?_);refine A5 [0] (C6V b ⟨d.room,C1 d.files nm ⟨f.b,fK f.now a dat i⟩,d.lg+i⟩ S8 nm ⟨f.b,fK f.now a dat i⟩ A6T (a+i) ((dat.take ((dat.length:Nat):Int).toNat).drop ((i:Int)*16).toNat) (by rw[hda];simp;omega) (by omega) (by simp only;omega) (by simp only;omega)) (fun S9 _=>?_);refine A3 W4 [false] (fun bs=>?_);refine G3 [0] (i+1,S9) ⟨hk',by simp only;omega⟩ ?wk1
  case wk1=>
   rw[fX,hda]
   and_intros<;> (first|exact wk_|refine A6 ?_|skip)
 ·have hk':i=n:=by omega
  subst hk';refine A3 W4 [] (fun bs=>?_);exact B3 W4 S8 trivial [0]
def A6V (d:H8) (nm:Bs) (b':Nat):H8:=⟨d.room,C1 d.files nm ⟨b',[]⟩,d.lg⟩
theorem B9v {l:vS} {nm:Bs} {f:P7} (h:H9 l nm=none):C1 (kk:=KK.str) (Y7 l) nm (some f.b)=Y7 (C1 l nm f):=by
 rw[dL h,dL (B9q h)];simp[Y7]
def jW:D9:=⟨T,V4,H7,A9,45,[],none,.f⟩
theorem A6W:B1 Tryz.prog jW:=⟨P2,E3,A4⟩
theorem dM:F0 Tryz.prog jW:=⟨tOk,A6W⟩
theorem B9w (b:Nat) (d:H8) (S:Nat→Prop) (c:UInt8) (nm:Bs) (hf:H9 d.files (c::nm)=none) (h1:nm.length≤15) (hc:d.files.length<32) (hg:d.lg≤1000000000):C5 Tryz.prog 62 [.c (.ptr 0 b 0),str (c::nm)] [D3 b d S] (fun _=>True) (fun _:Nat×(Nat→Prop)=>int .i64 0) (fun p=>[D3 b (A6V d (c::nm) p.1) p.2]):=by
 refine I6 (E:=jW) Tryz.func62 (fun M0 W hM0=>?_);have hpl:(Y7 d.files).length<32:=by simpa[Y7]using hc
 refine A3 dM [] (fun bs=>?_);refine A5 [0] (dUp b d S) (fun S1 _=>?_);refine N0 0 (fun x hx=>?_);refine L7 dM (fun n=>some (Nat.beq n 7)) [false,false] (fun bs=>?_);refine jU 25 (lkN hf) ?_;refine L7 dM (fun n=>some (Nat.beq n 7)) [false] (fun bs=>?_);refine J8 0 (jE b d) [0,1,2,3] x hx (fun S2=>?_);refine A5 [0] (C3X b d S2 (c::nm) 0 hg) (fun S3 _=>?_);refine N0 0 (fun x hx=>?_);refine A3 dM [] (fun bs=>?_);refine bZ 7 0 125 rfl rfl ?_;refine J8 7 (A3p (c::nm,⟨?bb,[]⟩)) [7,8] (.slice none 0 0,[]) (by simp[A3p]) (fun S4=>?_);refine yE 6 7 (l:=C1 d.files (c::nm) ⟨?bb,[]⟩) (l0:=d.files) (l1:=d.files) (l2:=[]) (dL hf) (by simp) (fun S5=>?_)
 refine J8 0 (jE b (A6V d (c::nm) ?bb)) [0,4,5,6] {x with S:=S5} hx (fun S6=>?_) (h:=?hsh)
 case hsh=>
  have ed:∀(bb:Nat) (y:DX),(jE b (A6V d (c::nm) bb)).f y=[.blk b 112 [.pv (i64 d.room),.mpt 1 y.bm,.own 2 y.v,.pv (i64 0),.pv (bv false),.pv (i64 y.n)],.mp y.bm .str .ptr (C1 (kk:=KK.str) (Y7 d.files) (c::nm) (some bb)),.own y.v 280 .log y.l,U2 A6P (C1 d.files (c::nm) ⟨bb,[]⟩) y.S]:=fun bb y=>by rw[show(some bb:VK.ptr.T)=some (⟨bb,[]⟩:P7).b from rfl,B9v hf];rfl
  refine(congrArg (vO _ [0,4,5,6]) (ed _ _)).mpr ?_
  and_intros<;> (first|exact wk_|refine A6 ?_|skip)
 exact B3 dM (_,S6) trivial [0]
def jX:D9:=⟨T,V4,H7,A9,24,[],none,.f⟩
theorem A6X:B1 Tryz.prog jX:=⟨P2,E3,A4⟩
theorem gW:F0 Tryz.prog jX:=⟨tOk,A6X⟩
theorem B9x (b:Nat) (d:H8) (S:Nat→Prop) (nm:Bs) (f:P7) (hf:H9 d.files nm=some f) (hg:d.lg≤1000000000):C5 Tryz.prog 41 [.c (.ptr 0 b 0),str nm] [D3 b d S] (fun _=>True) (fun _:Nat→Prop=>int .i64 0) (fun S=>[D3 b ⟨d.room,Y3 d.files nm,d.lg⟩ S]):=by
 refine I6 (E:=jX) Tryz.func41 (fun M0 W hM0=>?_);obtain⟨l1,l2,e1,e2,e3⟩:=aX hf;have ep:Y7 (Y3 d.files nm)=Y3 (kk:=KK.str) (Y7 d.files) nm:=(B5F (kk:=KK.str) (fun f:P7=>some f.b) nm d.files).symm;refine A3 gW [] (fun bs=>?_);refine A5 [0] (B9r b d S nm f hf) (fun S1 _=>?_);refine A3 gW [false] (fun bs=>?_);refine A5 [0] (C3X b d S1 nm 0 hg) (fun S2 _=>?_);refine N0 0 (fun x hx=>?_);refine A3 gW [] (fun bs=>?_);refine aJ 3 9 e1 (fun S3 S4=>?_);refine B4p 9 ?_;refine J8 0 (jE b ⟨d.room,Y3 d.files nm,d.lg⟩) [0,1,2,3] {x with S:=S3} hx (fun S5=>?_) (h:=?hsh)
 case hsh=>
  show vO _ _ [.blk b 112 [.pv (i64 d.room),.mpt 1 x.bm,.own 2 x.v,.pv (i64 0),.pv (bv false),.pv (i64 x.n)],.mp x.bm .str .ptr (Y7 (Y3 d.files nm)),.own x.v 280 .log x.l,U2 A6P (Y3 d.files nm) S3];rw[ep,e3]
  and_intros<;> (first|exact wk_|refine A6 ?_|skip)
 exact B3 gW S5 trivial [0]
def yN:D9:=⟨T,V4,H7,A9,14,[],none,.f⟩
theorem B5X:B1 Tryz.prog yN:=⟨P2,E3,A4⟩
theorem B0T:F0 Tryz.prog yN:=⟨tOk,B5X⟩
theorem C6W (n:Int) (h1:1≤n) (h2:n≤1048576):C5 Tryz.prog 19 [int .i64 n] [] (fun _=>True) (fun p:Nat×(Nat→Prop)=> .t [.c (.ptr 0 p.1 0),int .i64 0]) (fun p=>[D3 p.1 ⟨n,[],0⟩ p.2]):=by
 refine I6 (E:=yN) Tryz.func19 (fun M0 W hM0=>?_);refine L7 B0T (fun _=>some false) [false] (fun bs=>?_);refine bZ 1 2 280 rfl rfl ?_;refine A3o 3 A6P ?_;refine J8 1 (jE ?bb ⟨n,[],0⟩) [1,0,2,3] ⟨_,.slice none 0 0,[],fun _=>False,0⟩ (by simp[jE]) (fun S1=>?_);exact B3 B0T (_,S1) trivial [1]
section
open Go.RowKit
theorem A6Y {x:Int} {us:Array Value} {M:B5} (h:R8 M ([i64 x].map .pv) us.toList):us= #[.int .i64 x]:=by
 obtain⟨h1,h2⟩:=h;obtain⟨l⟩:=us
 match l,h1,h2 with
 |[u],h1,h2=>
  have:=h2 0 _ u rfl rfl;cases this with|pv r=>cases r;rfl
theorem B9y {d:Int} {vs:List Value} {M:B5} (h:cY M [int .i64 d] vs.toArray):vs=[.int .i64 d]:=by
 obtain⟨h1,h2⟩:=h
 match vs,h1,h2 with
 |[u],h1,h2=>
  have:=h2 0 _ u rfl rfl;cases this with|c r=>cases r with|pv r=>cases r;rfl
theorem C3Y {vs:List Value} {M:B5} (h:cY M [] vs.toArray):vs=[]:=by
 obtain⟨h1,h2⟩:=h
 match vs,h1 with
 |[],_=>rfl
theorem A2u {y:Int} (M:B5):R8 M ([i64 y].map .pv) (#[Value.int .i64 y]:Array Value).toList:=by
 refine⟨rfl,fun j c u e1 e2=>?_⟩;cases j with
 |zero=>simp at e1 e2;subst e1 e2;exact .pv (.val rfl)
 |succ j=>simp at e1
theorem B5Y (x d:Int) (h:L1 .i64 (x+d)) (w:World) (b:Nat) (hb:w.heap[b]? =some (.cells #[.int .i64 x] 47 (0,0))):
 Calls Tryz.prog 12 #[.pointer (some ⟨b,0,none⟩),.int .i64 d] w fun e w'=>e= .returned (.int .i64 (x+d))∧w'=w.setCell ⟨b,0,none⟩ (.int .i64 (x+d)):=by
 have hc:w.cell? ⟨b,0,none⟩=some (.int .i64 x):=by simp[World.cell?,hb]
 have hz:w.frozen? ⟨b,0,none⟩=false:=by simp[World.frozen?,hb]
 have hw:IntKind.i64.wrap (x+d)=x+d:=bH h;have hadd:=run_call_add (P:=Tryz.prog) Tryz.func23 (by kernel_rfl) (by kernel_rfl) (by kernel_rfl) .i64 (by kernel_rfl) (y:=d) (s:=x+d) hc hz (by simp[Op.intArith,hw])
 go_enter Tryz.func12,Tryz.ntmps12
 go_wp2
 go_ret
 exact⟨rfl,rfl⟩
theorem B1y (x:Int) (w:World) (b:Nat) (hb:w.heap[b]? =some (.cells #[.int .i64 x] 47 (0,0))):
 Calls Tryz.prog 238 #[.pointer (some ⟨b,0,none⟩)] w fun e w'=>e= .returned (.int .i64 x)∧w'=w:=by
 have hc:w.cell? ⟨b,0,none⟩=some (.int .i64 x):=by simp[World.cell?,hb]
 have hz:w.frozen? ⟨b,0,none⟩=false:=by simp[World.frozen?,hb]
 have hadd:=run_call_load (P:=Tryz.prog) Tryz.func268 (by kernel_rfl) (by kernel_rfl) (by kernel_rfl) .i64 (by kernel_rfl) hc
 go_enter Tryz.func238,Tryz.ntmps238
 go_wp2
 go_ret
 exact⟨rfl,rfl⟩
theorem A6Z (w:World) (b:Nat) (x y:Int) (t:TypeId) (hb:w.heap[b]? =some (.cells #[.int .i64 x] t (0,0))):w.setCell ⟨b,0,none⟩ (.int .i64 y)=w.setRow b #[.int .i64 y]:=by
 have:=setCell_eq_setRow w b 0 #[.int .i64 x] t (0,0) (.int .i64 y) hb;rw[this];rfl
theorem A6a (w:World) (b:Nat) (x:Int) (t:TypeId) (hb:w.heap[b]? =some (.cells #[.int .i64 x] t (0,0))):w=w.setRow b #[.int .i64 x]:=by
 have hlt:b<w.heap.size:=(Array.getElem?_eq_some_iff.1 hb).1;have hget:=(Array.getElem?_eq_some_iff.1 hb).2;have:w.heap=(w.setRow b #[.int .i64 x]).heap:=by
  apply Array.ext (by simp[World.setRow]);intro i h1 h2;simp only[World.setRow,Array.getElem_modify];split
  ·rename_i e;subst e;simp[hget]
  ·rfl
 cases w;simp[World.setRow]at this⊢;exact this
theorem C3Z (x d:Int) (h:L1 .i64 (x+d)):C2y Tryz.prog 12 47 [i64 x] [int .i64 d] (i64 (x+d)) [i64 (x+d)]:=by
 refine⟨⟨_,Tryz.func12,rfl,by decide⟩,fun M w b us vs hb hus hvs=>?_⟩;have:=A6Y hus;subst this;have:=B9y hvs;subst this;refine(B5Y x d h w b hb).mono fun e w' ⟨he,hw⟩=>⟨_,_,he,fun M'=> .val rfl,fun M'=>A2u M',?_⟩
 rw[hw];exact A6Z _ _ _ _ _ hb
theorem B9z (x:Int):C2y Tryz.prog 238 47 [i64 x] [] (i64 x) [i64 x]:=by
 refine⟨⟨_,Tryz.func238,rfl,by decide⟩,fun M w b us vs hb hus hvs=>?_⟩;have:=A6Y hus;subst this;have:=C3Y hvs;subst this;refine(B1y x w b hb).mono fun e w' ⟨he,hw⟩=>⟨_,_,he,fun M'=> .val rfl,fun M'=>A2u M',?_⟩
 rw[hw];exact A6a _ _ _ _ hb
def A8Q:iR
 |[.val (.int .i64 x)],[.c (.pv (.val (.int .i64 d)))]=>some (L1 .i64 (x+d),i64 (x+d),[i64 (x+d)])
 |_,_=>none
def A3t:iR
 |[.val (.int .i64 x)],[]=>some (True,i64 x,[i64 x])
 |_,_=>none
theorem B1z:oG Tryz.prog 12 47 A8Q:=by
 intro cs args pre r cs' h hp;unfold A8Q at h;split at h
 ·cases h;exact C3Z _ _ hp
 ·cases h
theorem A8R:oG Tryz.prog 238 47 A3t:=by
 intro cs args pre r cs' h hp;unfold A3t at h;split at h
 ·cases h;exact B9z _
 ·cases h
def A7:FuncId→Option (TypeId×iR):=wD 12 47 A8Q (wD 238 47 A3t H7)
theorem A2:B0G Tryz.prog A7:=xP B1z (xP A8R E3)
end
def V5 (l:List UInt8) (at_ n:Int):Bool:=decide (0≤at_∧at_≤l.length∧n≤l.length-at_)
def gY (l:List UInt8) (at_ n:Int):List UInt8:=match V5 l at_ n with
 |true=>(l.take (at_+n).toNat).drop at_.toNat
 |false=>[]
def rM:D9:=⟨T,aW,H7,A9,33,[],none,.t⟩
theorem B2A:B1 Tryz.prog rM:=⟨O4,E3,A4⟩
theorem yO:F0 Tryz.prog rM:=⟨tOk,B2A⟩
theorem B5Z (l:List UInt8) (at_:Int) (n:Int) (hl:l.length≤1000000) (h0:0≤n) (hn:n≤1000000):aA Tryz.prog 286 true [lst .byt l,int .i64 at_,int .i64 n] (.t [.c (.lst .byt (gY l at_ n)),.c (bv (V5 l at_ n))]):=by
 refine cJ (E:=rM) Tryz.func286 (fun M0 W hM0=>?_);refine C8 yO 60 (fun _=>none) (fun bs=>?_);refine C6 rfl rfl (fun h=>?_) (fun h=>?_)
 ·have hb:V5 l at_ n=false:=by simp at h;simp[V5];omega
  refine C8 yO 60 (fun _=>none) (fun bs=>?_);exact D5 tOk hM0 rfl rfl ⟨trivial,trivial,trivial⟩ ⟨⟨rfl,by simp[gY,hb]⟩,hb.symm,trivial⟩
 ·have hb:V5 l at_ n=true:=by simp at h;simp[V5];omega
  refine C8 yO 60 (fun _=>none) (fun bs=>?_);exact D5 tOk hM0 rfl rfl ⟨trivial,trivial,trivial⟩ ⟨by simp only[gY,hb];rfl,hb.symm,trivial⟩
def A3u:C3
 |[.c (.pv (.lst .byt l)),.c (.pv (.val (.int .i64 at_))),.c (.pv (.val (.int .i64 n)))]=>some ((l.length≤1000000)∧(0≤n)∧(n≤1000000),true,.t [.c (.lst .byt (gY l at_ n)),.c (bv (V5 l at_ n))])
 |_=>none
theorem A8S:E9 Tryz.prog 286 A3u:=by
 intro args pre sh rv h hp;unfold A3u at h;split at h
 ·cases h;obtain⟨hl,h0,hn⟩:=hp;exact B5Z _ _ _ hl h0 hn
 ·cases h
def rN:FuncId→Option C3:=D6 286 A3u aW
theorem oX:G4 Tryz.prog rN:=B8 A8S O4
def jF (n v:Int):Int:=if n<1∨8<n then 1 else if n<8∧v / 2 ^ (8*n).toNat≠0 then 6 else 0
def rO (v k:Int):UInt8:=UInt8.ofNat (IntKind.u8.wrap (v / 2 ^ (8*k).toNat)).toNat
def G5 (n:Int) (big:Bool) (v:Int) (k:Nat):List UInt8:=(List.range k).map fun i:Nat=>rO v (match big with|true=>n-1-i|false=>i)
theorem A2v (n:Int) (big:Bool) (v:Int) (k:Nat):G5 n big v (k+1)=G5 n big v k++[rO v (match big with|true=>n-1-k|false=>k)]:=by
 simp[G5,List.range_succ]
def T9 (l:List UInt8) (n:Int) (big:Bool) (v:Int):List UInt8:=if jF n v=0 then l++G5 n big v n.toNat else[]
def A3v:D9:=⟨T,rN,H7,A9,57,[],none,.t⟩
theorem A3w:B1 Tryz.prog A3v:=⟨oX,E3,A4⟩
theorem jY:F0 Tryz.prog A3v:=⟨tOk,A3w⟩
theorem C3a (l:List UInt8) (n:Int) (big:Bool) (v:Int) (hl:l.length≤1000000) (hv:L1 .u64 v):aA Tryz.prog 225 false [lst .byt l,int .i64 n,bool big,int .u64 v] (.ot 5 .byt (T9 l n big v) [.c (i64 (jF n v))]):=by
 refine cJ (E:=A3v) Tryz.func225 (fun M0 W hM0=>?_);simp only[L1]at hv;refine C8 jY 60 (fun _=>none) (fun bs=>?_);refine C6 rfl rfl (fun h=>?_) (fun h=>?_)
 ·refine C8 jY 60 (fun _=>none) (fun bs=>?_);have he:jF n v=1:=by simp at h;simp[jF,h]
  exact D5 tOk hM0 rfl rfl ⟨trivial,trivial,trivial⟩ ⟨(show T9 l n big v=[] by simp[T9,he]),⟨rfl,he.symm⟩,trivial⟩
 ·refine C8 jY 60 (fun _=>none) (fun bs=>?_);refine C6 rfl rfl (fun h2=>?_) (fun h2=>?_)
  ·refine C8 jY 60 (fun _=>none) (fun bs=>?_);have he:jF n v=6:=by simp at h h2;simp[jF,h2];omega
   exact D5 tOk hM0 rfl rfl ⟨trivial,trivial,trivial⟩ ⟨(show T9 l n big v=[] by simp[T9,he]),⟨rfl,he.symm⟩,trivial⟩
  ·have he:jF n v=0:=by simp at h h2;simp[jF];omega
   have h1:1≤n∧n≤8:=by simp at h;omega
   clear h h2;refine C8 jY 60 (fun _=>none) (fun bs=>?_);refine P1 (fun x:Nat×Value=>[(1,int .i64 n),(2,bool big),(3,int .u64 v),(37,int .i64 n),(38,int .i64 x.1),(10,.c (.own 0 x.2))]) (fun x=>[.own x.2 5 .byt (l++G5 n big v x.1)])
    (fun x=>x.1≤n.toNat) (fun x=>n.toNat-x.1) rfl [1] (0,?vv) (Nat.zero_le _) ?wk (fun x hx=>?_)
   case wk=>
    and_intros<;> (first|exact wk_|refine A6 ?_|skip)
    simp[G5]
   obtain⟨k,vv⟩:=x;simp only at hx;have hlen:(l++G5 n big v k).length≤1000008:=by simp[G5];omega
   refine C8 jY 60 (fun _=>none) (fun bs=>?_);refine I4 rfl rfl (fun hk=>?_) (fun hk=>?_)
   ·have hk':(k:Int)<n:=hk;refine C8 jY 60 (fun _=>none) (fun bs=>?_);cases big with
    |true=>
     refine cF rfl rfl rfl ?_;refine G8 tOk A3w 60 (fun _=>none) (fun bs=>rfl) (fun bs=>?_) (fun bs=>?_)
     ·and_intros<;> (intros;first|exact ob_|(simp[L1,IntKind.bits,G5];done)|(simp[L1,IntKind.bits,G5]at* <;> omega)|(simp_all;done)|(with_reducible assumption)|skip)
     refine G3 [2] (k+1,?v2) ?ok2 ?wk2
     case ok2=>exact⟨by simp only;omega,by simp only;omega⟩
     case wk2=>
      and_intros<;> (first|exact wk_|refine A6 ?_|skip)
      simp only[A2v,List.append_assoc];rfl
    |false=>
     refine fQ rfl rfl rfl ?_;refine G8 tOk A3w 60 (fun _=>none) (fun bs=>rfl) (fun bs=>?_) (fun bs=>?_)
     ·and_intros<;> (intros;first|exact ob_|(simp[L1,IntKind.bits,G5];done)|(simp[L1,IntKind.bits,G5]at* <;> omega)|(simp_all;done)|(with_reducible assumption)|skip)
     refine G3 [2] (k+1,?v3) ?ok3 ?wk3
     case ok3=>exact⟨by simp only;omega,by simp only;omega⟩
     case wk3=>
      and_intros<;> (first|exact wk_|refine A6 ?_|skip)
      simp only[A2v,List.append_assoc];rfl
   ·refine C8 jY 60 (fun _=>none) (fun bs=>?_);have hk':¬(k:Int)<n:=hk;have hkn:k=n.toNat:=by omega
    refine D5 tOk hM0 rfl rfl ?_ ?_
    ·and_intros<;> (intros;first|exact U0|omega|skip)
    ·refine⟨⟨rfl,rfl,rfl,A6 ?_⟩,⟨rfl,he.symm⟩,trivial⟩;show l++G5 n big v k=_;rw[hkn];simp[T9,he]
def B5a:C3
 |[.c (.pv (.lst .byt l)),.c (.pv (.val (.int .i64 n))),.c (.pv (.val (.bool big))),.c (.pv (.val (.int .u64 v)))]=>some ((l.length≤1000000)∧(L1 .u64 v),false,.ot 5 .byt (T9 l n big v) [.c (i64 (jF n v))])
 |_=>none
theorem B5b:E9 Tryz.prog 225 B5a:=by
 intro args pre sh rv h hp;unfold B5a at h;split at h
 ·cases h;obtain⟨hl,hv⟩:=hp;exact C3a _ _ _ _ hl hv
 ·cases h
def A3x:FuncId→Option C3:=D6 225 B5a rN
theorem yP:G4 Tryz.prog A3x:=B8 B5b oX
def mW (l:List UInt8) (at_ n:Int):Int:=if n<1∨8<n then 1 else if V5 l at_ n then 0 else 6
def rP (l:List UInt8) (at_ n:Int) (big:Bool) (i:Nat):UInt8:=l.getD (at_+(match big with|true=>(i:Int)|false=>n-1-i)).toNat 0
def A8T (f:Nat→UInt8):Nat→Int
 |0=>0
 |k+1=>ior .u64 (IntKind.u64.wrap (A8T f k*2 ^ 8)) ((f k).toNat:Int)
def J0 (l:List UInt8) (at_ n:Int) (big:Bool):Int:=if mW l at_ n=0 then A8T (rP l at_ n big) n.toNat else 0
theorem yQ {l:List UInt8} {at_ n k:Int} (hb:V5 l at_ n=true) (h0:0≤k) (hk:k<n):(gY l at_ n).getD k.toNat 0=l.getD (at_+k).toNat 0:=by
 have hb':=hb;simp[V5]at hb';simp only[gY,hb,List.getD,List.getElem?_drop,List.getElem?_take];have e:at_.toNat+k.toNat=(at_+k).toNat:=by omega
 rw[e,if_pos (by omega)]
theorem B2B {l:List UInt8} {at_ n:Int} (hb:V5 l at_ n=true) (h:0≤n):((gY l at_ n).length:Int)=n:=by
 have hb':=hb;simp[V5]at hb';simp only[gY,hb,List.length_drop,List.length_take];omega
def B0U (s:List UInt8):Int:=if s.length≤65535 then 0 else 2
def uT (l s:List UInt8):List UInt8:=if s.length≤65535 then T9 l 2 false s.length++s else[]
def yR:D9:=⟨T,A3x,A7,A9,25,[],none,.t⟩
theorem B5c:B1 Tryz.prog yR:=⟨yP,A2,A4⟩
theorem A3y:F0 Tryz.prog yR:=⟨tOk,B5c⟩
theorem C0A (l:List UInt8) (s:List UInt8) (hl:l.length≤1000000) (hs:s.length≤1000000):aA Tryz.prog 271 false [lst .byt l,str s] (.ot 5 .byt (uT l s) [.c (i64 (B0U s))]):=by
 refine cJ (E:=yR) Tryz.func271 (fun M0 W hM0=>?_);refine C8 A3y 60 (fun _=>none) (fun bs=>?_);refine I4 rfl rfl (fun h=>?_) (fun h=>?_)
 ·refine C8 A3y 60 (fun _=>none) (fun bs=>?_);have hs2:¬s.length≤65535:=by omega
  exact D5 tOk hM0 rfl rfl ⟨trivial,trivial,trivial⟩ ⟨(show uT l s=[] by simp[uT,hs2]),⟨rfl,by simp[B0U,hs2]⟩,trivial⟩
 ·have hs2:s.length≤65535:=by omega
  have hpl:(T9 l 2 false (0+s.length)).length≤1000002:=by simp only[T9];split<;> simp[G5];omega
  refine C8 A3y 60 (fun _=>none) (fun bs=>?_);refine D5 tOk hM0 rfl rfl ?_ ?_
  ·and_intros<;> (intros;first|exact U0|omega|skip)
  ·refine⟨⟨rfl,rfl,rfl,A6 ?_⟩,⟨rfl,?_⟩,trivial⟩
   ·show T9 l 2 false (0+(s.length:Int))++s=_;simp[uT,hs2]
   ·show jF 2 (0+(s.length:Int))=_;simp[B0U,hs2,jF];omega
def A8U:C3
 |[.c (.pv (.lst .byt l)),.c (.pv (.val (.string ⟨⟨s⟩⟩)))]=>some ((l.length≤1000000)∧(s.length≤1000000),false,.ot 5 .byt (uT l s) [.c (i64 (B0U s))])
 |_=>none
theorem B2C:E9 Tryz.prog 271 A8U:=by
 intro args pre sh rv h hp;unfold A8U at h;split at h
 ·cases h;obtain⟨hl,hs⟩:=hp;exact C0A _ _ hl hs
 ·cases h
def yS:FuncId→Option C3:=D6 271 A8U A3x
theorem uU:G4 Tryz.prog yS:=B8 B2C yP
theorem P5 {c:Int} (h:0≤c∧c≤6):(1:Int)≤2 ^ c.toNat∧(2:Int) ^ c.toNat≤64:=by
 have:c=0∨c=1∨c=2∨c=3∨c=4∨c=5∨c=6:=by omega
 rcases this with h|h|h|h|h|h|h<;> subst h<;> decide
def A3z (st ct:Int):Bool:=decide (2≤st) && decide (st≤65536) && decide (0≤ct) && decide (ct≤65536-st)
def U6 (k st ct sz sm c:Int):Bool:=
 if c<0∨6<c then false else if k=0∨k=1 then decide (st=0∧ct=0∧sz=0∧sm=0)
 else if k=2 then decide (ct=2 ^ c.toNat∧sz=0∧2≤st∧st≤65536∧ct≤65536-st)
 else if k=3 then decide (1≤ct∧ct<2 ^ c.toNat∧1≤sz∧(ct-1)*16<sz∧sz≤ct*16∧2≤st∧st≤65536∧ct≤65536-st)
 else false
def rQ:D9:=⟨T,yS,A7,A9,24,[],none,.t⟩
theorem B2D:B1 Tryz.prog rQ:=⟨uU,A2,A4⟩
theorem B5d:F0 Tryz.prog rQ:=⟨tOk,B2D⟩
theorem B5e (e0:Int) (e1:Int) (e2:Int) (e3:Int) (e4:Int):aA Tryz.prog 255 false [.g [.pv (.val (.int .i64 e0)),.pv (.val (.int .i64 e1)),.pv (.val (.int .i64 e2)),.pv (.val (.int .i64 e3)),.pv (.val (.int .u32 e4))]] (.x (.c (bv (A3z e1 e2)))):=by
 refine cJ (E:=rQ) Tryz.func255 (fun M0 W hM0=>?_);refine C8 B5d 60 (fun _=>none) (fun bs=>?_);refine D5 tOk hM0 rfl rfl ⟨trivial,trivial⟩ ?_
 conv=>whnf
 rfl
def A4A:C3
 |[.g [.pv (.val (.int .i64 e0)),.pv (.val (.int .i64 e1)),.pv (.val (.int .i64 e2)),.pv (.val (.int .i64 e3)),.pv (.val (.int .u32 e4))]]=>some (True,false,.x (.c (bv (A3z e1 e2))))
 |_=>none
theorem A8V:E9 Tryz.prog 255 A4A:=by
 intro args pre sh rv h hp;unfold A4A at h;split at h
 ·cases h;exact B5e _ _ _ _ _
 ·cases h
def rR:FuncId→Option C3:=D6 255 A4A yS
theorem oY:G4 Tryz.prog rR:=B8 A8V uU
def A4B:D9:=⟨T,rR,A7,A9,75,[],none,.t⟩
theorem oZ:B1 Tryz.prog A4B:=⟨oY,A2,A4⟩
theorem gZ:F0 Tryz.prog A4B:=⟨tOk,oZ⟩
theorem C3b (e0:Int) (e1:Int) (e2:Int) (e3:Int) (e4:Int) (c:Int):aA Tryz.prog 213 false [.g [.pv (.val (.int .i64 e0)),.pv (.val (.int .i64 e1)),.pv (.val (.int .i64 e2)),.pv (.val (.int .i64 e3)),.pv (.val (.int .u32 e4))],int .i64 c] (.x (.c (bv (U6 e0 e1 e2 e3 e4 c)))):=by
 refine cJ (E:=A4B) Tryz.func213 (fun M0 W hM0=>?_);refine C8 gZ 60 (fun _=>none) (fun bs=>?_);refine C6 rfl rfl (fun h=>?_) (fun h=>?_)
 ·refine C8 gZ 60 (fun _=>none) (fun bs=>?_);have hb:U6 e0 e1 e2 e3 e4 c=false:=by simp at h;simp[U6,h]
  exact D5 tOk hM0 rfl rfl ⟨trivial,trivial⟩ hb.symm
 have hc:0≤c∧c≤6:=by simp at h;omega
 have hcn:¬(c<0∨6<c):=by omega
 clear h;have hp:=P5 hc;refine C8 gZ 60 (fun _=>none) (fun bs=>?_);by_cases k0:e0=0
 ·refine cF rfl rfl (by simp[k0]) ?_;refine C8 gZ 60 (fun _=>none) (fun bs=>?_);refine D5 tOk hM0 rfl rfl ⟨trivial,trivial⟩ ?_
  conv=>whnf
  simp[U6,hcn,k0]
 refine fQ rfl rfl (by simp[k0]) ?_;refine C8 gZ 60 (fun _=>none) (fun bs=>?_);by_cases k1:e0=1
 ·refine cF rfl rfl (by simp[k1]) ?_;refine C8 gZ 60 (fun _=>none) (fun bs=>?_);refine D5 tOk hM0 rfl rfl ⟨trivial,trivial⟩ ?_
  conv=>whnf
  simp[U6,hcn,k1]
 refine fQ rfl rfl (by simp[k1]) ?_;refine C8 gZ 60 (fun _=>none) (fun bs=>?_);by_cases k2:e0=2
 ·refine cF rfl rfl (by simp[k2]) ?_;by_cases hok:e2=2 ^ c.toNat∧e3=0
  ·refine G8 tOk oZ 60 (fun j=>match j with|1=>some true|_=>none) (fun bs=>rfl) (fun bs=>?_) (fun bs=>?_)
   ·simp[hok.1,hok.2]
   refine D5 tOk hM0 rfl rfl ⟨trivial,trivial⟩ ?_
   conv=>whnf
   simp[U6,hcn,k2,hok,A3z];rw[Bool.eq_iff_iff];simp;omega
  ·refine G8 tOk oZ 60 (fun j=>match j with|1=>some false|_=>none) (fun bs=>rfl) (fun bs=>?_) (fun bs=>?_)
   ·simp;exact fun a b=>hok ⟨a,b⟩
   refine D5 tOk hM0 rfl rfl ⟨trivial,trivial⟩ ?_
   conv=>whnf
   simp[U6,hcn,k2];intro a b;exact absurd ⟨a,b⟩ hok
 refine fQ rfl rfl (by simp[k2]) ?_;refine C8 gZ 60 (fun _=>none) (fun bs=>?_);by_cases k3:e0=3
 ·refine cF rfl rfl (by simp[k3]) ?_;by_cases hok:((((1≤e2∧e2<2 ^ c.toNat)∧1≤e3)∧(e2-1)*16<e3)∧e3≤e2*16)
  ·refine G8 tOk oZ 60 (fun j=>match j with|1=>some true|_=>none) (fun bs=>rfl) (fun bs=>?_) (fun bs=>?_)
   ·and_intros<;> (intros;first|exact U0|omega|skip)
   refine D5 tOk hM0 rfl rfl ⟨trivial,trivial⟩ ?_
   conv=>whnf
   simp[U6,hcn,k3,hok,A3z];rw[Bool.eq_iff_iff];simp;omega
  ·refine G8 tOk oZ 60 (fun j=>match j with|1=>some false|_=>none) (fun bs=>rfl) (fun bs=>?_) (fun bs=>?_)
   ·and_intros<;> (intros;first|exact U0|omega|skip)
   refine D5 tOk hM0 rfl rfl ⟨trivial,trivial⟩ ?_
   conv=>whnf
   simp[U6,hcn,k3];intro a1 a2 a3 a4 a5;exact absurd ⟨⟨⟨⟨a1,a2⟩,a3⟩,a4⟩,a5⟩ hok
 refine fQ rfl rfl (by simp[k3]) ?_;refine C8 gZ 60 (fun _=>none) (fun bs=>?_);refine D5 tOk hM0 rfl rfl ⟨trivial,trivial⟩ ?_
 conv=>whnf
 simp[U6,hcn,k0,k1,k2,k3]
def B5f:C3
 |[.g [.pv (.val (.int .i64 e0)),.pv (.val (.int .i64 e1)),.pv (.val (.int .i64 e2)),.pv (.val (.int .i64 e3)),.pv (.val (.int .u32 e4))],.c (.pv (.val (.int .i64 c)))]=>some (True,false,.x (.c (bv (U6 e0 e1 e2 e3 e4 c))))
 |_=>none
theorem B5g:E9 Tryz.prog 213 B5f:=by
 intro args pre sh rv h hp;unfold B5f at h;split at h
 ·cases h;exact C3b _ _ _ _ _ _
 ·cases h
def A4C:FuncId→Option C3:=D6 213 B5f rR
theorem yT:G4 Tryz.prog A4C:=B8 B5g oY
theorem lE {k st ct sz sm c:Int} (h:U6 k st ct sz sm c=true):(0≤k∧k≤3)∧(0≤st∧st≤65536)∧(0≤ct∧ct≤64)∧(0≤sz∧sz≤1024)∧(0≤c∧c≤6):=by
 unfold U6 at h;split at h
 ·cases h
 ·rename_i hc;have hp:=P5 (c:=c) (by omega);split at h
  ·simp at h;omega
  ·split at h
   ·simp at h;omega
   ·split at h
    ·simp at h;omega
    ·cases h
theorem hO (l:List UInt8) (n:Int) (b:Bool) (v:Int):(T9 l n b v).length≤l.length+n.toNat:=by
 unfold T9;split
 ·simp[G5]
 ·simp
def C0B (k st ct sz sm c:Int):Int:=if U6 k st ct sz sm c=true then 0 else 1
def yU (k ct:Int):List UInt8:=T9 [UInt8.ofNat k.toNat,0] 2 false ct
def mX (l:List UInt8) (ns:List Int):Nat→List UInt8
 |0=>l
 |i+1=>T9 (mX l ns i) 4 false (ns.getD i 0)
theorem yV (l:List UInt8) (ns:List Int) (i:Nat):(mX l ns i).length≤l.length+4*i:=by
 induction i with
 |zero=>simp[mX]
 |succ i ih=>have:=hO (mX l ns i) 4 false (ns.getD i 0);simp only[mX];omega
def A4D (k st ct sz sm c:Int):List UInt8:=if U6 k st ct sz sm c=true then mX (yU k ct) [st,sz,sm] 3 else[]
theorem B5h (k st ct sz sm c:Int):(A4D k st ct sz sm c).length≤16:=by
 unfold A4D;split
 ·have h1:=yV (yU k ct) [st,sz,sm] 3;have h2:=hO [UInt8.ofNat k.toNat,0] 2 false ct;simp only[yU]at h1⊢;simp at h2;omega
 ·simp
def yW:D9:=⟨T,A4C,A7,A9,47,[15],none,.t⟩
theorem A6b:B1 Tryz.prog yW:=⟨yT,A2,A4⟩
theorem pA:F0 Tryz.prog yW:=⟨tOk,A6b⟩
theorem C0C (e0:Int) (e1:Int) (e2:Int) (e3:Int) (e4:Int) (c:Int) (h4:L1 .u32 e4):aA Tryz.prog 289 false [.g [.pv (.val (.int .i64 e0)),.pv (.val (.int .i64 e1)),.pv (.val (.int .i64 e2)),.pv (.val (.int .i64 e3)),.pv (.val (.int .u32 e4))],int .i64 c] (.ot 5 .byt (A4D e0 e1 e2 e3 e4 c) [.c (i64 (C0B e0 e1 e2 e3 e4 c))]):=by
 refine cJ (E:=yW) Tryz.func289 (fun M0 W hM0=>?_);simp only[L1]at h4;refine C8 pA 60 (fun _=>none) (fun bs=>?_);refine C6 rfl rfl (fun h=>?_) (fun h=>?_)
 ·refine C8 pA 60 (fun _=>none) (fun bs=>?_);have hb:U6 e0 e1 e2 e3 e4 c=false:=by simpa using h
  exact D5 tOk hM0 rfl rfl ⟨trivial,trivial,trivial⟩ ⟨(show A4D e0 e1 e2 e3 e4 c=[] by simp[A4D,hb]),⟨rfl,by simp[C0B,hb]⟩,trivial⟩
 have hb:U6 e0 e1 e2 e3 e4 c=true:=by simpa using h
 clear h;obtain⟨f1,f2,f3,f4,f5⟩:=lE hb;refine C8 pA 60 (fun _=>none) (fun bs=>?_);have hlen:=fun i=>yV (yU e0 e2) [e1,e3,e4] i
 have hh:(yU e0 e2).length≤4:=hO _ _ _ _;refine G1 3 [32] rfl ⟨rfl,trivial⟩ ?_;refine P1 (fun x:Nat×Value=>[(6,.c (.own 0 x.2)),(32,lst (.ints .i64) [e1,e3,e4]),(33,int .i64 3),(34,int .i64 x.1)]) (fun x=>[.own x.2 5 .byt (mX (yU e0 e2) [e1,e3,e4] x.1)])
  (fun x=>x.1≤3) (fun x=>3-x.1) rfl [2] (0,?v0) (Nat.zero_le _) ?wk (fun x hx=>?_)
 case wk=>and_intros<;> (first|exact wk_|refine A6 ?_|skip)
 obtain⟨i,v⟩:=x;simp only at hx;have hl:=hlen i;refine C8 pA 60 (fun _=>none) (fun bs=>?_);refine I4 rfl rfl (fun hk=>?_) (fun hk=>?_)
 ·have hk':i<3:=by omega
  have hr:0≤[e1,e3,e4].getD i 0∧[e1,e3,e4].getD i 0≤18446744073709551615:=by
   match i,hk' with
   |0,_=>simp;omega
   |1,_=>simp;omega
   |2,_=>simp;omega
  have hl2:(mX (yU e0 e2) [e1,e3,e4] (i,v).1).length≤1000000:=by simp only;omega
  refine G8 tOk A6b 60 (fun _=>none) (fun bs=>rfl) (fun bs=>?_) (fun bs=>?_)
  ·and_intros<;> (intros;first|exact trivial|exact rfl|omega|(simp at hr⊢;omega)|exact hr.1|exact hr.2)
  refine G3 [1] (i+1,?v1) ?ok1 ?wk1
  case ok1=>exact⟨by simp only;omega,by simp only;omega⟩
  case wk1=>
   and_intros<;> (first|exact wk_|refine A6 ?_|skip)
 ·have hk':i=3:=by omega
  subst hk';refine C8 pA 60 (fun _=>none) (fun bs=>?_);refine D5 tOk hM0 rfl rfl ⟨trivial,trivial,trivial⟩ ⟨⟨rfl,rfl,rfl,A6 ?_⟩,⟨rfl,by simp[C0B,hb]⟩,trivial⟩;simp only[A4D,hb,if_true]
def A8W:C3
 |[.g [.pv (.val (.int .i64 e0)),.pv (.val (.int .i64 e1)),.pv (.val (.int .i64 e2)),.pv (.val (.int .i64 e3)),.pv (.val (.int .u32 e4))],.c (.pv (.val (.int .i64 c)))]=>some ((L1 .u32 e4),false,.ot 5 .byt (A4D e0 e1 e2 e3 e4 c) [.c (i64 (C0B e0 e1 e2 e3 e4 c))])
 |_=>none
theorem B2E:E9 Tryz.prog 289 A8W:=by
 intro args pre sh rv h hp;unfold A8W at h;split at h
 ·cases h;have h4:=hp;exact C0C _ _ _ _ _ _ h4
 ·cases h
def yX:FuncId→Option C3:=D6 289 A8W A4C
theorem uV:G4 Tryz.prog yX:=B8 B2E yT
def leaf (t:List (List B0)) (i:Nat):List B0:=t.getD i []
def mD (k st ct sz sm:Int):Bool:=decide (k=0) && decide (st=0) && decide (ct=0) && decide (sz=0) && decide (sm=0)
def yY:D9:=⟨T,yX,H7,A9,6,[],none,.t⟩
theorem B5i:B1 Tryz.prog yY:=⟨uV,E3,A4⟩
theorem C0D:F0 Tryz.prog yY:=⟨tOk,B5i⟩
theorem C0E (e0:Int) (e1:Int) (e2:Int) (e3:Int) (e4:Int):aA Tryz.prog 172 false [.g [.pv (.val (.int .i64 e0)),.pv (.val (.int .i64 e1)),.pv (.val (.int .i64 e2)),.pv (.val (.int .i64 e3)),.pv (.val (.int .u32 e4))]] (.x (.c (bv (mD e0 e1 e2 e3 e4)))):=by
 refine cJ (E:=yY) Tryz.func172 (fun M0 W hM0=>?_);refine C8 C0D 60 (fun _=>none) (fun bs=>?_);refine D5 tOk hM0 rfl rfl ⟨trivial,trivial⟩ ?_
 conv=>whnf
 simp[mD,Bool.and_assoc]
def A8X:C3
 |[.g [.pv (.val (.int .i64 e0)),.pv (.val (.int .i64 e1)),.pv (.val (.int .i64 e2)),.pv (.val (.int .i64 e3)),.pv (.val (.int .u32 e4))]]=>some (True,false,.x (.c (bv (mD e0 e1 e2 e3 e4))))
 |_=>none
theorem B2F:E9 Tryz.prog 172 A8X:=by
 intro args pre sh rv h hp;unfold A8X at h;split at h
 ·cases h;exact C0E _ _ _ _ _
 ·cases h
def yZ:FuncId→Option C3:=D6 172 A8X yX
theorem uW:G4 Tryz.prog yZ:=B8 B2F uV
def W9 (c:Int) (e:B0):Bool:=U6 e.kind e.start e.count e.size e.sum c
def P6 (e:B0):Bool:=mD e.kind e.start e.count e.size e.sum
def K4:B0:=⟨0,0,0,0,0⟩
def eQ (c n p:Int) (e:B0):Bool:=W9 c e && (P6 e || decide (p<n))
def hY (c n:Int) (i:Nat) (l:List B0):Nat→Bool
 |0=>true
 |k+1=>hY c n i l k && eQ c n (i*8+k) (l.getD k K4)
def N2 (l:List B0):Nat→Bool
 |0=>false
 |k+1=>N2 l k || !P6 (l.getD k K4)
def jG (c n:Int) (i:Nat) (l:List B0):Bool:=decide (l.length=8) && (hY c n i l 8 && N2 l 8)
def Q7 (t:List (List B0)) (n c:Int) (i:Nat):Bool:=(decide ((leaf t i).length=0) && decide (i+1<t.length)) || jG c n i (leaf t i)
def M5 (t:List (List B0)) (n c:Int):Nat→Bool
 |0=>true
 |k+1=>M5 t n c k && Q7 t n c k
def E8 (t:List (List B0)) (n c:Int):Bool:= !(decide (n<0) || decide (4096<n) || decide (c<0) || decide (6<c)) && M5 t n c t.length
theorem cQ {t:List (List B0)} {n c:Int} {i j:Nat} (h:M5 t n c i=false) (hij:i≤j):M5 t n c j=false:=by
 induction j with
 |zero=>
  have:i=0:=by omega
  subst this;exact h
 |succ j ih=>
  by_cases hi:i=j+1
  ·subst hi;exact h
  ·simp[M5,ih (by omega)]
theorem A8Y {c n:Int} {l:List B0} {q i j:Nat} (h:hY c n q l i=false) (hij:i≤j):hY c n q l j=false:=by
 induction j with
 |zero=>
  have:i=0:=by omega
  subst this;exact h
 |succ j ih=>
  by_cases hi:i=j+1
  ·subst hi;exact h
  ·simp[hY,ih (by omega)]
theorem B5j {t:List (List B0)} {n c:Int} {i:Nat} (h:Q7 t n c i=false) (hi:i<t.length):E8 t n c=false:=by
 have:M5 t n c t.length=false:=cQ (i:=i+1) (by simp[M5,h]) hi;simp[E8,this]
theorem A6c {t:List (List B0)} {n c:Int} {x:Nat} (h1:¬((leaf t x).length=0∧x+1<t.length)) (h2:jG c n x (leaf t x)=false):Q7 t n c x=false:=by
 have:(decide ((leaf t x).length=0) && decide (x+1<t.length))=false:=by
  rw[Bool.eq_false_iff];simp only[ne_eq,Bool.and_eq_true,decide_eq_true_eq];exact h1
 simp only[Q7,this,h2];rfl
theorem fY (e:B0):mD e.kind e.start e.count e.size e.sum=P6 e:=rfl
theorem jZ (c:Int) (e:B0):U6 e.kind e.start e.count e.size e.sum c=W9 c e:=rfl
def rS:D9:=⟨T,yZ,H7,A9,82,[],none,.t⟩
theorem dB:B1 Tryz.prog rS:=⟨uW,E3,A4⟩
theorem N3:F0 Tryz.prog rS:=⟨tOk,dB⟩
theorem B5k (t0:List (List B0)) (n:Int) (c:Int) (hl:t0.length≤1000000000) (hf:∀i,(leaf t0 i).length≤1000000000):aA Tryz.prog 132 false [.g [.pv (.lst .tbl t0)],int .i64 n,int .i64 c] (.x (.c (bv (E8 t0 n c)))):=by
 refine cJ (E:=rS) Tryz.func132 (fun M0 W hM0=>?_);refine C8 N3 60 (fun _=>none) (fun bs=>?_);generalize(bs 0 0).bn=b;refine C6 (b:=decide (n<0) || decide (4096<n) || decide (c<0) || decide (6<c)) rfl rfl (fun h=>?_) (fun h=>?_)
 ·refine C8 N3 60 (fun _=>none) (fun bs=>?_);refine D5 tOk hM0 rfl rfl ⟨trivial,trivial⟩ ?_
  conv=>whnf
  simp only[E8,h];rfl
 have hb:0≤n∧n≤4096∧0≤c∧c≤6:=by simp at h;omega
 have hR:E8 t0 n c=M5 t0 n c t0.length:=by simp only[E8,h];rfl
 have hF:∀x,x<t0.length→Q7 t0 n c x=false→E8 t0 n c=false:=fun x hx ho=>B5j ho hx
 refine C8 N3 60 (fun _=>none) (fun bs=>?_);refine P1 (fun x:Nat=>[(1,int .i64 n),(2,int .i64 c),(3,.c (.ptr 0 b 0)),(27,lst .tbl t0),(28,int .i64 t0.length),(29,int .i64 x)]) (fun x=>[.blk b 77 [.pv (.lst .tbl t0)]]) (fun x=>x≤t0.length∧M5 t0 n c x=true) (fun x=>t0.length-x) rfl [0] 0 ⟨Nat.zero_le _,rfl⟩ ?wk (fun x hx=>?_)
 case wk=>and_intros<;> (first|exact wk_|refine A6 ?_|skip)
 obtain⟨hx,hr⟩:=hx;refine C8 N3 60 (fun _=>none) (fun bs=>?_);refine I4 rfl rfl (fun hk=>?_) (fun hk=>?_)
 ·have hk':x<t0.length:=by omega
  have hlf:=hf x;have hlx:t0.getD (Int.toNat (x:Int)) LK.tbl.dft=leaf t0 x:=rfl;refine G8 tOk dB 60 (fun _=>none) (fun bs=>rfl) (fun bs=>?_) (fun bs=>?_)
  ·simp only[hlx]
   and_intros<;> (intros;first|exact U0|omega|skip)
  refine C6 (b:=decide (((leaf t0 x).length:Int)=0) && decide ((x:Int)<t0.length-1)) rfl rfl (fun h1=>?_) (fun h1=>?_)
  ·have h1':(leaf t0 x).length=0∧x+1<t0.length:=by
    simp only[Bool.and_eq_true,decide_eq_true_eq]at h1;omega
   refine C8 N3 60 (fun _=>none) (fun bs=>?_);refine G3 [0] (x+1) ?ok1 ?wk1
   case ok1=>exact⟨⟨hk',by simp[M5,hr,Q7,h1'.2,List.eq_nil_of_length_eq_zero h1'.1]⟩,by omega⟩
   case wk1=>and_intros<;> (first|exact wk_|refine A6 ?_|skip)
  have h1':¬((leaf t0 x).length=0∧x+1<t0.length):=by
   intro hh;rw[Bool.eq_false_iff]at h1;apply h1;simp only[Bool.and_eq_true,decide_eq_true_eq];omega
  refine C8 N3 60 (fun _=>none) (fun bs=>?_);refine C6 (b:= !decide (((leaf t0 x).length:Int)=8)) rfl rfl (fun h2=>?_) (fun h2=>?_)
  ·refine C8 N3 60 (fun _=>none) (fun bs=>?_);refine D5 tOk hM0 rfl rfl ⟨trivial,trivial⟩ ?_
   conv=>whnf
   refine(hF x hk' (A6c h1' ?_)).symm;have:¬(leaf t0 x).length=8:=by simp at h2;omega
   simp[jG,this]
  have h8:(leaf t0 x).length=8:=by simp at h2;omega
  refine C8 N3 60 (fun _=>none) (fun bs=>?_);refine P1 (fun k:Nat=>[(1,int .i64 n),(2,int .i64 c),(3,.c (.ptr 0 b 0)),(7,int .i64 x),(8,lst .ent (leaf t0 x)),(9,bool (N2 (leaf t0 x) k)),(27,lst .tbl t0),(28,int .i64 t0.length),(29,int .i64 x),(48,lst .ent (leaf t0 x)),(49,int .i64 (leaf t0 x).length),(50,int .i64 k)]) (fun k=>[.blk b 77 [.pv (.lst .tbl t0)]]) (fun k=>k≤8∧hY c n x (leaf t0 x) k=true) (fun k=>8-k) rfl [0] 0 ⟨Nat.zero_le _,rfl⟩ ?wk2 (fun k hx2=>?_)
  case wk2=>and_intros<;> (first|exact wk_|refine A6 ?_|skip)
  obtain⟨hx2,hr2⟩:=hx2;have hrow:jG c n x (leaf t0 x)=false→E8 t0 n c=false:=fun hh=>hF x hk' (A6c h1' hh)
  have hrow2:jG c n x (leaf t0 x)=true→M5 t0 n c (x+1)=true:=fun hh=>by simp[M5,hr,Q7,hh]
  clear hlx h1 h1' h2 hlf;generalize leaf t0 x=lf at *;have hx4:x≤1000000000:=by omega
  refine C8 N3 60 (fun _=>none) (fun bs=>?_);refine I4 rfl rfl (fun hk2=>?_) (fun hk2=>?_)
  ·have hk2':k<8:=by omega
   obtain⟨e,he⟩:∃e,lf.getD k K4=e:=⟨_,rfl⟩
   have he1:lf.getD (Int.toNat (k:Int)) LK.ent.dft=e:=he;have hno:eQ c n (x*8+k) e=false→E8 t0 n c=false:=fun hh=>hrow (by
    have:hY c n x lf 8=false:=A8Y (i:=k+1) (by simp only[hY,he,hh,Bool.and_false]) hk2';simp[jG,this])
   have hyes:eQ c n (x*8+k) e=true→hY c n x lf (k+1)=true:=fun hh=>by simp only[hY,he,hr2,hh,Bool.and_self]
   have hsm:N2 lf (k+1)=(N2 lf k || !P6 e):=by simp only[N2,he]
   cases hm:W9 c e with
   |false=>
    refine G8 tOk dB 60 (fun j=>match j with|4=>some true|8=>some true|_=>none) (fun bs=>rfl) (fun bs=>?_) (fun bs=>?_)
    ·simp only[he1,jZ,hm]
     and_intros<;> (intros;first|exact U0|omega|skip)
    refine cF rfl rfl ?c1 ?_
    case c1=>simp[he1,jZ,hm]
    refine C8 N3 60 (fun _=>none) (fun bs=>?_);refine D5 tOk hM0 rfl rfl ⟨trivial,trivial⟩ ?_
    conv=>whnf
    exact(hno (by simp[eQ,hm])).symm
   |true=>
    refine G8 tOk dB 60 (fun j=>match j with|4=>some false|_=>none) (fun bs=>rfl) (fun bs=>?_) (fun bs=>?_)
    ·simp only[he1,jZ,fY,hm]
     and_intros<;> (intros;first|exact U0|omega|skip)
    refine C6 rfl rfl (fun h3=>?_) (fun h3=>?_)
    ·simp only[he1,jZ,fY,hm,Bool.not_true,Bool.false_or,Bool.and_eq_true,decide_eq_true_eq]at h3;refine C8 N3 60 (fun _=>none) (fun bs=>?_);refine D5 tOk hM0 rfl rfl ⟨trivial,trivial⟩ ?_
     conv=>whnf
     refine(hno ?_).symm;have h4:¬((x:Int)*8+k<n):=by omega
     have h5:P6 e=false:=by simpa using h3.1
     simp[eQ,h4,h5]
    ·simp only[he1,jZ,fY,hm,Bool.not_true,Bool.false_or]at h3;have h4:eQ c n (x*8+k) e=true:=by
      rw[Bool.eq_false_iff]at h3;simp only[ne_eq,Bool.and_eq_true,decide_eq_true_eq,Bool.not_eq_true']at h3;simp only[eQ,hm,Bool.true_and,Bool.or_eq_true,decide_eq_true_eq];cases h5:P6 e with
      |true=>exact .inl rfl
      |false=>exact .inr (by
       have:¬n≤(x:Int)*8+k:=fun hh=>h3 ⟨h5,hh⟩
       omega)
     cases hs:N2 lf k with
     |true=>
      refine G8 tOk dB 60 (fun j=>match j with|1=>some true|_=>none) (fun bs=>rfl) (fun bs=>?_) (fun bs=>?_)
      ·simp only[hs]
       and_intros<;> (intros;first|exact U0|omega|skip)
      refine G3 [0] (k+1) ?ok2 ?wk3
      case ok2=>exact⟨⟨hk2',hyes h4⟩,by omega⟩
      case wk3=>
       and_intros<;> (first|exact wk_|refine A6 ?_|skip)
       all_goals(simp only[hsm,hs];rfl)
     |false=>
      refine G8 tOk dB 60 (fun j=>match j with|1=>some false|_=>none) (fun bs=>rfl) (fun bs=>?_) (fun bs=>?_)
      ·simp only[he1,fY,hs]
       and_intros<;> (intros;first|exact U0|omega|skip)
      refine G3 [0] (k+1) ?ok3 ?wk4
      case ok3=>exact⟨⟨hk2',hyes h4⟩,by omega⟩
      case wk4=>
       and_intros<;> (first|exact wk_|refine A6 ?_|skip)
       all_goals(simp only[hsm,hs,he1,fY];rfl)
  ·have hk2':k=8:=by omega
   subst hk2';refine C8 N3 60 (fun _=>none) (fun bs=>?_);refine C6 (b:= !N2 lf 8) rfl rfl (fun h3=>?_) (fun h3=>?_)
   ·refine C8 N3 60 (fun _=>none) (fun bs=>?_);refine D5 tOk hM0 rfl rfl ⟨trivial,trivial⟩ ?_
    conv=>whnf
    refine(hrow ?_).symm;have h4:N2 lf 8=false:=by simpa using h3
    simp[jG,h4]
   ·refine C8 N3 60 (fun _=>none) (fun bs=>?_);refine G3 [0] (x+1) ?ok4 ?wk5
    case ok4=>
     refine⟨⟨hk',hrow2 ?_⟩,by omega⟩;have h4:N2 lf 8=true:=by simpa using h3
     simp[jG,h4,hr2,h8]
    case wk5=>and_intros<;> (first|exact wk_|refine A6 ?_|skip)
 ·have hk':x=t0.length:=by omega
  subst hk';refine C8 N3 60 (fun _=>none) (fun bs=>?_);refine D5 tOk hM0 rfl rfl ⟨trivial,trivial⟩ ?_
  conv=>whnf
  rw[hR,hr]
def A4E:C3
 |[.g [.pv (.lst .tbl t0)],.c (.pv (.val (.int .i64 n))),.c (.pv (.val (.int .i64 c)))]=>some ((t0.length≤1000000000)∧(∀i,(leaf t0 i).length≤1000000000),false,.x (.c (bv (E8 t0 n c))))
 |_=>none
theorem A8Z:E9 Tryz.prog 132 A4E:=by
 intro args pre sh rv h hp;unfold A4E at h;split at h
 ·cases h;obtain⟨hl,hf⟩:=hp;exact B5k _ _ _ hl hf
 ·cases h
def rT:FuncId→Option C3:=D6 132 A4E yZ
theorem pB:G4 Tryz.prog rT:=B8 A8Z uW
theorem Q3 {t:List (List B0)} {i:Nat} (h:t.length≤i):leaf t i=[]:=by simp[leaf,List.getD,List.getElem?_eq_none h]
theorem zA {l:List B0}:∀{k:Nat},N2 l k=true→∃j,j<k∧P6 (l.getD j K4)=false:=by
 intro k
 induction k with
 |zero=>intro h;cases h
 |succ k ih=>
  intro h;simp only[N2,Bool.or_eq_true,Bool.not_eq_true']at h;rcases h with h|h
  ·obtain⟨j,hj,h2⟩:=ih h;exact⟨j,by omega,h2⟩
  ·exact⟨k,by omega,h⟩
theorem pC {c n:Int} {i:Nat} {l:List B0}:∀{k:Nat},hY c n i l k=true→∀j,j<k→eQ c n (i*8+j) (l.getD j K4)=true:=by
 intro k
 induction k with
 |zero=>intro _ j hj;omega
 |succ k ih=>
  intro h j hj;simp only[hY,Bool.and_eq_true]at h;by_cases e:j=k
  ·subst e;exact h.2
  ·exact ih h.1 j (by omega)
theorem rU {t:List (List B0)} {n c:Int} (h:E8 t n c=true) (h5:512<t.length):False:=by
 simp only[E8,Bool.and_eq_true,Bool.not_eq_true',Bool.or_eq_false_iff,decide_eq_false_iff_not]at h;obtain⟨⟨⟨⟨a1,a2⟩,a3⟩,a4⟩,hN⟩:=h;have hrow:Q7 t n c (t.length-1)=true:=by
  cases ho:Q7 t n c (t.length-1)with
  |true=>rfl
  |false=>
   have:M5 t n c t.length=false:=cQ (i:=t.length-1+1) (by simp[M5,ho]) (by omega);rw[this]at hN;cases hN
 have hd:decide (t.length-1+1<t.length)=false:=by simp;omega
 simp only[Q7,hd,Bool.and_false,Bool.false_or,jG,Bool.and_eq_true]at hrow;obtain⟨_,r1,r2⟩:=hrow;obtain⟨j,hj,h2⟩:=zA r2;have:=pC r1 j hj;simp only[eQ,h2,Bool.false_or,Bool.and_eq_true,decide_eq_true_eq]at this;omega
def L2 (t:List (List B0)) (i:Int):B0:=if i<0 then K4 else(leaf t (i / 8).toNat).getD (i%8).toNat K4
def zC:D9:=⟨T,rT,H7,A9,34,[],none,.t⟩
theorem fZ:B1 Tryz.prog zC:=⟨pB,E3,A4⟩
theorem A4F:F0 Tryz.prog zC:=⟨tOk,fZ⟩
theorem C0F (t0:List (List B0)) (i:Int) (hl:t0.length≤1000000000) (hf:∀i,(leaf t0 i).length≤1000000000) (hi:i≤9223372036854775807):aA Tryz.prog 149 false [.g [.pv (.lst .tbl t0)],int .i64 i] (.x (.g [i64 (L2 t0 i).kind,i64 (L2 t0 i).start,i64 (L2 t0 i).count,i64 (L2 t0 i).size,.val (.int .u32 (L2 t0 i).sum)])):=by
 refine cJ (E:=zC) Tryz.func149 (fun M0 W hM0=>?_);by_cases h0:i<0
 ·refine G8 tOk fZ 60 (fun _=>some true) (fun bs=>rfl) (fun bs=>?_) (fun bs=>?_)
  ·and_intros<;> (intros;first|exact ob_|(simp[L1,IntKind.bits,h0];done)|(simp[L1,IntKind.bits,h0]at* <;> omega)|(simp_all;done)|(with_reducible assumption)|skip)
  refine cF rfl rfl ?c1 ?_
  case c1=>simp[h0]
  refine C8 A4F 60 (fun _=>none) (fun bs=>?_);refine D5 tOk hM0 rfl rfl ⟨rfl,trivial⟩ ?_;have:L2 t0 i=K4:=by unfold L2;rw[if_pos h0]
  rw[this];exact⟨⟨rfl,rfl⟩,⟨rfl,rfl⟩,⟨rfl,rfl⟩,⟨rfl,rfl⟩,⟨rfl,rfl⟩,trivial⟩
 have hq:0≤i / 8:=by omega
 have hq2:i / 8≤i:=by omega
 have hlx:t0.getD (Int.toNat (i / 8)) LK.tbl.dft=leaf t0 (i / 8).toNat:=rfl;have hfx:=hf (i / 8).toNat;have hA:L2 t0 i=(leaf t0 (i / 8).toNat).getD (i%8).toNat K4:=by unfold L2;rw[if_neg h0]
 by_cases h1:(t0.length:Int)≤i / 8
 ·refine G8 tOk fZ 60 (fun _=>some false) (fun bs=>rfl) (fun bs=>?_) (fun bs=>?_)
  ·and_intros<;> (intros;first|exact ob_|(simp[L1,IntKind.bits,h0];done)|(simp[L1,IntKind.bits,h0]at* <;> omega)|(simp_all;done)|(with_reducible assumption)|skip)
  refine cF rfl rfl ?c2 ?_
  case c2=>simp[h0,h1]
  refine C8 A4F 60 (fun _=>none) (fun bs=>?_);refine D5 tOk hM0 rfl rfl ⟨rfl,trivial⟩ ?_;have:L2 t0 i=K4:=by rw[hA,Q3 (by omega)];rfl
  rw[this];exact⟨⟨rfl,rfl⟩,⟨rfl,rfl⟩,⟨rfl,rfl⟩,⟨rfl,rfl⟩,⟨rfl,rfl⟩,trivial⟩
 refine G8 tOk fZ 60 (fun _=>some false) (fun bs=>rfl) (fun bs=>?_) (fun bs=>?_)
 ·and_intros<;> (intros;first|exact ob_|(simp[L1,IntKind.bits,h0];done)|(simp[L1,IntKind.bits,h0]at* <;> omega)|(simp_all;done)|(with_reducible assumption)|skip)
 refine fQ rfl rfl ?c3 ?_
 case c3=>simp[h0,h1]
 refine G8 tOk fZ 60 (fun _=>none) (fun bs=>rfl) (fun bs=>?_) (fun bs=>?_)
 ·simp only[hlx]
  and_intros<;> (intros;first|exact U0|omega|skip)
 refine C6 rfl rfl (fun h2=>?_) (fun h2=>?_)
 ·refine C8 A4F 60 (fun _=>none) (fun bs=>?_);refine D5 tOk hM0 rfl rfl ⟨rfl,trivial⟩ ?_;have:L2 t0 i=K4:=by
   rw[hA,List.getD,List.getElem?_eq_none]
   ·rfl
   ·simp only[hlx,decide_eq_true_eq]at h2;omega
  rw[this];exact⟨⟨rfl,rfl⟩,⟨rfl,rfl⟩,⟨rfl,rfl⟩,⟨rfl,rfl⟩,⟨rfl,rfl⟩,trivial⟩
 ·simp only[hlx,decide_eq_false_iff_not]at h2;refine G8 tOk fZ 60 (fun _=>none) (fun bs=>rfl) (fun bs=>?_) (fun bs=>?_)
  ·simp only[hlx]
   and_intros<;> (intros;first|exact U0|omega|skip)
  refine D5 tOk hM0 rfl rfl ⟨rfl,trivial⟩ ?_;rw[hA];exact⟨⟨rfl,rfl⟩,⟨rfl,rfl⟩,⟨rfl,rfl⟩,⟨rfl,rfl⟩,⟨rfl,rfl⟩,trivial⟩
def A8a:C3
 |[.g [.pv (.lst .tbl t0)],.c (.pv (.val (.int .i64 i)))]=>some ((t0.length≤1000000000)∧(∀i,(leaf t0 i).length≤1000000000)∧(i≤9223372036854775807),false,.x (.g [i64 (L2 t0 i).kind,i64 (L2 t0 i).start,i64 (L2 t0 i).count,i64 (L2 t0 i).size,.val (.int .u32 (L2 t0 i).sum)]))
 |_=>none
theorem B2G:E9 Tryz.prog 149 A8a:=by
 intro args pre sh rv h hp;unfold A8a at h;split at h
 ·cases h;obtain⟨hl,hf,hi⟩:=hp;exact C0F _ _ hl hf hi
 ·cases h
def zD:FuncId→Option C3:=D6 149 A8a rT
theorem uX:G4 Tryz.prog zD:=B8 B2G pB
def env_clone:D9:=⟨T,zD,H7,A9,8,[],none,.t⟩
theorem eok_clone:B1 Tryz.prog env_clone:=⟨uX,E3,A4⟩
theorem ek_clone:F0 Tryz.prog env_clone:=⟨tOk,eok_clone⟩
theorem clone_fn (l:List B0) (hl:l.length≤1000000000):aA Tryz.prog 232 true [lst .ent l] (.x (.c (.lst .ent l))):=by
 refine cJ (E:=env_clone) Tryz.func232 (fun M0 W hM0=>?_);refine C8 ek_clone 60 (fun _=>none) (fun bs=>?_);refine C6 rfl rfl (fun h=>?_) (fun h=>?_)
 ·have:=jM h;subst this;refine C8 ek_clone 60 (fun _=>none) (fun bs=>?_);refine D5 tOk hM0 rfl rfl ⟨trivial,trivial⟩ ?_;exact⟨rfl,rfl⟩
 ·refine C8 ek_clone 60 (fun _=>none) (fun bs=>?_);refine G1 1 [2] rfl ⟨rfl,trivial⟩ ?_;exact D5 tOk hM0 rfl rfl ⟨trivial,trivial⟩ rfl
def clone_s:C3
 |[.c (.pv (.lst .ent l))]=>some ((l.length≤1000000000),true,.x (.c (.lst .ent l)))
 |_=>none
theorem clone_s_ok:E9 Tryz.prog 232 clone_s:=by
 intro args pre sh rv h hp;unfold clone_s at h;split at h
 ·cases h;have hl:=hp;exact clone_fn _ hl
 ·cases h
def psi_clone:FuncId→Option C3:=D6 232 clone_s zD
theorem psi_clone_ok:G4 Tryz.prog psi_clone:=B8 clone_s_ok uX
def mY:D9:=⟨T,psi_clone,H7,A9,22,[],none,.t⟩
theorem mZ:B1 Tryz.prog mY:=⟨psi_clone_ok,E3,A4⟩
theorem lG:F0 Tryz.prog mY:=⟨tOk,mZ⟩
theorem B2H (t0:List (List B0)) (hl:t0.length≤1000000000) (hf:∀i,(leaf t0 i).length≤1000000000):aA Tryz.prog 173 true [.g [.pv (.lst .tbl t0)]] (.x (.g [.lst .tbl t0])):=by
 refine cJ (E:=mY) Tryz.func173 (fun M0 W hM0=>?_);refine C8 lG 60 (fun _=>none) (fun bs=>?_);refine bZ 2 0 288 rfl rfl ?_;refine A8B (ns:=[0,1,2,3]) (fs:=fun b c d=>[(2,.c (.ptr 1 c 0)),(3,.c (.ptr 2 d 0)),(7,lst .tbl t0),(8,int .i64 t0.length),(9,int .i64 0)]) (hs:=fun b c d=>[.blk b 77 [.pv (.lst .tbl t0)],.blk c 77 [.pv (.nil .tbl)],.blk d 77 [.own 3 (.slice none 0 0)],.own (.slice none 0 0) 288 .tbl []]) ?b1 ?c1 ?d1 rfl ?wk0 (fun b c d=>?_)
 case wk0=>and_intros<;> (first|exact wk_|refine A6 ?_|skip)
 refine P1 (fun x:Nat×Value=>[(2,.c (.ptr 1 c 0)),(3,.c (.ptr 2 d 0)),(7,lst .tbl t0),(8,int .i64 t0.length),(9,int .i64 x.1)]) (fun x=>[.blk b 77 [.pv (.lst .tbl t0)],.blk c 77 [.pv (.nil .tbl)],.blk d 77 [.own 3 x.2],.own x.2 288 .tbl (t0.take x.1)]) (fun x=>x.1≤t0.length) (fun x=>t0.length-x.1) rfl [0,1,2,3] (0,.slice none 0 0) (Nat.zero_le _) ?wk (fun x hx=>?_)
 case wk=>and_intros<;> (first|exact wk_|refine A6 ?_|skip)
 obtain⟨i,v⟩:=x;dsimp only at hx⊢;refine C8 lG 60 (fun _=>none) (fun bs=>?_);refine I4 rfl rfl (fun hk=>?_) (fun hk=>?_)
 ·have hk':i<t0.length:=by omega
  have hfx:=hf i;have hlx:t0.getD (Int.toNat (i:Int)) LK.tbl.dft=leaf t0 i:=rfl;refine C8 lG 60 (fun _=>none) (fun bs=>?_);refine jD 4 rfl ?_;refine bY tOk mZ rfl (fun _=>none) 5 [0,1,0,4,12,31,63,127] [] rfl (by decide+kernel) (fun bs=>rfl) (fun bs=>?_) (fun bs=>?_)
  ·simp only[hlx]
   and_intros<;> (intros;first|exact U0|omega|skip)
  refine G8 tOk mZ 60 (fun _=>none) (fun bs=>rfl) (fun bs=>?_) (fun bs=>?_)
  ·simp only[hlx]
   and_intros<;> (intros;first|exact U0|omega|skip)
  refine G3 [0,1,2,9] (i+1,?v1) ?ok1 ?wk1
  case ok1=>exact⟨hk',by simp only;omega⟩
  case wk1=>
   and_intros<;> (first|exact wk_|refine A6 ?_|skip)
   all_goals(rw[List.take_add_one];simp[gE_ hk',hlx,leaf,List.getD])
 ·have hk':i=t0.length:=by omega
  subst hk';refine K7 2 0 3 rfl rfl rfl ?_;refine C8 lG 60 (fun _=>none) (fun bs=>?_);refine D5 tOk hM0 rfl rfl ⟨rfl,trivial⟩ ?_;exact⟨congrArg (PV.lst .tbl) List.take_length,trivial⟩
def pD:C3
 |[.g [.pv (.lst .tbl t0)]]=>some ((t0.length≤1000000000)∧(∀i,(leaf t0 i).length≤1000000000),true,.x (.g [.lst .tbl t0]))
 |_=>none
theorem uY:E9 Tryz.prog 173 pD:=by
 intro args pre sh rv h hp;unfold pD at h;split at h
 ·cases h;obtain⟨hl,hf⟩:=hp;exact B2H _ hl hf
 ·cases h
def nA:FuncId→Option C3:=D6 173 pD psi_clone
theorem mE:G4 Tryz.prog nA:=B8 uY psi_clone_ok
def kA:D9:=⟨T,nA,H7,A9,6,[],none,.t⟩
theorem A6d:B1 Tryz.prog kA:=⟨mE,E3,A4⟩
theorem A8b:F0 Tryz.prog kA:=⟨tOk,A6d⟩
theorem A8c (e0:Int) (e1:Int) (e2:Int) (e3:Int) (e4:Int):aA Tryz.prog 176 false [.g [.pv (.val (.int .i64 e0)),.pv (.val (.int .i64 e1)),.pv (.val (.int .i64 e2)),.pv (.val (.int .i64 e3)),.pv (.val (.int .u32 e4))]] (.x (.c (bv (!mD e0 e1 e2 e3 e4)))):=by
 refine cJ (E:=kA) Tryz.func176 (fun M0 W hM0=>?_);refine C8 A8b 60 (fun _=>none) (fun bs=>?_);exact D5 tOk hM0 rfl rfl ⟨trivial,trivial⟩ rfl
def rV:C3
 |[.g [.pv (.val (.int .i64 e0)),.pv (.val (.int .i64 e1)),.pv (.val (.int .i64 e2)),.pv (.val (.int .i64 e3)),.pv (.val (.int .u32 e4))]]=>some (True,false,.x (.c (bv (!mD e0 e1 e2 e3 e4))))
 |_=>none
theorem A4G:E9 Tryz.prog 176 rV:=by
 intro args pre sh rv h hp;unfold rV at h;split at h
 ·cases h;exact A8c _ _ _ _ _
 ·cases h
def kB:FuncId→Option C3:=D6 176 rV nA
theorem kC:G4 Tryz.prog kB:=B8 A4G mE
def nC (l:List B0):Nat→Int
 |0=> -1
 |k+1=>if 0≤nC l k then nC l k else match P6 (l.getD k K4)with|true=> -1|false=>k
theorem A2w (l:List B0):∀k,decide (0≤nC l k)=N2 l k:=by
 intro k
 induction k with
 |zero=>rfl
 |succ k ih=>
  simp only[N2,←ih,nC];split
  ·rename_i h;simp[h]
  ·rename_i h;cases P6 (l.getD k K4)<;> simp[h]
theorem B2I {l:List B0} {k j:Nat} (h:0≤nC l k) (hj:k≤j):nC l j=nC l k:=by
 induction j with
 |zero=>
  have:k=0:=by omega
  rw[this]
 |succ j ih=>
  by_cases e:k=j+1
  ·rw[e]
  ·have:=ih (by omega);simp only[nC];rw[if_pos (by rw[this];exact h),this]
theorem B0V {l:List B0} {k:Nat} (h:N2 l k=false):nC l k= -1:=by
 cases k with
 |zero=>rfl
 |succ k=>
  have h2:=A2w l (k+1);rw[h]at h2;have h3:¬0≤nC l (k+1):=of_decide_eq_false h2;simp only[nC]at h3⊢;split
  ·rename_i h4;rw[if_pos h4]at h3;exact absurd h4 h3
  ·rename_i h4;rw[if_neg h4]at h3;cases hn:P6 (l.getD k K4)with
   |true=>rfl
   |false=>rw[hn]at h3;simp only at h3;omega
def A4H:D9:=⟨T,kB,H7,A9,19,[],none,.t⟩
theorem C0G:B1 Tryz.prog A4H:=⟨kC,E3,A4⟩
theorem rW:F0 Tryz.prog A4H:=⟨tOk,C0G⟩
theorem C3c (l:List B0) (hl:l.length≤1000000000):aA Tryz.prog 233 false [lst .ent l,.c (.clo 176 [])] (.x (.c (i64 (nC l l.length)))):=by
 refine cJ (E:=A4H) Tryz.func233 (fun M0 W hM0=>?_);refine C8 rW 60 (fun _=>none) (fun bs=>?_);refine P1 (fun x:Nat=>[(0,lst .ent l),(1,.c (.clo 176 [])),(7,int .i64 l.length),(8,int .i64 x)]) (fun x=>[]) (fun x=>x≤l.length∧N2 l x=false) (fun x=>l.length-x) rfl [] 0 ⟨Nat.zero_le _,rfl⟩ ?wk (fun x hx=>?_)
 case wk=>and_intros<;> (first|exact wk_|refine A6 ?_|skip)
 obtain⟨hx,hs⟩:=hx;refine C8 rW 60 (fun _=>none) (fun bs=>?_);refine I4 rfl rfl (fun hk=>?_) (fun hk=>?_)
 ·have hk':x<l.length:=by omega
  refine C8 rW 60 (fun _=>none) (fun bs=>?_);refine C6 (b:= !P6 (l.getD x K4)) rfl rfl (fun h=>?_) (fun h=>?_)
  ·refine C8 rW 60 (fun _=>none) (fun bs=>?_);refine D5 tOk hM0 rfl rfl ⟨trivial,trivial⟩ ?_;have h1:nC l (x+1)=x:=by
    simp only[nC];rw[if_neg (by rw[B0V hs];decide)];have:P6 (l.getD x K4)=false:=by simpa using h
    rw[this]
   have h2:=B2I (l:=l) (k:=x+1) (j:=l.length) (by rw[h1];omega) hk';exact⟨rfl,(h2.trans h1).symm⟩
  ·refine C8 rW 60 (fun _=>none) (fun bs=>?_);refine G3 [] (x+1) ?ok ?wk2
   case ok=>exact⟨⟨hk',by simp only[N2,hs,h];rfl⟩,by omega⟩
   case wk2=>and_intros<;> (first|exact wk_|refine A6 ?_|skip)
 ·have hk':x=l.length:=by omega
  subst hk';refine C8 rW 60 (fun _=>none) (fun bs=>?_);exact D5 tOk hM0 rfl rfl ⟨trivial,trivial⟩ ⟨rfl,(B0V hs).symm⟩
def B5l:C3
 |[.c (.pv (.lst .ent l)),.c (.clo 176 [])]=>some ((l.length≤1000000000),false,.x (.c (i64 (nC l l.length))))
 |_=>none
theorem B5m:E9 Tryz.prog 233 B5l:=by
 intro args pre sh rv h hp;unfold B5l at h;split at h
 ·cases h;have hl:=hp;exact C3c _ hl
 ·cases h
def A4I:FuncId→Option C3:=D6 233 B5l kB
theorem zE:G4 Tryz.prog A4I:=B8 B5m kC
def iA:D9:=⟨T,A4I,H7,A9,9,[],none,.t⟩
theorem A4J:B1 Tryz.prog iA:=⟨zE,E3,A4⟩
theorem A6e:F0 Tryz.prog iA:=⟨tOk,A4J⟩
theorem A6f (l:List B0) (hl:l.length≤1000000000):aA Tryz.prog 175 false [lst .ent l,.c (.clo 176 [])] (.x (.c (bv (N2 l l.length)))):=by
 refine cJ (E:=iA) Tryz.func175 (fun M0 W hM0=>?_);refine C8 A6e 60 (fun _=>none) (fun bs=>?_);exact D5 tOk hM0 rfl rfl ⟨trivial,trivial⟩ (A2w l l.length)
def nD:C3
 |[.c (.pv (.lst .ent l)),.c (.clo 176 [])]=>some ((l.length≤1000000000),false,.x (.c (bv (N2 l l.length))))
 |_=>none
theorem A2K:E9 Tryz.prog 175 nD:=by
 intro args pre sh rv h hp;unfold nD at h;split at h
 ·cases h;have hl:=hp;exact A6f _ hl
 ·cases h
def iB:FuncId→Option C3:=D6 175 nD A4I
theorem iW:G4 Tryz.prog iB:=B8 A2K zE
def gA (t:List (List B0)) (e:B0):Nat→Bool
 |0=>false
 |k+1=>gA t e k || (W9 k e && E8 t 4096 k)
def zF:D9:=⟨T,iB,H7,A9,18,[],none,.t⟩
theorem zG:B1 Tryz.prog zF:=⟨iW,E3,A4⟩
theorem lI:F0 Tryz.prog zF:=⟨tOk,zG⟩
theorem C0H (t0:List (List B0)) (e0:Int) (e1:Int) (e2:Int) (e3:Int) (e4:Int) (hl:t0.length≤1000000000) (hf:∀i,(leaf t0 i).length≤1000000000):aA Tryz.prog 174 false [.g [.pv (.lst .tbl t0)],.g [.pv (.val (.int .i64 e0)),.pv (.val (.int .i64 e1)),.pv (.val (.int .i64 e2)),.pv (.val (.int .i64 e3)),.pv (.val (.int .u32 e4))]] (.x (.c (bv (gA t0 ⟨e0,e1,e2,e3,e4⟩ 7)))):=by
 refine cJ (E:=zF) Tryz.func174 (fun M0 W hM0=>?_);refine C8 lI 60 (fun _=>none) (fun bs=>?_);refine yB (ns:=[0,1]) (fs:=fun b c=>[(2,.c (.ptr 0 b 0)),(3,.c (.ptr 1 c 0)),(6,int .i64 0)]) (hs:=fun b c=>[.blk b 77 [.pv (.lst .tbl t0)],.blk c 185 [.pv (i64 e0),.pv (i64 e1),.pv (i64 e2),.pv (i64 e3),.pv (.val (.int .u32 e4))]]) ?b1 ?c1 rfl ?wk0 (fun b c=>?_)
 case wk0=>and_intros<;> (first|exact wk_|refine A6 ?_|skip)
 refine P1 (fun x:Nat=>[(2,.c (.ptr 0 b 0)),(3,.c (.ptr 1 c 0)),(6,int .i64 x)]) (fun x=>[.blk b 77 [.pv (.lst .tbl t0)],.blk c 185 [.pv (i64 e0),.pv (i64 e1),.pv (i64 e2),.pv (i64 e3),.pv (.val (.int .u32 e4))]]) (fun x=>x≤7∧gA t0 ⟨e0,e1,e2,e3,e4⟩ x=false) (fun x=>7-x) rfl [0,1] 0 ⟨Nat.zero_le _,rfl⟩ ?wk (fun x hx=>?_)
 case wk=>and_intros<;> (first|exact wk_|refine A6 ?_|skip)
 obtain⟨hx,hs⟩:=hx;refine C8 lI 60 (fun _=>none) (fun bs=>?_);refine I4 rfl rfl (fun hk=>?_) (fun hk=>?_)
 ·have hk':x<7:=by omega
  have hT:gA t0 ⟨e0,e1,e2,e3,e4⟩ (x+1)=true→gA t0 ⟨e0,e1,e2,e3,e4⟩ 7=true:=by
   intro h;have hx7:x=0∨x=1∨x=2∨x=3∨x=4∨x=5∨x=6:=by omega
   simp only[gA,Bool.or_eq_true]at h⊢;rcases hx7 with rfl|rfl|rfl|rfl|rfl|rfl|rfl<;> simp only[gA,Bool.or_eq_true]at h⊢<;> (revert h;generalize(_∨_:Prop)=q;intro h;first|exact h|exact .inl h|exact .inl (.inl h)|exact .inl (.inl (.inl h))|exact .inl (.inl (.inl (.inl h)))|exact .inl (.inl (.inl (.inl (.inl h))))|exact .inl (.inl (.inl (.inl (.inl (.inl h))))))
  have hmd:U6 e0 e1 e2 e3 e4 x=W9 x ⟨e0,e1,e2,e3,e4⟩:=rfl;cases hm:W9 x ⟨e0,e1,e2,e3,e4⟩with
  |true=>
   refine G8 tOk zG 60 (fun _=>some true) (fun bs=>rfl) (fun bs=>?_) (fun bs=>?_)
   ·and_intros<;> (intros;first|exact ob_|(simp[L1,IntKind.bits,hmd,hm];done)|(simp[L1,IntKind.bits,hmd,hm]at* <;> omega)|(simp_all;done)|(with_reducible assumption)|skip)
   refine C6 (b:=W9 x ⟨e0,e1,e2,e3,e4⟩ && E8 t0 4096 x) rfl rfl (fun h=>?_) (fun h=>?_)
   ·refine C8 lI 60 (fun _=>none) (fun bs=>?_);refine D5 tOk hM0 rfl rfl ⟨trivial,trivial⟩ ?_;refine(hT ?_).symm;simp only[gA,hs,h];rfl
   ·refine C8 lI 60 (fun _=>none) (fun bs=>?_);refine G3 [0,1] (x+1) ?ok ?wk2
    case ok=>exact⟨⟨hk',by simp only[gA,hs,h];rfl⟩,by omega⟩
    case wk2=>and_intros<;> (first|exact wk_|refine A6 ?_|skip)
  |false=>
   refine G8 tOk zG 60 (fun _=>some false) (fun bs=>rfl) (fun bs=>?_) (fun bs=>?_)
   ·and_intros<;> (intros;first|exact ob_|(simp[L1,IntKind.bits,hmd,hm];done)|(simp[L1,IntKind.bits,hmd,hm]at* <;> omega)|(simp_all;done)|(with_reducible assumption)|skip)
   refine fQ rfl rfl ?c2 ?_
   case c2=>simp[hmd,hm]
   refine C8 lI 60 (fun _=>none) (fun bs=>?_);refine G3 [0,1] (x+1) ?ok3 ?wk3
   case ok3=>exact⟨⟨hk',by simp only[gA,hs,hm];rfl⟩,by omega⟩
   case wk3=>and_intros<;> (first|exact wk_|refine A6 ?_|skip)
 ·have hk':x=7:=by omega
  subst hk';refine C8 lI 60 (fun _=>none) (fun bs=>?_);exact D5 tOk hM0 rfl rfl ⟨trivial,trivial⟩ hs.symm
def A8d:C3
 |[.g [.pv (.lst .tbl t0)],.g [.pv (.val (.int .i64 e0)),.pv (.val (.int .i64 e1)),.pv (.val (.int .i64 e2)),.pv (.val (.int .i64 e3)),.pv (.val (.int .u32 e4))]]=>some ((t0.length≤1000000000)∧(∀i,(leaf t0 i).length≤1000000000),false,.x (.c (bv (gA t0 ⟨e0,e1,e2,e3,e4⟩ 7))))
 |_=>none
theorem B2J:E9 Tryz.prog 174 A8d:=by
 intro args pre sh rv h hp;unfold A8d at h;split at h
 ·cases h;obtain⟨hl,hf⟩:=hp;exact C0H _ _ _ _ _ _ hl hf
 ·cases h
def zH:FuncId→Option C3:=D6 174 A8d iB
theorem uZ:G4 Tryz.prog zH:=B8 B2J iW
end
end Go.Proofs.YtgmeedgkjlfpeaaGreat
namespace Go.Proofs.YtgmeedgkjlfpeaaGreat
open Go.Mt
def Th.T:Tb:=tbl (tyl.set 75 (some ⟨.slc 288 .tbh,1,24,[.pv (.nil .tbh)]⟩))
theorem Th.tOk:K9 Tryz.prog Th.T:=B4a (by kernel_rfl)
namespace Th
def env_clone:D9:=⟨T,zH,H7,A9,8,[],none,.t⟩
theorem eok_clone:B1 Tryz.prog env_clone:=⟨uZ,E3,A4⟩
theorem ek_clone:F0 Tryz.prog env_clone:=⟨tOk,eok_clone⟩
theorem clone_fn (l:List B0) (hl:l.length≤1000000000):aA Tryz.prog 232 false [lst .ent l] (.o 185 .ent l):=by
 refine cJ (E:=env_clone) Tryz.func232 (fun M0 W hM0=>?_);refine C8 ek_clone 60 (fun _=>none) (fun bs=>?_);refine C6 rfl rfl (fun h=>?_) (fun h=>?_)
 ·have:=jM h;subst this;refine C8 ek_clone 60 (fun _=>none) (fun bs=>?_);exact D5 tOk hM0 rfl rfl ⟨trivial,trivial⟩ rfl
 ·refine C8 ek_clone 60 (fun _=>none) (fun bs=>?_);exact D5 tOk hM0 rfl rfl ⟨trivial,trivial⟩ ⟨rfl,rfl,rfl,A6 rfl⟩
def clone_s:C3
 |[.c (.pv (.lst .ent l))]=>some ((l.length≤1000000000),false,.o 185 .ent l)
 |_=>none
theorem clone_s_ok:E9 Tryz.prog 232 clone_s:=by
 intro args pre sh rv h hp;unfold clone_s at h;split at h
 ·cases h;have hl:=hp;exact clone_fn _ hl
 ·cases h
def psi_clone:FuncId→Option C3:=D6 232 clone_s zH
theorem psi_clone_ok:G4 Tryz.prog psi_clone:=B8 clone_s_ok uZ
def LL (t:List (List B0)) (q:Nat) (v:Value) (i:Nat):List TE:=((t.take i).map .l).set q (.v v)
theorem C0I {t:List (List B0)} {q i:Nat} (v:Value) (hi:i<t.length) (hq:i≠q):LL t q v (i+1)=LL t q v i++[.l (leaf t i)]:=by
 have e:t.take (i+1)=t.take i++[leaf t i]:=by
  rw[List.take_add_one,gE_ hi];simp[leaf,List.getD,gE_ hi]
 unfold LL;rw[e,List.map_append];have hlen:((t.take i).map TE.l).length=i:=by simp;omega
 rw[List.set_append];split
 ·rfl
 ·rename_i h;rw[hlen]at h⊢;have h2:q-i≠0:=by omega
  rw[List.set_eq_of_length_le (l:=List.map TE.l [leaf t i]) (by simp;omega),List.set_eq_of_length_le (by rw[hlen];omega)];rfl
theorem C5B {t:List (List B0)} {q:Nat} (v v':Value) (hq:q<t.length):LL t q v (q+1)=LL t q v' q++[.v v]:=by
 have e:t.take (q+1)=t.take q++[leaf t q]:=by
  rw[List.take_add_one,gE_ hq];simp[leaf,List.getD,gE_ hq]
 unfold LL;rw[e,List.map_append];have hlen:((t.take q).map TE.l).length=q:=by simp;omega
 rw[List.set_append,hlen,if_neg (by omega),List.set_eq_of_length_le (i:=q) (by rw[hlen];exact Nat.le_refl _)];simp
theorem B5n (t:List (List B0)) (q:Nat) (v:Value) (i:Nat) (h:i≤t.length):(LL t q v i).length=i:=by simp[LL];omega
def A4K:D9:=⟨T,psi_clone,H7,A9,22,[],none,.t⟩
theorem A4L:B1 Tryz.prog A4K:=⟨psi_clone_ok,E3,A4⟩
theorem A4M:F0 Tryz.prog A4K:=⟨tOk,A4L⟩
theorem C0J (t0:List (List B0)) (q:Nat) (hl:t0.length≤1000000000) (hf:∀i,(leaf t0 i).length≤1000000000):
 C3L Tryz.prog 173 [.g [.pv (.lst .tbl t0)]] 288 (fun v=>LL t0 q v t0.length) 185 (leaf t0 q):=by
 refine A8C (E:=A4K) Tryz.func173 rfl (by decide) rfl rfl (fun M0 W hM0=>?_);refine C8 A4M 60 (fun _=>none) (fun bs=>?_);refine bZ 2 0 288 rfl rfl ?_;refine C3K 3 rfl ?_;refine B4o 185 .ent ?_;refine A8B (ns:=[0,1,2,3,4]) (fs:=fun b c d=>[(2,.c (.ptr 1 c 0)),(3,.c (.ptr 2 d 0)),(7,lst .tbl t0),(8,int .i64 t0.length),(9,int .i64 0)]) (hs:=fun b c d=>[.blk b 77 [.pv (.lst .tbl t0)],.blk c 77 [.pv (.nil .tbl)],.blk d 77 [.own 3 (.slice none 0 0)],.own (.slice none 0 0) 288 .tbh [],.own (.slice none 0 0) 185 .ent []]) ?b1 ?c1 ?d1 rfl ?wk0 (fun b c d=>?_)
 case wk0=>and_intros<;> (first|exact wk_|refine A6 ?_|skip)
 refine P1 (fun x:Nat×Value×Value=>[(2,.c (.ptr 1 c 0)),(3,.c (.ptr 2 d 0)),(7,lst .tbl t0),(8,int .i64 t0.length),(9,int .i64 x.1)]) (fun x=>[.blk b 77 [.pv (.lst .tbl t0)],.blk c 77 [.pv (.nil .tbl)],.blk d 77 [.own 3 x.2.1],.own x.2.1 288 .tbh (LL t0 q x.2.2 x.1),.own x.2.2 185 .ent (if q<x.1 then leaf t0 q else[])]) (fun x=>x.1≤t0.length) (fun x=>t0.length-x.1) rfl [0,1,2,3,4] (0,.slice none 0 0,.slice none 0 0) (Nat.zero_le _) ?wk (fun x hx=>?_)
 case wk=>and_intros<;> (first|exact wk_|refine A6 ?_|skip)
 obtain⟨i,V,v⟩:=x;dsimp only at hx⊢;refine C8 A4M 60 (fun _=>none) (fun bs=>?_);refine I4 rfl rfl (fun hk=>?_) (fun hk=>?_)
 ·have hk':i<t0.length:=by omega
  have hfx:=hf i;have hlx:t0.getD (Int.toNat (i:Int)) LK.tbl.dft=leaf t0 i:=rfl;have hLL:=B5n t0 q v i hx;refine C8 A4M 60 (fun _=>none) (fun bs=>?_);refine jD 5 rfl ?_;refine bY tOk A4L rfl (fun _=>none) 5 [0,1,0,4,12,31,63,127] [] rfl (by decide+kernel) (fun bs=>rfl) (fun bs=>?_) (fun bs=>?_)
  ·simp only[hlx]
   and_intros<;> (intros;first|exact U0|omega|skip)
  refine G8 tOk A4L 60 (fun _=>none) (fun bs=>rfl) (fun bs=>?_) (fun bs=>?_)
  ·simp only[hlx,hLL]
   and_intros<;> (intros;first|exact U0|omega|skip)
  have hget:∀x:TE,(LL t0 q v i++[x])[i]? =some x:=fun x=>by
   rw[List.getElem?_append_right (by omega),hLL];simp
  have hset:∀x y:TE,(LL t0 q v i++[x]).set i y=LL t0 q v i++[y]:=fun x y=>by
   rw[List.set_append,hLL,if_neg (by omega)];simp
  by_cases hq:i=q
  ·subst hq;refine G3 [0,1,2,10,8] (i+1,?v1,?v2) ?ok1 ?wk1
   case wk1=>
    and_intros<;> (first|exact wk_|refine A6 ?_|skip)
    all_goals first
     |exact(C5B _ v hk').symm
     |exact(if_pos (Nat.lt_succ_self i)).symm
     |skip
   case ok1=>exact⟨hk',by simp only;omega⟩
  ·refine yC 10 8 i rfl (hget _) rfl ?_;refine G3 [0,1,2,10,4] (i+1,?v3,v) ?ok2 ?wk2
   case wk2=>
    and_intros<;> (first|exact wk_|refine A6 ?_|skip)
    all_goals first
     |exact(hset _ _).trans (C0I v hk' hq).symm
     |(
      have e:(q<i+1)=(q<i):=by(apply propext;omega)
      simp only[e])
     |skip
   case ok2=>exact⟨hk',by simp only;omega⟩
 ·have hk':i=t0.length:=by omega
  subst hk';refine C8 A4M 60 (fun _=>none) (fun bs=>?_);refine C3M tOk hM0 rfl 3 4 (v:=v) rfl ⟨rfl,trivial⟩ rfl ?_;have:(if q<t0.length then leaf t0 q else[])=leaf t0 q:=by
   split
   ·rfl
   ·rename_i h;exact(Q3 (by omega)).symm
  exact congrArg (fun l=>some (HB.own v 185 .ent l)) this
end Th
end Go.Proofs.YtgmeedgkjlfpeaaGreat
namespace Go.Proofs.YtgmeedgkjlfpeaaGreat
open Go.Mt
def bS (l:List (List B0)):Nat→Nat
 |0=>0
 |k+1=>match decide ((leaf l k).length=0)with
  |true=>bS l k
  |false=>k+1
def kD (l:List (List B0)):List (List B0):=l.take (bS l l.length)
def aY (l:List B0) (r:Nat) (e:B0):List B0:=(if l.length=0 then List.replicate 8 K4 else l).set r e
def eD (l:List B0):List B0:=match N2 l l.length with
 |true=>l
 |false=>[]
def zI (t:List (List B0)) (q r:Nat) (e:B0):List (List B0):=
 kD ((t++List.replicate (q+1-t.length) []).set q (eD (aY (leaf t q) r e)))
def bT (t:List (List B0)) (i:Int) (e:B0):List (List B0):=
 if i<0∨4096≤i∨gA t e 7=false then t else zI t (i / 8).toNat (i%8).toNat e
theorem A2x {t:List (List B0)} {e:B0}:∀{k:Nat},gA t e k=true→∃c:Int,E8 t 4096 c=true:=by
 intro k
 induction k with
 |zero=>intro h;cases h
 |succ k ih=>
  intro h;simp only[gA,Bool.or_eq_true,Bool.and_eq_true]at h;rcases h with h|h
  ·exact ih h
  ·exact⟨k,h.2⟩
theorem rX {t:List (List B0)} {n c:Int} (h:E8 t n c=true) (i:Nat):(leaf t i).length=0∨(leaf t i).length=8:=by
 by_cases hi:i<t.length
 ·simp only[E8,Bool.and_eq_true]at h;have hrow:Q7 t n c i=true:=by
   cases ho:Q7 t n c i with
   |true=>rfl
   |false=>
    have:M5 t n c t.length=false:=cQ (i:=i+1) (by simp[M5,ho]) hi;rw[this]at h;cases h.2
  simp only[Q7,Bool.or_eq_true,Bool.and_eq_true,decide_eq_true_eq,jG]at hrow;rcases hrow with h|h
  ·exact .inl h.1
  ·exact .inr h.1
 ·rw[Q3 (by omega)];exact .inl rfl
namespace Th
def C2V:C3:=fun _=>none
theorem C3d {K:Nat}:E9 Tryz.prog K C2V:=by intro args pre sh rv h;cases h
def B5o:FuncId→Option C3:=D6 173 C2V psi_clone
theorem A6g:G4 Tryz.prog B5o:=B8 C3d psi_clone_ok
section
variable {P : Program} {E : D9} {B : Nat → Prop} {W : World} {M0 : B5} {Q : Exit → Act → World → Prop} {k : List X8} {st : St}
theorem B0W (n m:Nat) {t:List (List B0)} {q:Nat} {V v:Value} {ty ty':TypeId} (hn:st.H n=some (.own V ty .tbh (LL t q v t.length))) (hm:st.H m=some (.own v ty' .ent (leaf t q)))
 (hk:G P E B W M0 Q k ⟨st.f,D4 (D4 st.H m none) n (some (.own V ty .tbl t)),st.nx⟩):G P E B W M0 Q k st:=by
 have hnm:n≠m:=fun e=>by
  subst e;rw[hn]at hm;simp only[Option.some.injEq,HB.own.injEq]at hm;cases hm.2.2.1
 have e0:LL t q v t.length=(t.map .l).set q (.v v):=by unfold LL;rw[List.take_length]
 have key:∀L:List TE,L=t.map .l→G P E B W M0 Q k ⟨st.f,D4 (D4 st.H m none) n (some (.own V ty .tbh L)),st.nx⟩:=by
  intro L hL;refine mS n t (B4 _ _ _) hL ?_;have:D4 (D4 (D4 st.H m none) n (some (HB.own V ty .tbh L))) n (some (.own V ty .tbl t))=D4 (D4 st.H m none) n (some (.own V ty .tbl t)):=by
   funext x
   by_cases e:x=n
   ·subst e;rw[B4,B4]
   ·rw[B9 _ _ e,B9 _ _ e,B9 _ _ e]
  exact this▸hk
 by_cases hq:q<t.length
 ·refine yC n m q hn ?_ hm (key _ ?_)
  ·rw[e0,List.getElem?_set];simp[hq]
  ·rw[e0,List.set_set];apply List.ext_getElem?;intro x;rw[List.getElem?_set];split
   ·rename_i hx;subst hx;simp[hq,leaf,List.getD]
   ·rfl
 ·refine B4p m ?_;have h2:LL t q v t.length=t.map .l:=by rw[e0,List.set_eq_of_length_le (by simp;omega)]
  have hn':D4 st.H m none n=some (.own V ty .tbh (t.map .l)):=by rw[B9 _ _ hnm,hn,h2]
  have:=key (t.map .l) rfl;have e3:D4 (D4 st.H m none) n (some (HB.own V ty LK.tbh (t.map .l)))=D4 st.H m none:=by
   funext x
   by_cases e:x=n
   ·subst e;rw[B4,hn']
   ·rw[B9 _ _ e]
  rw[e3]at this;exact this
end
def LE (t:List (List B0)) (q:Nat) (v:Value) (k:Nat):List TE:=LL t q v t.length++List.replicate k (.l [])
theorem C3e (t:List (List B0)) (q:Nat) (v:Value) (k:Nat):(LE t q v k).length=t.length+k:=by
 simp[LE,B5n t q v t.length (Nat.le_refl _)]
theorem C0K (t:List (List B0)) (q:Nat) (v:Value) (k:Nat):LE t q v (k+1)=LE t q v k++[.l []]:=by
 simp[LE,List.replicate_succ',List.append_assoc]
theorem C3f {t:List (List B0)} {q:Nat} (v:Value) {k:Nat} (h:q<t.length):(LE t q v k)[q]? =some (.v v):=by
 unfold LE LL;rw[List.getElem?_append_left (by simp;omega),List.take_length,List.getElem?_set];simp[h]
theorem C3g {t:List (List B0)} {q:Nat} (v:Value) {k:Nat} (h:t.length≤q) (h2:q<t.length+k):(LE t q v k)[q]? =some (.l []):=by
 unfold LE;rw[List.getElem?_append_right (by simp[LL];omega),List.getElem?_replicate];simp[LL];omega
theorem C3h (t:List (List B0)) (q:Nat) (v:Value) (k:Nat) (x:List B0):(LE t q v k).set q (.l x)=((t++List.replicate k []).set q x).map .l:=by
 have e:LE t q v k=((t++List.replicate k []).map TE.l).set q (.v v)∨LE t q v k=(t++List.replicate k []).map TE.l:=by
  unfold LE LL;rw[List.take_length];by_cases h:q<t.length
  ·left;rw[List.map_append,List.set_append,if_pos (by simpa using h)];simp
  ·right;rw[List.set_eq_of_length_le (by simp;omega)];simp
 rw[List.map_set];rcases e with e|e<;> rw[e]
 rw[List.set_set]
def pE:D9:=⟨T,B5o,H7,A9,84,[],none,.t⟩
theorem L9:B1 Tryz.prog pE:=⟨A6g,E3,A4⟩
theorem cR:F0 Tryz.prog pE:=⟨tOk,L9⟩
theorem C0L (t0:List (List B0)) (i:Int) (e0:Int) (e1:Int) (e2:Int) (e3:Int) (e4:Int) (hl:t0.length≤1000000000) (hf:∀i,(leaf t0 i).length≤1000000000):aA Tryz.prog 96 true [.g [.pv (.lst .tbl t0)],int .i64 i,.g [.pv (.val (.int .i64 e0)),.pv (.val (.int .i64 e1)),.pv (.val (.int .i64 e2)),.pv (.val (.int .i64 e3)),.pv (.val (.int .u32 e4))]] (.x (.g [.lst .tbl (bT t0 i ⟨e0,e1,e2,e3,e4⟩)])):=by
 refine cJ (E:=pE) Tryz.func96 (fun M0 W hM0=>?_);refine C8 cR 60 (fun _=>none) (fun bs=>?_);refine B9Z (C0J t0 (i / 8).toNat hl hf) rfl rfl rfl rfl rfl ⟨trivial,trivial⟩ (fun u=>rfl) (fun V v=>?_);by_cases h0:i<0∨4096≤i
 ·refine G8 tOk L9 60 (fun j=>match j with|6=>some true|_=>none) (fun bs=>rfl) (fun bs=>?_) (fun bs=>?_)
  ·and_intros<;> (intros;first|exact ob_|(simp[L1,IntKind.bits,h0];done)|(simp[L1,IntKind.bits,h0]at* <;> omega)|(simp_all;done)|(with_reducible assumption)|skip)
  refine cF rfl rfl ?c1 ?_
  case c1=>simp[h0]
  refine B0W 3 4 rfl rfl ?_;refine K7 5 0 3 rfl rfl rfl ?_;refine C8 cR 60 (fun _=>none) (fun bs=>?_);refine D5 tOk hM0 rfl rfl ⟨rfl,trivial⟩ ?_;have:bT t0 i ⟨e0,e1,e2,e3,e4⟩=t0:=by unfold bT;rw[if_pos (by omega)]
  rw[this];exact⟨rfl,trivial⟩
 have h0a:¬i<0:=fun h=>h0 (.inl h)
 have h0b:¬4096≤i:=fun h=>h0 (.inr h)
 refine G8 tOk L9 60 (fun j=>match j with|6=>some false|_=>none) (fun bs=>rfl) (fun bs=>?_) (fun bs=>?_)
 ·and_intros<;> (intros;first|exact ob_|(simp[L1,IntKind.bits,h0a,h0b,hf];done)|(simp[L1,IntKind.bits,h0a,h0b,hf]at* <;> omega)|(simp_all;done)|(with_reducible assumption)|skip)
 cases hany:gA t0 ⟨e0,e1,e2,e3,e4⟩ 7 with
 |false=>
  refine cF rfl rfl ?c2 ?_
  case c2=>simp[hany]
  refine B0W 3 4 rfl rfl ?_;refine K7 5 0 3 rfl rfl rfl ?_;refine C8 cR 60 (fun _=>none) (fun bs=>?_);refine D5 tOk hM0 rfl rfl ⟨rfl,trivial⟩ ?_;have:bT t0 i ⟨e0,e1,e2,e3,e4⟩=t0:=by unfold bT;rw[if_pos (.inr (.inr hany))]
  rw[this];exact⟨rfl,trivial⟩
 |true=>
  refine fQ rfl rfl ?c3 ?_
  case c3=>simp[h0a,h0b,hany]
  have hS:bT t0 i ⟨e0,e1,e2,e3,e4⟩=zI t0 (i / 8).toNat (i%8).toNat ⟨e0,e1,e2,e3,e4⟩:=by
   unfold bT;rw[if_neg (by rw[hany];simp;omega)]
  rw[hS];obtain⟨cc,hcc⟩:=A2x hany;have hrow:=rX hcc (i / 8).toNat;clear hcc hS hany;generalize hqq:(i / 8).toNat=q at *;have hq:(q:Int)=i / 8:=by omega
  have hq5:q<512:=by omega
  refine C8 cR 60 (fun _=>none) (fun bs=>?_);refine A8B (ns:=[1,2,3,4,5]) (fs:=fun b c d=>[(1,int .i64 i),(5,.c (.ptr 0 b 0)),(6,.c (.ptr 1 c 0)),(7,.c (.ptr 4 d 0))]) (hs:=fun b c d=>[.blk b 185 [.pv (i64 e0),.pv (i64 e1),.pv (i64 e2),.pv (i64 e3),.pv (.val (.int .u32 e4))],.blk c 77 [.pv (.nil .tbl)],.own V 288 .tbh (LL t0 q v t0.length),.own v 185 .ent (leaf t0 q),.blk d 77 [.own 2 V]]) ?b1 ?c1 ?d1 rfl ?wk0 (fun b c d=>?_)
  case wk0=>and_intros<;> (first|exact wk_|refine A6 ?_|skip)
  have hlL:=hl;refine P1 (fun x:Nat×Value=>[(1,int .i64 i),(5,.c (.ptr 0 b 0)),(6,.c (.ptr 1 c 0)),(7,.c (.ptr 4 d 0))]) (fun x=>[.blk b 185 [.pv (i64 e0),.pv (i64 e1),.pv (i64 e2),.pv (i64 e3),.pv (.val (.int .u32 e4))],.blk c 77 [.pv (.nil .tbl)],.own x.2 288 .tbh (LE t0 q v x.1),.own v 185 .ent (leaf t0 q),.blk d 77 [.own 2 x.2]])
   (fun x=>x.1≤q+1-t0.length) (fun x=>q+1-t0.length-x.1) rfl [0,1,2,3,4] (0,V) (Nat.zero_le _) ?wk (fun x hx=>?_)
  case wk=>
   and_intros<;> (first|exact wk_|refine A6 ?_|skip)
   all_goals simp[LE]
  obtain⟨n,V⟩:=x;dsimp only at hx⊢;have hlen:=C3e t0 q v n;refine C8 cR 60 (fun _=>none) (fun bs=>?_);refine I4 (p:=((LE t0 q v n).length:Int)≤i / 8) rfl rfl (fun hk=>?_) (fun hk=>?_)
  ·have hk':t0.length+n≤q:=by omega
   refine G8 tOk L9 60 (fun _=>none) (fun bs=>rfl) (fun bs=>?_) (fun bs=>?_)
   ·simp only[hlen]
    and_intros<;> (intros;first|exact U0|omega|skip)
   refine G3 [0,1,6,3,4] (n+1,?v1) ?ok1 ?wk1
   case wk1=>
    and_intros<;> (first|exact wk_|refine A6 ?_|skip)
    all_goals(rw[C0K])
   case ok1=>exact⟨by simp only;omega,by simp only;omega⟩
  have hk':q<t0.length+n:=by omega
  refine G8 tOk L9 4 (fun _=>none) (fun bs=>rfl) (fun bs=>?_) (fun bs=>?_)
  ·simp only[hlen]
   and_intros<;> (intros;first|exact U0|omega|skip)
  obtain⟨r,hr⟩:∃r,(i%8).toNat=r:=⟨_,rfl⟩
  have hr8:r<8:=by omega
  have fin:∀(R:List (List B0)),kD R=zI t0 q r ⟨e0,e1,e2,e3,e4⟩→R.length≤1000000600→G Tryz.prog pE (low W.heap.size) W M0 (aU Tryz.prog Tryz.f96 (jR true M0 W (.x (.g [.lst .tbl (zI t0 q (i%8).toNat ⟨e0,e1,e2,e3,e4⟩)]))))
   [X8.code (bod (jQ (lft (jQ (jQ (jQ (jQ (jQ (jQ (jQ (jQ (jQ (N8 Tryz.f96))))))))))))),X8.blk 2,X8.code (jQ (jQ (jQ (jQ (jQ (jQ (jQ (jQ (jQ (jQ (N8 Tryz.f96)))))))))))]
   (mk [(6,.c (.ptr 0 c 0)),(7,.c (.ptr 1 d 0)),(9,int .i64 R.length)] [.blk c 77 [.pv (.nil .tbl)],.blk d 77 [.pv (.lst .tbl R)]]):=by
   intro R hR hlR;rw[hr,←hR];refine P1 (fun n:Nat=>[(6,.c (.ptr 0 c 0)),(7,.c (.ptr 1 d 0)),(9,int .i64 n)]) (fun n=>[.blk c 77 [.pv (.nil .tbl)],.blk d 77 [.pv (.lst .tbl (R.take n))]]) (fun n=>n≤R.length∧bS R R.length=bS R n) (fun n=>n) rfl [0,1] R.length ⟨Nat.le_refl _,rfl⟩ ?wkf (fun n hx=>?_)
   case wkf=>
    and_intros<;> (first|exact wk_|refine A6 ?_|skip)
    all_goals(rw[List.take_length];exact rfl)
   obtain⟨hn1,hn2⟩:=hx;have hln:(R.take n).length=n:=by simp;omega
   have hle:0<n→(R.take n).getD (Int.toNat ((n:Int)-1)) LK.tbl.dft=leaf R (n-1):=by
    intro hn;rw[show Int.toNat ((n:Int)-1)=n-1 by omega];simp only[leaf,List.getD,List.getElem?_take];rw[if_pos (by omega)];rfl
   refine G8 tOk L9 60 (fun _=>none) (fun bs=>rfl) (fun bs=>?_) (fun bs=>?_)
   ·simp only[hln]
    and_intros<;> (intros;first|exact U0|omega|skip)
   refine C6 (b:=decide (0<(n:Int)) && decide ((((R.take n).getD (Int.toNat ((n:Int)-1)) LK.tbl.dft).length:Int)=0)) rfl rfl (fun h=>?_) (fun h=>?_)
   ·simp only[Bool.and_eq_true,decide_eq_true_eq]at h;have hn:0<n:=by omega
    rw[hle hn]at h;refine G8 tOk L9 60 (fun _=>none) (fun bs=>rfl) (fun bs=>?_) (fun bs=>?_)
    ·simp only[hln]
     and_intros<;> (intros;first|exact U0|omega|skip)
    obtain⟨j,rfl⟩:∃j,n=j+1:=⟨n-1,by omega⟩
    refine G3 [0,1] j ?okf ?wkf2
    case okf=>
     refine⟨⟨by omega,?_⟩,by omega⟩;rw[hn2];have:decide ((leaf R j).length=0)=true:=by
      have h3:((leaf R j).length:Int)=0:=h.2;simp only[decide_eq_true_eq];omega
     simp only[bS,this]
    case wkf2=>
     and_intros<;> (first|exact wk_|refine A6 ?_|skip)
     all_goals
      refine congrArg (PV.lst .tbl) ?_;rw[show Int.toNat (((j+1:Nat):Int)-1)=j by omega,List.take_take,Nat.min_eq_left (Nat.le_succ j)];rfl
   ·have hd:bS R n=n:=by
     cases n with
     |zero=>rfl
     |succ j=>
      rw[hle (by omega)]at h;have h2:decide ((leaf R j).length=0)=false:=by
       rw[Bool.eq_false_iff]at h⊢;intro hh;apply h;simp only[decide_eq_true_eq]at hh;have h3:(((leaf R (j+1-1)).length:Nat):Int)=0:=by
        show(((leaf R j).length:Nat):Int)=0;omega
       simp only[Bool.and_eq_true,decide_eq_true_eq];exact⟨by omega,h3⟩
      simp only[bS,h2]
    refine C8 cR 60 (fun _=>none) (fun bs=>?_);refine D5 tOk hM0 rfl rfl ⟨rfl,trivial⟩ ?_;refine⟨?_,trivial⟩;show PV.lst .tbl (R.take n)=PV.lst .tbl (kD R);unfold kD;rw[hn2,hd]
  have hnn:n=q+1-t0.length:=by omega
  have hset:zI t0 q r ⟨e0,e1,e2,e3,e4⟩=kD ((t0++List.replicate n []).set q (eD (aY (leaf t0 q) r ⟨e0,e1,e2,e3,e4⟩))):=by rw[hnn];rfl
  have hlenR:∀x,((t0++List.replicate n []).set q x).length≤1000000600:=fun x=>by simp;omega
  have hR0:∀x,((LE t0 q v n).set q (.l x))=((t0++List.replicate n []).set q x).map .l:=fun x=>C3h t0 q v n x
  have hown:∀u:Value,((LE t0 q v n).set q (.v u))[q]? =some (.v u):=fun u=>by rw[List.getElem?_set];simp[hlen];omega
  have hset2:∀(u:Value) (x:List B0),((LE t0 q v n).set q (.v u)).set q (.l x)=((t0++List.replicate n []).set q x).map .l:=fun u x=>by rw[List.set_set];exact hR0 x
  have hqz:Int.toNat (i / 8)=q:=hqq;by_cases hc:q<t0.length
  ·have hn0:n=0:=by omega
   have hel:(LE t0 q v n).getD (Int.toNat (i / 8)) LK.tbh.dft= .v v:=by rw[hqq];simp[List.getD,C3f v hc]
   refine B4n 8 3 rfl (congrArg TE.pv hel) rfl ?_;rcases hrow with h8|h8
   ·refine C8 cR 60 (fun _=>none) (fun bs=>?_);refine cF rfl rfl (by simp[h8]) ?_;refine G8 tOk L9 60 (fun _=>none) (fun bs=>rfl) (fun bs=>?_) (fun bs=>?_)
    ·simp only[hr]
     and_intros<;> (intros;first|exact U0|omega|skip)
    have hS1:aY (leaf t0 q) r ⟨e0,e1,e2,e3,e4⟩=((List.replicate (Int.toNat 8) LK.ent.dft).set (i%8).toNat ⟨e0,e1,e2,e3,e4⟩):=by unfold aY;rw[if_pos h8,hr];rfl
    refine C6 rfl rfl (fun hs=>?_) (fun hs=>?_)
    ·refine G8 tOk L9 60 (fun _=>none) (fun bs=>rfl) (fun bs=>?_) (fun bs=>?_)
     ·simp only[hlen]
      and_intros<;> (intros;first|exact U0|omega|skip)
     have hS2:eD (aY (leaf t0 q) r ⟨e0,e1,e2,e3,e4⟩)=[]:=by
      rw[hS1];have:N2 ((List.replicate (Int.toNat 8) LK.ent.dft).set (i%8).toNat ⟨e0,e1,e2,e3,e4⟩) ((List.replicate (Int.toNat 8) LK.ent.dft).set (i%8).toNat ⟨e0,e1,e2,e3,e4⟩).length=false:=by simpa using hs
      simp only[eD,this]
     refine mS 2 ((t0++List.replicate n []).set q []) rfl (by rw[hqz];exact hR0 []) ?_;refine K7 4 0 2 rfl rfl rfl ?_;refine xN (ns:=[1,4]) (h:=?wkpa) rfl (fin ((t0++List.replicate n []).set q []) (by rw[hset,hS2]) (hlenR _))
     case wkpa=>
      and_intros<;> (first|exact wk_|refine A6 ?_|skip)
      all_goals(simp[hlen])
    ·refine G8 tOk L9 60 (fun _=>none) (fun bs=>rfl) (fun bs=>?_) (fun bs=>?_)
     ·simp only[hlen]
      and_intros<;> (intros;first|exact U0|omega|skip)
     have hS2:eD (aY (leaf t0 q) r ⟨e0,e1,e2,e3,e4⟩)=((List.replicate (Int.toNat 8) LK.ent.dft).set (i%8).toNat ⟨e0,e1,e2,e3,e4⟩):=by
      rw[hS1];have:N2 ((List.replicate (Int.toNat 8) LK.ent.dft).set (i%8).toNat ⟨e0,e1,e2,e3,e4⟩) ((List.replicate (Int.toNat 8) LK.ent.dft).set (i%8).toNat ⟨e0,e1,e2,e3,e4⟩).length=true:=by simpa using hs
      simp only[eD,this]
     refine yC 2 5 (Int.toNat (i / 8)) rfl (by rw[hqz];exact hown _) rfl ?_;refine mS 2 ((t0++List.replicate n []).set q ((List.replicate (Int.toNat 8) LK.ent.dft).set (i%8).toNat ⟨e0,e1,e2,e3,e4⟩)) rfl (by rw[hqz];exact hset2 _ _) ?_;refine K7 4 0 2 rfl rfl rfl ?_;refine xN (ns:=[1,4]) (h:=?wkpb) rfl (fin ((t0++List.replicate n []).set q ((List.replicate (Int.toNat 8) LK.ent.dft).set (i%8).toNat ⟨e0,e1,e2,e3,e4⟩)) (by rw[hset,hS2]) (hlenR _))
     case wkpb=>
      and_intros<;> (first|exact wk_|refine A6 ?_|skip)
      all_goals(simp[hlen])
   ·refine C8 cR 60 (fun _=>none) (fun bs=>?_);refine fQ rfl rfl (by simp[h8]) ?_;refine G8 tOk L9 60 (fun _=>none) (fun bs=>rfl) (fun bs=>?_) (fun bs=>?_)
    ·simp only[hr]
     and_intros<;> (intros;first|exact U0|omega|skip)
    have hS1:aY (leaf t0 q) r ⟨e0,e1,e2,e3,e4⟩=(leaf t0 q).set r ⟨e0,e1,e2,e3,e4⟩:=by unfold aY;rw[if_neg (by omega)]
    have hr':(leaf t0 q).set (i%8).toNat ⟨e0,e1,e2,e3,e4⟩=(leaf t0 q).set r ⟨e0,e1,e2,e3,e4⟩:=by rw[hr]
    refine C6 rfl rfl (fun hs=>?_) (fun hs=>?_)
    ·refine G8 tOk L9 60 (fun _=>none) (fun bs=>rfl) (fun bs=>?_) (fun bs=>?_)
     ·simp only[hlen]
      and_intros<;> (intros;first|exact U0|omega|skip)
     have hS2:eD (aY (leaf t0 q) r ⟨e0,e1,e2,e3,e4⟩)=[]:=by
      rw[hS1,←hr'];have:N2 ((leaf t0 q).set (i%8).toNat ⟨e0,e1,e2,e3,e4⟩) ((leaf t0 q).set (i%8).toNat ⟨e0,e1,e2,e3,e4⟩).length=false:=by simpa using hs
      simp only[eD,this]
     refine mS 2 ((t0++List.replicate n []).set q []) rfl (by rw[hqz];exact hR0 []) ?_;refine K7 4 0 2 rfl rfl rfl ?_;refine xN (ns:=[1,4]) (h:=?wkx) rfl (fin ((t0++List.replicate n []).set q []) (by rw[hset,hS2]) (hlenR _))
     case wkx=>
      and_intros<;> (first|exact wk_|refine A6 ?_|skip)
      all_goals(simp[hlen])
    ·refine G8 tOk L9 60 (fun _=>none) (fun bs=>rfl) (fun bs=>?_) (fun bs=>?_)
     ·simp only[hlen]
      and_intros<;> (intros;first|exact U0|omega|skip)
     have hS2:eD (aY (leaf t0 q) r ⟨e0,e1,e2,e3,e4⟩)=(leaf t0 q).set (i%8).toNat ⟨e0,e1,e2,e3,e4⟩:=by
      rw[hS1,←hr'];have:N2 ((leaf t0 q).set (i%8).toNat ⟨e0,e1,e2,e3,e4⟩) ((leaf t0 q).set (i%8).toNat ⟨e0,e1,e2,e3,e4⟩).length=true:=by simpa using hs
      simp only[eD,this]
     refine yC 2 3 (Int.toNat (i / 8)) rfl (by rw[hqz];exact hown v) rfl ?_;refine mS 2 ((t0++List.replicate n []).set q ((leaf t0 q).set (i%8).toNat ⟨e0,e1,e2,e3,e4⟩)) rfl (by rw[hqz];exact hset2 v _) ?_;refine K7 4 0 2 rfl rfl rfl ?_;refine xN (ns:=[1,4]) (h:=?wky) rfl (fin ((t0++List.replicate n []).set q ((leaf t0 q).set (i%8).toNat ⟨e0,e1,e2,e3,e4⟩)) (by rw[hset,hS2]) (hlenR _))
     case wky=>
      and_intros<;> (first|exact wk_|refine A6 ?_|skip)
      all_goals(simp[hlen])
  ·have h8:(leaf t0 q).length=0:=by rw[Q3 (by omega)];rfl
   have hel:(LE t0 q v n).getD (Int.toNat (i / 8)) LK.tbh.dft= .l []:=by rw[hqq];simp[List.getD,C3g v (show t0.length≤q by omega) hk']
   refine W8 8 (y:= .c (.pv (.lst .ent []))) rfl (fun M u h=>(show RA M (.c (.pv (TE.pv (.l [])))) u by rw[←hel];exact h)) ?_;refine C8 cR 60 (fun _=>none) (fun bs=>?_);refine cF rfl rfl (by simp) ?_;refine G8 tOk L9 60 (fun _=>none) (fun bs=>rfl) (fun bs=>?_) (fun bs=>?_)
   ·simp only[hr]
    and_intros<;> (intros;first|exact U0|omega|skip)
   have hS1:aY (leaf t0 q) r ⟨e0,e1,e2,e3,e4⟩=((List.replicate (Int.toNat 8) LK.ent.dft).set (i%8).toNat ⟨e0,e1,e2,e3,e4⟩):=by unfold aY;rw[if_pos h8,hr];rfl
   refine C6 rfl rfl (fun hs=>?_) (fun hs=>?_)
   ·refine G8 tOk L9 60 (fun _=>none) (fun bs=>rfl) (fun bs=>?_) (fun bs=>?_)
    ·simp only[hlen]
     and_intros<;> (intros;first|exact U0|omega|skip)
    have hS2:eD (aY (leaf t0 q) r ⟨e0,e1,e2,e3,e4⟩)=[]:=by
     rw[hS1];have:N2 ((List.replicate (Int.toNat 8) LK.ent.dft).set (i%8).toNat ⟨e0,e1,e2,e3,e4⟩) ((List.replicate (Int.toNat 8) LK.ent.dft).set (i%8).toNat ⟨e0,e1,e2,e3,e4⟩).length=false:=by simpa using hs
     simp only[eD,this]
    refine mS 2 ((t0++List.replicate n []).set q []) rfl (by rw[hqz];exact hR0 []) ?_;refine K7 4 0 2 rfl rfl rfl ?_;refine xN (ns:=[1,4]) (h:=?wkqa) rfl (fin ((t0++List.replicate n []).set q []) (by rw[hset,hS2]) (hlenR _))
    case wkqa=>
     and_intros<;> (first|exact wk_|refine A6 ?_|skip)
     all_goals(simp[hlen])
   ·refine G8 tOk L9 60 (fun _=>none) (fun bs=>rfl) (fun bs=>?_) (fun bs=>?_)
    ·simp only[hlen]
     and_intros<;> (intros;first|exact U0|omega|skip)
    have hS2:eD (aY (leaf t0 q) r ⟨e0,e1,e2,e3,e4⟩)=((List.replicate (Int.toNat 8) LK.ent.dft).set (i%8).toNat ⟨e0,e1,e2,e3,e4⟩):=by
     rw[hS1];have:N2 ((List.replicate (Int.toNat 8) LK.ent.dft).set (i%8).toNat ⟨e0,e1,e2,e3,e4⟩) ((List.replicate (Int.toNat 8) LK.ent.dft).set (i%8).toNat ⟨e0,e1,e2,e3,e4⟩).length=true:=by simpa using hs
     simp only[eD,this]
    refine yC 2 5 (Int.toNat (i / 8)) rfl (by rw[hqz];exact hown _) rfl ?_;refine mS 2 ((t0++List.replicate n []).set q ((List.replicate (Int.toNat 8) LK.ent.dft).set (i%8).toNat ⟨e0,e1,e2,e3,e4⟩)) rfl (by rw[hqz];exact hset2 _ _) ?_;refine K7 4 0 2 rfl rfl rfl ?_;refine xN (ns:=[1,4]) (h:=?wkqb) rfl (fin ((t0++List.replicate n []).set q ((List.replicate (Int.toNat 8) LK.ent.dft).set (i%8).toNat ⟨e0,e1,e2,e3,e4⟩)) (by rw[hset,hS2]) (hlenR _))
    case wkqb=>
     and_intros<;> (first|exact wk_|refine A6 ?_|skip)
     all_goals(simp[hlen])
def A8e:C3
 |[.g [.pv (.lst .tbl t0)],.c (.pv (.val (.int .i64 i))),.g [.pv (.val (.int .i64 e0)),.pv (.val (.int .i64 e1)),.pv (.val (.int .i64 e2)),.pv (.val (.int .i64 e3)),.pv (.val (.int .u32 e4))]]=>some ((t0.length≤1000000000)∧(∀i,(leaf t0 i).length≤1000000000),true,.x (.g [.lst .tbl (bT t0 i ⟨e0,e1,e2,e3,e4⟩)]))
 |_=>none
theorem B2K:E9 Tryz.prog 96 A8e:=by
 intro args pre sh rv h hp;unfold A8e at h;split at h
 ·cases h;obtain⟨hl,hf⟩:=hp;exact C0L _ _ _ _ _ _ _ hl hf
 ·cases h
def psi_tset:FuncId→Option C3:=D6 96 A8e B5o
theorem psi_tset_ok:G4 Tryz.prog psi_tset:=B8 B2K A6g
end Th
end Go.Proofs.YtgmeedgkjlfpeaaGreat
namespace Go.Proofs.YtgmeedgkjlfpeaaGreat
open Go.Mt
noncomputable section
theorem wK {t:List (List B0)} {n c:Int} (h:E8 t n c=true):0≤c∧c≤6:=by
 simp only[E8,Bool.and_eq_true,Bool.not_eq_true',Bool.or_eq_false_iff,decide_eq_false_iff_not]at h;omega
theorem kE {c:Int} (h:0≤c∧c≤6):W9 c K4=true:=by
 unfold W9 U6;rw[if_neg (by omega),if_pos (.inl rfl)];rfl
theorem zJ {t:List (List B0)} {n c:Int} (h:E8 t n c=true) {i:Nat} (hi:i<t.length):Q7 t n c i=true:=by
 simp only[E8,Bool.and_eq_true]at h;cases ho:Q7 t n c i with
 |true=>rfl
 |false=>
  have:M5 t n c t.length=false:=cQ (i:=i+1) (by simp[M5,ho]) hi;rw[this]at h;cases h.2
theorem pG {t:List (List B0)} {n c:Int} (h:E8 t n c=true) (i j:Nat):W9 c ((leaf t i).getD j K4)=true:=by
 by_cases hj:j<(leaf t i).length
 ·by_cases hi:i<t.length
  ·have hrow:=zJ h hi;have h0:decide ((leaf t i).length=0)=false:=by simp;intro e;rw[e]at hj;simp at hj
   simp only[Q7,h0,Bool.false_and,Bool.false_or,jG,Bool.and_eq_true,decide_eq_true_eq]at hrow;have:=pC hrow.2.1 j (by omega);simp only[eQ,Bool.and_eq_true]at this;exact this.1
  ·rw[Q3 (by omega)]at hj;simp at hj
 ·rw[List.getD,List.getElem?_eq_none (by omega)];exact kE (wK h)
theorem A6h {l:List B0} {c:Int} {e:B0} (hc:0≤c∧c≤6) (hl:∀j,W9 c (l.getD j K4)=true) (he:W9 c e=true) (r:Nat):∀j,W9 c ((aY l r e).getD j K4)=true:=by
 intro j;have key:∀m:List B0,(∀j,W9 c (m.getD j K4)=true)→W9 c ((m.set r e).getD j K4)=true:=by
  intro m hm;rw[List.getD,List.getElem?_set];split
  ·split
   ·exact he
   ·exact kE hc
  ·have:=hm j;rw[List.getD]at this;exact this
 unfold aY;split
 ·exact key _ (fun j=>by
   rw[List.getD,List.getElem?_replicate];split<;> exact kE hc)
 ·exact key _ hl
theorem A6i {l:List B0} (h:l.length=0∨l.length=8) (r:Nat) (e:B0):(aY l r e).length=8:=by
 unfold aY;split
 ·simp
 ·rcases h with h|h
  ·contradiction
  ·simpa using h
def C6X (c:Int) (l:List B0):Prop:=l.length=8∧(∀j,W9 c (l.getD j K4)=true)∧N2 l 8=true
def A8f (c:Int) (t:List (List B0)):Prop:=(0≤c∧c≤6)∧t.length≤512∧(∀i,(leaf t i).length=0∨C6X c (leaf t i))∧(0<t.length→(leaf t (t.length-1)).length≠0)
theorem iC {t:List (List B0)} {c:Int} (h:E8 t 4096 c=true):A8f c t:=by
 have h512:t.length≤512:=by
  by_cases hh:512<t.length
  ·exact(rU h hh).elim
  ·omega
 refine⟨wK h,h512,fun i=>?_,fun hp e=>?_⟩
 ·by_cases hi:i<t.length
  ·have hrow:=zJ h hi;simp only[Q7,Bool.or_eq_true,Bool.and_eq_true,decide_eq_true_eq,jG]at hrow;rcases hrow with hrow|⟨h8,_,hs⟩
   ·exact .inl hrow.1
   ·exact .inr ⟨h8,pG h i,hs⟩
  ·left;rw[Q3 (by omega)];rfl
 ·have hrow:=zJ h (i:=t.length-1) (by omega);have hd:decide (t.length-1+1<t.length)=false:=by simp;omega
  simp only[Q7,hd,Bool.and_false,Bool.false_or,jG,Bool.and_eq_true,decide_eq_true_eq]at hrow;omega
theorem A8g {t:List (List B0)} {c:Int} (h:A8f c t):E8 t 4096 c=true:=by
 obtain⟨hc,h512,hrow,hlast⟩:=h;have e:(decide ((4096:Int)<0) || decide (4096<(4096:Int)) || decide (c<0) || decide (6<c))=false:=by simp;omega
 simp only[E8,e,Bool.not_false,Bool.true_and];have key:∀k,k≤t.length→M5 t 4096 c k=true:=by
  intro k
  induction k with
  |zero=>intro _;rfl
  |succ k ih=>
   intro hk;simp only[M5,ih (by omega),Bool.true_and,Q7,Bool.or_eq_true,Bool.and_eq_true,decide_eq_true_eq];rcases hrow k with h0|⟨h8,hm,hs⟩
   ·left
    refine⟨h0,?_⟩;by_cases e:k+1<t.length
    ·exact e
    ·have:=hlast (by omega);rw[show t.length-1=k by omega]at this;exact absurd h0 this
   ·right
    have hr:∀j,j≤8→hY c 4096 k (leaf t k) j=true:=by
     intro j
     induction j with
     |zero=>intro _;rfl
     |succ j ihj=>
      intro hj;have hp:decide (((k:Int)*8+j)<4096)=true:=by simp;omega
      simp only[hY,ihj (by omega),eQ,hm,hp,Bool.or_true,Bool.and_self]
    simp only[jG,h8,hr 8 (Nat.le_refl _),hs,decide_true,Bool.and_self]
 exact key _ (Nat.le_refl _)
theorem zK (l:List (List B0)):∀k,bS l k≤k:=by
 intro k
 induction k with
 |zero=>exact Nat.le_refl _
 |succ k ih=>simp only[bS];split<;> omega
theorem A6j (l:List (List B0)):∀k i,bS l k≤i→i<k→(leaf l i).length=0:=by
 intro k
 induction k with
 |zero=>intro i _ h;omega
 |succ k ih=>
  intro i h1 h2;simp only[bS]at h1;split at h1
  ·rename_i hd;by_cases e:i=k
   ·subst e;simpa using hd
   ·exact ih i h1 (by omega)
  ·omega
theorem A8h (l:List (List B0)):∀k,0<bS l k→(leaf l (bS l k-1)).length≠0:=by
 intro k
 induction k with
 |zero=>intro h;simp[bS]at h
 |succ k ih=>
  intro h;simp only[bS]at h⊢;split
  ·rename_i hd;rw[hd]at h;exact ih h
  ·rename_i hd;simpa using hd
theorem A2y (l:List (List B0)) (i:Nat):leaf (kD l) i=leaf l i:=by
 have hle:=zK l l.length;by_cases h:i<bS l l.length
 ·unfold kD leaf;rw[List.getD,List.getD,List.getElem?_take,if_pos h]
 ·have h1:leaf (kD l) i=[]:=Q3 (by unfold kD;simp;omega);rw[h1];by_cases h2:i<l.length
  ·exact(List.eq_nil_of_length_eq_zero (A6j l l.length i (by omega) h2)).symm
  ·exact(Q3 (by omega)).symm
theorem A6k (l:List (List B0)):(kD l).length=bS l l.length:=by
 have:=zK l l.length;unfold kD;simp;omega
theorem B5p (l:List (List B0)) (q:Nat) (x:List B0) (hq:q<l.length) (i:Nat):leaf (l.set q x) i=if i=q then x else leaf l i:=by
 unfold leaf;rw[List.getD,List.getElem?_set];split
 ·rename_i e;subst e;simp[hq]
 ·rename_i e;rw[if_neg (fun h=>e h.symm)];rfl
theorem B2L (t:List (List B0)) (k i:Nat):leaf (t++List.replicate k []) i=leaf t i:=by
 unfold leaf;rw[List.getD,List.getD];by_cases h:i<t.length
 ·rw[List.getElem?_append_left h]
 ·rw[List.getElem?_append_right (by omega),List.getElem?_replicate,List.getElem?_eq_none (by omega:t.length≤i)];split<;> rfl
theorem A2z (t:List (List B0)) (q r:Nat) (e:B0) (i:Nat):leaf (zI t q r e) i=if i=q then eD (aY (leaf t q) r e)else leaf t i:=by
 unfold zI;rw[A2y,B5p _ _ _ (by simp;omega),B2L]
theorem B5q {t:List (List B0)} {c:Int} {e:B0} {q r:Nat} (h:A8f c t) (he:W9 c e=true) (hq:q<512):A8f c (zI t q r e):=by
 obtain⟨hc,h512,hrow,hlast⟩:=h;have hl8:(aY (leaf t q) r e).length=8:=A6i (by rcases hrow q with h|h;exact .inl h;exact .inr h.1) r e;have hlen:((t++List.replicate (q+1-t.length) []).set q (eD (aY (leaf t q) r e))).length≤512:=by simp;omega
 have hmt:∀j,W9 c ((leaf t q).getD j K4)=true:=by
  intro j;rcases hrow q with h|h
  ·rw[List.eq_nil_of_length_eq_zero h];exact kE hc
  ·exact h.2.1 j
 refine⟨hc,?_,fun i=>?_,fun hp=>?_⟩
 ·unfold zI;rw[A6k];have:=zK ((t++List.replicate (q+1-t.length) []).set q (eD (aY (leaf t q) r e))) ((t++List.replicate (q+1-t.length) []).set q (eD (aY (leaf t q) r e))).length;omega
 ·rw[A2z];split
  ·cases hs:N2 (aY (leaf t q) r e) (aY (leaf t q) r e).length with
   |false=>left;simp only[eD,hs];rfl
   |true=>
    right
    simp only[eD,hs];exact⟨hl8,A6h hc hmt he r,by rw[hl8]at hs;exact hs⟩
  ·exact hrow i
 ·unfold zI at hp⊢;rw[A6k]at hp⊢;rw[A2y];exact A8h _ _ hp
theorem W5 (t:List (List B0)) (j:Nat):L2 t j=(leaf t (j / 8)).getD (j%8) K4:=by
 unfold L2;rw[if_neg (by omega)];have e1:((j:Int) / 8).toNat=j / 8:=by omega
 have e2:((j:Int)%8).toNat=j%8:=by omega
 rw[e1,e2]
theorem A3A {c:Int} {e:B0} (h:W9 c e=true) (hn:P6 e=true):e=K4:=by
 obtain⟨k,s,n,z,m⟩:=e;simp only[P6,mD,Bool.and_eq_true,decide_eq_true_eq]at hn;obtain⟨⟨⟨⟨rfl,rfl⟩,rfl⟩,rfl⟩,rfl⟩:=hn;rfl
theorem B5r {l:List B0} {k:Nat} (h:N2 l k=false):∀j,j<k→P6 (l.getD j K4)=true:=by
 induction k with
 |zero=>intro j hj;omega
 |succ k ih=>
  intro j hj;simp only[N2,Bool.or_eq_false_iff,Bool.not_eq_false']at h;by_cases e:j=k
  ·subst e;exact h.2
  ·exact ih h.1 j (by omega)
theorem B5s {l:List B0} {c:Int} (h8:l.length=8) (hm:∀j,W9 c (l.getD j K4)=true) (j:Nat):(eD l).getD j K4=l.getD j K4:=by
 unfold eD;cases hs:N2 l l.length with
 |true=>rfl
 |false=>
  simp only;by_cases hj:j<8
  ·rw[A3A (hm j) (B5r hs j (by omega))];simp[List.getD]
  ·simp[List.getD,List.getElem?_eq_none (show l.length≤j by omega)]
theorem B5t {l:List B0} {r:Nat} {e:B0} (h:l.length=0∨l.length=8) (hr:r<8) (j:Nat):(aY l r e).getD j K4=if j=r then e else l.getD j K4:=by
 have key:∀m:List B0,m.length=8→(m.set r e).getD j K4=if j=r then e else m.getD j K4:=by
  intro m hm;rw[List.getD,List.getElem?_set];split
  ·rename_i hh;subst hh;rw[if_pos (by omega),if_pos rfl];rfl
  ·rename_i hh;rw[if_neg (fun q=>hh q.symm)];rfl
 unfold aY;split
 ·rename_i h0;rw[key _ (by simp),List.eq_nil_of_length_eq_zero h0];have:(List.replicate 8 K4).getD j K4=K4:=by rw[List.getD,List.getElem?_replicate];split<;> rfl
  rw[this];simp[List.getD]
 ·rename_i h0;rcases h with h|h
  ·exact absurd h h0
  ·exact key l h
theorem C3i {t:List (List B0)} {e:B0} {c:Int} (h:E8 t 4096 c=true) (he:W9 c e=true):gA t e 7=true:=by
 have hc:=wK h;have:c=0∨c=1∨c=2∨c=3∨c=4∨c=5∨c=6:=by omega
 rcases this with rfl|rfl|rfl|rfl|rfl|rfl|rfl<;> simp[gA,h,he]
theorem B0X {t:List (List B0)} {e:B0} {c:Int} (h:E8 t 4096 c=true) (he:W9 c e=true) {i:Nat} (hi:i<4096):bT t i e=zI t (i / 8) (i%8) e:=by
 unfold bT;rw[if_neg (by rw[C3i h he];simp;omega)];have e1:((i:Int) / 8).toNat=i / 8:=by omega
 have e2:((i:Int)%8).toNat=i%8:=by omega
 rw[e1,e2]
theorem A3B {t:List (List B0)} {e:B0} {c:Int} (h:E8 t 4096 c=true) (he:W9 c e=true) (i:Int):E8 (bT t i e) 4096 c=true:=by
 by_cases hi:0≤i∧i<4096
 ·obtain⟨k,rfl⟩:∃k:Nat,i=k:=⟨i.toNat,by omega⟩
  rw[B0X h he (by omega)];exact A8g (B5q (iC h) he (by omega))
 ·have:bT t i e=t:=by unfold bT;rw[if_pos (by omega)]
  rw[this];exact h
theorem A8i {t:List (List B0)} {e:B0} {c:Int} (h:E8 t 4096 c=true) (he:W9 c e=true) {i:Nat} (hi:i<4096) (j:Nat):L2 (bT t i e) j=if j=i then e else L2 t j:=by
 have hg:=iC h;rw[B0X h he hi,W5,W5,A2z];have h08:(leaf t (i / 8)).length=0∨(leaf t (i / 8)).length=8:=by rcases hg.2.2.1 (i / 8)with h|h;exact .inl h;exact .inr h.1
 by_cases hq:j / 8=i / 8
 ·rw[if_pos hq,B5s (c:=c) (A6i h08 _ _) (A6h hg.1 (pG h _) he _),B5t h08 (by omega),hq];by_cases hr:j%8=i%8
  ·rw[if_pos hr,if_pos (by omega)]
  ·rw[if_neg hr,if_neg (by omega)]
 ·rw[if_neg hq,if_neg (by omega)]
theorem C0M {t u:List (List B0)} {c c':Int} (ht:E8 t 4096 c=true) (hu:E8 u 4096 c'=true) (h:∀j:Nat,j<4096→L2 t j=L2 u j):t=u:=by
 have gt:=iC ht;have gu:=iC hu;have key:∀{t u:List (List B0)} {c c':Int},A8f c t→A8f c' u→(∀j:Nat,j<4096→L2 t j=L2 u j)→∀i,(leaf t i).length≠0→(leaf u i).length≠0:=by
  intro t u c c' gt gu h i h0 hn;rcases gt.2.2.1 i with h1|⟨h8,hm,hs⟩
  ·exact h0 h1
  ·obtain⟨j,hj,hne⟩:=zA hs;have hi:i<512:=by
    by_cases hi:i<t.length
    ·have:=gt.2.1;omega
    ·rw[Q3 (by omega)]at h0;simp at h0
   have e:=h (i*8+j) (by omega);rw[W5,W5,show(i*8+j) / 8=i by omega,show(i*8+j)%8=j by omega,List.eq_nil_of_length_eq_zero hn]at e;rw[e]at hne;simp[List.getD,P6,mD,K4]at hne
 have hleaf:∀i,leaf t i=leaf u i:=by
  intro i;by_cases h0:(leaf t i).length=0
  ·by_cases h1:(leaf u i).length=0
   ·rw[List.eq_nil_of_length_eq_zero h0,List.eq_nil_of_length_eq_zero h1]
   ·exact absurd h0 (key gu gt (fun j hj=>(h j hj).symm) i h1)
  ·have h1:=key gt gu h i h0;have l1:(leaf t i).length=8:=by rcases gt.2.2.1 i with h|h;exact absurd h h0;exact h.1
   have l2:(leaf u i).length=8:=by rcases gu.2.2.1 i with h|h;exact absurd h h1;exact h.1
   have hi:i<512:=by
    by_cases hi:i<t.length
    ·have:=gt.2.1;omega
    ·rw[Q3 (by omega)]at h0;simp at h0
   apply List.ext_getElem (by omega);intro j hj1 hj2;have e:=h (i*8+j) (by omega);rw[W5,W5,show(i*8+j) / 8=i by omega,show(i*8+j)%8=j by omega]at e;simpa[List.getD,gE_ hj1,gE_ hj2]using e
 have hlen:t.length=u.length:=by
  have k1:∀{t u:List (List B0)} {c:Int},A8f c t→(∀i,leaf t i=leaf u i)→t.length≤u.length:=by
   intro t u c gt hl;by_cases h0:t.length=0
   ·omega
   ·have:=gt.2.2.2 (by omega);rw[hl]at this;by_cases hh:t.length-1<u.length
    ·omega
    ·rw[Q3 (by omega)]at this;simp at this
  have:=k1 gt hleaf;have:=k1 gu (fun i=>(hleaf i).symm);omega
 apply List.ext_getElem hlen;intro i h1 h2;have:=hleaf i;simpa[leaf,List.getD,gE_ h1,gE_ h2]using this
theorem A8j {t:List (List B0)} {j:Nat} (h:t.length≤j / 8):L2 t j=K4:=by
 rw[W5,Q3 h];rfl
theorem C3j {t:List (List B0)} {c:Int} (h:E8 t 4096 c=true) (j:Nat):W9 c (L2 t j)=true:=by
 rw[W5];exact pG h _ _
def eE (t:List (List B0)) (n:Nat):Nat→List (List B0)
 |0=>t
 |k+1=>match P6 (L2 (eE t n k) ((n+k:Nat):Int))with
  |true=>eE t n k
  |false=>bT (eE t n k) ((n+k:Nat):Int) K4
def A6l (t:List (List B0)) (n:Int):List (List B0):=match gA t K4 7 with
 |true=>eE t (max n 0).toNat (t.length*8-(max n 0).toNat)
 |false=>t
theorem any_ok {t:List (List B0)} (h:gA t K4 7=true):∃c:Int,E8 t 4096 c=true:=A2x h
theorem A4N {t:List (List B0)} {c:Int} (h:E8 t 4096 c=true) (n:Nat):∀k,E8 (eE t n k) 4096 c=true∧∀j:Nat,j<4096→L2 (eE t n k) j=if n≤j∧j<n+k then K4 else L2 t j:=by
 intro k
 induction k with
 |zero=>exact⟨h,fun j _=>by rw[if_neg (by omega)];rfl⟩
 |succ k ih=>
  obtain⟨i1,i2⟩:=ih;have hz:=kE (wK h);simp only[eE];cases hn:P6 (L2 (eE t n k) ((n+k:Nat):Int))with
  |true=>
   refine⟨i1,fun j hj=>?_⟩;simp only;rw[i2 j hj];by_cases e:j=n+k
   ·subst e;have:=A3A (C3j i1 (n+k)) hn;rw[i2 _ hj]at this;rw[this,if_pos (by omega)]
   ·by_cases e2:n≤j∧j<n+k
    ·rw[if_pos e2,if_pos (by omega)]
    ·rw[if_neg e2,if_neg (by omega)]
  |false=>
   refine⟨A3B i1 hz _,fun j hj=>?_⟩;simp only;by_cases hb:n+k<4096
   ·rw[A8i i1 hz hb,i2 j hj];by_cases e:j=n+k
    ·rw[if_pos e,if_pos (by omega)]
    ·rw[if_neg e];by_cases e2:n≤j∧j<n+k
     ·rw[if_pos e2,if_pos (by omega)]
     ·rw[if_neg e2,if_neg (by omega)]
   ·have:bT (eE t n k) ((n+k:Nat):Int) K4=eE t n k:=by unfold bT;rw[if_pos (by omega)]
    rw[this,i2 j hj];by_cases e2:n≤j∧j<n+k
    ·rw[if_pos e2,if_pos (by omega)]
    ·rw[if_neg e2,if_neg (by omega)]
theorem B2M {t:List (List B0)} {c:Int} (h:E8 t 4096 c=true) (n:Nat) {k m:Nat} (hk:(eE t n k).length*8≤n+k) (hm:t.length*8≤n+m):eE t n k=eE t n m:=by
 have a:=A4N h n k;have b:=A4N h n m;refine C0M a.1 b.1 (fun j hj=>?_);rw[b.2 j hj];by_cases e:n≤j∧j<n+m
 ·rw[if_pos e];by_cases e2:j<n+k
  ·rw[a.2 j hj,if_pos ⟨e.1,e2⟩]
  ·exact A8j (by omega)
 ·rw[if_neg e,a.2 j hj];by_cases e2:n≤j∧j<n+k
  ·rw[if_pos e2];exact(A8j (by omega)).symm
  ·rw[if_neg e2]
theorem nE {t:List (List B0)} {n c:Int} (h:E8 t n c=true) (i:Nat):(leaf t i).length≤8:=by rcases rX h i with h|h<;> omega
theorem rY {t:List (List B0)} {n c:Int} (h:E8 t n c=true):t.length≤512:=by
 by_cases hh:512<t.length
 ·exact(rU h hh).elim
 ·omega
def B5u:FuncId→Option C3:=D6 173 pD Th.psi_tset
theorem A6m:G4 Tryz.prog B5u:=B8 uY Th.psi_tset_ok
def zL:D9:=⟨T,B5u,H7,A9,28,[],none,.t⟩
theorem dN:B1 Tryz.prog zL:=⟨A6m,E3,A4⟩
theorem pH:F0 Tryz.prog zL:=⟨tOk,dN⟩
theorem C0N (t0:List (List B0)) (n:Int) (hl:t0.length≤1000000000) (hf:∀i,(leaf t0 i).length≤1000000000) (hn:n≤9223372036854775807):aA Tryz.prog 95 true [.g [.pv (.lst .tbl t0)],int .i64 n] (.x (.g [.lst .tbl (A6l t0 n)])):=by
 refine cJ (E:=zL) Tryz.func95 (fun M0 W hM0=>?_);refine C8 pH 60 (fun _=>none) (fun bs=>?_);obtain⟨m,hm⟩:∃m:Nat,max n 0=m:=⟨(max n 0).toNat,by omega⟩
 have hmt:(max n 0).toNat=m:=by omega
 cases ha:gA t0 K4 7 with
 |false=>
  have hC:A6l t0 n=t0:=by simp only[A6l,ha]
  have hS:∀i,bT t0 i K4=t0:=fun i=>by unfold bT;rw[if_pos (.inr (.inr ha))]
  rw[hC];refine yB (ns:=[0,1]) (fs:=fun b c=>[(2,.c (.ptr 0 b 0)),(4,.c (.ptr 1 c 0)),(5,int .i64 (max n 0))]) (hs:=fun b c=>[.blk b 77 [.pv (.lst .tbl t0)],.blk c 77 [.pv (.nil .tbl)]]) ?b1 ?c1 rfl ?wk0 (fun b c=>?_)
  case wk0=>and_intros<;> (first|exact wk_|refine A6 ?_|skip)
  rw[hm];refine P1 (fun x:Nat=>[(2,.c (.ptr 0 b 0)),(4,.c (.ptr 1 c 0)),(5,int .i64 x)]) (fun x=>[.blk b 77 [.pv (.lst .tbl t0)],.blk c 77 [.pv (.nil .tbl)]]) (fun x=>m≤x) (fun x=>4096-x) rfl [0,1] m (Nat.le_refl _) ?wk (fun x hx=>?_)
  case wk=>and_intros<;> (first|exact wk_|refine A6 ?_|skip)
  refine C8 pH 60 (fun _=>none) (fun bs=>?_);refine I4 (p:=(x:Int)<min ((t0.length:Int)*8) 4096) rfl rfl (fun hk=>?_) (fun hk=>?_)
  ·have hk':x<4096:=by omega
   refine G8 tOk dN 60 (fun _=>none) (fun bs=>rfl) (fun bs=>?_) (fun bs=>?_)
   ·and_intros<;> (intros;first|exact ob_|(simp[L1,IntKind.bits,hf];done)|(simp[L1,IntKind.bits,hf]at* <;> omega)|(simp_all;done)|(with_reducible assumption)|skip)
   refine C6 (b:= !P6 (L2 t0 x)) rfl rfl (fun h2=>?_) (fun h2=>?_)
   ·refine G8 tOk dN 60 (fun _=>none) (fun bs=>rfl) (fun bs=>?_) (fun bs=>?_)
    ·and_intros<;> (intros;first|exact ob_|(simp[L1,IntKind.bits,hf];done)|(simp[L1,IntKind.bits,hf]at* <;> omega)|(simp_all;done)|(with_reducible assumption)|skip)
    refine G3 [0,1] (x+1) ?ok1 ?wk1
    case ok1=>exact⟨by omega,by omega⟩
    case wk1=>
     and_intros<;> (first|exact wk_|refine A6 ?_|skip)
     all_goals(exact congrArg (PV.lst .tbl) (hS x))
   ·refine C8 pH 60 (fun _=>none) (fun bs=>?_);refine G3 [0,1] (x+1) ?ok2 ?wk2
    case ok2=>exact⟨by omega,by omega⟩
    case wk2=>and_intros<;> (first|exact wk_|refine A6 ?_|skip)
  ·refine G8 tOk dN 60 (fun _=>none) (fun bs=>rfl) (fun bs=>?_) (fun bs=>?_)
   ·and_intros<;> (intros;first|exact ob_|(simp[L1,IntKind.bits,hf];done)|(simp[L1,IntKind.bits,hf]at* <;> omega)|(simp_all;done)|(with_reducible assumption)|skip)
   refine D5 tOk hM0 rfl rfl ⟨rfl,trivial⟩ ?_;exact⟨rfl,trivial⟩
 |true=>
  obtain⟨cc,hcc⟩:=any_ok ha;have hC:A6l t0 n=eE t0 m (t0.length*8-m):=by simp only[A6l,ha,hmt]
  have hl512:=rY hcc;rw[hC];refine yB (ns:=[0,1]) (fs:=fun b c=>[(2,.c (.ptr 0 b 0)),(4,.c (.ptr 1 c 0)),(5,int .i64 (max n 0))]) (hs:=fun b c=>[.blk b 77 [.pv (.lst .tbl t0)],.blk c 77 [.pv (.nil .tbl)]]) ?b1 ?c1 rfl ?wk0 (fun b c=>?_)
  case wk0=>and_intros<;> (first|exact wk_|refine A6 ?_|skip)
  rw[hm];refine P1 (fun k:Nat=>[(2,.c (.ptr 0 b 0)),(4,.c (.ptr 1 c 0)),(5,int .i64 ((m+k:Nat):Int))]) (fun k=>[.blk b 77 [.pv (.lst .tbl (eE t0 m k))],.blk c 77 [.pv (.nil .tbl)]]) (fun k=>True) (fun k=>4096-(m+k)) rfl [0,1] 0 trivial ?wk (fun k hx=>?_)
  case wk=>and_intros<;> (first|exact wk_|refine A6 ?_|skip)
  have hck:=(A4N hcc m k).1;have hl2:=rY hck;have hl3:∀i,(leaf (eE t0 m k) i).length≤1000000000:=fun i=>Nat.le_trans (nE hck i) (by decide)
  refine C8 pH 60 (fun _=>none) (fun bs=>?_);refine I4 (p:=((m+k:Nat):Int)<min (((eE t0 m k).length:Int)*8) 4096) rfl rfl (fun hk=>?_) (fun hk=>?_)
  ·have hk':m+k<4096:=by omega
   refine G8 tOk dN 60 (fun _=>none) (fun bs=>rfl) (fun bs=>?_) (fun bs=>?_)
   ·and_intros<;> (intros;first|exact ob_|(simp[L1,IntKind.bits,hl3];done)|(simp[L1,IntKind.bits,hl3]at* <;> omega)|(simp_all;done)|(with_reducible assumption)|skip)
   refine C6 (b:= !P6 (L2 (eE t0 m k) ((m+k:Nat):Int))) rfl rfl (fun h2=>?_) (fun h2=>?_)
   ·have h3:P6 (L2 (eE t0 m k) ((m+k:Nat):Int))=false:=by simpa using h2
    refine G8 tOk dN 60 (fun _=>none) (fun bs=>rfl) (fun bs=>?_) (fun bs=>?_)
    ·and_intros<;> (intros;first|exact ob_|(simp[L1,IntKind.bits,hl3];done)|(simp[L1,IntKind.bits,hl3]at* <;> omega)|(simp_all;done)|(with_reducible assumption)|skip)
    refine G3 [0,1] (k+1) ?ok1 ?wk1
    case ok1=>exact⟨trivial,by omega⟩
    case wk1=>
     and_intros<;> (first|exact wk_|refine A6 ?_|skip)
     all_goals(refine congrArg (PV.lst .tbl) ?_;simp only[eE,h3];rfl)
   ·have h3:P6 (L2 (eE t0 m k) ((m+k:Nat):Int))=true:=by simpa using h2
    refine C8 pH 60 (fun _=>none) (fun bs=>?_);refine G3 [0,1] (k+1) ?ok2 ?wk2
    case ok2=>exact⟨trivial,by omega⟩
    case wk2=>
     and_intros<;> (first|exact wk_|refine A6 ?_|skip)
     all_goals(refine congrArg (PV.lst .tbl) ?_;simp only[eE,h3])
  ·refine G8 tOk dN 60 (fun _=>none) (fun bs=>rfl) (fun bs=>?_) (fun bs=>?_)
   ·and_intros<;> (intros;first|exact ob_|(simp[L1,IntKind.bits,hl3];done)|(simp[L1,IntKind.bits,hl3]at* <;> omega)|(simp_all;done)|(with_reducible assumption)|skip)
   refine D5 tOk hM0 rfl rfl ⟨rfl,trivial⟩ ?_;refine⟨?_,trivial⟩;exact congrArg (PV.lst .tbl) (B2M hcc m (by omega) (by omega))
def A8k:C3
 |[.g [.pv (.lst .tbl t0)],.c (.pv (.val (.int .i64 n)))]=>some ((t0.length≤1000000000)∧(∀i,(leaf t0 i).length≤1000000000)∧(n≤9223372036854775807),true,.x (.g [.lst .tbl (A6l t0 n)]))
 |_=>none
theorem B2N:E9 Tryz.prog 95 A8k:=by
 intro args pre sh rv h hp;unfold A8k at h;split at h
 ·cases h;obtain⟨hl,hf,hn⟩:=hp;exact C0N _ _ hl hf hn
 ·cases h
def zM:FuncId→Option C3:=D6 95 A8k B5u
theorem vA:G4 Tryz.prog zM:=B8 B2N A6m
def eL (c:Int) (e:B0):List UInt8:=A4D e.kind e.start e.count e.size e.sum c
theorem B5v (c:Int) (e:B0):(eL c e).length≤16:=B5h _ _ _ _ _ _
def zN (c:Int) (l:List B0):Nat→List UInt8
 |0=>[]
 |k+1=>zN c l k++eL c (l.getD k K4)
theorem A3C (c:Int) (l:List B0):∀k,(zN c l k).length≤16*k:=by
 intro k
 induction k with
 |zero=>exact Nat.le_refl _
 |succ k ih=>simp only[zN,List.length_append];have:=B5v c (l.getD k K4);omega
def vT (t:List (List B0)):Nat→Nat
 |0=>0
 |i+1=>match decide ((leaf t i).length=0)with
  |true=>vT t i
  |false=>vT t i+1
def A2L (c:Int) (t:List (List B0)):Nat→List UInt8
 |0=>[]
 |i+1=>match decide ((leaf t i).length=0)with
  |true=>A2L c t i
  |false=>A2L c t i++T9 [] 2 false i++zN c (leaf t i) 8
def A4O (t:List (List B0)) (c:Int):List UInt8:=if E8 t 4096 c=true then T9 [] 2 false (vT t t.length)++A2L c t t.length else[]
def B2O (t:List (List B0)) (c:Int):Int:=if E8 t 4096 c=true then 0 else 1
theorem C0O (t:List (List B0)):∀i,vT t i≤i:=by
 intro i
 induction i with
 |zero=>exact Nat.le_refl _
 |succ i ih=>simp only[vT];split<;> omega
theorem pJ (v:Int):(T9 [] 2 false v).length≤2:=by
 unfold T9;split<;> simp[G5]
theorem A6n (c:Int) (t:List (List B0)):∀i,(A2L c t i).length≤130*i:=by
 intro i
 induction i with
 |zero=>exact Nat.le_refl _
 |succ i ih=>
  simp only[A2L];split
  ·omega
  ·simp only[List.length_append];have:=pJ i;have:=A3C c (leaf t i) 8;omega
def zO:D9:=⟨T,zM,H7,A9,70,[],none,.t⟩
theorem pK:B1 Tryz.prog zO:=⟨vA,E3,A4⟩
theorem eS:F0 Tryz.prog zO:=⟨tOk,pK⟩
theorem C0P (t0:List (List B0)) (c:Int) (hl:t0.length≤1000000000) (hf:∀i,(leaf t0 i).length≤1000000000) (hs:∀i k,L1 .u32 ((leaf t0 i).getD k K4).sum):aA Tryz.prog 272 false [.g [.pv (.lst .tbl t0)],int .i64 c] (.ot 5 .byt (A4O t0 c) [.c (i64 (B2O t0 c))]):=by
 refine cJ (E:=zO) Tryz.func272 (fun M0 W hM0=>?_);refine G8 tOk pK 60 (fun _=>none) (fun bs=>rfl) (fun bs=>?_) (fun bs=>?_)
 ·and_intros<;> (intros;first|exact ob_|(simp[L1,IntKind.bits,hf];done)|(simp[L1,IntKind.bits,hf]at* <;> omega)|(simp_all;done)|(with_reducible assumption)|skip)
 cases hr:E8 t0 4096 c with
 |false=>
  refine cF rfl rfl (by simp[hr]) ?_;refine C8 eS 60 (fun _=>none) (fun bs=>?_);have h1:B2O t0 c=1:=by simp[B2O,hr]
  have h2:A4O t0 c=[]:=by simp[A4O,hr]
  exact D5 tOk hM0 rfl rfl ⟨trivial,trivial,trivial⟩ ⟨h2,⟨rfl,h1.symm⟩,trivial⟩
 |true=>
 refine fQ rfl rfl (by simp[hr]) ?_;have hE:B2O t0 c=0:=by simp[B2O,hr]
 have hL:A4O t0 c=T9 [] 2 false (vT t0 t0.length)++A2L c t0 t0.length:=by simp[A4O,hr]
 rw[hE,hL];have h512:t0.length≤512:=by
  by_cases h:512<t0.length
  ·exact(rU hr h).elim
  ·omega
 refine C8 eS 60 (fun _=>none) (fun bs=>?_);refine lZ 7 5 rfl ?_;refine P1 (fun x:Nat×Value=>[(1,int .i64 c),(6,int .i64 (vT t0 x.1)),(7,.c (.own 0 x.2)),(23,lst .tbl t0),(24,int .i64 t0.length),(25,int .i64 x.1)]) (fun x=>[.own x.2 5 .byt (A2L c t0 x.1)])
  (fun x=>x.1≤t0.length) (fun x=>t0.length-x.1) rfl [1] (0,.slice none 0 0) (Nat.zero_le _) ?wk (fun x hx=>?_)
 case wk=>and_intros<;> (first|exact wk_|refine A6 ?_|skip)
 obtain⟨i,v⟩:=x;dsimp only at hx⊢;have hc1:=C0O t0 i;have hb1:=A6n c t0 i;refine C8 eS 60 (fun _=>none) (fun bs=>?_);refine I4 rfl rfl (fun hk=>?_) (fun hk=>?_)
 ·have hk':i<t0.length:=by omega
  have hlx:t0.getD (Int.toNat (i:Int)) LK.tbl.dft=leaf t0 i:=rfl;refine C8 eS 60 (fun _=>none) (fun bs=>?_);rcases rX hr i with h8|h8
  ·refine cF rfl rfl (show decide ((((t0.getD (Int.toNat (i:Int)) LK.tbl.dft).length:Nat):Int)=0)=true by rw[hlx,h8];rfl) ?_;refine C8 eS 60 (fun _=>none) (fun bs=>?_);refine G3 [0] (i+1,v) ?ok1 ?wk1
   case ok1=>exact⟨hk',by simp only;omega⟩
   case wk1=>
    and_intros<;> (first|exact wk_|refine A6 ?_|skip)
    all_goals(simp only[vT,A2L,h8];rfl)
  refine fQ rfl rfl (show decide ((((t0.getD (Int.toNat (i:Int)) LK.tbl.dft).length:Nat):Int)=0)=false by rw[hlx,h8];rfl) ?_;have hp2:=pJ i;refine G8 tOk pK 60 (fun _=>none) (fun bs=>rfl) (fun bs=>?_) (fun bs=>?_)
  ·simp only[hlx,h8]
   and_intros<;> (intros;first|exact U0|omega|skip)
  refine P1 (fun x:Nat×Value=>[(1,int .i64 c),(6,int .i64 ((vT t0 i:Int)+1)),(7,.c (.own 0 x.2)),(8,int .i64 i),(23,lst .tbl t0),(24,int .i64 t0.length),(25,int .i64 i),(44,lst .ent (leaf t0 i)),(45,int .i64 (leaf t0 i).length),(46,int .i64 x.1)]) (fun x=>[.own x.2 5 .byt (A2L c t0 i++T9 [] 2 false i++zN c (leaf t0 i) x.1)])
   (fun x=>x.1≤8) (fun x=>8-x.1) rfl [2] (0,?v2) (Nat.zero_le _) ?wk2 (fun x hx2=>?_)
  case wk2=>
   and_intros<;> (first|exact wk_|refine A6 ?_|skip)
   all_goals(simp only[zN,List.append_nil])
  obtain⟨k,v2⟩:=x;dsimp only at hx2⊢;have he1:=A3C c (leaf t0 i) k;refine C8 eS 60 (fun _=>none) (fun bs=>?_);refine I4 rfl rfl (fun hk2=>?_) (fun hk2=>?_)
  ·have hk2':k<8:=by omega
   have he2:=B5v c ((leaf t0 i).getD k K4);have he3:(A4D ((leaf t0 i).getD (Int.toNat (k:Int)) LK.ent.dft).kind ((leaf t0 i).getD (Int.toNat (k:Int)) LK.ent.dft).start ((leaf t0 i).getD (Int.toNat (k:Int)) LK.ent.dft).count ((leaf t0 i).getD (Int.toNat (k:Int)) LK.ent.dft).size ((leaf t0 i).getD (Int.toNat (k:Int)) LK.ent.dft).sum c).length≤16:=he2;refine G8 tOk pK 60 (fun _=>none) (fun bs=>rfl) (fun bs=>?_) (fun bs=>?_)
   ·and_intros<;> (intros;first|exact trivial|exact rfl|omega|(simp only[List.length_append];omega)|exact(hs i k).1|exact(hs i k).2|(simp[L1];omega)|skip)
   refine G3 [3] (k+1,?v3) ?ok3 ?wk3
   case ok3=>exact⟨hk2',by simp only;omega⟩
   case wk3=>
    and_intros<;> (first|exact wk_|refine A6 ?_|skip)
    all_goals(simp only[zN,List.append_assoc];rfl)
  ·have hk2':k=8:=by omega
   subst hk2';refine C8 eS 60 (fun _=>none) (fun bs=>?_);refine G3 [0] (i+1,v2) ?ok4 ?wk4
   case ok4=>exact⟨hk',by simp only;omega⟩
   case wk4=>
    and_intros<;> (first|exact wk_|refine A6 ?_|skip)
    all_goals(simp only[vT,A2L,h8];rfl)
 ·have hk':i=t0.length:=by omega
  subst hk';have hp2:=pJ (vT t0 t0.length);refine C8 eS 60 (fun _=>none) (fun bs=>?_);exact D5 tOk hM0 rfl rfl ⟨trivial,trivial,trivial⟩ ⟨⟨rfl,rfl,rfl,A6 rfl⟩,⟨rfl,rfl⟩,trivial⟩
def A8l:C3
 |[.g [.pv (.lst .tbl t0)],.c (.pv (.val (.int .i64 c)))]=>some ((t0.length≤1000000000)∧(∀i,(leaf t0 i).length≤1000000000)∧(∀i k,L1 .u32 ((leaf t0 i).getD k K4).sum),false,.ot 5 .byt (A4O t0 c) [.c (i64 (B2O t0 c))])
 |_=>none
theorem B2P:E9 Tryz.prog 272 A8l:=by
 intro args pre sh rv h hp;unfold A8l at h;split at h
 ·cases h;obtain⟨hl,hf,hs⟩:=hp;exact C0P _ _ hl hf hs
 ·cases h
def V6:FuncId→Option C3:=D6 272 A8l zM
theorem M7:G4 Tryz.prog V6:=B8 B2P vA
def A4P:D9:=⟨T,V6,A7,A9,50,[],none,.t⟩
theorem C0Q:B1 Tryz.prog A4P:=⟨M7,A2,A4⟩
theorem fL:F0 Tryz.prog A4P:=⟨tOk,C0Q⟩
theorem C3k (l:List UInt8) (at_:Int) (n:Int) (big:Bool) (hl:l.length≤1000000):aA Tryz.prog 266 false [lst .byt l,int .i64 at_,int .i64 n,bool big] (.t [.c (.val (.int .u64 (J0 l at_ n big))),.c (i64 (mW l at_ n))]):=by
 refine cJ (E:=A4P) Tryz.func266 (fun M0 W hM0=>?_);refine C8 fL 60 (fun _=>none) (fun bs=>?_);refine C6 rfl rfl (fun h=>?_) (fun h=>?_)
 ·refine C8 fL 60 (fun _=>none) (fun bs=>?_);have he:mW l at_ n=1:=by simp at h;simp[mW,h]
  exact D5 tOk hM0 rfl rfl ⟨trivial,trivial,trivial⟩ ⟨⟨rfl,by simp[J0,he]⟩,⟨rfl,he.symm⟩,trivial⟩
 have h1:1≤n∧n≤8:=by simp at h;omega
 clear h;refine C8 fL 60 (fun _=>none) (fun bs=>?_);refine C6 rfl rfl (fun h=>?_) (fun h=>?_)
 ·refine C8 fL 60 (fun _=>none) (fun bs=>?_);have hb:V5 l at_ n=false:=by simpa using h
  have he:mW l at_ n=6:=by simp[mW,hb];omega
  exact D5 tOk hM0 rfl rfl ⟨trivial,trivial,trivial⟩ ⟨⟨rfl,by simp[J0,he]⟩,⟨rfl,he.symm⟩,trivial⟩
 have hb:V5 l at_ n=true:=by simpa using h
 have he:mW l at_ n=0:=by simp[mW,hb];omega
 have hlen:=B2B hb (by omega);refine C8 fL 60 (fun _=>none) (fun bs=>?_);refine P1 (fun x:Nat=>[(2,int .i64 n),(3,bool big),(10,lst .byt (gY l at_ n)),(30,int .i64 n),(31,int .i64 x),(12,int .u64 (A8T (rP l at_ n big) x))]) (fun x=>[])
  (fun x=>x≤n.toNat) (fun x=>n.toNat-x) rfl [] 0 (Nat.zero_le _) ?wk (fun x hx=>?_)
 case wk=>and_intros<;> (first|exact wk_|refine A6 ?_|skip)
 have hx':x≤n.toNat:=hx;refine C8 fL 60 (fun _=>none) (fun bs=>?_);refine I4 rfl rfl (fun hk=>?_) (fun hk=>?_)
 ·have hk':(x:Int)<n:=hk;refine C8 fL 60 (fun _=>none) (fun bs=>?_);cases big with
  |true=>
   refine cF rfl rfl rfl ?_;refine C8 fL 60 (fun _=>none) (fun bs=>?_);refine G3 [] (x+1) ?ok2 ?wk2
   case ok2=>exact⟨by omega,by omega⟩
   case wk2=>
    and_intros<;> (first|exact wk_|refine A6 ?_|skip)
    conv=>whnf
    simp only[A8T,rP,←yQ hb (show(0:Int)≤x by omega) hk'];rfl
  |false=>
   refine fQ rfl rfl rfl ?_;refine C8 fL 60 (fun _=>none) (fun bs=>?_);refine G3 [] (x+1) ?ok3 ?wk3
   case ok3=>exact⟨by omega,by omega⟩
   case wk3=>
    and_intros<;> (first|exact wk_|refine A6 ?_|skip)
    conv=>whnf
    simp only[A8T,rP,←yQ hb (show(0:Int)≤n-1-x by omega) (by omega)];rfl
 ·refine C8 fL 60 (fun _=>none) (fun bs=>?_);have hk':¬(x:Int)<n:=hk;have hxn:x=n.toNat:=by omega
  exact D5 tOk hM0 rfl rfl ⟨trivial,trivial,trivial⟩ ⟨⟨rfl,by simp[J0,he,hxn]⟩,⟨rfl,he.symm⟩,trivial⟩
def B5w:C3
 |[.c (.pv (.lst .byt l)),.c (.pv (.val (.int .i64 at_))),.c (.pv (.val (.int .i64 n))),.c (.pv (.val (.bool big)))]=>some ((l.length≤1000000),false,.t [.c (.val (.int .u64 (J0 l at_ n big))),.c (i64 (mW l at_ n))])
 |_=>none
theorem B5x:E9 Tryz.prog 266 B5w:=by
 intro args pre sh rv h hp;unfold B5w at h;split at h
 ·cases h;have hl:=hp;exact C3k _ _ _ _ hl
 ·cases h
def A4Q:FuncId→Option C3:=D6 266 B5w V6
theorem zP:G4 Tryz.prog A4Q:=B8 B5x M7
def lU (f:Nat→UInt8):Nat→Nat
 |0=>0
 |k+1=>lU f k*256+(f k).toNat
theorem B0Y (f:Nat→UInt8) (k:Nat):lU f k<256 ^ k:=by
 induction k with
 |zero=>simp[lU]
 |succ k ih=>
  have:=(f k).toNat_lt;simp only[lU,Nat.pow_succ];omega
theorem B5y {a b:Nat} (ha:a*256<18446744073709551616) (hb:b<256):ior .u64 (IntKind.u64.wrap ((a:Int)*2 ^ 8)) (b:Int)=((a*256+b:Nat):Int):=by
 have hw:IntKind.u64.wrap ((a:Int)*2 ^ 8)=((a*256:Nat):Int):=by
  rw[show(a:Int)*2 ^ 8=((a*256:Nat):Int) by simp];apply bH;simp only[L1];omega
 rw[hw];simp only[ior];have h1:BitVec.ofInt IntKind.u64.bits ((a*256:Nat):Int)=BitVec.ofNat 64 (a*256):=BitVec.ofInt_natCast ..;have h2:BitVec.ofInt IntKind.u64.bits (b:Int)=BitVec.ofNat 64 b:=BitVec.ofInt_natCast ..;rw[h1,h2];have h3:(BitVec.ofNat 64 (a*256) ||| BitVec.ofNat 64 b).toNat=a*256+b:=by
  rw[BitVec.toNat_or,BitVec.toNat_ofNat,BitVec.toNat_ofNat,Nat.mod_eq_of_lt (by omega),Nat.mod_eq_of_lt (by omega)];have:=Nat.two_pow_add_eq_or_of_lt (i:=8) (b:=b) (by omega) a;rw[Nat.mul_comm]at this;simpa using this.symm
 have key:∀n:Nat,n=a*256+b→IntKind.u64.wrap (n:Int)=((a*256+b:Nat):Int):=by
  intro n hn;subst hn;apply bH;simp only[L1];omega
 exact key _ h3
theorem rZ (f:Nat→UInt8):∀k,k≤8→A8T f k=(lU f k:Int):=by
 intro k
 induction k with
 |zero=>intro _;rfl
 |succ k ih=>
  intro hk;have h1:=B0Y f k;have h2:256 ^ k≤256 ^ 7:=Nat.pow_le_pow_right (by omega) (by omega);simp only[A8T,ih (by omega),lU];exact B5y (by omega) (f k).toNat_lt
theorem C0R (x:Int):IntKind.u8.wrap x=x%256:=by simp[IntKind.wrap,IntKind.signed,IntKind.bits]
theorem zQ (v k:Nat):(rO (v:Int) (k:Int)).toNat=v / 256 ^ k%256:=by
 simp only[rO,C0R,UInt8.toNat_ofNat'];have e:(8*(k:Int)).toNat=8*k:=by omega
 have h1:(v:Int) / 2 ^ (8*(k:Int)).toNat=((v / 256 ^ k:Nat):Int):=by
  have h2:(256:Nat) ^ k=2 ^ (8*k):=by rw[Nat.pow_mul]
  rw[e,h2];simp
 rw[h1];omega
theorem C0S (l r:List UInt8) (n:Nat) (big:Bool) (v:Nat) (i:Nat) (hi:i<n):rP (l++G5 n big v n++r) l.length n big i=rO (v:Int) ((n-1-i:Nat):Int):=by
 have key:∀j:Nat,j<n→(l++G5 n big v n++r).getD (l.length+j) 0=rO (v:Int) (match big with|true=>(n:Int)-1-j|false=>j):=by
  intro j hj;have h1:j<(G5 n big v n).length:=by simp[G5,hj]
  rw[List.append_assoc];simp only[List.getD];rw[List.getElem?_append_right (by omega),Nat.add_sub_cancel_left,List.getElem?_append_left h1];cases big<;> simp[G5,hj]
 cases big with
 |true=>
  have:=key i hi;simp only[rP];rw[show((l.length:Int)+i).toNat=l.length+i by omega,this];simp only;rw[show((n:Int)-1-i)=((n-1-i:Nat):Int) by omega]
 |false=>
  have:=key (n-1-i) (by omega);simp only[rP];rw[show((l.length:Int)+((n:Int)-1-i)).toNat=l.length+(n-1-i) by omega,this]
theorem B5z (f:Nat→UInt8) (n v:Nat) (hv:v<256 ^ n) (hf:∀i,i<n→(f i).toNat=v / 256 ^ (n-1-i)%256):∀k,k≤n→lU f k=v / 256 ^ (n-k):=by
 intro k
 induction k with
 |zero=>intro _;simp[lU,Nat.div_eq_of_lt hv]
 |succ k ih=>
  intro hk;simp only[lU,ih (by omega),hf k (by omega)];have e:n-k=(n-1-k)+1:=by omega
  rw[e,Nat.pow_succ,←Nat.div_div_eq_div_mul,show n-(k+1)=n-1-k by omega];omega
theorem kF (l r:List UInt8) (n:Nat) (big:Bool) (v:Nat) (h1:1≤n) (h8:n≤8) (hv:v<256 ^ n):J0 (l++G5 n big v n++r) l.length n big=v∧mW (l++G5 n big v n++r) l.length n=0:=by
 have hlen:(l++G5 n big v n++r).length=l.length+n+r.length:=by simp[G5];omega
 have hb:V5 (l++G5 n big v n++r) l.length n=true:=by simp only[V5,hlen,decide_eq_true_eq];omega
 have he:mW (l++G5 n big v n++r) l.length n=0:=by unfold mW;rw[if_neg (by omega),if_pos hb]
 refine⟨?_,he⟩;simp only[J0,he,if_true,Int.toNat_natCast];rw[rZ _ n h8,B5z _ n v hv (fun i hi=>by rw[C0S _ _ _ _ _ _ hi,zQ]) n (Nat.le_refl _)];simp
theorem C3l (k:Int) (h:0≤k):2 ^ (8*k).toNat=256 ^ k.toNat:=by
 have:(8*k).toNat=8*k.toNat:=by omega
 rw[this,show(256:Nat)=2 ^ 8 from rfl,←Nat.pow_mul]
theorem C0T (k:Int) (x:Nat) (h1:1≤k) (h8:k≤8) (hx:x<256 ^ k.toNat):jF k (x:Int)=0:=by
 have:(x:Int) / 2 ^ (8*k).toNat=0:=by
  have h2:(x:Int) / 2 ^ (8*k).toNat=((x / 2 ^ (8*k).toNat:Nat):Int):=by simp
  rw[h2,C3l k (by omega),Nat.div_eq_of_lt hx];rfl
 simp only[jF];rw[if_neg (by omega),if_neg (by simp[this])]
theorem B6A {l:List UInt8} {n:Int} {big:Bool} {v:Int} (h:jF n v=0):(T9 l n big v).length=l.length+n.toNat:=by simp[T9,h,G5]
def iD (sq st ct:Int):Bool:=decide (1≤sq) && decide (sq≤2147483648) && decide (2≤st) && decide (st≤65536) && decide (1≤ct) && decide (ct≤1048576)
theorem pL {sq st ct:Int}:iD sq st ct=true↔(1≤sq∧sq≤2147483648)∧(2≤st∧st≤65536)∧(1≤ct∧ct≤1048576):=by
 simp[iD,and_assoc]
def zR:D9:=⟨T,A4Q,A7,A9,31,[],none,.t⟩
theorem B6B:B1 Tryz.prog zR:=⟨zP,A2,A4⟩
theorem C0U:F0 Tryz.prog zR:=⟨tOk,B6B⟩
theorem C0V (s0:Int) (s1:Int) (s2:Int) (s3:Int):aA Tryz.prog 208 false [.g [.pv (.val (.int .i64 s0)),.pv (.val (.int .i64 s1)),.pv (.val (.int .i64 s2)),.pv (.val (.int .u32 s3))]] (.x (.c (bv (iD s0 s1 s2)))):=by
 refine cJ (E:=zR) Tryz.func208 (fun M0 W hM0=>?_);refine C8 C0U 60 (fun _=>none) (fun bs=>?_);refine D5 tOk hM0 rfl rfl ⟨trivial,trivial⟩ ?_
 conv=>whnf
 rfl
def A8m:C3
 |[.g [.pv (.val (.int .i64 s0)),.pv (.val (.int .i64 s1)),.pv (.val (.int .i64 s2)),.pv (.val (.int .u32 s3))]]=>some (True,false,.x (.c (bv (iD s0 s1 s2))))
 |_=>none
theorem B2Q:E9 Tryz.prog 208 A8m:=by
 intro args pre sh rv h hp;unfold A8m at h;split at h
 ·cases h;exact C0V _ _ _ _
 ·cases h
def zS:FuncId→Option C3:=D6 208 A8m A4Q
theorem vB:G4 Tryz.prog zS:=B8 B2Q zP
theorem C0W (l:List UInt8) (n:Nat) (v:Int) (h1:1≤n) (h8:n≤8) (h0:0≤v) (hv:v<(256 ^ n:Nat)):T9 l n false v=l++G5 n false (v.toNat:Nat) n:=by
 have e:v=((v.toNat:Nat):Int):=by omega
 have he:=C0T n v.toNat (by omega) (by omega) (by simp only[Int.toNat_natCast];omega);rw[e];simp only[T9,he,if_true,Int.toNat_natCast]
theorem B0Z (l:List UInt8) (v:Int) (h:0≤v) (h2:v≤4294967295):T9 l 4 false v=l++G5 4 false (v.toNat:Nat) 4:=by
 have e4:((256 ^ 4:Nat):Int)=4294967296:=by decide
 exact C0W l 4 v (by omega) (by omega) h (by omega)
def slB (sq st ct sm:Int):List UInt8:=mX [] [sq,st,ct,sm] 4
theorem A8n {sq st ct sm:Int} (h0:0≤sq∧sq≤4294967295) (h1:0≤st∧st≤4294967295) (h2:0≤ct∧ct≤4294967295) (h3:0≤sm∧sm≤4294967295):
 slB sq st ct sm=G5 4 false (sq.toNat:Nat) 4++G5 4 false (st.toNat:Nat) 4++G5 4 false (ct.toNat:Nat) 4++G5 4 false (sm.toNat:Nat) 4:=by
 simp only[slB,mX,List.getD_cons_zero,List.getD_cons_succ];rw[B0Z _ sq h0.1 h0.2,B0Z _ st h1.1 h1.2,B0Z _ ct h2.1 h2.2,B0Z _ sm h3.1 h3.2,List.nil_append]
theorem A4R {sq st ct sm:Int} (h:iD sq st ct=true) (h3:0≤sm∧sm≤4294967295):(slB sq st ct sm).length=16:=by
 rw[pL]at h;rw[A8n (by omega) (by omega) (by omega) h3];simp[G5]
def zT:D9:=⟨T,zS,A7,A9,34,[],none,.t⟩
theorem zU:B1 Tryz.prog zT:=⟨vB,A2,A4⟩
theorem B0a:F0 Tryz.prog zT:=⟨tOk,zU⟩
theorem C0X (s0:Int) (s1:Int) (s2:Int) (s3:Int) (hm:iD s0 s1 s2=true) (h3:L1 .u32 s3):aA Tryz.prog 209 false [.g [.pv (.val (.int .i64 s0)),.pv (.val (.int .i64 s1)),.pv (.val (.int .i64 s2)),.pv (.val (.int .u32 s3))]] (.x (.g (jA (slB s0 s1 s2 s3) 0 16))):=by
 refine cJ (E:=zT) Tryz.func209 (fun M0 W hM0=>?_);simp only[L1]at h3;have hL:=A4R hm h3;have hms:=pL.1 hm;have hlen:=fun i=>yV [] [s0,s1,s2,s3] i
 refine C8 B0a 60 (fun _=>none) (fun bs=>?_);refine G1 2 [16] rfl ⟨rfl,trivial⟩ ?_;refine lZ 3 5 rfl ?_;refine P1 (fun x:Nat×Nat×Nat×Value=>[(1,.c (.ptr 0 x.2.1 0)),(2,.c (.ptr 1 x.2.2.1 0)),(3,.c (.own 2 x.2.2.2)),(16,lst (.ints .i64) [s0,s1,s2,s3]),(17,int .i64 4),(18,int .i64 x.1)])
  (fun x=>[.blk x.2.1 135 [.pv (i64 s0),.pv (i64 s1),.pv (i64 s2),.pv (.val (.int .u32 s3))],.blk x.2.2.1 316 (List.replicate 16 (.pv (.val (.int .u8 0)))),.own x.2.2.2 5 .byt (mX [] [s0,s1,s2,s3] x.1)])
  (fun x=>x.1≤4) (fun x=>4-x.1) rfl [0,1,3] (0,?b0,?b1,?v0) (Nat.zero_le _) ?wk (fun x hx=>?_)
 case wk=>and_intros<;> (first|exact wk_|refine A6 ?_|skip)
 obtain⟨i,b0,b1,v⟩:=x;simp only at hx;dsimp only;have hl:=hlen i;refine C8 B0a 60 (fun _=>none) (fun bs=>?_);refine I4 rfl rfl (fun hk=>?_) (fun hk=>?_)
 ·have hk':i<4:=by omega
  have hr:0≤[s0,s1,s2,s3].getD i 0∧[s0,s1,s2,s3].getD i 0≤18446744073709551615:=by
   match i,hk' with
   |0,_=>simp;omega
   |1,_=>simp;omega
   |2,_=>simp;omega
   |3,_=>simp;omega
  have hl2:(mX [] [s0,s1,s2,s3] i).length≤1000000:=by simp at hl;omega
  refine G8 tOk zU 60 (fun _=>none) (fun bs=>rfl) (fun bs=>?_) (fun bs=>?_)
  ·and_intros<;> (intros;first|exact trivial|exact rfl|omega|(simp at hr⊢;omega)|exact hr.1|exact hr.2)
  refine G3 [0,1,3] (i+1,?b2,?b3,?v1) ?ok1 ?wk1
  case ok1=>exact⟨by simp only;omega,by simp only;omega⟩
  case wk1=>
   and_intros<;> (first|exact wk_|refine A6 ?_|skip)
 ·have hk':i=4:=by omega
  subst hk';have e:∀z:List UInt8,z.length=16→(mX [] [s0,s1,s2,s3] 4).take z.length++z.drop (mX [] [s0,s1,s2,s3] 4).length=slB s0 s1 s2 s3:=by
   intro z hz;have hL':(mX [] [s0,s1,s2,s3] 4).length=16:=hL;rw[hz,hL',List.drop_eq_nil_of_le (by omega),List.append_nil,List.take_of_length_le (by omega)];rfl
  refine G8 tOk zU 60 (fun _=>none) (fun bs=>rfl) (fun bs=>?_) (fun bs=>?_)
  ·simp only[e _ (show[UInt8.ofNat (Int.toNat 0),UInt8.ofNat (Int.toNat 0),UInt8.ofNat (Int.toNat 0),UInt8.ofNat (Int.toNat 0),UInt8.ofNat (Int.toNat 0),UInt8.ofNat (Int.toNat 0),UInt8.ofNat (Int.toNat 0),UInt8.ofNat (Int.toNat 0),UInt8.ofNat (Int.toNat 0),UInt8.ofNat (Int.toNat 0),UInt8.ofNat (Int.toNat 0),UInt8.ofNat (Int.toNat 0),UInt8.ofNat (Int.toNat 0),UInt8.ofNat (Int.toNat 0),UInt8.ofNat (Int.toNat 0),UInt8.ofNat (Int.toNat 0)].length=16 from rfl)]
   and_intros<;> (intros;first|exact trivial|exact rfl|omega|skip)
  refine D5 tOk hM0 rfl rfl ⟨rfl,trivial⟩ ?_;have e':=e [UInt8.ofNat (Int.toNat 0),UInt8.ofNat (Int.toNat 0),UInt8.ofNat (Int.toNat 0),UInt8.ofNat (Int.toNat 0),UInt8.ofNat (Int.toNat 0),UInt8.ofNat (Int.toNat 0),UInt8.ofNat (Int.toNat 0),UInt8.ofNat (Int.toNat 0),UInt8.ofNat (Int.toNat 0),UInt8.ofNat (Int.toNat 0),UInt8.ofNat (Int.toNat 0),UInt8.ofNat (Int.toNat 0),UInt8.ofNat (Int.toNat 0),UInt8.ofNat (Int.toNat 0),UInt8.ofNat (Int.toNat 0),UInt8.ofNat (Int.toNat 0)] rfl;rw[←e']
  and_intros<;> first|exact trivial|exact rfl
def A8o:C3
 |[.g [.pv (.val (.int .i64 s0)),.pv (.val (.int .i64 s1)),.pv (.val (.int .i64 s2)),.pv (.val (.int .u32 s3))]]=>some ((iD s0 s1 s2=true)∧(L1 .u32 s3),false,.x (.g (jA (slB s0 s1 s2 s3) 0 16)))
 |_=>none
theorem B2R:E9 Tryz.prog 209 A8o:=by
 intro args pre sh rv h hp;unfold A8o at h;split at h
 ·cases h;obtain⟨hm,h3⟩:=hp;exact C0X _ _ _ _ hm h3
 ·cases h
def zV:FuncId→Option C3:=D6 209 A8o zS
theorem vC:G4 Tryz.prog zV:=B8 B2R vB
theorem B6C (b:UInt8):(0:Int)≤((b.toNat:Nat):Int):=by omega
theorem B6D (b:UInt8):((b.toNat:Nat):Int)≤255:=by have:=b.toNat_lt;omega
def slE (sq st ct:Int):Int:=if iD sq st ct=true then 0 else 1
def slL (sq st ct sm:Int):List UInt8:=if iD sq st ct=true then slB sq st ct sm else[]
def C3m (L:List UInt8):List UInt8:=[UInt8.ofNat (Int.toNat ((L.getD 0 0).toNat:Int)),UInt8.ofNat (Int.toNat ((L.getD 1 0).toNat:Int)),UInt8.ofNat (Int.toNat ((L.getD 2 0).toNat:Int)),UInt8.ofNat (Int.toNat ((L.getD 3 0).toNat:Int)),
 UInt8.ofNat (Int.toNat ((L.getD 4 0).toNat:Int)),UInt8.ofNat (Int.toNat ((L.getD 5 0).toNat:Int)),UInt8.ofNat (Int.toNat ((L.getD 6 0).toNat:Int)),UInt8.ofNat (Int.toNat ((L.getD 7 0).toNat:Int)),
 UInt8.ofNat (Int.toNat ((L.getD 8 0).toNat:Int)),UInt8.ofNat (Int.toNat ((L.getD 9 0).toNat:Int)),UInt8.ofNat (Int.toNat ((L.getD 10 0).toNat:Int)),UInt8.ofNat (Int.toNat ((L.getD 11 0).toNat:Int)),
 UInt8.ofNat (Int.toNat ((L.getD 12 0).toNat:Int)),UInt8.ofNat (Int.toNat ((L.getD 13 0).toNat:Int)),UInt8.ofNat (Int.toNat ((L.getD 14 0).toNat:Int)),UInt8.ofNat (Int.toNat ((L.getD 15 0).toNat:Int))]
theorem C0Y (L:List UInt8) (h:L.length=16):C3m L=L:=by
 match L,h with
 |[x0,x1,x2,x3,x4,x5,x6,x7,x8,x9,x10,x11,x12,x13,x14,x15],_=>simp[C3m]
def zW:D9:=⟨T,zV,A7,A9,11,[],none,.t⟩
theorem A6o:B1 Tryz.prog zW:=⟨vC,A2,A4⟩
theorem B0b:F0 Tryz.prog zW:=⟨tOk,A6o⟩
theorem C0Z (s0:Int) (s1:Int) (s2:Int) (s3:Int) (h3:L1 .u32 s3):aA Tryz.prog 121 false [.g [.pv (.val (.int .i64 s0)),.pv (.val (.int .i64 s1)),.pv (.val (.int .i64 s2)),.pv (.val (.int .u32 s3))]] (.ot 316 .byt (slL s0 s1 s2 s3) [.c (i64 (slE s0 s1 s2))]):=by
 refine cJ (E:=zW) Tryz.func121 (fun M0 W hM0=>?_);have h3':=h3;simp only[L1]at h3';refine C8 B0b 60 (fun _=>none) (fun bs=>?_);refine C6 rfl rfl (fun h=>?_) (fun h=>?_)
 ·refine C8 B0b 60 (fun _=>none) (fun bs=>?_);have hb:iD s0 s1 s2=false:=by simpa using h
  exact D5 tOk hM0 rfl rfl ⟨trivial,trivial,trivial⟩ ⟨(show slL s0 s1 s2 s3=[] by simp[slL,hb]),⟨rfl,by simp[slE,hb]⟩,trivial⟩
 have hb:iD s0 s1 s2=true:=by simpa using h
 have hL:=A4R hb h3';have hu:∀i:Nat,(0:Int)≤((slB s0 s1 s2 s3).getD i 0).toNat∧(((slB s0 s1 s2 s3).getD i 0).toNat:Int)≤255:=fun i=>⟨B6C _,B6D _⟩
 refine G8 tOk A6o 60 (fun _=>none) (fun bs=>rfl) (fun bs=>?_) (fun bs=>?_)
 ·and_intros<;> (intros;first|exact trivial|exact rfl|exact h3'.1|exact h3'.2|exact B6C _|exact B6D _|exact hb|omega|skip)
 refine D5 tOk hM0 rfl rfl ⟨trivial,trivial,trivial⟩ ⟨⟨rfl,rfl,rfl,A6 ?_⟩,⟨rfl,by simp[slE,hb]⟩,trivial⟩;have:slL s0 s1 s2 s3=C3m (slB s0 s1 s2 s3):=by rw[C0Y _ hL];simp[slL,hb]
 rw[this];rfl
def A8p:C3
 |[.g [.pv (.val (.int .i64 s0)),.pv (.val (.int .i64 s1)),.pv (.val (.int .i64 s2)),.pv (.val (.int .u32 s3))]]=>some ((L1 .u32 s3),false,.ot 316 .byt (slL s0 s1 s2 s3) [.c (i64 (slE s0 s1 s2))])
 |_=>none
theorem B2S:E9 Tryz.prog 121 A8p:=by
 intro args pre sh rv h hp;unfold A8p at h;split at h
 ·cases h;have h3:=hp;exact C0Z _ _ _ _ h3
 ·cases h
def zX:FuncId→Option C3:=D6 121 A8p zV
theorem vD:G4 Tryz.prog zX:=B8 B2S vC
theorem C0a (l:List UInt8) (at_:Int) (n:Nat) (hn:n≤8):0≤J0 l at_ n false∧J0 l at_ n false<(256 ^ n:Nat):=by
 unfold J0;split
 ·rw[show((n:Nat):Int).toNat=n by simp,rZ _ n hn];have:=B0Y (rP l at_ n false) n;omega
 ·have:0<256 ^ n:=Nat.pow_pos (by omega);omega
theorem aL (l:List UInt8) (at_:Int):0≤J0 l at_ 4 false∧J0 l at_ 4 false≤4294967295:=by
 have:=C0a l at_ 4 (by omega);have e:((256 ^ 4:Nat):Int)=4294967296:=by decide
 rw[e]at this;have e2:((4:Nat):Int)=4:=rfl;rw[e2]at this;omega
theorem A8q (f:Nat→UInt8):∀n j,j<n→lU f n / 256 ^ (n-1-j)%256=(f j).toNat:=by
 intro n
 induction n with
 |zero=>intro j h;omega
 |succ n ih=>
  intro j hj;have hb:=(f n).toNat_lt;by_cases h:j=n
  ·subst h;simp only[lU,Nat.add_sub_cancel,Nat.sub_self,Nat.pow_zero,Nat.div_one];omega
  ·have e:n+1-1-j=(n-1-j)+1:=by omega
   rw[e,Nat.pow_succ,Nat.mul_comm,←Nat.div_div_eq_div_mul];have:lU f (n+1) / 256=lU f n:=by simp only[lU];omega
   rw[this];exact ih j (by omega)
theorem lJ (b:List UInt8) (at_ n:Nat) (hn:1≤n) (h8:n≤8) (h:at_+n≤b.length):G5 n false (J0 b at_ n false) n=(b.drop at_).take n:=by
 have he:mW b at_ n=0:=by
  unfold mW;rw[if_neg (by omega),if_pos];simp only[V5,decide_eq_true_eq];omega
 have hv:J0 b at_ n false=((lU (rP b at_ n false) n:Nat):Int):=by
  simp only[J0,he,if_true,Int.toNat_natCast];exact rZ _ n h8
 rw[hv];apply List.ext_getElem
 ·simp[G5];omega
 ·intro i h1 h2;have hi:i<n:=by simp[G5]at h1;exact h1
  have hd:=A8q (rP b at_ n false) n (n-1-i) (by omega);rw[show n-1-(n-1-i)=i by omega]at hd;have hs:rP b at_ n false (n-1-i)=b[at_+i]'(by omega):=by
   simp only[rP];rw[show((at_:Int)+((n:Int)-1-((n-1-i:Nat):Int))).toNat=at_+i by omega];simp[List.getD,gE_ (show at_+i<b.length by omega)]
  rw[hs]at hd;have hbt:=zQ (lU (rP b at_ n false) n) i;rw[hd]at hbt;simp only[G5,List.getElem_map,List.getElem_range,List.getElem_take,List.getElem_drop];exact UInt8.toNat_inj.1 hbt
def nF:D9:=⟨T,zX,A7,A9,15,[],none,.t⟩
theorem A8r:B1 Tryz.prog nF:=⟨vD,A2,A4⟩
theorem B2T:F0 Tryz.prog nF:=⟨tOk,A8r⟩
theorem B2U (i:Int) (b:List UInt8) (hb:b.length≤1000000) (hi:0≤i∧i≤3):aA Tryz.prog 270 false [int .i64 i,.c (.cel [.lst .byt b])] (.x (.c (i64 (J0 b (i*4) 4 false)))):=by
 refine cJ (E:=nF) Tryz.func270 (fun M0 W hM0=>?_);have h4:=aL b (i*4);refine C8 B2T 60 (fun _=>none) (fun bs=>?_);exact D5 tOk hM0 rfl rfl ⟨trivial,trivial⟩ ⟨rfl,rfl⟩
def zY:C3
 |[.c (.pv (.val (.int .i64 i))),.c (.cel [.lst .byt b])]=>some ((b.length≤1000000)∧(0≤i∧i≤3),false,.x (.c (i64 (J0 b (i*4) 4 false))))
 |_=>none
theorem A6p:E9 Tryz.prog 270 zY:=by
 intro args pre sh rv h hp;unfold zY at h;split at h
 ·cases h;obtain⟨hb,hi⟩:=hp;exact B2U _ _ hb hi
 ·cases h
def nG:FuncId→Option C3:=D6 270 zY zX
theorem mG:G4 Tryz.prog nG:=B8 A6p vD
def gF (b:List UInt8):iZ:=⟨J0 b 0 4 false,J0 b 4 4 false,J0 b 8 4 false,J0 b 12 4 false⟩
def gE (b:List UInt8):Int:=if b.length=16∧iD (gF b).seq (gF b).start (gF b).count=true then 0 else 3
def gX (b:List UInt8):iZ:=if gE b=0 then gF b else⟨0,0,0,0⟩
theorem C3n (b:List UInt8) (hl:b.length=16):slB (gF b).seq (gF b).start (gF b).count (gF b).sum=b:=by
 have p0:=lJ b 0 4 (by omega) (by omega) (by omega);have p4:=lJ b 4 4 (by omega) (by omega) (by omega);have p8:=lJ b 8 4 (by omega) (by omega) (by omega);have p12:=lJ b 12 4 (by omega) (by omega) (by omega);have g0:=aL b 0;have g4:=aL b 4;have g8:=aL b 8;have g12:=aL b 12;simp only[gF];rw[A8n g0 g4 g8 g12];rw[show(((J0 b 0 4 false).toNat:Nat):Int)=J0 b 0 4 false by omega,show(((J0 b 4 4 false).toNat:Nat):Int)=J0 b 4 4 false by omega,
  show(((J0 b 8 4 false).toNat:Nat):Int)=J0 b 8 4 false by omega,show(((J0 b 12 4 false).toNat:Nat):Int)=J0 b 12 4 false by omega]
 have q0:G5 4 false (J0 b 0 4 false) 4=(b.drop 0).take 4:=p0;have q4:G5 4 false (J0 b 4 4 false) 4=(b.drop 4).take 4:=p4;have q8:G5 4 false (J0 b 8 4 false) 4=(b.drop 8).take 4:=p8;have q12:G5 4 false (J0 b 12 4 false) 4=(b.drop 12).take 4:=p12;rw[q0,q4,q8,q12]
 match b,hl with
 |[x0,x1,x2,x3,x4,x5,x6,x7,x8,x9,x10,x11,x12,x13,x14,x15],_=>simp
def zZ:D9:=⟨T,nG,A7,A9,34,[19],none,.t⟩
theorem kG:B1 Tryz.prog zZ:=⟨mG,A2,A4⟩
theorem pM:F0 Tryz.prog zZ:=⟨tOk,kG⟩
theorem C0b (b:List UInt8) (hb:b.length≤1000000):aA Tryz.prog 247 false [lst .byt b] (.t [.g [i64 (gX b).seq,i64 (gX b).start,i64 (gX b).count,.val (.int .u32 (gX b).sum)],.c (i64 (gE b))]):=by
 refine cJ (E:=zZ) Tryz.func247 (fun M0 W hM0=>?_);refine C8 pM 60 (fun _=>none) (fun bs=>?_);refine C6 rfl rfl (fun h=>?_) (fun h=>?_)
 ·refine C8 pM 60 (fun _=>none) (fun bs=>?_);have he:gE b=3:=by
   unfold gE;rw[if_neg]
   rintro ⟨a1,a2⟩
   simp at h;omega
  refine D5 tOk hM0 rfl rfl ⟨rfl,trivial,trivial⟩ ?_;simp only[gX,he];exact⟨⟨⟨rfl,rfl⟩,⟨rfl,rfl⟩,⟨rfl,rfl⟩,⟨rfl,rfl⟩,trivial⟩,⟨rfl,rfl⟩,trivial⟩
 have h1:b.length=16:=by simp at h;omega
 clear h;have g0:=aL b 0;have g4:=aL b 4;have g8:=aL b 8;have g12:=aL b 12;have g0':0≤J0 b (0*4) 4 false∧J0 b (0*4) 4 false≤4294967295:=g0;have g4':0≤J0 b (1*4) 4 false∧J0 b (1*4) 4 false≤4294967295:=g4;have g8':0≤J0 b (2*4) 4 false∧J0 b (2*4) 4 false≤4294967295:=g8;have g12':0≤J0 b (3*4) 4 false∧J0 b (3*4) 4 false≤4294967295:=g12;refine C8 pM 60 (fun _=>none) (fun bs=>?_);by_cases hm:iD (gF b).seq (gF b).start (gF b).count=true
 ·have hm':iD (J0 b (0*4) 4 false) (J0 b (1*4) 4 false) (J0 b (2*4) 4 false)=true:=hm;have henc:slB (J0 b (0*4) 4 false) (J0 b (1*4) 4 false) (J0 b (2*4) 4 false) (J0 b (3*4) 4 false)=b:=C3n b h1;refine bY tOk kG rfl (fun _=>some false) 9 [0,1,3,7,15,31,15,79,207,511,1023] [] rfl (by decide+kernel) (fun bs=>rfl) (fun bs=>?_) (fun bs=>?_)
  ·simp only[hm',henc]
   and_intros<;> (intros;first|exact U0|omega|skip)
  refine G8 tOk kG 60 (fun _=>some false) (fun bs=>rfl) (fun bs=>by and_intros<;> (intros;first|exact U0|omega|skip)) (fun bs=>?_);refine fQ rfl rfl ?_ ?_
  ·simp only[hm',henc];simp
  refine C8 pM 60 (fun _=>none) (fun bs=>?_);have he:gE b=0:=by unfold gE;rw[if_pos ⟨h1,hm⟩]
  refine D5 tOk hM0 rfl rfl ⟨rfl,trivial,trivial⟩ ?_;simp only[gX,he,if_true];exact⟨⟨⟨rfl,rfl⟩,⟨rfl,rfl⟩,⟨rfl,rfl⟩,⟨rfl,rfl⟩,trivial⟩,⟨rfl,rfl⟩,trivial⟩
 ·have hm':iD (J0 b (0*4) 4 false) (J0 b (1*4) 4 false) (J0 b (2*4) 4 false)=false:=by
   have:¬iD (J0 b (0*4) 4 false) (J0 b (1*4) 4 false) (J0 b (2*4) 4 false)=true:=hm;simpa using this
  refine bY tOk kG rfl (fun _=>some true) 9 [0,1,3,7,15,31,15,79,207,511,1023] [] rfl (by decide+kernel) (fun bs=>rfl) (fun bs=>?_) (fun bs=>?_)
  ·simp only[hm']
   and_intros<;> (intros;first|exact U0|omega|skip)
  refine G8 tOk kG 60 (fun _=>some true) (fun bs=>rfl) (fun bs=>by and_intros<;> (intros;first|exact U0|omega|skip)) (fun bs=>?_);refine cF rfl rfl ?_ ?_
  ·simp only[hm']
  refine C8 pM 60 (fun _=>none) (fun bs=>?_);have he:gE b=3:=by
   unfold gE;rw[if_neg]
   rintro ⟨a1,a2⟩
   exact hm a2
  refine D5 tOk hM0 rfl rfl ⟨rfl,trivial,trivial⟩ ?_;simp only[gX,he];exact⟨⟨⟨rfl,rfl⟩,⟨rfl,rfl⟩,⟨rfl,rfl⟩,⟨rfl,rfl⟩,trivial⟩,⟨rfl,rfl⟩,trivial⟩
def A8s:C3
 |[.c (.pv (.lst .byt b))]=>some ((b.length≤1000000),false,.t [.g [i64 (gX b).seq,i64 (gX b).start,i64 (gX b).count,.val (.int .u32 (gX b).sum)],.c (i64 (gE b))])
 |_=>none
theorem B2V:E9 Tryz.prog 247 A8s:=by
 intro args pre sh rv h hp;unfold A8s at h;split at h
 ·cases h;have hb:=hp;exact C0b _ hb
 ·cases h
def A0A:FuncId→Option C3:=D6 247 A8s nG
theorem vE:G4 Tryz.prog A0A:=B8 B2V mG
def nH (a b:List UInt8):List iZ:=if gE a≠0∧gE b≠0 then[]else if gE b≠0 then[gX a]else if gE a≠0 then[gX b]else if(gX a).seq<(gX b).seq then[gX b,gX a]else[gX a,gX b]
theorem B6E (a b:List UInt8):(nH a b).length≤2:=by unfold nH;(repeat' split)<;> simp
def sA:D9:=⟨T,A0A,A7,A9,48,[],none,.t⟩
theorem B2W:B1 Tryz.prog sA:=⟨vE,A2,A4⟩
theorem aM:F0 Tryz.prog sA:=⟨tOk,B2W⟩
theorem B6F (a:List UInt8) (b:List UInt8) (ha:a.length≤1000000) (hb:b.length≤1000000):aA Tryz.prog 202 false [lst .byt a,lst .byt b] (.o 135 .slt (nH a b)):=by
 refine cJ (E:=sA) Tryz.func202 (fun M0 W hM0=>?_);refine C8 aM 60 (fun _=>none) (fun bs=>?_);refine C6 rfl rfl (fun h=>?_) (fun h=>?_)
 ·refine C8 aM 60 (fun _=>none) (fun bs=>?_);have hb:nH a b=[]:=by unfold nH;rw[if_pos (by simpa using h)]
  exact D5 tOk hM0 rfl rfl ⟨trivial,trivial⟩ hb
 have h1:¬(gE a≠0∧gE b≠0):=by simpa using h
 clear h;refine C8 aM 60 (fun _=>none) (fun bs=>?_);refine C6 rfl rfl (fun h=>?_) (fun h=>?_)
 ·refine C8 aM 60 (fun _=>none) (fun bs=>?_);have h2:gE b≠0:=by simpa using h
  refine D5 tOk hM0 rfl rfl ⟨trivial,trivial⟩ ⟨rfl,rfl,rfl,A6 ?_⟩;unfold nH;rw[if_neg h1,if_pos h2]
 have h2:¬gE b≠0:=by simpa using h
 clear h;refine C8 aM 60 (fun _=>none) (fun bs=>?_);refine C6 rfl rfl (fun h=>?_) (fun h=>?_)
 ·refine C8 aM 60 (fun _=>none) (fun bs=>?_);have h3:gE a≠0:=by simpa using h
  refine D5 tOk hM0 rfl rfl ⟨trivial,trivial⟩ ⟨rfl,rfl,rfl,A6 ?_⟩;unfold nH;rw[if_neg h1,if_neg h2,if_pos h3]
 have h3:¬gE a≠0:=by simpa using h
 clear h;refine C8 aM 60 (fun _=>none) (fun bs=>?_);refine I4 rfl rfl (fun h=>?_) (fun h=>?_)
 ·have h4:(gX a).seq<(gX b).seq:=h;refine C8 aM 60 (fun _=>none) (fun bs=>?_);refine D5 tOk hM0 rfl rfl ⟨trivial,trivial⟩ ⟨rfl,rfl,rfl,A6 ?_⟩;unfold nH;rw[if_neg h1,if_neg h2,if_neg h3,if_pos h4]
 ·have h4:¬(gX a).seq<(gX b).seq:=h;refine C8 aM 60 (fun _=>none) (fun bs=>?_);refine D5 tOk hM0 rfl rfl ⟨trivial,trivial⟩ ⟨rfl,rfl,rfl,A6 ?_⟩;unfold nH;rw[if_neg h1,if_neg h2,if_neg h3,if_neg h4]
def A4S:C3
 |[.c (.pv (.lst .byt a)),.c (.pv (.lst .byt b))]=>some ((a.length≤1000000)∧(b.length≤1000000),false,.o 135 .slt (nH a b))
 |_=>none
theorem A8t:E9 Tryz.prog 202 A4S:=by
 intro args pre sh rv h hp;unfold A4S at h;split at h
 ·cases h;obtain⟨ha,hb⟩:=hp;exact B6F _ _ ha hb
 ·cases h
def sB:FuncId→Option C3:=D6 202 A4S A0A
theorem pN:G4 Tryz.prog sB:=B8 A8t vE
theorem C3o {sq st ct sm:Int} (h0:0≤sq∧sq≤4294967295) (h1:0≤st∧st≤4294967295) (h2:0≤ct∧ct≤4294967295) (h3:0≤sm∧sm≤4294967295):gF (slB sq st ct sm)=⟨sq,st,ct,sm⟩:=by
 rw[A8n h0 h1 h2 h3];have g0:=(kF [] (G5 4 false (st.toNat:Nat) 4++G5 4 false (ct.toNat:Nat) 4++G5 4 false (sm.toNat:Nat) 4) 4 false sq.toNat (by omega) (by omega) (by omega)).1;have g4:=(kF (G5 4 false (sq.toNat:Nat) 4) (G5 4 false (ct.toNat:Nat) 4++G5 4 false (sm.toNat:Nat) 4) 4 false st.toNat (by omega) (by omega) (by omega)).1;have g8:=(kF (G5 4 false (sq.toNat:Nat) 4++G5 4 false (st.toNat:Nat) 4) (G5 4 false (sm.toNat:Nat) 4) 4 false ct.toNat (by omega) (by omega) (by omega)).1;have g12:=(kF (G5 4 false (sq.toNat:Nat) 4++G5 4 false (st.toNat:Nat) 4++G5 4 false (ct.toNat:Nat) 4) [] 4 false sm.toNat (by omega) (by omega) (by omega)).1
 have l4:(G5 4 false (sq.toNat:Nat) 4).length=4:=by simp[G5]
 have l8:(G5 4 false (sq.toNat:Nat) 4++G5 4 false (st.toNat:Nat) 4).length=8:=by simp[G5]
 have l12:(G5 4 false (sq.toNat:Nat) 4++G5 4 false (st.toNat:Nat) 4++G5 4 false (ct.toNat:Nat) 4).length=12:=by simp[G5]
 rw[l4]at g4;rw[l8]at g8;rw[l12]at g12;have e0:G5 4 false (sq.toNat:Nat) 4++G5 4 false (st.toNat:Nat) 4++G5 4 false (ct.toNat:Nat) 4++G5 4 false (sm.toNat:Nat) 4=[]++G5 4 false (sq.toNat:Nat) 4++(G5 4 false (st.toNat:Nat) 4++G5 4 false (ct.toNat:Nat) 4++G5 4 false (sm.toNat:Nat) 4):=by simp
 have e4:G5 4 false (sq.toNat:Nat) 4++G5 4 false (st.toNat:Nat) 4++G5 4 false (ct.toNat:Nat) 4++G5 4 false (sm.toNat:Nat) 4=G5 4 false (sq.toNat:Nat) 4++G5 4 false (st.toNat:Nat) 4++(G5 4 false (ct.toNat:Nat) 4++G5 4 false (sm.toNat:Nat) 4):=by simp
 rw[List.append_nil]at g12;generalize hX:G5 4 false (sq.toNat:Nat) 4++G5 4 false (st.toNat:Nat) 4++G5 4 false (ct.toNat:Nat) 4++G5 4 false (sm.toNat:Nat) 4=X at e0 e4 g8 g12;have r0:J0 X 0 4 false=sq:=by
  rw[e0];have g':J0 _ 0 4 false=((sq.toNat:Nat):Int):=g0;exact g'.trans (by omega)
 have r4:J0 X 4 4 false=st:=by
  rw[e4];have g':J0 _ 4 4 false=((st.toNat:Nat):Int):=g4;exact g'.trans (by omega)
 have r8:J0 X 8 4 false=ct:=by
  have g':J0 X 8 4 false=((ct.toNat:Nat):Int):=g8;rw[g'];omega
 have r12:J0 X 12 4 false=sm:=by
  have g':J0 X 12 4 false=((sm.toNat:Nat):Int):=g12;rw[g'];omega
 simp only[gF];rw[r0,r4,r8,r12]
theorem get_put {sq st ct sm:Int} (h:iD sq st ct=true) (hs:0≤sm∧sm≤4294967295):slL sq st ct sm=slB sq st ct sm∧(slL sq st ct sm).length=16∧gE (slL sq st ct sm)=0∧gX (slL sq st ct sm)=⟨sq,st,ct,sm⟩:=by
 have hm:=pL.1 h;have e:slL sq st ct sm=slB sq st ct sm:=by simp[slL,h]
 have hl:=A4R h hs;have hg:=C3o (sq:=sq) (st:=st) (ct:=ct) (sm:=sm) (by omega) (by omega) (by omega) hs;have he:gE (slB sq st ct sm)=0:=by unfold gE;rw[if_pos ⟨hl,by rw[hg];exact h⟩]
 rw[e];exact⟨rfl,hl,he,by simp only[gX,he,if_true,hg]⟩
def A3D (c:Int):Int:=if B3o .u32 c 1=1 then fG .u32 (c / 2 ^ (1:Int).toNat) 2197175160 else c / 2 ^ (1:Int).toNat
def A0B:Nat→Int→Int
 |0,c=>c
 |n+1,c=>A3D (A0B n c)
def wd (k:Nat):Int:=A0B 4 (IntKind.u32.wrap k)
def tbC (f:Nat→Int) (k:Nat):List C:=(List.range 16).map fun j=> .pv (.val (.int .u32 (if j<k then f j else 0)))
def onC (f:Nat→Int) (d s:Int) (z:Int) (k:Nat):List C:= .pv (.val (.int .u32 d)):: .pv (.val (.int .i32 s)):: .pv (.val (.int .u32 z))::tbC f k
theorem iE (n:Int):0≤IntKind.u32.wrap n∧IntKind.u32.wrap n≤4294967295:=by
 rw[IntKind.wrap_u32];omega
theorem B6G {c:Int} (h:0≤c∧c≤4294967295):0≤A3D c∧A3D c≤4294967295:=by
 unfold A3D;split
 ·exact iE _
 ·simp;omega
theorem B6H {c:Int} (h:0≤c∧c≤4294967295):∀n,0≤A0B n c∧A0B n c≤4294967295:=by
 intro n
 induction n with
 |zero=>exact h
 |succ n ih=>exact B6G ih
def bU (b bx:Nat) (cs:List C):List HB:=[.blk b 382 cs,.blk bx 403 [.ptr 0 b 0]]
def sC:D9:=⟨T,aW,H7,A9,27,[],none,.f⟩
theorem B2X:B1 Tryz.prog sC:=⟨O4,E3,A4⟩
theorem H5:F0 Tryz.prog sC:=⟨tOk,B2X⟩
theorem C5C (b bx:Nat) (s:Int) (z:Int):C5 Tryz.prog 274 [.c (.ptr 1 bx 0)] (bU b bx (onC wd 0 s z 0)) (fun _=>True) (fun _:Unit=> .t []) (fun _=>bU b bx (onC wd 0 s z 16)):=by
 refine I6 (E:=sC) Tryz.func274 (fun M0 W hM0=>?_);refine A3 H5 [] (fun bs=>?_);refine V3 (fun k:Nat=>[(0,.c (.ptr 1 bx 0)),(4,int .i64 k)]) (fun k=>[.blk b 382 (onC wd 0 s z k),.blk bx 403 [.ptr 0 b 0]]) (fun k=>k≤16) (fun k=>16-k) [0,1] 0 (Nat.zero_le _) (fun k hk=>?_);refine A3 H5 [] (fun bs=>?_);refine I4 rfl rfl (fun h=>?_) (fun h=>?_)
 ·have hk':k<16:=by omega
  refine A3 H5 [] (fun bs=>?_);refine V3 (fun n:Nat=>[(0,.c (.ptr 1 bx 0)),(1,int .i64 k),(4,int .i64 k),(2,int .u32 (A0B n (IntKind.u32.wrap k))),(9,int .i64 n)]) (fun n=>[.blk b 382 (onC wd 0 s z k),.blk bx 403 [.ptr 0 b 0]]) (fun n=>n≤4) (fun n=>4-n) [0,1] 0 (Nat.zero_le _) (fun n hn=>?_);have hi:=B6H (iE k) n;refine A3 H5 [] (fun bs=>?_);refine I4 rfl rfl (fun h2=>?_) (fun h2=>?_)
  ·have hn':n<4:=by omega
   refine A3 H5 [] (fun bs=>?_);refine C6 rfl rfl (fun h3=>?_) (fun h3=>?_)
   ·refine A3 H5 [] (fun bs=>?_);refine G3 [0,1] (n+1) ⟨hn',by omega⟩ ?wk1
    case wk1=>
     and_intros<;> (first|exact wk_|refine A6 ?_|skip)
     all_goals(simp only[A0B,A3D];rw[if_pos (by simpa using h3)])
   ·refine A3 H5 [] (fun bs=>?_);refine G3 [0,1] (n+1) ⟨hn',by omega⟩ ?wk2
    case wk2=>
     and_intros<;> (first|exact wk_|refine A6 ?_|skip)
     all_goals(simp only[A0B,A3D];rw[if_neg (by simpa using h3)])
  ·have hn':n=4:=by omega
   subst hn';have hc:k=0∨k=1∨k=2∨k=3∨k=4∨k=5∨k=6∨k=7∨k=8∨k=9∨k=10∨k=11∨k=12∨k=13∨k=14∨k=15:=by omega
   rcases hc with rfl|rfl|rfl|rfl|rfl|rfl|rfl|rfl|rfl|rfl|rfl|rfl|rfl|rfl|rfl|rfl
   ·refine A3 H5 [] (fun bs=>?_);exact I0 [0,1] 1 ⟨by decide,by decide⟩
   ·refine A3 H5 [] (fun bs=>?_);exact I0 [0,1] 2 ⟨by decide,by decide⟩
   ·refine A3 H5 [] (fun bs=>?_);exact I0 [0,1] 3 ⟨by decide,by decide⟩
   ·refine A3 H5 [] (fun bs=>?_);exact I0 [0,1] 4 ⟨by decide,by decide⟩
   ·refine A3 H5 [] (fun bs=>?_);exact I0 [0,1] 5 ⟨by decide,by decide⟩
   ·refine A3 H5 [] (fun bs=>?_);exact I0 [0,1] 6 ⟨by decide,by decide⟩
   ·refine A3 H5 [] (fun bs=>?_);exact I0 [0,1] 7 ⟨by decide,by decide⟩
   ·refine A3 H5 [] (fun bs=>?_);exact I0 [0,1] 8 ⟨by decide,by decide⟩
   ·refine A3 H5 [] (fun bs=>?_);exact I0 [0,1] 9 ⟨by decide,by decide⟩
   ·refine A3 H5 [] (fun bs=>?_);exact I0 [0,1] 10 ⟨by decide,by decide⟩
   ·refine A3 H5 [] (fun bs=>?_);exact I0 [0,1] 11 ⟨by decide,by decide⟩
   ·refine A3 H5 [] (fun bs=>?_);exact I0 [0,1] 12 ⟨by decide,by decide⟩
   ·refine A3 H5 [] (fun bs=>?_);exact I0 [0,1] 13 ⟨by decide,by decide⟩
   ·refine A3 H5 [] (fun bs=>?_);exact I0 [0,1] 14 ⟨by decide,by decide⟩
   ·refine A3 H5 [] (fun bs=>?_);exact I0 [0,1] 15 ⟨by decide,by decide⟩
   ·refine A3 H5 [] (fun bs=>?_);exact I0 [0,1] 16 ⟨by decide,by decide⟩
 ·have hk':k=16:=by omega
  subst hk';refine A3 H5 [] (fun bs=>?_);exact Y6 H5 () trivial [0,1]
section
open Go.RowKit
theorem disable (w:World):(callFunc 316 #[]).run Tryz.prog w= .ok (.value (.tuple #[])) w:=run_call_mark0 Tryz.func316 (by kernel_rfl) (by kernel_rfl) (by kernel_rfl) .disable (by kernel_rfl) w
theorem enable (w:World):(callFunc 318 #[]).run Tryz.prog w= .ok (.value (.tuple #[])) w:=run_call_mark0 Tryz.func318 (by kernel_rfl) (by kernel_rfl) (by kernel_rfl) .enable (by kernel_rfl) w
theorem acquire (a:Addr) (w:World):(callFunc 319 #[.pointer (some a)]).run Tryz.prog w= .ok (.value (.tuple #[])) w:=run_call_marked Tryz.func319 (by kernel_rfl) (by kernel_rfl) (by kernel_rfl) .acquire (by kernel_rfl) a w
theorem releaseMerge (a:Addr) (w:World):(callFunc 321 #[.pointer (some a)]).run Tryz.prog w= .ok (.value (.tuple #[])) w:=run_call_marked Tryz.func321 (by kernel_rfl) (by kernel_rfl) (by kernel_rfl) .releaseMerge (by kernel_rfl) a w
theorem A0C (a:Addr) (x:Value) (u:FrameMode) (w:World) (hc:w.cell? a=some x) (hz:w.frozen? a=false):
 CallsD Tryz.prog 306 #[.pointer (some a),.bool true] u w fun e u' w'=>u'=u∧(e= .returned (.tuple #[])∧w'=w.drew.setCell a (.int .u32 1)):=by
 have hc':w.drew.cell? a=some x:=by go_simp
 have hz':w.drew.frozen? a=false:=by go_simp
 have hst:=run_call_store (P:=Tryz.prog) Tryz.func313 (by kernel_rfl) (by kernel_rfl) (by kernel_rfl) (by kernel_rfl) (k:= .u32) (y:=1) hc' hz'
 go_enter_d Tryz.func306,Tryz.ntmps306
 go_wp2
 go_region_calls
 all_goals(go_end0;exact⟨rfl,rfl⟩)
set_option maxRecDepth 100000 in
set_option maxHeartbeats 1600000 in
theorem vU (a:Addr) (u:FrameMode) (w:World) (hc:w.cell? a=some (.int .i32 1)) (hz:w.frozen? a=false):
 CallsD Tryz.prog 305 #[.pointer (some a)] u w fun e u' w'=>u'=u∧(e= .returned (.tuple #[])∧w'=w.setCell a (.int .i32 0)):=by
 have hd:=disable;have he:=enable;have hr:=releaseMerge;have hadd:=run_call_add (P:=Tryz.prog) Tryz.func322 (by kernel_rfl) (by kernel_rfl) (by kernel_rfl) .i32 (by kernel_rfl) (y:= -1) (s:=0) hc hz (by simp[go_sem];rfl);have hcv:=run_convert_to_unsafe (P:=Tryz.prog) (src:=445) (dst:=449) Tryz.underlying445 Tryz.underlying449 (by kernel_rfl) hc
 go_enter_d Tryz.func305,Tryz.ntmps305
 go_wp2
 go_end0
 go_wp2
 go_end0
 exact⟨rfl,rfl⟩
set_option maxRecDepth 100000 in
set_option maxHeartbeats 1600000 in
theorem B2Y (a:Addr) (w:World) (hc:w.cell? a=some (.int .i32 0)) (hz:w.frozen? a=false):
 Calls Tryz.prog 304 #[.pointer (some a)] w fun e w'=>e= .returned (.tuple #[])∧w'=w.setCell a (.int .i32 1):=by
 have hd:=disable;have he:=enable;have ha:=acquire;have hcas:=run_call_cas_hit (P:=Tryz.prog) Tryz.func317 (by kernel_rfl) (by kernel_rfl) (by kernel_rfl) .i32 (by kernel_rfl) (y:=1) hc hz;have hc':(w.setCell a (.int .i32 1)).cell? a=some (.int .i32 1):=World.cell?_setCell_same w a _ hc;have hcv:=run_convert_to_unsafe (P:=Tryz.prog) (src:=445) (dst:=449) Tryz.underlying445 Tryz.underlying449 (by kernel_rfl) hc'
 go_enter Tryz.func304,Tryz.ntmps304
 go_wp2
 first|go_end0|(simp only[Exit.inBlock,Exit.then];refine bodyPost_ret (results_none rfl _ _ _) rfl ?_)|refine bodyPost_ret (results_none rfl _ _ _) rfl ?_
 go_wp2
 go_end0
 exact⟨rfl,rfl⟩
structure C2W (b:Nat) (w1:World):Prop where
 c0:w1.cell? ⟨b,0,none⟩=some (.int .u32 0)
 c1:w1.cell? ⟨b,1,none⟩=some (.int .i32 1)
 z0:w1.frozen? ⟨b,0,none⟩=false
 z1:w1.frozen? ⟨b,1,none⟩=false
set_option maxRecDepth 100000 in
set_option maxHeartbeats 1600000 in
theorem B6I (b bx:Nat) (w:World) (Post:World→Prop) (hP:∀w1,Post w1→C2W b w1)
 (h0:w.cell? ⟨b,0,none⟩=some (.int .u32 0)) (h1:w.cell? ⟨b,1,none⟩=some (.int .i32 0)) (f0:w.frozen? ⟨b,0,none⟩=false) (f1:w.frozen? ⟨b,1,none⟩=false)
 (hf:Calls Tryz.prog 274 #[.pointer (some ⟨bx,0,none⟩)] (w.setCell ⟨b,1,none⟩ (.int .i32 1)) fun e w'=>e= .returned (.tuple #[])∧Post w'):
 Calls Tryz.prog 291 #[.pointer (some ⟨b,0,none⟩),.func (.func 274) #[] #[.pointer (some ⟨bx,0,none⟩)]] w fun e w'=>e= .returned (.tuple #[])∧
  ∃w1,Post w1∧w'=(w1.drew.setCell ⟨b,0,none⟩ (.int .u32 1)).setCell ⟨b,1,none⟩ (.int .i32 0):=by
 have hl:=run_call_load (P:=Tryz.prog) Tryz.func303 (by kernel_rfl) (by kernel_rfl) (by kernel_rfl) .u32 (by kernel_rfl) (w:=w.setCell ⟨b,1,none⟩ (.int .i32 1)) (a:=⟨b,0,none⟩) (x:=0) ((World.cell?_setCell_other _ ⟨b,1,none⟩ ⟨b,0,none⟩ _ (by simp)).trans h0);have hnot:∀(x:Bool) (w:World),(Op.unary .not (.bool x)).run Tryz.prog w= .ok (.bool (!x)) w:=fun _ _=>rfl
 go_enter_defers Tryz.func291,Tryz.ntmps291
 go_wp2_with (first|(go_at_call 304;refine(B2Y ⟨b,1,none⟩ _ (by simpa using h1) (by simpa using f1)).mono ?_;rintro e w' ⟨rfl,rfl⟩)|(go_at_call 274;refine hf.mono ?_;rintro e w1 ⟨rfl,hp⟩)|(go_at_call 290;go_in))
 go_wp2
 have hq:=hP _ hp;refine leaves_cons (f:=306) (args:= #[.pointer (some ⟨b,0,none⟩),.bool true]) (by simp) (by simp[go_sem]) ?_;refine(A0C ⟨b,0,none⟩ (.int .u32 0) .returning _ hq.c0 hq.z0).mono ?_
 rintro e u' w'' ⟨rfl,rfl,rfl⟩
 refine leaves_cons (f:=305) (args:= #[.pointer (some ⟨b,1,none⟩)]) (by simp[settle]) (by simp[go_sem]) ?_;refine(vU ⟨b,1,none⟩ _ _ ?_ (by simp[hq.z1])).mono ?_
 ·refine(World.cell?_setCell_other _ ⟨b,0,none⟩ ⟨b,1,none⟩ _ (by simp)).trans ?_;rw[World.cell?_drew];exact hq.c1
 rintro e u' w'' ⟨rfl,rfl,rfl⟩
 simp[Leaves,settle,results,Tryz.results291];exact⟨_,hp,rfl⟩
set_option maxRecDepth 100000 in
set_option maxHeartbeats 1600000 in
theorem B6J (b bx:Nat) (w:World) (Post:World→Prop) (hP:∀w1,Post w1→C2W b w1)
 (h0:w.cell? ⟨b,0,none⟩=some (.int .u32 0)) (h1:w.cell? ⟨b,1,none⟩=some (.int .i32 0)) (f0:w.frozen? ⟨b,0,none⟩=false) (f1:w.frozen? ⟨b,1,none⟩=false)
 (hf:Calls Tryz.prog 274 #[.pointer (some ⟨bx,0,none⟩)] (w.setCell ⟨b,1,none⟩ (.int .i32 1)) fun e w'=>e= .returned (.tuple #[])∧Post w'):
 Calls Tryz.prog 273 #[.pointer (some ⟨b,0,none⟩),.func (.func 274) #[] #[.pointer (some ⟨bx,0,none⟩)]] w fun e w'=>e= .returned (.tuple #[])∧
  ∃w1,Post w1∧w'=(w1.drew.setCell ⟨b,0,none⟩ (.int .u32 1)).setCell ⟨b,1,none⟩ (.int .i32 0):=by
 have hl:=run_call_load (P:=Tryz.prog) Tryz.func303 (by kernel_rfl) (by kernel_rfl) (by kernel_rfl) .u32 (by kernel_rfl) h0;have hnot:∀(x:Bool) (w:World),(Op.unary .not (.bool x)).run Tryz.prog w= .ok (.bool (!x)) w:=fun _ _=>rfl
 go_enter Tryz.func273,Tryz.ntmps273
 go_wp2_with (first|(go_at_call 291;refine(B6I b bx _ Post hP h0 h1 f0 f1 hf).mono ?_;rintro e w' ⟨rfl,hw⟩)|(go_at_call 290;go_in))
 go_end0
 exact⟨rfl,hw⟩
theorem C0c (a:Addr) (d:Int) (hd:¬d=0) (fv:Value) (w:World) (h0:w.cell? a=some (.int .u32 d)):
 Calls Tryz.prog 273 #[.pointer (some a),fv] w fun e w'=>e= .returned (.tuple #[])∧w'=w:=by
 have hl:=run_call_load (P:=Tryz.prog) Tryz.func303 (by kernel_rfl) (by kernel_rfl) (by kernel_rfl) .u32 (by kernel_rfl) h0;have hnot:∀(x:Bool) (w:World),(Op.unary .not (.bool x)).run Tryz.prog w= .ok (.bool (!x)) w:=fun _ _=>rfl
 have hd':(d !=0)=true:=by simp[hd]
 go_enter Tryz.func273,Tryz.ntmps273
 go_wp2
 go_end0
 exact⟨rfl,rfl⟩
end
section
open Go.RowKit
section
variable {B : Nat → Prop} {W w w' : World} {H : Nat → Option HB} {M : B5}
theorem A4T (hS:E1 B W H M w) {n b o:Nat} {ty:TypeId} {cs:List C} (hn:H n=some (.blk b ty cs)) (ho:o<cs.length) {c:PV} {v:Value} (hv:R M c v):E1 B W (D4 H n (some (.blk b ty (cs.set o (.pv c))))) M (w.setCell ⟨b,o,none⟩ v):=by
 obtain⟨q1,q2,us,q3,q4⟩:=hS.ok n _ hn;have hul:o<us.size:=by have:=q4.1;simp at this;omega
 rw[setCell_eq_setRow w b o us ty (0,0) v q3];refine hS.step (row:=some b) (I8 w b _) (fun b' hb'=>by cases hb';exact⟨q1,q2⟩) (nn:=n) (xx:= .blk b ty (cs.set o (.pv c))) (fun m x hm hx=>?_) (B4 _ _ _) ⟨q1,q2,us.setIfInBounds o v,?_,?_⟩ (fun b' hb'=> .inr hb')
 ·rw[B9 _ _ hm]at hx;exact⟨hx,fun b' hb'=>by cases hb';exact hS.inj n m _ x b (fun e=>hm e.symm) hn hx rfl⟩
 ·exact setRow_heap w b _ _ _ _ q3
 ·refine⟨by simpa using q4.1,fun j c' u e1 e2=>?_⟩;rw[List.getElem?_set]at e1;simp only[Array.toList_setIfInBounds,List.getElem?_set]at e2;by_cases hj:o=j
  ·subst hj;have:o<us.toList.length:=by simpa using hul
   rw[if_pos rfl,if_pos ho]at e1;rw[if_pos rfl,if_pos this]at e2;cases e2;cases e1;exact .pv hv
  ·simp only[hj,if_false]at e1 e2;exact q4.2 j c' u e1 e2
theorem C3p (hS:E1 B W H M w):E1 B w H M w:=⟨.refl B w,hS.base,hS.mem,hS.ok,hS.inj⟩
theorem B6K (hS:E1 B w' H M w) (h:K0 B W w'):E1 B W H M w:=⟨h.trans hS.below,hS.base,hS.mem,hS.ok,hS.inj⟩
theorem kH {b o:Nat} {ty:TypeId} {cs:List C} (h:X2 M B w (.blk b ty cs)) {v:Value} (hc:cs[o]? =some (.pv (.val v))):w.cell? ⟨b,o,none⟩=some v∧w.frozen? ⟨b,o,none⟩=false:=by
 obtain⟨q1,q2,us,q3,q4⟩:=h;have hol:o<cs.length:=(gS_.1 hc).1;have hul:o<us.size:=by have:=q4.1;simp at this;omega
 have h0:us[o]? =some us[o]:=Array.getElem?_eq_getElem hul;have h1:=q4.2 o _ us[o] hc (by rw[Array.getElem?_toList];exact h0);cases h1 with|pv r=>
 rw[r.val_eq]at h0;exact⟨by simp[World.cell?,q3,h0],by simp[World.frozen?,q3]⟩
end
theorem A4U {b bx:Nat} {cs cs':List C}:D4 (X0 (bU b bx cs)) 0 (some (.blk b 382 cs'))=X0 (bU b bx cs'):=by
 funext n
 match n with
 |0=>rfl
 |1=>rfl
 |n+2=>rfl
theorem C0d {b bx k:Nat} {cs:List C}:(∀(j:Nat) (h:HB),(bU b bx cs)[j]? =some h→¬h.has k)↔(b≠k∧bx≠k):=by
 constructor
 ·intro h;exact⟨fun e=>h 0 _ rfl (congrArg some e),fun e=>h 1 _ rfl (congrArg some e)⟩
 ·intro⟨h1,h2⟩ j h e hb
  match j,e with
  |0,e=>cases e;exact h1 (Option.some.inj hb)
  |1,e=>cases e;exact h2 (Option.some.inj hb)
theorem World.setCell_heap_size (w:World) (a:Addr) (v:Value):(w.setCell a v).heap.size=w.heap.size:=by
 simp[World.setCell]
def C2X (f:Nat→Int) (dn:Bool):List C:=match dn with|true=>onC f 1 0 0 16|false=>onC f 0 0 0 0
theorem C2Y (f:Nat→Int) (hf:f=wd) (b bx:Nat) (dn:Bool):C5 Tryz.prog 273 [.c (.ptr 0 b 0),.c (.clo 274 [.ptr 1 bx 0])] (bU b bx (C2X f dn))
 (fun _:Unit=>True) (fun _=> .t []) (fun _=>bU b bx (onC f 1 0 0 16)):=by
 subst hf;refine⟨⟨_,Tryz.func273,rfl,by decide⟩,fun M w vs hS hra=>?_⟩;obtain⟨vs⟩:=vs;obtain⟨h1,h2⟩:=hra
 match vs,h1,h2 with
 |[u0,u1],h1,h2=>
  have e0:=h2 0 _ u0 rfl rfl;have e1:=h2 1 _ u1 rfl rfl;cases e0 with|c e0=>cases e0 with|ptr=>
  cases e1 with|c e1=>
  cases e1 with| @clo _ _ us hs hh=>
  obtain⟨us⟩:=us
  match us,hs,hh with
  |[p],hs,hh=>
  have hp:=hh 0 _ p rfl rfl;cases hp with|ptr=>
  cases dn with
  |true=>
   have hb0:=kH (o:=0) (hS.ok 0 _ rfl) rfl;refine(C0c ⟨b,0,none⟩ 1 (by decide) _ w hb0.1).mono fun e w' ⟨he,hw⟩=>⟨_,M,(),he,B5.ext_refl _ _,trivial,.t rfl (by simp),?_⟩
   subst hw;exact hS
  |false=>
   change E1 (fH w (bU b bx (onC wd 0 0 0 0))) w (X0 (bU b bx (onC wd 0 0 0 0))) M w at hS
   have hb0:=kH (o:=0) (hS.ok 0 _ rfl) rfl;have hb1:=kH (o:=1) (hS.ok 0 _ rfl) rfl;have k1:E1 (fH w (bU b bx (onC wd 0 0 0 0))) w (X0 (bU b bx (onC wd 0 1 0 0))) M (w.setCell ⟨b,1,none⟩ (.int .i32 1)):=by
    have:=A4T hS (n:=0) (o:=1) rfl (by simp[onC,tbC]) (c:= .val (.int .i32 1)) (v:= .int .i32 1) (.val rfl)
    rwa [A4U]at this
   have hfr:fH (w.setCell ⟨b,1,none⟩ (.int .i32 1)) (bU b bx (onC wd 0 1 0 0))=fH w (bU b bx (onC wd 0 0 0 0)):=by
    funext k
    simp only[fH,C0d,World.setCell_heap_size]
   have k2:=C3p k1;rw[←hfr]at k2;have hc:=(C5C b bx 1 0).2 M _ #[.pointer (some ⟨bx,0,none⟩)] k2 ⟨rfl,fun j a v q1 q2=>by
    match j,q1,q2 with
    |0,q1,q2=>cases q1;cases q2;exact .c .ptr⟩
   rw[hfr]at hc;refine(B6J b bx w (fun w1=>∃M',B5.ext (fH w (bU b bx (onC wd 0 0 0 0))) M M'∧E1 (fH w (bU b bx (onC wd 0 0 0 0))) (w.setCell ⟨b,1,none⟩ (.int .i32 1)) (X0 (bU b bx (onC wd 0 1 0 16))) M' w1) (fun w1 ⟨M',_,hq⟩=>?_) hb0.1 hb1.1 hb0.2 hb1.2 (hc.mono fun e w1 ⟨v,M',_,he,hm,_,hv,hq⟩=>⟨?_,M',hm,hq⟩)).mono fun e w' ⟨he,w1,⟨M',hm,hq⟩,hw⟩=>⟨_,M',(),he,hm,trivial,.t rfl (by simp),?_⟩
   ·have c0:=kH (o:=0) (hq.ok 0 _ rfl) rfl;have c1:=kH (o:=1) (hq.ok 0 _ rfl) rfl;exact⟨c0.1,c1.1,c0.2,c1.2⟩
   ·cases hv with| @t _ us hs _=>
    obtain⟨us⟩:=us
    match us,hs with
    |[],_=>exact he
   ·have h0:K0 (fH w (bU b bx (onC wd 0 0 0 0))) w (w.setCell ⟨b,1,none⟩ (.int .i32 1)):=k1.below;have q1:=A4T (hq.drew') (n:=0) (o:=0) rfl (by simp[onC,tbC]) (c:= .val (.int .u32 1)) (v:= .int .u32 1) (.val rfl);rw[A4U]at q1;have q2:=A4T q1 (n:=0) (o:=1) rfl (by simp[onC,tbC]) (c:= .val (.int .i32 0)) (v:= .int .i32 0) (.val rfl);rw[A4U]at q2;rw[hw];exact B6K q2 h0
def B2Z (f:Nat→Int) (c:Int):Int:=f (c%16).toNat
def C0e (f:Nat→Int) (c:Int):Int:=fG .u32 (B2Z f c) (c / 2 ^ (4:Int).toNat)
def C5D (f:Nat→Int) (c:Int) (x:UInt8):Int:=C0e f (C0e f (fG .u32 c (IntKind.u32.wrap x.toNat)))
def A2M (f:Nat→Int) (c:Int) (l:Bs) (n:Nat):Int:=(l.take n).foldl (C5D f) c
theorem B6L {f:Nat→Int} {c d s z:Int} (hc:0≤c∧c≤4294967295):(onC f d s z 16)[3+(c%16).toNat*1]? =some (.pv (.val (.int .u32 (B2Z f c)))):=by
 have h:(c%16).toNat<16:=by omega
 rw[show 3+(c%16).toNat*1=(c%16).toNat+1+1+1 by omega];simp only[onC,List.getElem?_cons_succ,tbC,List.getElem?_map,List.getElem?_range h,Option.map_some,B2Z,if_pos h]
def C0f (f:Nat→Int) (b:Nat):Ob Bool:=⟨fun _=>True,fun dn=>[.blk b 382 (C2X f dn)]⟩
abbrev C3q (f:Nat→Int) (b:Nat) (S:Nat→Prop):HB:=ThO (C0f f b) S
def sD:D9:=⟨T,aW,H7,A9,17,[],none,.f⟩
theorem sE:B1 Tryz.prog sD:=⟨O4,E3,A4⟩
theorem X5:F0 Tryz.prog sD:=⟨tOk,sE⟩
theorem C2Z (f:Nat→Int) (hf:f=wd) (b:Nat) (S:Nat→Prop) (c:Int) (hc:0≤c∧c≤4294967295):C5 Tryz.prog 254 [.c (.ptr 0 b 0),int .u32 c] [C3q f b S] (fun _=>True) (fun _:Nat→Prop=>int .u32 (B2Z f c)) (fun S=>[C3q f b S]):=by
 refine I6 (E:=sD) Tryz.func254 (fun M0 W hM0=>?_);refine N0 0 (fun dn _=>?_);cases dn with
 |true=>
  refine A3 X5 [] (fun bs=>?_);refine A5 [0,1] (C2Y f hf b _ true) (fun _ _=>?_);refine C8 X5 3 (fun _=>none) (fun bs=>?_);refine C2O tOk sE 6 (fun _=>none) rfl rfl rfl (fun bs=>rfl) (fun bs=>?_) (fun bs=>?_)
  ·and_intros<;> (intros;first|exact U0|omega|skip)
  refine C2S 0 (.pv (.val (.int .u32 (B2Z f c)))) X5 (B6L hc) ?_;refine A3 X5 [] (fun bs=>?_);refine J8 0 (C0f f b) [0] true trivial (fun S'=>?_);exact B3 X5 S' trivial [0]
 |false=>
  refine A3 X5 [] (fun bs=>?_);refine A5 [0,1] (C2Y f hf b _ false) (fun _ _=>?_);refine C8 X5 3 (fun _=>none) (fun bs=>?_);refine C2O tOk sE 6 (fun _=>none) rfl rfl rfl (fun bs=>rfl) (fun bs=>?_) (fun bs=>?_)
  ·and_intros<;> (intros;first|exact U0|omega|skip)
  refine C2S 0 (.pv (.val (.int .u32 (B2Z f c)))) X5 (B6L hc) ?_;refine A3 X5 [] (fun bs=>?_);refine J8 0 (C0f f b) [0] true trivial (fun S'=>?_);exact B3 X5 S' trivial [0]
theorem C0g (f:Nat→Int) (c:Int):0≤C0e f c∧C0e f c≤4294967295:=iE _
theorem C0h (f:Nat→Int) {c:Int} (h:0≤c∧c≤4294967295) (l:Bs):∀n,0≤A2M f c l n∧A2M f c l n≤4294967295:=by
 intro n;unfold A2M;generalize l.take n=m
 induction m generalizing c with
 |nil=>exact h
 |cons x m ih=>exact ih (C0g f _)
theorem B2a (f:Nat→Int) (c:Int) {l:Bs} {n:Nat} (h:n<l.length) (d:UInt8):A2M f c l (n+1)=C5D f (A2M f c l n) (l.getD n d):=by
 unfold A2M;have e:l.take (n+1)=l.take n++[l.getD n d]:=by rw[List.take_add_one,List.getD,gE_ h];rfl
 rw[e,List.foldl_append];rfl
def H4 (f:Nat→Int) (s:Int) (b:Bs):Int:=fG .u32 IntKind.u32.max (A2M f (fG .u32 IntKind.u32.max s) b b.length)
theorem bK (f:Nat→Int) (s:Int) (b:Bs):0≤H4 f s b∧H4 f s b≤4294967295:=iE _
def A0D:D9:=⟨T,sB,A7,A9,34,[],none,.t⟩
theorem B6M:B1 Tryz.prog A0D:=⟨pN,A2,A4⟩
theorem eT:F0 Tryz.prog A0D:=⟨tOk,B6M⟩
theorem C0i (sum:Int) (b:List UInt8) (hb:b.length≤1000000000):aA Tryz.prog 207 false [int .u32 sum,lst .byt b] (.x (.c (.val (.int .u32 (H4 wd sum b))))):=by
 refine cJ (E:=A0D) Tryz.func207 (fun M0 W hM0=>?_);obtain⟨f,hf⟩:∃f,f=wd:=⟨_,rfl⟩
 rw[show H4 wd sum b=H4 f sum b by rw[hf]];refine A3 eT [] (fun bs=>?_);refine C2T ?_;refine A3 eT [] (fun bs=>?_);refine J8 0 (C0f f _) [0] false trivial (fun S1=>?_);refine V3 (fun p:Nat×Nat×(Nat→Prop)=>[(1,lst .byt b),(5,.c (.ptr 0 p.2.1 0)),(6,int .u32 (A2M f (fG .u32 IntKind.u32.max sum) b p.1)),(11,lst .byt b),(12,int .i64 b.length),(13,int .i64 p.1)]) (fun p=>[C3q f p.2.1 p.2.2]) (fun p=>p.1≤b.length) (fun p=>b.length-p.1) [0] (0,_,S1) (Nat.zero_le _) (fun p hp=>?_);obtain⟨i,bb,S⟩:=p;simp only at hp;refine A3 eT [] (fun bs=>?_);refine I4 rfl rfl (fun hk=>?_) (fun hk=>?_)
 ·have hk':i<b.length:=by omega
  refine A3 eT [] (fun bs=>?_);refine A5 [0] (C2Z f hf bb S (fG .u32 (A2M f (fG .u32 IntKind.u32.max sum) b i) (IntKind.u32.wrap (b.getD i LK.byt.dft).toNat)) (iE _)) (fun S2 _=>?_);refine A3 eT [] (fun bs=>?_);refine A5 [0] (C2Z f hf bb S2 _ (iE _)) (fun S3 _=>?_);refine A3 eT [] (fun bs=>?_);refine G3 [0] (i+1,bb,S3) ⟨hk',by simp only;omega⟩ ?wk1
  case wk1=>
   and_intros<;> (first|exact wk_|refine A6 ?_|skip)
   all_goals(rw[B2a f _ hk' LK.byt.dft];rfl)
 ·have hk':i=b.length:=by omega
  subst hk';refine A3 eT [] (fun bs=>?_);refine C2T ?_;refine A3 eT [] (fun bs=>?_);exact D5 tOk hM0 rfl rfl ⟨trivial,trivial⟩ ⟨rfl,rfl⟩
def A8u:C3
 |[.c (.pv (.val (.int .u32 sum))),.c (.pv (.lst .byt b))]=>some ((b.length≤1000000000),false,.x (.c (.val (.int .u32 (H4 wd sum b)))))
 |_=>none
theorem B2b:E9 Tryz.prog 207 A8u:=by
 intro args pre sh rv h hp;unfold A8u at h;split at h
 ·cases h;have hb:=hp;exact C0i _ _ hb
 ·cases h
def A0E:FuncId→Option C3:=D6 207 A8u sB
theorem vF:G4 Tryz.prog A0E:=B8 B2b pN
def A0F:D9:=⟨T,A0E,A7,A9,5,[],none,.t⟩
theorem B6N:B1 Tryz.prog A0F:=⟨vF,A2,A4⟩
theorem C0j:F0 Tryz.prog A0F:=⟨tOk,B6N⟩
theorem C0k (b:List UInt8) (hb:b.length≤1000000000):aA Tryz.prog 120 false [lst .byt b] (.x (.c (.val (.int .u32 (H4 wd 0 b))))):=by
 refine cJ (E:=A0F) Tryz.func120 (fun M0 W hM0=>?_);refine A3 C0j [] (fun bs=>?_);exact D5 tOk hM0 rfl rfl ⟨trivial,trivial⟩ ⟨rfl,rfl⟩
def A8v:C3
 |[.c (.pv (.lst .byt b))]=>some ((b.length≤1000000000),false,.x (.c (.val (.int .u32 (H4 wd 0 b)))))
 |_=>none
theorem B2c:E9 Tryz.prog 120 A8v:=by
 intro args pre sh rv h hp;unfold A8v at h;split at h
 ·cases h;have hb:=hp;exact C0k _ hb
 ·cases h
def aN:FuncId→Option C3:=D6 120 A8v A0E
theorem Q8:G4 Tryz.prog aN:=B8 B2c vF
end
end
end Go.Proofs.YtgmeedgkjlfpeaaGreat
