/-
  The program library and the walks of this claim, part 2 of 6.
-/
import Derived.Test.YtgmeedgkjlfpeaaGreatQ1
import Derived.OpenShut
import Derived.WalkKit
import Derived.Maps.RangeRun
set_option linter.unusedSimpArgs false
set_option linter.unusedVariables false
set_option maxHeartbeats 4000000
namespace Go.Mt
open Go.RowKit
noncomputable section
def lft:Code→Code| .seq x _=>x|_=> .skip
def jQ:Code→Code| .seq _ y=>y|_=> .skip
def bod:Code→Code| .block _ c=>c| .loop c=>c| .scope c=>c|_=> .skip
def thn:Code→Code| .cond _ x _=>x|_=> .skip
def els:Code→Code| .cond _ _ y=>y|_=> .skip
def cnd:Code→Option Operand| .cond c _ _=>some c|_=>none
def H6:Code→List Oper| .region _ ops _=>ops.toList|_=>[]
def N8 (f:Func):Code:=f.body.getD .skip
inductive X8 where
 |code (c:Code)
 |ops (all:List Oper) (i:Nat)
 |blk (id:Nat)
 |lp (J:Act→World→Prop)
def cwp (ro:Option Nat) (P:Program) (c:Code) (Q:Exit→Act→World→Prop) (a:Act) (w:World):Prop:=c.wpIn (fce ro) 0 P Q a w
def C2L:Op→Bool
 | .defer _=>true
 |_=>false
def ndB:List Oper→Bool
 |[]=>true
 |o::l=>match C2L o.op with
  |true=>false
  |false=>ndB l
theorem B4M {l:List Oper} (h:ndB l=true):∀o,o∈l→∀c,o.op≠ .defer c:=by
 induction l with
 |nil=>intro o ho;cases ho
 |cons o l ih=>
  intro o' ho c;simp only[ndB]at h;cases hd:C2L o.op with
  |true=>rw[hd]at h;cases h
  |false=>
   rw[hd]at h;rcases List.mem_cons.1 ho with rfl|ho
   ·intro e;rw[e]at hd;cases hd
   ·exact ih h o' ho c
theorem A7s {ro:Option Nat} {P:Program} {Q:Exit→Act→World→Prop} {a:Act} {w:World} {id:Nat} {l:List Oper} (hnd:ro=none∨ndB l=true) (h:wA ro P l.toArray Q l a w):cwp ro P (Code.region id l.toArray false) Q a w:=by
 cases ro with
 |none=>exact wpIn_wide.2 (wp_region_lit h)
 |some r=>exact wpIn_region_lit (h (B4M (hnd.resolve_left (by simp))))
def after (ro:Option Nat) (P:Program) (Q:Exit→Act→World→Prop):List X8→Exit→Act→World→Prop
 |[],e,a,w=>Q e a w
 | .code c::k,e,a,w=>match e with
  | .normal=>cwp ro P c (after ro P Q k) a w
  |e=>after ro P Q k e a w
 | .ops all i::k,e,a,w=>match e with
  | .normal=>wA ro P all.toArray (after ro P Q k) (Q6 i all) a w
  |e=>after ro P Q k e a w
 | .blk id::k,e,a,w=>match e with
  | .exit id'=>if id'=id then after ro P Q k .normal a w else after ro P Q k (.exit id') a w
  |e=>after ro P Q k e a w
 | .lp J::k,e,a,w=>match e with
  | .normal=>J a w
  |e=>after ro P Q k e a w
def A2d (id:Nat):List X8→Option (List X8)
 |[]=>none
 | .blk id'::k=>match Nat.beq id id' with
  |true=>some k
  |false=>A2d id k
 |_::k=>A2d id k
def St.strip (st:St):St:=match st with
 |⟨f,H,nx⟩=>⟨fun s=>match f s with
  |some (.u x)=>some (.u x)
  |_=>none,H,nx⟩
inductive RS where
 |mk (k:List X8) (st:St) (ob:Prop)
 |bad
def RS.k:RS→List X8| .mk k _ _=>k| .bad=>[]
def RS.st:RS→St| .mk _ st _=>st| .bad=>⟨fun _=>none,fun _=>none,0⟩
def RS.ob:RS→Prop| .mk _ _ ob=>ob| .bad=>False
def run (E:D9) (kn:Nat→Option Bool):Nat→List X8→St→(Nat→Nat→Value)→RS
 |0,k,st,_=>RS.mk k st True
 |_+1,[],st,_=>RS.mk [] st True
 |_+1,.lp J::k,st,_=>RS.mk (.lp J::k) st True
 |n+1,.blk _::k,st,bs=>run E kn n k st bs
 |n+1,.ops all i::k,st,bs=>match K8 E kn all (C7 all all) (Q6 i all) i st (bs 0)with
  | .mk rest i' st' ob=>match rest with
   |[]=>match run E kn n k st'.strip (fun m=>bs (m+1))with
    | .mk k' st'' ob'=> .mk k' st'' (ob∧ob')
    | .bad=> .bad
   |_::_=> .mk (.ops all i'::k) st' ob
  | .bad=> .bad
 |n+1,.code c::k,st,bs=>match c with
  | .skip=>run E kn n k st bs
  | .seq _ _=>run E kn n (.code (lft c):: .code (jQ c)::k) st bs
  | .block id _=>run E kn n (.code (bod c):: .blk id::k) st bs
  | .region _ _ false=>match E.ro with
   |none=>run E kn n (.ops (H6 c) 0::k) st bs
   |some _=>match ndB (H6 c)with
    |true=>run E kn n (.ops (H6 c) 0::k) st bs
    |false=>RS.mk (.code c::k) st True
  | .exit id=>match A2d id k with
   |some k'=>run E kn n k' st bs
   |none=>RS.mk (.code c::k) st True
  | .label _=>run E kn n k st bs
  |_=>RS.mk (.code c::k) st True
def A2e:List X8→List Oper
 | .ops all _::_=>all
 |_=>[]
def hdI:List X8→Nat
 | .ops _ i::_=>i
 |_=>0
def G (P:Program) (E:D9) (B:Nat→Prop) (W:World) (M0:B5) (Q:Exit→Act→World→Prop) (k:List X8) (st:St):Prop:=
 ∀M a w,V1 E.N E.mrk B W M0 (A2e k) (C7 (A2e k) (A2e k)) (hdI k) st M a w→after E.ro P Q k .normal a w
section
variable {P : Program} {E : D9} {B : Nat → Prop} {W : World} {M0 : B5} {Q : Exit → Act → World → Prop} {k : List X8} {st : St} {M : B5} {a : Act} {w : World} {N : Nat} {mrk : MK}
theorem A3U {kn:Nat→Option Bool} {ops:List Oper} {rs:List (Nat×Nat)}:∀(l:List Oper) (i:Nat) (st:St) (bs:Nat→Value),l=Q6 i ops→(K8 E kn ops rs l i st bs).rest=Q6 (K8 E kn ops rs l i st bs).i ops:=by
 intro l
 induction l with
 |nil=>intro i st bs h;exact h
 |cons o l ih=>
  intro i st bs h;obtain⟨f,H,nx⟩:=st;simp only[K8];cases hs:O0 E kn ops rs i f H nx o (bs 0)with
  |none=>exact h
  |some r=>
   obtain⟨st',ob⟩:=r;have:=ih (i+1) st' (fun n=>bs (n+1)) (by
    rw[Q0]at h⊢;have:=congrArg List.tail h;simpa[List.tail_drop]using this)
   simp only;cases hr:K8 E kn ops rs l (i+1) st' (fun n=>bs (n+1))with
   |mk r i' st'' ob'=>rw[hr]at this;exact this
   |bad=>rw[hr]at this;exact this
theorem V1.strip {ops:List Oper} {rs:List (Nat×Nat)} {i:Nat} (hS:V1 N mrk B W M0 ops rs i st M a w):V1 N mrk B W M0 [] [] 0 st.strip M a w:=by
 obtain⟨f,H,nx⟩:=st;refine⟨hS.h,hS.old,hS.d,hS.n,fun s e h=>?_,fun s j b x h=>?_⟩
 ·simp only[St.strip]at h;split at h
  ·rename_i x hx;cases h;exact hS.f s _ hx
  ·cases h
 ·simp only[St.strip]at h;split at h<;> cases h
theorem V1.to (hS:V1 N mrk B W M0 [] [] 0 st M a w) (ops:List Oper) (rs:List (Nat×Nat)):V1 N mrk B W M0 ops rs 0 st M a w:=by
 refine⟨hS.h,hS.old,hS.d,hS.n,fun s e h=>?_,fun s j b x h=>?_⟩
 ·cases e with
  |u x=>exact hS.f s _ h
  |gd j b x=>have:=(hS.g s j b x h).1;omega
 ·have:=(hS.g s j b x h).1;omega
theorem V1.hd (hS:V1 N mrk B W M0 [] [] 0 st M a w) (hk:hdI k=0):V1 N mrk B W M0 (A2e k) (C7 (A2e k) (A2e k)) (hdI k) st M a w:=by
 rw[hk];exact hS.to _ _
theorem B4N {id:Nat}:∀{k k':List X8},A2d id k=some k'→after E.ro P Q k' .normal a w→after E.ro P Q k (.exit id) a w:=by
 intro k
 induction k with
 |nil=>intro k' h;cases h
 |cons x k ih=>
  intro k' h hk;cases x with
  |code c=>exact ih h hk
  |ops all i=>exact ih h hk
  |lp J=>exact ih h hk
  |blk id'=>
   simp only[A2d]at h;split at h
   ·rename_i hb;cases h;rw[Nat.beq_eq]at hb;subst hb;simpa[after]using hk
   ·rename_i hb;have hne:id≠id':=fun e=>by subst e;simp at hb
    simp only[after,if_neg hne];exact ih h hk
theorem A7t (hT:K9 P E.T) (hΨ:B1 P E) {kn:Nat→Option Bool}:∀(n:Nat) (k:List X8) (st:St),
 (∀bs,(run E kn n k st bs).ob∧G P E B W M0 Q (run E kn n k st bs).k (run E kn n k st bs).st)→G P E B W M0 Q k st:=by
 intro n
 induction n with
 |zero=>intro k st h;exact(h (fun _ _=>undef)).2
 |succ n ih=>
  intro k st h;cases k with
  |nil=>exact(h (fun _ _=>undef)).2
  |cons x k=>
   have go:∀(k':List X8),(∀bs,(run E kn n k' st bs).ob∧G P E B W M0 Q (run E kn n k' st bs).k (run E kn n k' st bs).st)→hdI k'=0→∀M a w,V1 E.N E.mrk B W M0 [] [] 0 st M a w→after E.ro P Q k' .normal a w:=
    fun k' hk' h0 M a w hS=>ih k' st hk' M a w (hS.hd h0)
   cases x with
   |lp J=>exact(h (fun _ _=>undef)).2
   |blk id=>
    intro M a w hS;have h1:∀bs,(run E kn n k st bs).ob∧G P E B W M0 Q (run E kn n k st bs).k (run E kn n k st bs).st:=fun bs=>by simpa only[run]using h bs
    simp only[after];by_cases h0:hdI k=0
    ·exact go k h1 h0 M a w hS
    ·
     cases k with
     |nil=>exact absurd rfl h0
     |cons y k=>
      cases y with
      |ops all i=>
       refine ih _ st h1 M a w ?_;refine⟨hS.h,hS.old,hS.d,hS.n,fun s e he=>?_,fun s j b x hx=>?_⟩
       ·cases e with
        |u x=>exact hS.f s _ he
        |gd j b x=>have:=(hS.g s j b x he).1;simp[hdI]at this
       ·have:=(hS.g s j b x hx).1;simp[hdI]at this
      |_=>exact absurd rfl h0
   |ops all i=>
    intro M a w hS;simp only[after];have hS1:V1 E.N E.mrk B W M0 all (C7 all all) i st M a w:=hS;refine A7r hT hΨ (kn:=kn) (Q6 i all) i st M a w hS1 fun bs0=>?_
    have hrest:=A3U (E:=E) (kn:=kn) (ops:=all) (rs:=C7 all all) (Q6 i all) i st bs0 rfl;have hb:=fun bs:Nat→Nat→Value=>h (fun m=>match m with|0=>bs0|m+1=>bs m)
    simp only[run]at hb;generalize hr:K8 E kn all (C7 all all) (Q6 i all) i st bs0=r at hb hrest⊢;cases r with
    |bad=>exact(hb (fun _ _=>undef)).1.elim
    |mk rest i' st' ob=>
    simp only[ER.rest,ER.i,ER.st,ER.ob]at hb hrest⊢;cases rest with
    |cons o l=>
     simp only at hb;have h2:=hb (fun _ _=>undef);refine⟨h2.1,fun a' w' M' hS'=>?_⟩;have:=h2.2 M' a' w' hS';simpa only[RS.k,after,hrest]using this
    |nil=>
     simp only at hb;have hob:ob:=by
      have:=(hb (fun _ _=>undef)).1;cases hr2:run E kn n k st'.strip (fun m=>(fun _ _=>undef:Nat→Nat→Value) m)with
      |mk k2 st2 ob2=>rw[hr2]at this;exact this.1
      |bad=>rw[hr2]at this;exact this.elim
     refine⟨hob,fun a' w' M' hS'=>?_⟩;refine B9M ?_;have hgo:=ih k st'.strip (fun bs=>by
      have:=hb bs;cases hr2:run E kn n k st'.strip bs with
      |mk k2 st2 ob2=>rw[hr2]at this;exact⟨this.1.2,this.2⟩
      |bad=>rw[hr2]at this;exact this.1.elim)
     have hSs:=hS'.strip;refine hgo M' a' w' ?_;by_cases h0:hdI k=0
     ·exact hSs.hd h0
     ·cases k with
      |nil=>exact absurd rfl h0
      |cons y k=>
       cases y with
       |ops all' i2=>
        refine⟨hSs.h,hSs.old,hSs.d,hSs.n,fun s e he=>?_,fun s j b x hx=>?_⟩
        ·cases e with
         |u x=>exact hSs.f s _ he
         |gd j b x=>have:=(hSs.g s j b x he).1;simp at this
        ·have:=(hSs.g s j b x hx).1;simp at this
       |_=>exact absurd rfl h0
   |code c=>
    intro M a w hS;have hS0:V1 E.N E.mrk B W M0 [] [] 0 st M a w:=hS;have toK:∀(k':List X8),(∀bs,(run E kn n k' st bs).ob∧G P E B W M0 Q (run E kn n k' st bs).k (run E kn n k' st bs).st)→∀a' w',a'=a→w'=w→after E.ro P Q k' .normal a' w':=by
     intro k' h1 a' w' ea ew;subst ea ew;by_cases h0:hdI k'=0
     ·exact go k' h1 h0 M a' w' hS0
     ·cases k' with
      |nil=>exact absurd rfl h0
      |cons y k'=>
       cases y with
       |ops all' i2=>
        refine ih _ st h1 M a' w' ?_;refine⟨hS0.h,hS0.old,hS0.d,hS0.n,fun s e he=>?_,fun s j b x hx=>?_⟩
        ·cases e with
         |u x=>exact hS0.f s _ he
         |gd j b x=>have:=(hS0.g s j b x he).1;simp at this
        ·have:=(hS0.g s j b x hx).1;simp at this
       |_=>exact absurd rfl h0
    simp only[after];cases c with
    |skip=>exact wpIn_skip (toK k (fun bs=>by simpa only[run]using h bs) a w rfl rfl)
    |label l=>exact wpIn_label (toK k (fun bs=>by simpa only[run]using h bs) a w rfl rfl)
    |seq x y=>
     refine wpIn_seq (wpIn_mono (Q:=after E.ro P Q (.code y::k)) ?_ (fun e a w q=>by cases e<;> exact q));exact toK (.code x:: .code y::k) (fun bs=>by simpa only[run,lft,jQ]using h bs) a w rfl rfl
    |block id x=>
     refine wpIn_block (wpIn_mono (Q:=after E.ro P Q (.blk id::k)) ?_ (fun e a w q=>by cases e<;> exact q));exact toK (.code x:: .blk id::k) (fun bs=>by simpa only[run,bod]using h bs) a w rfl rfl
    |region id ops draw=>
     cases draw with
     |false=>
      obtain⟨ops⟩:=ops;by_cases hnd:E.ro=none∨ndB ops=true
      ·refine A7s hnd ?_;have:=toK (.ops ops 0::k) (fun bs=>by
        have:=h bs;simp only[run,H6]at this;rcases hnd with e|e
        ·rw[e]at this;exact this
        ·rw[e]at this;cases hro:E.ro with
         |none=>rw[hro]at this;exact this
         |some r=>rw[hro]at this;exact this) a w rfl rfl
       simpa only[after,Q6]using this
      ·have:=(h (fun _ _=>undef)).2;simp only[run,H6]at this;cases hro:E.ro with
       |none=>exact absurd (.inl hro) hnd
       |some r=>
        have e:ndB ops=false:=by
         cases hb:ndB ops with
         |true=>exact absurd (.inr hb) hnd
         |false=>rfl
        rw[hro,e]at this;have:=this M a w hS;simpa only[RS.k,after,hro]using this
     |true=>
      have:=(h (fun _ _=>undef)).2;simp only[run]at this;have:=this M a w hS;simpa only[RS.k,after]using this
    |exit id=>
     cases hp:A2d id k with
     |some k'=>exact wpIn_exit (B4N hp (toK k' (fun bs=>by simpa only[run,hp]using h bs) a w rfl rfl))
     |none=>
      have:=(h (fun _ _=>undef)).2;simp only[run,hp]at this;have:=this M a w hS;simpa only[RS.k,after]using this
    |_=>
     have:=(h (fun _ _=>undef)).2;simp only[run]at this;have:=this M a w hS;simpa only[RS.k,after]using this
end
def C3D:Value→Value→Prop
 | .int k n,.int k' m=>qN k k'=true∧n=m
 | .bool a,.bool b=>a=b
 | .string ⟨⟨a⟩⟩,.string ⟨⟨b⟩⟩=>a=b
 |a,b=>a=b
def A2f:PV→PV→Prop
 | .val a,.val b=>C3D a b
 | .nil k,.lst k' l=>C2z k k'=true∧l=[]
 |x,y=>x=y
def A5m:C→C→Prop
 | .pv x,.pv y=>A2f x y
 | .ptr _ b o,.ptr _ b' o'=>b=b'∧o=o'
 | .own _ v,.own _ v'=>v=v'
 | .mpt _ b,.mpt _ b'=>b=b'
 | .osl _ v l h s,.osl _ v' l' h' s'=>v=v'∧l=l'∧h=h'∧s=s'
 | .pv (.val u),.ptr _ b o=>u= .pointer (some ⟨b,o,none⟩)
 | .ptr _ b o,.pv (.val u)=>u= .pointer (some ⟨b,o,none⟩)
 | .ptr _ b o,.opt v=>v=some b∧o=0
 | .opt v,.ptr _ b o=>v=some b∧o=0
 | .pv (.val u),.opt v=>u=vL v
 | .opt v,.pv (.val u)=>u=vL v
 |x,y=>x=y
def B4O:List C→List C→Prop
 |[],[]=>True
 |x::xs,y::ys=>A5m x y∧B4O xs ys
 |_,_=>False
def B4P:C→C→Prop
 | .clo f cs,.clo f' cs'=>f=f'∧B4O cs cs'
 |x,y=>A5m x y
def A5n:List C→List C→Prop
 |[],[]=>True
 |x::xs,y::ys=>B4P x y∧A5n xs ys
 |_,_=>False
def B0E:A→A→Prop
 | .c x,.c y=>B4P x y
 | .g xs,.g ys=>A5n xs ys
 |x,y=>x=y
def B4Q:List A→List A→Prop
 |[],[]=>True
 |x::xs,y::ys=>B0E x y∧B4Q xs ys
 |_,_=>False
def qT:A→A→Prop
 | .c x,.c y=>B4P x y
 | .g xs,.g ys=>A5n xs ys
 | .t xs,.t ys=>B4Q xs ys
 |x,y=>x=y
def jB:HB→HB→Prop
 | .blk b ty cs,.blk b' ty' cs'=>b=b'∧ty=ty'∧A5n cs cs'
 | .own v ty k l,.own v' ty' k' l'=>v=v'∧ty=ty'∧(⟨k,l⟩:(k:LK)×List k.T)=⟨k',l'⟩
 |x,y=>x=y
theorem C6Q {b:Nat} {kk:KK} {vk:VK} {l l':List (kk.T×vk.T)} (h:l=l'):HB.mp b kk vk l=HB.mp b kk vk l':=by rw[h]
theorem A6 {k:LK} {l l':List k.T} (h:l=l'):(⟨k,l⟩:(k:LK)×List k.T)=⟨k,l'⟩:=by rw[h]
def wkF (st:St):List (Nat×A)→Prop
 |[]=>True
 |(s,x)::r=>(match st.f s with
  |some (.u y)=>qT y x
  |_=>False)∧wkF st r
def vO (st:St):List Nat→List HB→Prop
 |[],[]=>True
 |n::ns,x::xs=>(match st.H n with
  |some y=>jB y x
  |none=>False)∧vO st ns xs
 |_,_=>False
def I1:List Nat→Bool
 |[]=>true
 |x::l=> !F8 x l && I1 l
def fI (s:Nat):List (Nat×A)→Option A
 |[]=>none
 |(s',x)::r=>match Nat.beq s s' with
  |true=>some x
  |false=>fI s r
def mk (fs:List (Nat×A)) (hs:List HB):St:=⟨fun s=>match fI s fs with
 |some x=>some (.u x)
 |none=>none,fun n=>X0 hs n,len hs⟩
def Wk (st:St) (ns:List Nat) (fs:List (Nat×A)) (hs:List HB):Prop:=I1 ns=true∧wkF st fs∧vO st ns hs
section
variable {P : Program} {E : D9} {B : Nat → Prop} {W : World} {M0 M : B5} {Q : Exit → Act → World → Prop} {k : List X8} {st : St} {a : Act} {w : World} {N : Nat} {mrk : MK}
theorem B9N {u v:Value} (h:C3D u v):u=v:=by
 unfold C3D at h;split at h
 ·obtain⟨h1,h2⟩:=h;rw[cK h1,h2]
 ·rw[h]
 ·rw[h]
 ·exact h
theorem B9O {k k':LK} (h:C2z k k'=true):k=k':=by
 unfold C2z at h;split at h<;> first|rfl|(rw[cK h])|cases h
theorem xL {x y:PV} (h:A2f x y) {v:Value} (r:R M x v):R M y v:=by
 unfold A2f at h;split at h
 ·rw[←B9N h];exact r
 ·obtain⟨h1,rfl⟩:=h;have:=B9O h1;subst this;exact r.nil_lst
 ·rw[←h];exact r
theorem A5o {x y:C} (h:A5m x y) {v:Value} (r:RC M x v):RC M y v:=by
 unfold A5m at h;split at h
 ·cases r with|pv r=>exact .pv (xL h r)
 ·obtain⟨rfl,rfl⟩:=h;cases r;exact .ptr
 ·subst h;cases r with|own r=>exact .own r
 ·subst h;cases r;exact .mpt
 ·obtain⟨rfl,rfl,rfl,rfl⟩:=h;cases r;exact .osl
 ·subst h;cases r with|pv r=>cases r with|val _=>exact .ptr
 ·subst h;cases r;exact .pv (.val rfl)
 ·obtain⟨rfl,rfl⟩:=h;cases r;exact .opt
 ·obtain⟨rfl,rfl⟩:=h;cases r;exact .ptr
 ·subst h;cases r with|pv r=>cases r with|val _=>exact .opt
 ·subst h;cases r;rename_i v;cases v<;> exact .pv (.val rfl)
 ·rw[←h];exact r
theorem B1R:∀{xs ys:List C},B4O xs ys→xs.length=ys.length∧∀(j:Nat) x y,xs[j]? =some x→ys[j]? =some y→A5m x y:=by
 intro xs
 induction xs with
 |nil=>
  intro ys h;cases ys with
  |nil=>exact⟨rfl,by simp⟩
  |cons=>cases h
 |cons x xs ih=>
  intro ys h;cases ys with
  |nil=>cases h
  |cons y ys=>
   obtain⟨i1,i2⟩:=ih h.2;refine⟨by simp[i1],fun j u v e1 e2=>?_⟩;cases j with
   |zero=>simp at e1 e2;subst e1 e2;exact h.1
   |succ j=>simp at e1 e2;exact i2 j u v e1 e2
theorem A3V {x y:C} (h:B4P x y) {v:Value} (r:RC M x v):RC M y v:=by
 unfold B4P at h;split at h
 ·rename_i f cs f' cs';obtain⟨rfl,h⟩:=h;obtain⟨h1,h2⟩:=B1R h;cases r with
  |clo hs hr=>
   refine .clo (by rw[hs,h1]) (fun j c u e1 e2=>?_);have hlt:j<cs.length:=by rw[h1];exact(gS_.1 e1).1
   exact A5o (h2 j _ c (gE_ hlt) e1) (hr j _ u (gE_ hlt) e2)
 ·exact A5o h r
theorem xM:∀{xs ys:List C},A5n xs ys→∀{us:List Value},R8 M xs us→R8 M ys us:=by
 intro xs
 induction xs with
 |nil=>intro ys h us r;cases ys with
  |nil=>exact r
  |cons=>cases h
 |cons x xs ih=>
  intro ys h us r;cases ys with
  |nil=>cases h
  |cons y ys=>
   obtain⟨h1,h2⟩:=h;cases us with
   |nil=>have:=r.1;simp at this
   |cons u us=>
    have hr:R8 M xs us:=⟨by simpa using r.1,fun j c u' a b=>r.2 (j+1) c u' (by simpa using a) (by simpa using b)⟩
    have:=ih h2 hr;refine⟨by simpa using this.1,fun j c u' a b=>?_⟩;cases j with
    |zero=>simp at a b;subst a b;exact A3V h1 (r.2 0 x u rfl rfl)
    |succ j=>exact this.2 j c u' (by simpa using a) (by simpa using b)
theorem B4R {x y:A} (h:B0E x y) {v:Value} (r:RA M x v):RA M y v:=by
 unfold B0E at h;split at h
 ·cases r with|c r=>exact .c (A3V h r)
 ·cases r with|g r=>exact .g (xM h r)
 ·rw[←h];exact r
theorem B1S:∀{xs ys:List A},B4Q xs ys→xs.length=ys.length∧∀(j:Nat) x y,xs[j]? =some x→ys[j]? =some y→B0E x y:=by
 intro xs
 induction xs with
 |nil=>
  intro ys h;cases ys with
  |nil=>exact⟨rfl,by simp⟩
  |cons=>cases h
 |cons x xs ih=>
  intro ys h;cases ys with
  |nil=>cases h
  |cons y ys=>
   obtain⟨i1,i2⟩:=ih h.2;refine⟨by simp[i1],fun j u v e1 e2=>?_⟩;cases j with
   |zero=>simp at e1 e2;subst e1 e2;exact h.1
   |succ j=>simp at e1 e2;exact i2 j u v e1 e2
theorem wB {x y:A} (h:qT x y) {v:Value} (r:RA M x v):RA M y v:=by
 unfold qT at h;split at h
 ·cases r with|c r=>exact .c (A3V h r)
 ·cases r with|g r=>exact .g (xM h r)
 ·cases r with
  |t hs hr=>
   obtain⟨h1,h2⟩:=B1S h;refine .t (by rw[hs,h1]) (fun j c u e1 e2=>?_);rename_i xs ys us;have hlt:j<xs.length:=by rw[h1];exact(gS_.1 e1).1
   exact B4R (h2 j _ c (gE_ hlt) e1) (hr j _ u (gE_ hlt) e2)
 ·rw[←h];exact r
theorem bJ {x y:HB} (h:jB x y) (r:X2 M B w x):X2 M B w y∧y.has=x.has:=by
 unfold jB at h;split at h
 ·obtain⟨rfl,rfl,h⟩:=h;obtain⟨r1,r2,us,r3,r4⟩:=r;exact⟨⟨r1,r2,us,r3,xM h r4⟩,rfl⟩
 ·obtain⟨rfl,rfl,h⟩:=h;cases h;exact⟨r,rfl⟩
 ·subst h;exact⟨r,rfl⟩
theorem B4S:∀{fs:List (Nat×A)},wkF st fs→∀s x,fI s fs=some x→∃y,st.f s=some (.u y)∧qT y x:=by
 intro fs
 induction fs with
 |nil=>intro _ s x h;cases h
 |cons p fs ih=>
  intro h s x hl;obtain⟨s',x'⟩:=p;obtain⟨h1,h2⟩:=h;simp only[fI]at hl;split at hl
  ·rename_i hb;rw[Nat.beq_eq]at hb;subst hb;cases hl;split at h1
   ·rename_i y hy;exact⟨y,hy,h1⟩
   ·cases h1
  ·exact ih h2 s x hl
theorem A3W:∀{ns:List Nat} {hs:List HB},vO st ns hs→ns.length=hs.length∧∀(n:Nat) (x:HB),hs[n]? =some x→∃m y,ns[n]? =some m∧st.H m=some y∧jB y x:=by
 intro ns
 induction ns with
 |nil=>intro hs h;cases hs with
  |nil=>exact⟨rfl,by simp⟩
  |cons=>cases h
 |cons m ns ih=>
  intro hs h;cases hs with
  |nil=>cases h
  |cons x hs=>
   obtain⟨h1,h2⟩:=h;obtain⟨i1,i2⟩:=ih h2;refine⟨by simp[i1],fun n y hn=>?_⟩;cases n with
   |zero=>
    simp at hn;subst hn;split at h1
    ·rename_i z hz;exact⟨m,z,rfl,hz,h1⟩
    ·cases h1
   |succ n=>simpa using i2 n y (by simpa using hn)
theorem fP {d:Nat}:∀{l:List Nat},d∈l→F8 d l=true:=by
 intro l
 induction l with
 |nil=>intro h;cases h
 |cons x l ih=>
  intro h;rcases List.mem_cons.1 h with rfl|h
  ·simp[F8]
  ·simp[F8,ih h]
theorem gM:∀{l:List Nat},I1 l=true→∀(n n' m:Nat),l[n]? =some m→l[n']? =some m→n=n':=by
 intro l
 induction l with
 |nil=>intro _ n n' m h;simp at h
 |cons x l ih=>
  intro h n n' m h1 h2;simp only[I1,Bool.and_eq_true,Bool.not_eq_true']at h;have hx:∀(q:Nat),l[q]? =some x→False:=fun q hq=>by
   have:=fP (List.mem_of_getElem? hq);rw[this]at h;cases h.1
  cases n with
  |zero=>
   cases n' with
   |zero=>rfl
   |succ n'=>simp at h1;subst h1;exact(hx n' (by simpa using h2)).elim
  |succ n=>
   cases n' with
   |zero=>simp at h2;subst h2;exact(hx n (by simpa using h1)).elim
   |succ n'=>rw[ih h.2 n n' m (by simpa using h1) (by simpa using h2)]
theorem Wk.sat {ns:List Nat} {fs:List (Nat×A)} {hs:List HB} (h:Wk st ns fs hs) {ops rs i} (hS:V1 N mrk B W M0 ops rs i st M a w):V1 N mrk B W M0 [] [] 0 (mk fs hs) M a w:=by
 obtain⟨h1,h2,h3⟩:=h;obtain⟨g1,g2⟩:=A3W h3;have hH:∀n x,(mk fs hs).H n=some x→∃m y,ns[n]? =some m∧st.H m=some y∧jB y x:=by
  intro n x hn;simp only[mk,G0]at hn;exact g2 n x hn
 refine⟨⟨hS.h.below,hS.h.base,hS.h.mem,fun n x hn=>?_,fun n n' x x' b hnn e1 e2 hb=>?_⟩,hS.old,hS.d,hS.n,fun s e he=>?_,fun s j b x hx=>?_⟩
 ·obtain⟨m,y,q1,q2,q3⟩:=hH n x hn;exact(bJ q3 (hS.h.ok m y q2)).1
 ·obtain⟨m,y,q1,q2,q3⟩:=hH n x e1;obtain⟨m',y',q1',q2',q3'⟩:=hH n' x' e2;have b1:=(bJ q3 (hS.h.ok m y q2)).2;have b2:=(bJ q3' (hS.h.ok m' y' q2')).2;rw[b1]at hb;rw[b2];refine hS.h.inj m m' y y' b (fun e=>hnn ?_) q2 q2' hb;subst e;exact gM h1 n n' m q1 q1'
 ·simp only[mk]at he;split at he
  ·rename_i x hx;cases he;obtain⟨y,q1,q2⟩:=B4S h2 s x hx;obtain⟨v,v1,v2⟩:=hS.f s _ q1;exact⟨v,v1,wB q2 v2⟩
  ·cases he
 ·simp only[mk]at hx;split at hx<;> cases hx
theorem G8 (hT:K9 P E.T) (hΨ:B1 P E) (n:Nat) (kn:Nat→Option Bool) {k':(Nat→Nat→Value)→List X8} {st':(Nat→Nat→Value)→St} {ob:(Nat→Nat→Value)→Prop}
 (h:∀bs,run E kn n k st bs= .mk (k' bs) (st' bs) (ob bs)) (ho:∀bs,ob bs) (hk:∀bs,G P E B W M0 Q (k' bs) (st' bs)):G P E B W M0 Q k st:=
 A7t hT hΨ n k st (kn:=kn) fun bs=>by rw[h bs];exact⟨ho bs,hk bs⟩
theorem C6 {c:Code} {o:Operand} {b:Bool} (hc:cnd c=some o) (hv:U7 st.f [] o=some (bool b)) (ht:b=true→G P E B W M0 Q (.code (thn c)::k) st) (hf:b=false→G P E B W M0 Q (.code (els c)::k) st):
 G P E B W M0 Q (.code c::k) st:=by
 intro M a w hS;unfold cnd at hc;split at hc
 ·rename_i o' x y;cases hc;simp only[after];have hval:=(I9 hS (Γ:=[]) (by simp) _ _ hv).val_inv;refine wpIn_cond_split hval (fun h=>?_) (fun h=>?_)
  ·exact ht h M a w hS
  ·exact hf h M a w hS
 ·cases hc
theorem I4 {c:Code} {o:Operand} {p:Prop} [Decidable p] (hc:cnd c=some o) (hv:U7 st.f [] o=some (bool (decide p))) (ht:p→G P E B W M0 Q (.code (thn c)::k) st) (hf:¬p→G P E B W M0 Q (.code (els c)::k) st):
 G P E B W M0 Q (.code c::k) st:=
 C6 hc hv (fun h=>ht (of_decide_eq_true h)) (fun h=>hf (of_decide_eq_false h))
theorem cF {c:Code} {o:Operand} {b:Bool} (hc:cnd c=some o) (hv:U7 st.f [] o=some (bool b)) (hb:b=true) (ht:G P E B W M0 Q (.code (thn c)::k) st):G P E B W M0 Q (.code c::k) st:=
 C6 hc hv (fun _=>ht) (fun h=>by rw[hb]at h;cases h)
theorem fQ {c:Code} {o:Operand} {b:Bool} (hc:cnd c=some o) (hv:U7 st.f [] o=some (bool b)) (hb:b=false) (hf:G P E B W M0 Q (.code (els c)::k) st):G P E B W M0 Q (.code c::k) st:=
 C6 hc hv (fun h=>by rw[hb]at h;cases h) (fun _=>hf)
theorem xN {ns:List Nat} {fs:List (Nat×A)} {hs:List HB} (h0:hdI k=0) (h:Wk st ns fs hs) (hk:G P E B W M0 Q k (mk fs hs)):G P E B W M0 Q k st:=
 fun M a w hS=>hk M a w ((h.sat hS).hd h0)
def LJ {X:Type} (E:D9) (B:Nat→Prop) (W:World) (M0:B5) (F:X→List (Nat×A)) (H:X→List HB) (ok:X→Prop):Act→World→Prop:=
 fun a w=>∃x M,ok x∧V1 E.N E.mrk B W M0 [] [] 0 (mk (F x) (H x)) M a w
theorem G3 {X:Type} {F:X→List (Nat×A)} {H:X→List HB} {ok:X→Prop} (ns:List Nat) (x:X) (hx:ok x) (h:Wk st ns (F x) (H x)):G P E B W M0 Q (.lp (LJ E B W M0 F H ok)::k) st:=
 fun M a w hS=>⟨x,M,hx,h.sat hS⟩
theorem A7u {ro:Option Nat} {J:Act→World→Prop} (hJ:∀a w,J a w→after ro P Q k .normal a w):∀(e:Exit) (a:Act) (w:World),after ro P Q (.lp J::k) e a w→after ro P Q k e a w:=by
 intro e a w h;cases e with
 |normal=>exact hJ a w h
 |_=>exact h
theorem A2g {X:Type} (F:X→List (Nat×A)) (H:X→List HB) (ok:X→Prop) {c:Code} (h0:hdI k=0) (h1:G P E B W M0 Q (.code c:: .lp (LJ E B W M0 F H ok)::k) st) (h2:∀x,ok x→G P E B W M0 Q k (mk (F x) (H x))):
 G P E B W M0 Q (.code c::k) st:=by
 intro M a w hS;have:=h1 M a w hS;simp only[after]at this⊢;refine wpIn_mono this (A7u fun a w hJ=>?_);obtain⟨x,M',hx,hS'⟩:=hJ;exact h2 x hx M' a w (hS'.hd h0)
theorem gN (p:Nat→Prop) (h:∃n,p n):∃n,p n∧∀m,p m→n≤m:=by
 obtain⟨n,hn⟩:=h
 induction n using Nat.strongRecOn with
 |_ n ih=>
  by_cases hex:∃m,m<n∧p m
  ·obtain⟨m,h1,h2⟩:=hex;exact ih m h1 h2
  ·exact⟨n,hn,fun m hm=>Nat.le_of_not_lt fun hlt=>hex ⟨m,hlt,hm⟩⟩
def qU:Code→Bool| .loop _=>true|_=>false
theorem P1 {X:Type} (F:X→List (Nat×A)) (H:X→List HB) (ok:X→Prop) (μ:X→Nat) {c:Code} (hc:qU c=true) (ns:List Nat) (x0:X) (hx0:ok x0) (hw:Wk st ns (F x0) (H x0))
 (body:∀x,ok x→G P E B W M0 Q (.code (bod c):: .lp (LJ E B W M0 F H (fun y=>ok y∧μ y<μ x))::k) (mk (F x) (H x))):G P E B W M0 Q (.code c::k) st:=by
 intro M a w hS;cases c<;> simp only[qU,Bool.false_eq_true]at hc;rename_i c;simp only[after]
 let I:Act→World→Prop:=fun a w=>∃x M,ok x∧V1 E.N E.mrk B W M0 [] [] 0 (mk (F x) (H x)) M a w
 have hI0:I a w:=⟨x0,M,hx0,hw.sat hS⟩
 let p:Act→World→Nat→Prop:=fun a w n=>∃x M,ok x∧μ x=n∧V1 E.N E.mrk B W M0 [] [] 0 (mk (F x) (H x)) M a w
 let ν:Act→World→Nat:=fun a w=>open Classical in if h:∃n,p a w n then Classical.choose (gN (p a w) h)else 0
 have hν0:∀a w (h:∃n,p a w n),p a w (ν a w)∧∀m,p a w m→ν a w≤m:=by
  intro a w h;simp only[ν,dif_pos h];exact Classical.choose_spec (gN (p a w) h)
 have hν:∀a w,I a w→∃x M,ok x∧μ x=ν a w∧V1 E.N E.mrk B W M0 [] [] 0 (mk (F x) (H x)) M a w:=
  fun a w ⟨x,M,h1,h2⟩=>(hν0 a w ⟨_,x,M,h1,rfl,h2⟩).1
 have hle:∀a w x M,ok x→V1 E.N E.mrk B W M0 [] [] 0 (mk (F x) (H x)) M a w→ν a w≤μ x:=
  fun a w x M h1 h2=>(hν0 a w ⟨_,x,M,h1,rfl,h2⟩).2 _ ⟨x,M,h1,rfl,h2⟩
 refine wpIn_loop I ν hI0 fun a w hI=>?_
 obtain⟨x,M,h1,h2,h3⟩:=hν a w hI;have:=body x h1 M a w h3;simp only[after,bod]at this;refine wpIn_mono this fun e a' w' q=>?_
 cases e with
 |normal=>
  obtain⟨y,M',⟨y1,y2⟩,y3⟩:=q;exact⟨⟨y,M',y1,y3⟩,Nat.lt_of_le_of_lt (hle _ _ y M' y1 y3) (by rw[←h2];exact y2)⟩
 |_=>exact q
def A3X (st:St) (n:Nat) (v:Value):List Nat→Prop
 |[]=>True
 |s::ss=>(match st.f s with
  |some (.u (.c (.own _ v')))=>v'=v
  |_=>False)∧A3X st n v ss
def mO (f:Nat→Option Ent) (x:A):List Nat→Nat→Option Ent
 |[],s=>f s
 |d::ds,s=>match Nat.beq s d with
  |true=>some (.u x)
  |false=>mO f x ds s
theorem kZ {f:Nat→Option Ent} {x:A}:∀{ss:List Nat} {s:Nat} {e:Ent},mO f x ss s=some e→(s∈ss∧e= .u x)∨f s=some e:=by
 intro ss
 induction ss with
 |nil=>intro s e h;exact .inr h
 |cons d ss ih=>
  intro s e h;simp only[mO]at h;split at h
  ·rename_i hb;rw[Nat.beq_eq]at hb;subst hb;cases h;exact .inl ⟨List.mem_cons_self,rfl⟩
  ·rcases ih h with⟨h1,h2⟩|h
   ·exact .inl ⟨List.mem_cons_of_mem _ h1,h2⟩
   ·exact .inr h
theorem A2h {n:Nat} {v:Value}:∀{ss:List Nat},A3X st n v ss→∀s∈ss,∃m,st.f s=some (.u (.c (.own m v))):=by
 intro ss
 induction ss with
 |nil=>intro _ s h;cases h
 |cons d ss ih=>
  intro h s hs;obtain⟨h1,h2⟩:=h;rcases List.mem_cons.1 hs with rfl|hs
  ·split at h1
   ·rename_i m v' hf;subst h1;exact⟨m,hf⟩
   ·cases h1
  ·exact ih h2 s hs
theorem G1 (n:Nat) (ss:List Nat) {v:Value} {ty:TypeId} {lk:LK} {l:List lk.T} (hn:st.H n=some (.own v ty lk l)) (hs:A3X st n v ss)
 (hk:G P E B W M0 Q k ⟨mO st.f (lst lk l) ss,D4 st.H n none,st.nx⟩):G P E B W M0 Q k st:=by
 intro M a w hS;obtain⟨M',h1,h2,h3⟩:=hS.h.freeze hn (H':=D4 st.H n none) (fun m x hm=>by
  by_cases e:m=n
  ·subst e;rw[B4]at hm;cases hm
  ·rw[B9 _ _ e]at hm;exact⟨e,hm⟩)
 refine hk M' a w ⟨h2,fun k o e hk=>hS.old k o (h1.2 k o e hk) hk,hS.d.mono h1.1 rfl,hS.n,fun s e he=>?_,fun s j b x hx=>?_⟩
 ·rcases kZ he with⟨q1,rfl⟩|q
  ·obtain⟨m,hm⟩:=A2h hs s q1;obtain⟨u,u1,u2⟩:=hS.f s _ hm;have:=RA.own_inv u2;subst this;exact⟨_,u1,.c (.pv h3)⟩
  ·obtain⟨u,u1,u2⟩:=hS.f s _ q;exact⟨u,u1,u2.mono h1.1⟩
 ·rcases kZ hx with⟨_,e⟩|q
  ·cases e
  ·exact hS.g s j b x q
theorem lZ (s:Nat) (ty:TypeId) {lk:LK} (hs:st.f s=some (.u (pv (.nil lk))))
 (hk:G P E B W M0 Q k ⟨bX st.f s (some (.u (.c (.own st.nx (.slice none 0 0))))),D4 st.H st.nx (some (.own (.slice none 0 0) ty lk [])),st.nx+1⟩):G P E B W M0 Q k st:=by
 intro M a w hS;refine hk M a w ⟨hS.h.newOwn (row:=none) (aE w none) (by simp) (F6.nil _ _ _ _ _) (by simp[Value.ownBlock]) st.nx (fun m x hm hx=>⟨hx,by simp⟩),hS.old,hS.d,hS.n,fun s' e he=>?_,fun s' j b x hx=>?_⟩
 ·simp only[bX]at he;split at he
  ·rename_i hb;rw[Nat.beq_eq]at hb;subst hb;cases he;obtain⟨u,u1,u2⟩:=hS.f _ _ hs;have:=RA.nil_inv u2;subst this;exact⟨_,u1,.c (.own rfl)⟩
  ·exact hS.f s' e he
 ·simp only[bX]at hx;split at hx
  ·cases hx
  ·exact hS.g s' j b x hx
end
def C3E (T:Tb) (f:Nat→Option Ent) (H:Nat→Option HB):ResultVar→Option (A×Prop)
 | .tmp t=>match f t with
  |some (.u x)=>some (x,True)
  |_=>none
 | .cell t ty=>match f t with
  |some (.u (.c (.ptr n b o)))=>match H n with
   |some (.blk b' _ cs)=>match ldA T ty (Q6 o cs)with
    |some a=>some (a,b=b')
    |none=>none
   |_=>none
  |_=>none
def Y4 (T:Tb) (f:Nat→Option Ent) (H:Nat→Option HB):List ResultVar→Option (List A×Prop)
 |[]=>some ([],True)
 |r::rs=>match C3E T f H r,Y4 T f H rs with
  |some (x,ob),some (xs,ob')=>some (x::xs,ob∧ob')
  |_,_=>none
def A3Y:PV→Bool
 | .val _=>true
 |_=>false
def LK.flat:LK→Bool
 | .rcd| .tbl| .bms| .sht| .tbh| .act| .bmh| .mta=>false
 |_=>true
def xO (sh:Bool) (x y:PV):Prop:=match sh,A3Y x with
 |false,false=>False
 |_,_=>A2f x y
def A2i (sh:Bool):List C→List PV→Prop
 |[],[]=>True
 | .pv x::xs,y::ys=>xO sh x y∧A2i sh xs ys
 |_,_=>False
def B4T (sh:Bool):A→RX→Prop
 | .c (.pv x),.c y=>xO sh x y
 | .g cs,.g ys=>A2i sh cs ys
 | .c (.clo f [.cel cs]),.cl f' cs'=>sh=true∧f=f'∧cs=cs'
 |_,_=>False
def A2j (sh:Bool):List A→List RX→Prop
 |[],[]=>True
 |a::az,r::rs=>B4T sh a r∧A2j sh az rs
 |_,_=>False
def B9P (sh:Bool) (H:Nat→Option HB) (e:TypeId) (k:LK) (l:List k.T):A→Prop
 | .c (.own n v)=>match H n with
  |some (.own v' ty k' l')=>(sh || k.flat)=true∧v=v'∧ty=e∧(⟨k',l'⟩:(k:LK)×List k.T)=⟨k,l⟩
  |_=>False
 | .c (.pv (.nil _))=>l=[]
 |_=>False
def out (sh:Bool) (H:Nat→Option HB):RV→List A→Prop
 | .x r,[a]=>B4T sh a r
 | .o e k l,[a]=>B9P sh H e k l a
 | .ot e k l (r::rest),a::az=>B9P sh H e k l a∧A2j sh az (r::rest)
 | .t [],[]=>True
 | .t (r::r'::rest),az=>A2j sh az (r::r'::rest)
 |_,_=>False
def jR (sh:Bool) (M0:B5) (W:World) (rv:RV):Ending→World→Prop:=
 fun e w'=>∃v F,e= .returned v∧Below W.heap.size W w'∧jK F W.heap.size w'∧A5d (shM sh M0 F) (low W.heap.size) w' rv v
def lT (args:List A):St:=⟨fun s=>match X0 args s with
 |some x=>some (.u x)
 |none=>none,fun _=>none,0⟩
def iT:Code→Bool| .ret=>true|_=>false
section
variable {P : Program} {E : D9} {B : Nat → Prop} {W : World} {M0 M F : B5} {Q : Exit → Act → World → Prop} {k : List X8} {st : St} {a : Act} {w : World} {N : Nat} {mrk : MK} {sh : Bool}
theorem cZ {ro:Option Nat}:∀{k:List X8},Q .ret a w→after ro P Q k .ret a w:=by
 intro k
 induction k with
 |nil=>intro h;exact h
 |cons x k ih=>intro h;cases x<;> exact ih h
theorem B4U {k:LK} (h:k.flat=true) {x:k.T} {j:Nat} {y:PV} (hy:(k.enc x)[j]? =some y):∃v,y= .val v:=by
 have hm:=List.mem_of_getElem? hy;have hB:∀(l:List UInt8) (n i:Nat),y∈jA l i n→∃v,y=PV.val v:=by
  intro l n
  induction n with
  |zero=>intro i h;simp[jA]at h
  |succ n ih=>intro i h;simp only[jA,List.mem_cons]at h;rcases h with rfl|h;exact⟨_,rfl⟩;exact ih _ h
 cases k
 case sec=>exact hB _ _ _ hm
 case log=>
  simp only[LK.enc,List.mem_cons]at hm;rcases hm with rfl|rfl|hm
  ·exact⟨_,rfl⟩
  ·exact⟨_,rfl⟩
  ·exact hB _ _ _ hm
 all_goals(simp[LK.flat]at h<;> simp[LK.enc]at hm)
 all_goals(first|(rcases hm with rfl|rfl|rfl|rfl|rfl|rfl|rfl<;> exact⟨_,rfl⟩)|exact⟨_,hm⟩|(rcases hm with rfl|rfl|rfl|rfl|rfl|rfl<;> exact⟨_,rfl⟩)|(rcases hm with rfl|rfl|rfl|rfl|rfl<;> exact⟨_,rfl⟩)|(rcases hm with rfl|rfl|rfl|rfl<;> exact⟨_,rfl⟩)|(rcases hm with rfl|rfl|rfl<;> exact⟨_,rfl⟩)|(rcases hm with rfl|rfl<;> exact⟨_,rfl⟩))
theorem A5p (hle:sh=true→M.le F) {x y:PV} (h:xO sh x y) {v:Value} (r:R M x v):R F y v:=by
 cases sh with
 |true=>
  have h':A2f x y:=by simpa[xO]using h
  exact(xL h' r).mono (hle rfl)
 |false=>
  cases x with
  |val u=>
   have h':A2f (.val u) y:=by simpa[xO,A3Y]using h
   have:=r.val_eq;subst this;exact xL h' (.val r.one)
  |nil=>simp[xO,A3Y]at h
  |lst=>simp[xO,A3Y]at h
theorem B4V (hle:sh=true→M.le F):∀{cs:List C} {ys:List PV} {us:List Value},A2i sh cs ys→R8 M cs us→us.length=ys.length∧∀(j:Nat) (y:PV) (u:Value),ys[j]? =some y→us[j]? =some u→R F y u:=by
 intro cs
 induction cs with
 |nil=>intro ys us h r;cases ys with
  |nil=>exact⟨r.1,by simp⟩
  |cons=>simp[A2i]at h
 |cons c cs ih=>
  intro ys us h r;cases ys with
  |nil=>cases c<;> simp[A2i]at h
  |cons y ys=>
   cases c<;> simp only[A2i]at h;rename_i x;obtain⟨h1,h2⟩:=h;cases us with
   |nil=>have:=r.1;simp at this
   |cons u us=>
    obtain⟨i1,i2⟩:=ih h2 (us:=us) ⟨by simpa using r.1,fun j c u' a b=>r.2 (j+1) c u' (by simpa using a) (by simpa using b)⟩;refine⟨by simp[i1],fun j y' u' a b=>?_⟩;cases j with
    |zero=>
     simp at a b;subst a b;have:=r.2 0 _ u rfl rfl;cases this with|pv rr=>exact A5p hle h1 rr
    |succ j=>exact i2 j y' u' (by simpa using a) (by simpa using b)
theorem A3Z (hle:sh=true→M.le F) {x:A} {r:RX} (h:B4T sh x r) {v:Value} (hr:RA M x v):A7m F r v:=by
 unfold B4T at h;split at h
 ·cases hr with|c hr=>cases hr with|pv hr=>exact A5p hle h hr
 ·cases hr with
  |g hr=>
   obtain⟨h1,h2⟩:=B4V hle h hr;exact⟨_,rfl,by simpa using h1,fun j x u a b=>h2 j x u a (by simpa using b)⟩
 ·obtain⟨e1,rfl,rfl⟩:=h;cases hr with|c hr=>exact RC.mono (hle e1) hr
 ·cases h
theorem A5q (hle:sh=true→M.le F):∀{az:List A} {rs:List RX},A2j sh az rs→az.length=rs.length∧∀(j:Nat) (x:A) (r:RX),az[j]? =some x→rs[j]? =some r→B4T sh x r:=by
 intro az
 induction az with
 |nil=>intro rs h;cases rs with
  |nil=>exact⟨rfl,by simp⟩
  |cons=>simp[A2j]at h
 |cons x az ih=>
  intro rs h;cases rs with
  |nil=>simp[A2j]at h
  |cons r rs=>
   obtain⟨h1,h2⟩:=h;obtain⟨i1,i2⟩:=ih h2;refine⟨by simp[i1],fun j y r' a b=>?_⟩;cases j with
   |zero=>simp at a b;subst a b;exact h1
   |succ j=>exact i2 j y r' (by simpa using a) (by simpa using b)
theorem B0F {H:Nat→Option HB} (hS:E1 B W H M w) (hle:sh=true→M.le F) (hno:∀b,¬B b→M b=none→F b=none) {x:A} {e:TypeId} {k:LK} {l:List k.T} (h:B9P sh H e k l x) {v:Value} (hr:RA M x v):F6 F B w v e k l:=by
 unfold B9P at h;split at h
 ·split at h
  ·rename_i hn;obtain⟨h0,rfl,rfl,h3⟩:=h;cases h3;have:=hr.own_inv;subst this;rcases hS.ok _ _ hn with⟨rfl,rfl⟩|⟨b,cap,us,rfl,h1,h2,h3,h4,h5,h6,h7⟩
   ·exact .inl ⟨rfl,rfl⟩
   ·refine .inr ⟨b,cap,us,rfl,h1,hno b h1 h2,h3,h4,h5,h6,fun i x j y e1 e2=>?_⟩;obtain⟨u,u1,u2⟩:=h7 i x j y e1 e2;refine⟨u,u1,?_⟩;cases sh with
    |true=>exact u2.mono (hle rfl)
    |false=>
     obtain⟨z,rfl⟩:=B4U (by simpa using h0) e2;have:=u2.val_eq;subst this;exact .val u2.one
  ·cases h
 ·subst h;have:=RA.nil_inv hr;subst this;exact .inl ⟨rfl,rfl⟩
 ·cases h
theorem qV (hT:K9 P E.T) (hS:V1 N mrk B W M0 [] [] 0 st M a w) {g:ResultVar→Sem Value} (hg1:∀t,g (.tmp t)=pure (a.tmps.getD t undef)) (hg2:∀t ty,g (.cell t ty)=do loadVar ty (←asAddr (a.tmps.getD t undef))) {rs:List ResultVar} {az:List A} {ob:Prop} (h:Y4 E.T st.f st.H rs=some (az,ob)) (hob:ob):
 ∃vs:List Value,(rs.mapM g).run P w= .ok vs w∧vs.length=az.length∧rs.length=az.length∧∀(j:Nat) x v,az[j]? =some x→vs[j]? =some v→RA M x v:=by
 induction rs generalizing az ob with
 |nil=>cases h;exact⟨[],by simp,rfl,rfl,by simp⟩
 |cons r rs ih=>
  simp only[Y4]at h;split at h
  ·rename_i x obx xs obxs h1 h2;cases h;obtain⟨vs,i1,i2,i2',i3⟩:=ih h2 hob.2;have hone:∃v,(g r).run P w= .ok v w∧RA M x v:=by
    cases r with
    |tmp t=>
     simp only[C3E]at h1;split at h1
     ·rename_i y hf;cases h1;obtain⟨u,u1,u2⟩:=hS.f _ _ hf;exact⟨u,by rw[hg1];simp[Array.getD_eq_getD_getElem?,u1],u2⟩
     ·cases h1
    |cell t ty=>
     simp only[C3E]at h1;split at h1
     ·rename_i n b o hf;split at h1
      ·rename_i b' ty' cs hn;split at h1
       ·rename_i y hy;cases h1;have hb:b=b':=hob.1;subst hb;obtain⟨u,u1,u2⟩:=hS.f _ _ hf;have:=RA.ptr_inv u2;subst this;obtain⟨g1,g2,us,g3,g4⟩:=hS.h.ok _ _ hn;obtain⟨v,q1,q2⟩:=mK (w:=w) (M:=M) (b:=b) (o:=o) hT hy (fun j c hj=>by
         rw[Q0,List.getElem?_drop]at hj;have hlt:=(gS_.1 hj).1;obtain⟨u,hu⟩:=bI us (o+j) (by have:=g4.1;simp at this;omega);exact⟨u,by simp[World.cell?,g3,hu],g4.2 _ c _ hj (by simpa using hu)⟩)
        exact⟨v,by rw[hg2];simp[Array.getD_eq_getD_getElem?,u1,asAddr,q1],q2⟩
       ·cases h1
      ·cases h1
     ·cases h1
   obtain⟨v,v1,v2⟩:=hone;refine⟨v::vs,?_,by simp[i2],by simp[i2'],fun j y u e1 e2=>?_⟩
   ·rw[List.mapM_cons];simp only[Sem.run_bind];rw[v1];simp only[Result.andThen_ok];rw[i1];rfl
   ·cases j with
    |zero=>simp at e1 e2;subst e1 e2;exact v2
    |succ j=>exact i3 j y u (by simpa using e1) (by simpa using e2)
  ·cases h
theorem R.cmono {M M':B5} (h:B5.cle M M') {x:PV} {v:Value} (r:R M x v):R M' x v:=by
 induction r with
 |val h=>exact .val h
 |nil=>exact .nil
 |lst hc hm b o us ha hn hcell hR ih=>exact .lst hc hm b o us ha hn (fun i x j y h1 h2=>h _ _ _ (hcell i x j y h1 h2)) ih
theorem RC.cmono {M M':B5} (h:B5.cle M M') {x:C} {v:Value} (r:RC M x v):RC M' x v:=by
 induction r with
 |pv r=>exact .pv (R.cmono h r)
 |ptr=>exact .ptr
 |own h=>exact .own h
 |cel b o us hc hR=>exact .cel b o us (fun j y e=>h _ _ _ (hc j y e)) (fun j y e=>R.cmono h (hR j y e))
 |oel=>exact .oel
 |clo hs _ ih=>exact .clo hs ih
 |mpt=>exact .mpt
 |opt=>exact .opt
 |osl=>exact .osl
 |bx b o hc _ ih=>exact .bx b o (h _ _ _ hc) ih
theorem R8.cmono {M M':B5} (h:B5.cle M M') {xs:List C} {us:List Value} (r:R8 M xs us):R8 M' xs us:=⟨r.1,fun j c u a b=>RC.cmono h (r.2 j c u a b)⟩
theorem RA.cmono {M M':B5} (h:B5.cle M M') {x:A} {v:Value} (r:RA M x v):RA M' x v:=by
 induction r with
 |c r=>exact .c (RC.cmono h r)
 |g r=>exact .g (R8.cmono h r)
 |t hs _ ih=>exact .t hs ih
 |u h0 _ ih=>exact .u h0 ih
def B5.put (M:B5) (l:Nat) (o:Obj):B5:=fun k=>if k=l then some o else M k
theorem B5.put_same (M:B5) (l:Nat) (o:Obj):M.put l o l=some o:=if_pos rfl
theorem B5.put_ne (M:B5) {l k:Nat} (o:Obj) (h:k≠l):M.put l o k=M k:=if_neg h
theorem B5.put_cle {M:B5} {l:Nat} {o':Obj} (h:∀o,M l=some o→o.isCells=false):B5.cle M (M.put l o'):=by
 intro b o v e;unfold B5.cell at *;by_cases hb:b=l
 ·subst hb;cases hm:M b with
  |none=>rw[hm]at e;cases e
  |some x=>
   have:=h x hm;rw[hm]at e;cases x<;> simp[Obj.isCells]at this e
 ·rw[B5.put_ne _ _ hb];exact e
theorem K0.putObj {B:Nat→Prop} {l:Nat} {w:World} (o:Obj) (h:¬B l):K0 B w (w.putObj l o):=
 ⟨rfl,rfl,rfl,by simp,fun k hk=>World.putObj_heap_other (fun e=>h (e▸hk))⟩
theorem wC {M:B5} {w:World} (hm:M.on w) {l:Nat} {o o':Obj} (hl:w.heap[l]? =some o) (ho:o.isCells=false):B5.cle M (M.put l o'):=
 B5.put_cle fun x hx=>by have:=hm l x hx;rw[hl]at this;cases this;exact ho
theorem F6.putObj {l:Nat} {o o':Obj} (hm:M.on w) {v:Value} {e:TypeId} {k:LK} {xs:List k.T} (hl:w.heap[l]? =some o) (ho:o.isCells=false) (h:F6 M B w v e k xs):F6 (M.put l o') B (w.putObj l o') v e k xs:=by
 rcases h with h|⟨b,cap,us,rfl,h1,h2,h3,h4,h5,h6,h7⟩
 ·exact .inl h
 ·have hne:b≠l:=by
   intro e;subst e;rw[hl]at h3;cases h3;simp[Obj.isCells]at ho
  refine .inr ⟨b,cap,us,rfl,h1,by rw[B5.put_ne _ _ hne];exact h2,by rw[World.putObj_heap_other hne];exact h3,h4,h5,h6,fun i x j y e1 e2=>?_⟩;obtain⟨u,u1,u2⟩:=h7 i x j y e1 e2;exact⟨u,u1,R.cmono (wC hm hl ho) u2⟩
theorem E1.putObj {H:Nat→Option HB} {l:Nat} {o o':Obj} (hS:E1 B W H M w) (hl:w.heap[l]? =some o) (ho:o.isCells=false) (hB:¬B l) (hH:∀n x,H n=some x→¬x.has l):E1 B W H (M.put l o') (w.putObj l o'):=by
 refine⟨hS.below.trans (K0.putObj o' hB),fun k hk=>by simpa using hS.base k hk,fun k x hk=>?_,fun n x hx=>?_,hS.inj⟩
 ·by_cases e:k=l
  ·subst e;rw[B5.put_same]at hk;cases hk;exact World.putObj_heap_same (Array.getElem?_eq_some_iff.1 hl).1
  ·rw[B5.put_ne _ _ e]at hk;rw[World.putObj_heap_other e];exact hS.mem k x hk
 ·have h:=hS.ok n x hx;cases x with
  |blk b ty cs=>
   obtain⟨h1,h2,us,h3,h4⟩:=h;have hne:b≠l:=by
    intro e;subst e;rw[hl]at h3;cases h3;simp[Obj.isCells]at ho
   exact⟨h1,by rw[B5.put_ne _ _ hne];exact h2,us,by rw[World.putObj_heap_other hne];exact h3,R8.cmono (wC hS.mem hl ho) h4⟩
  |own v ty k l=>exact F6.putObj hS.mem hl ho h
  |obj S P=>
   have hn:∀k,S k→k≠l:=fun k hk e=>hH n _ hx (e▸hk)
   refine⟨fun k hk=>⟨(h.1 k hk).1,by rw[B5.put_ne _ _ (hn k hk)];exact(h.1 k hk).2.1,by simpa using(h.1 k hk).2.2⟩,fun M2 w2 g1 g2 g3=>h.2 M2 w2 (fun b o v e=>g1 b o v (wC hS.mem hl ho b o v e)) g2 (fun k hk=>(g3 k hk).trans (World.putObj_heap_other (hn k hk)))⟩
  |mp b kk vk m=>
   have hne:b≠l:=fun e=>hH n _ hx e
   obtain⟨h1,h2,es,c,h3,h4⟩:=h;exact⟨h1,by rw[B5.put_ne _ _ hne];exact h2,es,c,by rw[World.putObj_heap_other hne];exact h3,h4⟩
  |mpr b kk vk m bi vs=>
   have hne:b≠l:=fun e=>hH n _ hx (.inl e)
   have hni:bi≠l:=fun e=>hH n _ hx (.inr e)
   obtain⟨h1,h2,h0,es,c,sn,h3,h4,h5,h6⟩:=h;exact⟨⟨h1.1,by rw[B5.put_ne _ _ hne];exact h1.2⟩,⟨h2.1,by rw[B5.put_ne _ _ hni];exact h2.2⟩,h0,es,c,sn,by rw[World.putObj_heap_other hne];exact h3,h4,by rw[World.putObj_heap_other hni];exact h5,h6⟩
theorem V1.turn (hS:V1 N mrk B W M0 [] [] 0 st M a w) {l:Nat} {o o':Obj} (hl:w.heap[l]? =some o) (ho:o.isCells=false) (hB:¬B l) (hH:∀n x,st.H n=some x→¬x.has l) {M0':B5} (hold:∀k o,M k=some o→B k→M0' k=some o) {a':Act} (ha:a'.tmps=a.tmps)
 (hd:DK mrk B M0' (M.put l o') a'):V1 N mrk B W M0' [] [] 0 st (M.put l o') a' (w.putObj l o'):=by
 refine⟨hS.h.putObj hl ho hB hH,fun k x hk hlt=>?_,hd,by rw[ha];exact hS.n,fun s e he=>?_,hS.g⟩
 ·rw[B5.put_ne _ _ (show k≠l from fun e=>hB (e▸hlt))]at hk;exact hold k x hk hlt
 ·obtain⟨v,h1,h2⟩:=hS.f s e he;refine⟨v,by rw[ha];exact h1,?_⟩;cases e with
  |u x=>exact RA.cmono (wC hS.h.mem hl ho) h2
  |gd j b x=>
   have:=(hS.g s j b x he).1;omega
theorem B4W (hT:K9 P E.T) {fn:Func} {rv:RV} (hS:V1 N mrk (low W.heap.size) W M0 [] [] 0 st M a w) (hM0:M0.on W) {az:List A} {ob:Prop} (h:Y4 E.T st.f st.H fn.results.toList=some (az,ob)) (hob:ob) (ho:out sh st.H rv az):
 ∃v,(results fn a.tmps).run P w= .ok v w∧jR sh M0 W rv (.returned v) w:=by
 obtain⟨vs,h1,h2,h2',h3⟩:=qV hT hS (g:=fun| .tmp t=>pure (a.tmps.getD t undef)| .cell t ty=>do loadVar ty (←asAddr (a.tmps.getD t undef))) (fun _=>rfl) (fun _ _=>rfl) h hob;have hres:(results fn a.tmps).run P w= .ok (if hh:vs.toArray.size=1 then vs.toArray[0]else .tuple vs.toArray) w:=by
  unfold results;rw[Array.mapM_eq_mapM_toList];simp only[Sem.run_bind,Sem.run_map];exact congrArg (fun r:Result (List Value)=>(r.andThen fun a w'=>Result.ok a.toArray w').andThen fun a w'=>Sem.run P (pure (if h:a.size=1 then a[0]else Value.tuple a)) w') h1
 let F:B5:=fun k=>if W.heap.size≤k then M k else none
 have hF:jK F W.heap.size w:=by
  intro k o e;simp only[F]at e;split at e
  ·rename_i hk;exact⟨hk,hS.h.mem k o e⟩
  ·cases e
 have hle:sh=true→M.le (shM sh M0 F):=by
  intro e;subst e;intro k o hk;simp only[shM,B5.or,F];by_cases hlt:W.heap.size≤k
  ·simp[hlt,hk]
  ·simp only[if_neg hlt];exact hS.old k o hk (Nat.lt_of_not_le hlt)
 have hno:∀b,¬low W.heap.size b→M b=none→(shM sh M0 F) b=none:=by
  intro b hb hMb
  replace hb:=Nat.le_of_not_lt hb
  have hFb:F b=none:=by simp[F,hMb]
  cases sh with
  |true=>simp only[shM,B5.or,hFb];exact B5.none_of_size hM0 hb
  |false=>exact hFb
 refine⟨_,hres,_,F,rfl,hS.h.below.low,hF,?_⟩;cases rv with
 |x r=>
  match az,ho,h2,h3 with
  |[x],ho,h2,h3=>
   match vs,h2,h3 with
   |[v],h2,h3=>exact A3Z hle ho (h3 0 x v rfl rfl)
 |o e k l=>
  match az,ho,h2,h3 with
  |[x],ho,h2,h3=>
   match vs,h2,h3 with
   |[v],h2,h3=>exact B0F hS.h hle hno ho (h3 0 x v rfl rfl)
 |ot e k l rest=>
  match rest,az,ho,h2,h3 with
  |r::rest,x::az,ho,h2,h3=>
   obtain⟨o1,o2⟩:=ho;obtain⟨q1,q2⟩:=A5q hle o2
   match vs,h2,h3 with
   |v::vs,h2,h3=>
    simp at h2 q1;have hne:¬(v::vs).toArray.size=1:=by simp;intro e;subst e;simp at h2;omega
    rw[dif_neg hne];refine⟨_,rfl,by simp;omega,⟨v,rfl,B0F hS.h hle hno o1 (h3 0 x v rfl rfl)⟩,fun j r' u a b=>?_⟩;have hj:j<az.length:=by rw[q1];have:=(gS_.1 a).1;simpa using this
    exact A3Z hle (q2 j _ r' (gE_ hj) a) (h3 (j+1) _ u (by simp[gE_ hj]) (by simpa using b))
 |t rest=>
  match rest,az,ho,h2,h3 with
  |[],[],_,h2,h3=>
   have:vs=[]:=List.eq_nil_of_length_eq_zero h2;subst this;exact⟨_,rfl,rfl,by simp⟩
  |r::r'::rest,az,ho,h2,h3=>
   obtain⟨q1,q2⟩:=A5q hle ho;have hne:¬vs.toArray.size=1:=by simp at q1⊢;omega
   rw[dif_neg hne];refine⟨_,rfl,by simp at q1⊢;omega,fun j r'' u a b=>?_⟩;have hj:j<az.length:=by rw[q1];exact(gS_.1 a).1
   exact A3Z hle (q2 j _ r'' (gE_ hj) a) (h3 j _ u (gE_ hj) (by simpa using b))
def aU (P:Program) (fn:Func) (R:Ending→World→Prop):Exit→Act→World→Prop:=bodyPostM Fence.wide 0 P fn R
theorem B4X (hT:K9 P E.T) {fn:Func} {rv:RV} (hM0:M0.on W) {az:List A} {ob:Prop} (h:Y4 E.T st.f st.H fn.results.toList=some (az,ob)) (hob:ob) (ho:out sh st.H rv az) (hdl:mrk.dl=[]):
 ∀{M:B5} {a:Act} {w:World},V1 N mrk (low W.heap.size) W M0 [] [] 0 st M a w→LeavesInM Fence.wide 0 P fn a.tmps (jR sh M0 W rv) a.defers .returning w:=by
 have key:∀(Ds:List Nat) {M:B5} {a:Act} {w:World},V1 N mrk (low W.heap.size) W M0 [] [] 0 st M a w→Ds.Nodup→a.defers=Ds.map A2F→(mrk≠ .t→Ds=[])→(∀D,D∈Ds→¬low W.heap.size D∧M D=some (.deferred (some [])))→
  LeavesInM Fence.wide 0 P fn a.tmps (jR sh M0 W rv) a.defers .returning w:=by
  intro Ds
  induction Ds with
  |nil=>intro M a w hS _ e _ _;rw[e];exact B4W hT hS hM0 h hob ho
  |cons D Ds ih=>
   intro M a w hS hn e hmk hD;rw[e];obtain⟨hB,hm⟩:=hD D (by simp);have hl:=hS.h.mem D _ hm;refine⟨by simp,.inl ⟨D,_,rfl,run_takeDeferred hl,?_⟩⟩;have hd':∀D',D'∈Ds→¬low W.heap.size D'∧(M.put D (.deferred none)) D'=some (.deferred (some [])):=fun D' h'=>by
    have:=hD D' (List.mem_cons_of_mem _ h');refine⟨this.1,?_⟩;rw[B5.put_ne _ _ (fun e=>by subst e;exact(List.nodup_cons.1 hn).1 h')];exact this.2
   have hk:M0.le (M.put D (.deferred none)):=fun k o hk=>by
    have hlt:=(Array.getElem?_eq_some_iff.1 (hM0 k o hk)).1;rw[B5.put_ne _ _ (fun e=>hB (by subst e;exact hlt))];exact hS.d.kp k o hk
   have hS':V1 N mrk (low W.heap.size) W M0 [] [] 0 st (M.put D (.deferred none)) ⟨a.tmps,Ds.map A2F⟩ (w.putObj D (.deferred none)):=
    V1.turn hS hl rfl hB (fun n x hx hh=>by have:=(HB.block_lt (hS.h.ok n x hx) hh).2.2;rw[hm]at this;cases this) hS.old rfl ⟨⟨Ds,fun e=>(by have:=hmk e;cases this),(List.nodup_cons.1 hn).2,by simp[hdl],hd'⟩,hk⟩
   exact ih hS' (List.nodup_cons.1 hn).2 rfl (fun e=>(by have:=hmk e;cases this)) hd'
 intro M a w hS;obtain⟨Ds,h0,h1,h2,h3⟩:=hS.d.df;exact key Ds hS h1 (by rw[h2,hdl,List.append_nil]) h0 h3
theorem D5 (hT:K9 P E.T) {fn:Func} {rv:RV} {c:Code} (hM0:M0.on W) (hc:iT c=true) {az:List A} {ob:Prop} (h:Y4 E.T st.f st.H fn.results.toList=some (az,ob)) (hob:ob) (ho:out sh st.H rv az) (hdl:E.mrk.dl=[]:=by rfl):
 G P E (low W.heap.size) W M0 (aU P fn (jR sh M0 W rv)) (.code c::k) st:=by
 intro M a w hS;cases c<;> simp only[iT,Bool.false_eq_true]at hc;simp only[after];exact wpIn_ret (cZ (B4X hT hM0 h hob ho hdl hS))
theorem B1T {f:FuncId} {fn:Func} {args:List A} {rv:RV} (hf:P.funcs[f]? =some fn) (hb:fn.body.isNone=false) (hnm:(fn.name== "runtime.NumGoroutine")=false) (hN:fn.ntmps=E.N) (hl:Nat.ble (len args) E.N=true)
 (h:∀M0 W,M0.on W→G P E (low W.heap.size) W M0 (aU P fn (jR sh M0 W rv)) [.code (N8 fn)] (lT args)) (hro:E.ro=none:=by rfl) (hdl:E.mrk.dl=[]:=by rfl):aA P f sh args rv:=by
 refine⟨⟨fn,hf,hb,hnm⟩,fun M0 w vs hM0 hra=>?_⟩;cases hbd:fn.body with
 |none=>rw[hbd]at hb;cases hb
 |some c=>
  rw[Nat.ble_eq,O9]at hl;refine(callsIn_wide (n:=0)).1 (callsIn_of_wp_marks hf hbd trivial ?_);have hg:=h M0 w hM0 M0 ⟨vs++Array.replicate (fn.ntmps-vs.size) undef,[]⟩ w ⟨⟨K0.refl _ _,fun _ h=>h,hM0,by simp[lT],by simp[lT]⟩,fun _ _ e _=>e,.nil hdl.symm (B5.le_refl _),by simp[hra.1];omega,fun s e he=>?_,fun s j b x hx=>?_⟩
  ·have hfb:N8 fn=c:=by simp[N8,hbd]
   have hg2:cwp E.ro P (N8 fn) (after E.ro P (aU P fn (jR sh M0 w rv)) []) _ w:=hg;rw[hfb,hro]at hg2;exact wpIn_mono hg2 (fun e a w q=>q)
  ·simp only[lT,G0]at he;split at he
   ·rename_i x hx;cases he;have hlt:s<vs.size:=by rw[hra.1];exact(gS_.1 hx).1
    obtain⟨u,hu⟩:=bI vs s hlt;exact⟨u,by simp[Array.getElem?_append_left hlt,hu],hra.2 s x u hx hu⟩
   ·cases he
  ·simp only[lT,G0]at hx;split at hx<;> cases hx
end
def dI:List C→List Value→Bool
 |[],[]=>true
 | .pv (.val (.int k n))::xs,.int k' m::vs=>qN k k' && decide (n=m) && dI xs vs
 | .pv (.val (.bool a))::xs,.bool b::vs=>A5g a b && dI xs vs
 | .pv (.val (.string ⟨⟨[]⟩⟩))::xs,.string ⟨⟨[]⟩⟩::vs=>dI xs vs
 | .pv (.nil _)::xs,.slice none 0 0::vs=>dI xs vs
 | .pv (.val (.pointer none))::xs,.pointer none::vs=>dI xs vs
 | .pv (.val .nilFunc)::xs,.nilFunc::vs=>dI xs vs
 | .pv (.val .nilIface)::xs,.nilIface::vs=>dI xs vs
 | .pv (.val (.map none))::xs,.map none::vs=>dI xs vs
 |_,_=>false
def C6R:Option TypeDesc→Bool
 |some (.struct _)|some (.array _ _)=>true
 |_=>false
def fR (P:Program):List Field→List (Nat×Nat×Bool)→Bool
 |[],[]=>true
 |f::fs,(o,s,b)::xs=>Nat.beq f.offset o && (match P.info? f.type with|some i=>Nat.beq i.size s|none=>false) && (P.underlying f.type).isSome && A5g (C6R (P.underlying f.type)) b && fR P fs xs
 |_,_=>false
def B4Y:VK→Value→Bool
 | .ptr,.pointer none=>true
 | .str,.string ⟨⟨[]⟩⟩=>true
 | .int,.int .i64 0=>true
 |_,_=>false
theorem B4Z {k:VK} {z:Value} (h:B4Y k z=true):z=k.enc k.dft:=by
 unfold B4Y at h;split at h<;> first|rfl|cases h
def fJ (P:Program) (t:TypeId):TK→Bool
 | .int k=>match P.underlying t with|some (.int k')=>qN k k'|_=>false
 | .bool=>match P.underlying t with|some .bool=>true|_=>false
 | .str=>match P.underlying t with|some .string=>true|_=>false
 | .slc e k=>match P.underlying t with|some (.slice e')=>Nat.beq e e' && (match P.info? e with|some i=>Nat.beq i.size k.sz|none=>false)|_=>false
 | .ptr e=>match P.underlying t with|some (.pointer e')=>Nat.beq e e'|_=>false
 | .strct fs=>match P.underlying t with|some (.struct fields)=>fR P fields.toList fs|_=>false
 | .arr n e=>match P.underlying t with|some (.array n' e')=>Nat.beq n n' && Nat.beq e e' && (P.info? e).isSome|_=>false
 | .map kk vk=>match P.underlying t with
  |some (.map kt et)=>A2Y P kt kk && (match P.info? et with|some i=>(match i.zero with|some z=>B4Y vk z|none=>false)|none=>false)
  |_=>false
 | .other=>match P.underlying t with|some (.struct _)|some (.array _ _)|none=>false|_=>true
def C3F (P:Program) (t:TypeId) (i:TI):Bool:=
 (match P.info? t with
  |some inf=>Nat.beq inf.size i.size && Nat.beq inf.bytes i.bytes && (match inf.zero with|some z=>Nat.beq z.cells.size i.size && dI i.zero z.cells.toList|none=>false)
  |none=>false) && fJ P t i.kind && ((!C2o i.kind i.zero) || A7j P t i.zero)
def B9Q (P:Program) (l:List (Option TI)):Nat→Bool
 |0=>true
 |n+1=>(match X0 l n with
  |some (some i)=>C3F P n i
  |_=>true) && B9Q P l n
def tbl (l:List (Option TI)):Tb:=fun t=>match X0 l t with
 |some (some i)=>some i
 |_=>none
section
variable {P : Program}
theorem B1U (M:B5):∀{xs:List C} {vs:List Value},dI xs vs=true→R8 M xs vs:=by
 have cons:∀{x:C} {v:Value} {xs:List C} {vs:List Value},RC M x v→R8 M xs vs→R8 M (x::xs) (v::vs):=by
  intro x v xs vs h1 h2;refine⟨by simp[h2.1],fun j c u a b=>?_⟩;cases j with
  |zero=>simp at a b;subst a b;exact h1
  |succ j=>exact h2.2 j c u (by simpa using a) (by simpa using b)
 intro xs vs
 fun_induction dI xs vs with
 |case1=>intro _;exact⟨rfl,by simp⟩
 |case2 k n xs k' m vs ih=>
  intro h;simp only[Bool.and_eq_true,decide_eq_true_eq]at h;obtain⟨⟨h1,h2⟩,h3⟩:=h;have:=cK h1;subst this;subst h2;exact cons (.pv (.val rfl)) (ih h3)
 |case3 a xs b vs ih=>
  intro h;simp only[Bool.and_eq_true]at h;have:=oN h.1;subst this;exact cons (.pv (.val rfl)) (ih h.2)
 |case4 xs vs ih=>intro h;exact cons (.pv (.val rfl)) (ih h)
 |case5 k xs vs ih=>intro h;exact cons (.pv .nil) (ih h)
 |case6 xs vs ih=>intro h;exact cons (.pv (.val rfl)) (ih h)
 |case7 xs vs ih=>intro h;exact cons (.pv (.val rfl)) (ih h)
 |case8 xs vs ih=>intro h;exact cons (.pv (.val rfl)) (ih h)
 |case9 xs vs ih=>intro h;exact cons (.pv (.val rfl)) (ih h)
 |case10=>intro h;simp at h
theorem A5r:∀{fs:List Field} {xs:List (Nat×Nat×Bool)},fR P fs xs=true→fs.length=xs.length∧
 ∀(j:Nat) (f:Field) (x:Nat×Nat×Bool),fs[j]? =some f→xs[j]? =some x→f.offset=x.1∧(∃inf d,P.info? f.type=some inf∧inf.size=x.2.1∧P.underlying f.type=some d∧(match d with| .struct _| .array _ _=>true|_=>false)=x.2.2):=by
 intro fs
 induction fs with
 |nil=>intro xs h;cases xs with
  |nil=>exact⟨rfl,by simp⟩
  |cons=>simp[fR]at h
 |cons f fs ih=>
  intro xs h;cases xs with
  |nil=>simp[fR]at h
  |cons x xs=>
   obtain⟨o,s,b⟩:=x;simp only[fR,Bool.and_eq_true,Nat.beq_eq]at h;obtain⟨⟨⟨⟨h1,h2⟩,h3⟩,h4⟩,h5⟩:=h;obtain⟨i1,i2⟩:=ih h5;refine⟨by simp[i1],fun j g y a c=>?_⟩;cases j with
   |zero=>
    simp at a c;subst a c;cases hi:P.info? f.type with
    |none=>simp[hi]at h2
    |some inf=>
     simp only[hi,Nat.beq_eq]at h2;cases hd:P.underlying f.type with
     |none=>simp[hd]at h3
     |some d=>
      rw[hd]at h4;have:=oN h4;refine⟨h1,inf,d,rfl,h2,rfl,?_⟩;simp only;rw[←this];cases d<;> rfl
   |succ j=>exact i2 j g y (by simpa using a) (by simpa using c)
theorem B9R {t:TypeId} {i:TI} (h:C3F P t i=true):wY P t i:=by
 unfold C3F at h;rw[Bool.and_eq_true,Bool.and_eq_true]at h;obtain⟨⟨h1,h2⟩,h3⟩:=h;refine⟨fun hab=>by rw[hab]at h3;simpa using h3,?_,?_⟩
 ·cases hi:P.info? t with
  |none=>simp[hi]at h1
  |some inf=>
   simp only[hi,Bool.and_eq_true,Nat.beq_eq]at h1;obtain⟨⟨g1,g2⟩,g3⟩:=h1;cases hz:inf.zero with
   |none=>simp[hz]at g3
   |some z=>
    simp only[hz,Bool.and_eq_true,Nat.beq_eq]at g3;exact⟨inf,z,rfl,g1,g2,hz,g3.1,fun M=>B1U M g3.2⟩
 ·cases hk:i.kind with
  |int k=>
   rw[hk]at h2;simp only[fJ]at h2;split at h2
   ·rename_i hu;rw[cK h2];exact hu
   ·cases h2
  |bool=>
   rw[hk]at h2;simp only[fJ]at h2;split at h2
   ·rename_i hu;exact hu
   ·cases h2
  |str=>
   rw[hk]at h2;simp only[fJ]at h2;split at h2
   ·rename_i hu;exact hu
   ·cases h2
  |slc e k=>
   rw[hk]at h2;simp only[fJ]at h2;split at h2
   ·rename_i e' hu;simp only[Bool.and_eq_true,Nat.beq_eq]at h2;obtain⟨rfl,h3⟩:=h2;cases hi:P.info? e with
    |none=>simp[hi]at h3
    |some inf=>simp only[hi,Nat.beq_eq]at h3;exact⟨hu,inf,hi,h3⟩
   ·cases h2
  |ptr e=>
   rw[hk]at h2;simp only[fJ]at h2;split at h2
   ·rename_i e' hu;rw[Nat.beq_eq]at h2;subst h2;exact hu
   ·cases h2
  |strct fs=>
   rw[hk]at h2;simp only[fJ]at h2;split at h2
   ·rename_i fields hu;obtain⟨g1,g2⟩:=A5r h2;exact⟨fields,hu,by simpa using g1,fun j f x a b=>g2 j f x (by simpa using a) b⟩
   ·cases h2
  |arr n e=>
   rw[hk]at h2;simp only[fJ]at h2;split at h2
   ·rename_i n' e' hu;simp only[Bool.and_eq_true,Nat.beq_eq]at h2;obtain⟨⟨rfl,rfl⟩,h3⟩:=h2;refine⟨hu,?_⟩;cases hi:P.info? e with
    |none=>simp[hi]at h3
    |some inf=>exact⟨inf,rfl⟩
   ·cases h2
  |map kk vk=>
   rw[hk]at h2;simp only[fJ]at h2;split at h2
   ·rename_i kt et hu;simp only[Bool.and_eq_true]at h2;obtain⟨g1,g2⟩:=h2;cases hi:P.info? et with
    |none=>simp[hi]at g2
    |some inf=>
     simp only[hi]at g2;cases hz:inf.zero with
     |none=>simp[hz]at g2
     |some z=>
      simp only[hz]at g2;exact⟨kt,et,inf,hu,B8z g1,hi,by rw[hz,B4Z g2]⟩
   ·cases h2
  |other=>
   rw[hk]at h2;simp only[fJ]at h2;show(match P.underlying t with|some (.struct _)|some (.array _ _)|none=>false|_=>true)=true;cases hd:P.underlying t with
   |none=>simp[hd]at h2
   |some d=>cases d<;> simp[hd]at h2⊢
theorem B9S {l:List (Option TI)}:∀{n:Nat},B9Q P l n=true→∀t,t<n→∀i,tbl l t=some i→wY P t i:=by
 intro n
 induction n with
 |zero=>intro _ t ht;omega
 |succ n ih=>
  intro h t ht i hi;simp only[B9Q,Bool.and_eq_true]at h;rcases Nat.lt_or_ge t n with hlt|hge
  ·exact ih h.2 t hlt i hi
  ·obtain rfl:t=n:=by omega
   simp only[tbl]at hi;split at hi
   ·rename_i j hj;cases hi;have:=h.1;rw[hj]at this;exact B9R this
   ·cases hi
theorem B4a {l:List (Option TI)} (h:B9Q P l (len l)=true):K9 P (tbl l):=by
 intro t i hi;refine B9S h t ?_ i hi;simp only[tbl]at hi;split at hi
 ·rename_i j hj;rw[G0]at hj;rw[O9];exact(gS_.1 hj).1
 ·cases hi
end
section
theorem gO (b:UInt8):((b.toNat:Nat):Int)≤18446744073709551615:=by have:=b.toNat_lt;omega
theorem lA (b:UInt8):((b.toNat:Nat):Int)≤9223372036854775807:=by have:=b.toNat_lt;omega
def aW:FuncId→Option C3:=fun _=>none
def D6 (k:Nat) (s:C3) (r:FuncId→Option C3):FuncId→Option C3:=fun f=>match Nat.beq f k with
 |true=>some s
 |false=>r f
def H7:FuncId→Option (TypeId×iR):=fun _=>none
def wD (k:Nat) (t:TypeId) (s:iR) (r:FuncId→Option (TypeId×iR)):FuncId→Option (TypeId×iR):=fun f=>match Nat.beq f k with
 |true=>some (t,s)
 |false=>r f
abbrev G4 (P:Program) (Ψ:FuncId→Option C3):Prop:=∀f s,Ψ f=some s→E9 P f s
abbrev B0G (P:Program) (Ψ:FuncId→Option (TypeId×iR)):Prop:=∀f ty s,Ψ f=some (ty,s)→oG P f ty s
def A9:FuncId→Option (TypeId×A9z):=fun _=>none
abbrev C4q (P:Program) (Ψ:FuncId→Option (TypeId×A9z)):Prop:=∀f e s,Ψ f=some (e,s)→B0A P f e s
variable {P : Program}
theorem A4:C4q P A9:=fun f t s h=>by cases h
theorem O4:G4 P aW:=fun f s h=>by cases h
theorem E3:B0G P H7:=fun f t s h=>by cases h
theorem B8 {k:Nat} {s:C3} {r:FuncId→Option C3} (h:E9 P k s) (hr:G4 P r):G4 P (D6 k s r):=by
 intro f s' e;unfold D6 at e;split at e
 ·rename_i hb;rw[Nat.beq_eq]at hb;subst hb;cases e;exact h
 ·exact hr f s' e
theorem xP {k:Nat} {t:TypeId} {s:iR} {r:FuncId→Option (TypeId×iR)} (h:oG P k t s) (hr:B0G P r):B0G P (wD k t s r):=by
 intro f t' s' e;unfold wD at e;split at e
 ·rename_i hb;rw[Nat.beq_eq]at hb;subst hb;cases e;exact h
 ·exact hr f t' s' e
end
section
variable {P : Program} {w : World}
theorem C3G {k:IntKind} {n:Int} (h:(Lit.int k n).wf=true):L1 k n:=by
 simp only[Lit.wf,Bool.and_eq_true,decide_eq_true_eq]at h;cases k<;> simp only[L1,IntKind.min,IntKind.max,IntKind.signed,IntKind.bits]at* <;> simp at* <;> omega
theorem A2k {x:Addr} {v:Value} (h:w.cell? x=some v):x=⟨x.block,x.off,none⟩∧(B5.all w).cell x.block x.off=some v:=by
 obtain⟨b,o,s⟩:=x;simp only[World.cell?]at h;split at h
 ·rename_i c _ _ hc;cases s with
  |some s=>simp at h
  |none=>simp at h;exact⟨rfl,by simp[B5.cell,B5.all,hc,h]⟩
 ·cases h
theorem B4b {x:Addr} (hx:x=⟨x.block,x.off,none⟩) {i:Nat} {v:Value} (h:w.cell? (x.add i)=some v):(B5.all w).cell x.block (x.off+i)=some v:=by
 have:=(A2k h).2;rw[hx]at this;simpa[Addr.add_lit]using this
theorem C4l {f:FuncId} {sh:Bool} {args:List A} {vs:Array Value} (hc:aA P f sh args (.x (.c (bv true)))) (hr:cY (B5.all w) args vs):
 Calls P f vs w fun e w'=>e= .returned (.bool true)∧Below w.heap.size w w':=by
 refine(hc.2 (B5.all w) w vs (B5.all_on w) hr).mono fun e w' ⟨v,F,he,hb,_,hv⟩=>⟨?_,hb⟩
 subst he;have:v= .bool true:=by
  simp only[A5d,A7m]at hv;cases hv;rfl
 rw[this]
theorem cY.nil {M:B5}:cY M [] #[]:=⟨rfl,by simp⟩
theorem cY.cons {M:B5} {a:A} {v:Value} {az:List A} {l:List Value} (h:RA M a v) (hs:cY M az l.toArray):cY M (a::az) (v::l).toArray:=by
 refine⟨by simpa using hs.1,fun j x u e1 e2=>?_⟩;cases j with
 |zero=>simp at e1 e2;subst e1 e2;exact h
 |succ j=>exact hs.2 j x u (by simpa using e1) (by simpa using e2)
end
def leR (rd rd':Operand→Option A):Prop:=∀o a,rd o=some a→rd' o=some a
def jC {α:Type} (f f':Nat→Option α):Prop:=∀d e,f d=some e→f' d=some e
section
variable {T : Tb} {rd rd' : Operand → Option A} {H H' : Nat → Option HB} {f f' : Nat → Option Ent} {ops : List Oper}
theorem dJ (h:jC f f') (Γ:List (Nat×Bool)):leR (U7 f Γ) (U7 f' Γ):=by
 intro o a e;cases o with
 |tmp t=>
  simp only[U7]at e⊢;split at e<;> rename_i h1
  ·rw[h _ _ h1];exact e
  ·rw[h _ _ h1];exact e
  ·cases e
 |_=>exact e
theorem fS (h:jC f f') (Γ:List (Nat×Bool)) (tc:Nat) (want:Bool):leR (rdP ops f Γ tc want) (rdP ops f' Γ tc want):=by
 intro o a e;cases o with
 |tmp t=>
  simp only[rdP]at e⊢;split at e<;> rename_i h1
  ·rw[h _ _ h1];exact e
  ·rw[h _ _ h1];exact e
  ·cases e
 |_=>exact e
theorem A5s (h:leR rd rd') (t:TypeId):leR (rdT T t rd) (rdT T t rd'):=by
 intro o a e;unfold rdT at e⊢;split at e
 ·exact e
 ·exact e
 ·exact h _ _ e
theorem B1V (h:leR rd rd') {o:Option Operand} {a:Option A} (e:eC rd o=some a):eC rd' o=some a:=by
 cases o with
 |none=>exact e
 |some o=>
  simp only[eC]at e⊢;split at e
  ·rename_i x hx;rw[h _ _ hx];exact e
  ·cases e
theorem xQ (h:leR rd rd'):∀{os:List Operand} {az:List A},aD rd os=some az→aD rd' os=some az:=by
 intro os
 induction os with
 |nil=>intro az e;exact e
 |cons o os ih=>
  intro az e;simp only[aD]at e⊢;split at e
  ·rename_i x xs h1 h2;rw[h _ _ h1,ih h2];exact e
  ·cases e
theorem A3a (h:leR rd rd'):∀{os:List (Nat×Operand)} {az:List (Nat×A)},W0 T rd os=some az→W0 T rd' os=some az:=by
 intro os
 induction os with
 |nil=>intro az e;exact e
 |cons o os ih=>
  intro az e;obtain⟨i,o⟩:=o;simp only[W0]at e⊢;split at e
  ·rename_i x xs h1 h2;rw[h _ _ h1,ih h2];exact e
  ·cases e
theorem qW (h:jC H H') {a:A} {r} (e:oE H a=some r):oE H' a=some r:=by
 unfold oE at e⊢;split at e
 ·exact e
 ·exact e
 ·split at e
  ·rename_i h1;simp only[h _ _ h1];exact e
  ·cases e
 ·split at e
  ·rename_i h1;simp only[h _ _ h1];exact e
  ·cases e
 ·cases e
theorem B1W (h:jC H H') {t:TypeId} {a:A} {r} (e:B1G T H t a=some r):B1G T H' t a=some r:=by
 unfold B1G at e⊢;split at e
 ·rename_i h1 h2;rw[qW h h1,h2];exact e
 ·cases e
theorem leR.or (h:leR rd rd') (o:Operand):rd o=none∨rd' o=rd o:=by
 cases e:rd o with
 |none=>exact .inl rfl
 |some a=>exact .inr (h _ _ e)
theorem leH.or (h:jC H H') (n:Nat):H n=none∨H' n=H n:=by
 cases e:H n with
 |none=>exact .inl rfl
 |some a=>exact .inr (h _ _ e)
theorem B9T (h:jC H H') (a:A):oE H a=none∨oE H' a=oE H a:=by
 cases e:oE H a with
 |none=>exact .inl rfl
 |some r=>exact .inr (qW h e)
theorem mP (h:leR rd rd') (t:TypeId) (o:Operand):rdT T t rd o=none∨rdT T t rd' o=rdT T t rd o:=(A5s h t).or o
theorem A3b (h:leR rd rd') (o:Option Operand):eC rd o=none∨eC rd' o=eC rd o:=by
 cases e:eC rd o with
 |none=>exact .inl rfl
 |some a=>exact .inr (B1V h e)
theorem B4c (h:leR rd rd') (o:List Operand):aD rd o=none∨aD rd' o=aD rd o:=by
 cases e:aD rd o with
 |none=>exact .inl rfl
 |some a=>exact .inr (xQ h e)
theorem A7v (h:leR rd rd') (o:List (Nat×Operand)):W0 T rd o=none∨W0 T rd' o=W0 T rd o:=by
 cases e:W0 T rd o with
 |none=>exact .inl rfl
 |some a=>exact .inr (A3a h e)
theorem A5t (h:leR rd rd') (hH:jC H H') {wm:Bool} {ty:TypeId} {op:Op} {r:A×Prop} (e:K2 T H wm rd ty op=some r):K2 T H' wm rd' ty op=some r:=by
 unfold K2 at e;split at e
 ·rename_i x;simp only[K2];rcases mP (T:=T) h ty x with h1|h1<;> simp only[h1]at e⊢<;> first|exact e|cases e
 ·rename_i x;simp only[K2];rcases mP (T:=T) h ty x with h1|h1<;> simp only[h1]at e⊢<;> first|exact e|cases e
 ·rename_i op t x y _;simp only[K2];rcases h.or x with h1|h1
  ·simp[h1]at e
  ·rcases h.or y with h2|h2
   ·simp[h2]at e
   ·rw[h1,h2];exact e
 ·rename_i op _ x;simp only[K2];rcases h.or x with h1|h1
  ·simp[h1]at e
  ·rw[h1];exact e
 ·rename_i src dst x;simp only[K2];rcases h.or x with h1|h1
  ·simp[h1]at e
  ·rw[h1];split at e
   ·split at e
    ·exact B1W hH e
    ·cases e
   ·exact e
   ·cases e
 ·rename_i x i;simp only[K2];rcases h.or x with h1|h1
  ·simp[h1]at e
  ·rw[h1];exact e
 ·rename_i xT x f;simp only[K2];rcases h.or x with h1|h1
  ·simp[h1]at e
  ·rw[h1];exact e
 ·rename_i sT x f;simp only[K2];rcases h.or x with h1|h1
  ·exfalso;rw[h1]at e;(repeat' split at e)<;> simp_all
  ·rw[h1];exact e
 ·rename_i t x i;simp only[K2];rcases h.or x with h1|h1
  ·exfalso;rw[h1]at e;(repeat' split at e)<;> simp_all
  ·rcases h.or i with h2|h2
   ·exfalso;rw[h2]at e;(repeat' split at e)<;> simp_all
   ·rw[h1,h2];split at e
    ·exact e
    ·rename_i n v _ _ _ _ _;rcases leH.or hH n with h3|h3
     ·rw[h3]at e;cases e
     ·rw[h3];exact e
    ·rename_i n v lo hi s _ _ _ _ _;rcases leH.or hH n with h3|h3
     ·rw[h3]at e;cases e
     ·rw[h3];exact e
    ·rename_i n b _ _ _ _ _;rcases leH.or hH n with h3|h3
     ·rw[h3]at e;exfalso;(repeat' split at e)<;> simp_all
     ·rw[h3];exact e
    ·rename_i n v q sz o _ _ _ _ _;rcases leH.or hH n with h3|h3
     ·rw[h3]at e;exfalso;(repeat' split at e)<;> simp_all
     ·rw[h3];exact e
    ·rename_i n b o _ _ _ _ _ _;rcases leH.or hH n with h3|h3
     ·rw[h3]at e;exfalso;(repeat' split at e)<;> simp_all
     ·rw[h3];exact e
    ·cases e
 ·rename_i t x;simp only[K2];rcases h.or x with h1|h1
  ·exfalso;rw[h1]at e;simp at e
  ·rw[h1];split at e
   ·rename_i n b o _;rcases leH.or hH n with h3|h3
    ·rw[h3]at e;cases e
    ·rw[h3];exact e
   ·exact e
   ·rename_i n v i sz o _;rcases leH.or hH n with h3|h3
    ·rw[h3]at e;cases e
    ·rw[h3];exact e
   ·cases e
 ·rename_i t x lo hi mx;simp only[K2];rcases h.or x with h1|h1
  ·exfalso;rw[h1]at e;(repeat' split at e)<;> simp_all
  ·rcases A3b h lo with h2|h2
   ·exfalso;rw[h2]at e;(repeat' split at e)<;> simp_all
   ·rcases A3b h hi with h3|h3
    ·exfalso;rw[h3]at e;(repeat' split at e)<;> simp_all
    ·rcases A3b h mx with h4|h4
     ·exfalso;rw[h4]at e;(repeat' split at e)<;> simp_all
     ·rw[h1,h2,h3,h4];split at e
      ·exact e
      ·rename_i n v _ _ _ _ _ _;rcases leH.or hH n with h5|h5
       ·rw[h5]at e;exfalso;(repeat' split at e)<;> simp_all
       ·rw[h5];exact e
      ·exact e
      ·exact e
      ·exact e
      ·cases e
 ·rename_i t ps;simp only[K2];rcases A7v (T:=T) h ps with h1|h1
  ·exfalso;rw[h1]at e;(repeat' split at e)<;> simp_all
  ·rw[h1];exact e
 ·rename_i x t;simp only[K2];rcases h.or x with h1|h1
  ·exfalso;rw[h1]at e;simp at e
  ·rw[h1];split at e
   ·exact e
   ·exact e
   ·rename_i n b _;rcases leH.or hH n with h3|h3
    ·rw[h3]at e;simp at e
    ·rw[h3];exact e
   ·rename_i a _ _ _ _;rcases B9T hH a with h3|h3
    ·rw[h3]at e;simp at e
    ·rw[h3];exact e
   ·cases e
 ·rename_i x y _;simp only[K2];rcases h.or x with h1|h1
  ·exfalso;rw[h1]at e;simp at e
  ·rcases h.or y with h2|h2
   ·exfalso;rw[h2]at e;(repeat' split at e)<;> simp_all
   ·rw[h1,h2];exact e
 ·rename_i x y _;simp only[K2];rcases h.or x with h1|h1
  ·exfalso;rw[h1]at e;simp at e
  ·rcases h.or y with h2|h2
   ·exfalso;rw[h2]at e;(repeat' split at e)<;> simp_all
   ·rw[h1,h2];exact e
 ·rename_i x;simp only[K2];rcases h.or x with h1|h1
  ·exfalso;rw[h1]at e;simp at e
  ·rw[h1];exact e
 ·rename_i f caps;simp only[K2];rcases B4c h caps with h1|h1
  ·exfalso;rw[h1]at e;simp at e
  ·rw[h1];exact e
 ·rename_i t x i;simp only[K2];rcases h.or x with h1|h1
  ·exfalso;rw[h1]at e;(repeat' split at e)<;> simp_all
  ·rcases h.or i with h2|h2
   ·exfalso;rw[h2]at e;(repeat' split at e)<;> simp_all
   ·rw[h1,h2];exact e
 ·rename_i arr x;simp only[K2];rcases h.or x with h1|h1
  ·exfalso;rw[h1]at e;(repeat' split at e)<;> simp_all
  ·rw[h1];exact e
 ·rename_i t x i okb;simp only[K2];rcases h.or x with h1|h1
  ·exfalso;rw[h1]at e;(repeat' split at e)<;> simp_all
  ·rcases h.or i with h2|h2
   ·exfalso;rw[h2]at e;(repeat' split at e)<;> simp_all
   ·rw[h1,h2];split at e
    ·rename_i n b ia _ _ _;rcases leH.or hH n with h3|h3
     ·rw[h3]at e;simp at e
     ·rw[h3];exact e
    ·cases e
 ·cases e
end
def aH (E:D9) (H:Nat→Option HB) (nx:Nat) (rd:Operand→Option A) (u:Value):Op→Option (A×Prop×Option HB×Option (Nat×Option HB))
 | .box t x=>match rdT E.T t rd x with
  |some a=>match a.cells with
   |some cs=>some (.c (.ptr nx u.bn 0),True,some (.blk u.bn t cs),none)
   |none=>none
  |none=>none
 | .alloc t=>match E.T t with
  |some i=>some (.c (.ptr nx u.bn 0),True,some (.blk u.bn t i.zero),none)
  |none=>none
 | .store t p x=>match rd p,rdT E.T t rd x,E.T t with
  |some (.c (.ptr n b o)),some a,some i=>match H n,a.cells with
   |some (.blk b' ty cs),some new=>match Nat.beq (len new) i.size && Nat.ble (o+len new) (len cs)with
    |true=>some (.t [],b=b',none,some (n,some (.blk b' ty (tke o cs++new++Q6 (o+len new) cs))))
    |false=>none
   |_,_=>none
  |some (.c (.oel n v j sz o)),some a,some i=>match H n,a.cells with
   |some (.own v' ty k l),some new=>match Nat.beq (len new) i.size && Nat.ble (o+len new) k.sz with
    |true=>match k.dec (tke o ((k.enc (l.getD j k.dft)).map .pv)++new++Q6 (o+len new) ((k.enc (l.getD j k.dft)).map .pv))with
     |some (x,ob)=>some (.t [],((v=v'∧sz=k.sz)∧j<l.length)∧ob,none,some (n,some (.own v' ty k (l.set j x))))
     |none=>none
    |false=>none
   |_,_=>none
  |_,_,_=>none
 | .buildSlice t n ⟨ps⟩=>match E.T t with
  |some ⟨.slc e k,_,_,_⟩=>match Nat.beq n (len ps),jL k E.T e rd 0 ps,E.T e with
   |true,some (l,ob),some ie=>match Nat.beq ie.size k.sz && Nat.ble n 1000 with
    |true=>some (.c (.own nx u),ob,some (.own u e k l),none)
    |false=>none
   |_,_,_=>none
  |_=>none
 | .makeSlice t l c=>match E.T t,rd l,rd c with
  |some ⟨.slc e k,_,_,_⟩,some (.c (.pv (.val (.int _ l)))),some (.c (.pv (.val (.int _ c))))=>match E.T e with
   |some ie=>match Nat.ble ie.bytes 128 with
    |true=>some (.c (.own nx u),((0≤l∧l≤c)∧c≤1099511627776)∧ie.zero=(k.enc k.dft).map .pv,some (.own u e k (List.replicate l.toNat k.dft)),none)
    |false=>none
   |none=>none
  |_,_,_=>none
 | .call ⟨.builtin .append,⟨[s,x]⟩,⟨[t,tx]⟩⟩=>match E.T t,rdT E.T t rd s,rdT E.T tx rd x,E.T tx with
  |some ⟨.slc e k,_,_,_⟩,some a,some xa,some itx=>match E.T e,uJ H ((E.T e).elim [] TI.zero) itx.kind xa with
   |some ie,some ⟨k',m,ob⟩=>match Nat.ble ie.bytes 128,a with
    |true,.c (.own n v)=>match H n with
     |some (.own v' ty k0 l)=>match Nat.beq ty e && Nat.beq k0.sz k.sz,A7n k0 l k' m with
      |true,some lm=>some (.c (.own nx u),(ob∧v=v')∧l.length+m.length≤1099511627776,some (.own u e k0 lm),some (n,none))
      |_,_=>none
     |_=>none
    |true,.c (.pv (.nil k0))=>match Nat.beq k0.sz k.sz,A7n k0 [] k' m with
     |true,some lm=>some (.c (.own nx u),ob∧m.length≤1099511627776,some (.own u e k0 lm),none)
     |_,_=>none
    |_,_=>none
   |_,_=>none
  |_,_,_,_=>none
 | .call ⟨.value fo,⟨args⟩,⟨tys⟩⟩=>match rd fo with
  |some (.c (.clo f caps))=>match E.Ψ f with
   |some s=>match iS E.T H rd args tys,uI H caps with
    |some (az,lent,ob),some (cs,lent',ob')=>match s (az++cs)with
     |some (pre,sh,rv)=>match(lent || lent') && sh with
      |false=>some ((inst nx u rv).1,(ob∧ob')∧pre,(inst nx u rv).2,none)
      |true=>none
     |none=>none
    |_,_=>none
   |none=>match E.Ψc f with
    |some (e,s)=>match caps,args,tys with
     |[],p::os,_::ts=>match rd p,iS E.T H rd os ts with
      |some (.c (.own n v)),some (az,false,ob)=>match H n with
       |some (.own v' ty k l)=>match Nat.beq ty e,s ⟨k,l⟩ az with
        |true,some (pre,⟨k',l'⟩)=>some (.c (.own nx u),(ob∧v=v')∧pre,some (.own u e k' l'),some (n,none))
        |_,_=>none
       |_=>none
      |_,_=>none
     |_,_,_=>none
    |none=>none
  |_=>none
 |_=>none
def xR (H:Nat→Option HB):Option (Nat×Option HB)→Nat→Option HB
 |some (n,x)=>D4 H n x
 |none=>H
def qX (H:Nat→Option HB) (nx:Nat) (hb:Option HB) (kill:Option (Nat×Option HB)):Nat→Option HB:=match hb with
 |some b=>D4 (xR H kill) nx (some b)
 |none=>xR H kill
section
variable {E : D9} {rd rd' : Operand → Option A} {H H' : Nat → Option HB} {nx : Nat} {u : Value}
theorem A3c {op:Op} {x:A} {ob:Prop} {hb:Option HB} {kill:Option (Nat×Option HB)} (h:aH E H nx rd u op=some (x,ob,hb,kill)):∃nx',E5 E H nx rd u op=some ⟨x,ob,qX H nx hb kill,nx'⟩:=by
 unfold aH at h;split at h
 ·simp only[E5];split at h
  ·rename_i a ha;split at h
   ·rename_i cs hc;cases h;simp only[ha,hc];exact⟨_,rfl⟩
   ·cases h
  ·cases h
 ·simp only[E5];split at h
  ·rename_i i hi;cases h;simp only[hi];exact⟨_,rfl⟩
  ·cases h
 ·simp only[E5];split at h
  ·rename_i n b o a i h1 h2 h3;split at h
   ·rename_i b' ty cs new h4 h5;split at h
    ·rename_i h6;cases h;simp only[h1,h2,h3,h4,h5,h6];exact⟨_,rfl⟩
    ·cases h
   ·cases h
  ·rename_i n v j sz o a i h1 h2 h3;split at h
   ·rename_i v' ty k l new h4 h5;split at h
    ·rename_i h6;split at h
     ·rename_i h7;cases h;simp only[h1,h2,h3,h4,h5,h6,h7];exact⟨_,rfl⟩
     ·cases h
    ·cases h
   ·cases h
  ·cases h
 ·simp only[E5];split at h
  ·rename_i e k _ _ _ h1;split at h
   ·rename_i l ob ie h2 h3 h4;split at h
    ·rename_i h5;cases h;simp only[h1,h2,h3,h4,h5];exact⟨_,rfl⟩
    ·cases h
   ·cases h
  ·cases h
 ·simp only[E5];split at h
  ·rename_i h1 h2 h3;split at h
   ·rename_i ie h4;split at h
    ·rename_i h5;cases h;simp only[h1,h2,h3,h4,h5];exact⟨_,rfl⟩
    ·cases h
   ·cases h
  ·cases h
 ·simp only[E5];split at h
  ·rename_i h1 h2 h3 h4;split at h
   ·rename_i h5 h6;rw[h5]at h6;simp only[Option.elim]at h6;split at h
    ·rename_i n v h7;split at h
     ·rename_i h8;split at h
      ·rename_i h9 h10;cases h;simp only[h1,h2,h3,h4,h5,Option.elim,h6,h7,h8,h9,h10];exact⟨_,rfl⟩
      ·cases h
     ·cases h
    ·rename_i k0 h7;split at h
     ·rename_i h9 h10;cases h;simp only[h1,h2,h3,h4,h5,Option.elim,h6,h7,h9,h10];exact⟨_,rfl⟩
     ·cases h
    ·cases h
   ·cases h
  ·cases h
 ·simp only[E5];split at h
  ·rename_i f caps h1;split at h
   ·rename_i s h2;split at h
    ·rename_i az lent ob cs lent' ob' h3 h3';split at h
     ·rename_i pre sh rv h4;split at h
      ·rename_i h5;simp only[h1,h2,h3,h3',h4,h5];cases hi:inst nx u rv with
       |mk x' hb'=>
        rw[hi]at h;cases hb' with
        |none=>cases h;exact⟨_,rfl⟩
        |some b=>cases h;exact⟨_,rfl⟩
      ·cases h
     ·cases h
    ·cases h
   ·rename_i hps;split at h
    ·rename_i e s hco;split at h
     ·rename_i p os t0 ts;split at h
      ·rename_i n v az ob h3 h4;split at h
       ·rename_i v' ty k l h5;split at h
        ·rename_i pre k' l' h6 h7;cases h;simp only[h1,hps,hco,h3,h4,h5,h6,h7];exact⟨_,rfl⟩
        ·cases h
       ·cases h
      ·cases h
     ·cases h
    ·cases h
  ·cases h
 ·cases h
theorem A5u {T:Tb} {k:LK} {ty:TypeId} (h:leR rd rd'):∀{ps:List (Nat×Operand)} {i:Nat} {r},jL k T ty rd i ps=some r→jL k T ty rd' i ps=some r:=by
 intro ps
 induction ps with
 |nil=>intro i r e;exact e
 |cons p ps ih=>
  intro i r e;obtain⟨j,o⟩:=p;simp only[jL]at e⊢;rcases(A5s (T:=T) h ty).or o with h1|h1
  ·exfalso;rw[h1]at e;(repeat' split at e)<;> simp_all
  ·rw[h1];split at e
   ·split at e
    ·split at e
     ·rename_i h5 h6;rw[h5,ih h6];exact e
     ·cases e
    ·cases e
   ·cases e
theorem A2l (hH:jC H H') {a:C} {r} (e:A7o H a=some r):A7o H' a=some r:=by
 unfold A7o at e⊢;split at e
 ·split at e
  ·rename_i h1;simp only[hH _ _ h1];exact e
  ·cases e
 ·exact e
 ·split at e
  ·rename_i h1;simp only[hH _ _ h1];exact e
  ·cases e
 ·exact e
 ·exact e
 ·exact e
 ·split at e
  ·rename_i h1;simp only[hH _ _ h1];exact e
  ·cases e
 ·cases e
theorem B1X (hH:jC H H') {a:A} {r} (e:B1I H a=some r):B1I H' a=some r:=by
 unfold B1I at e⊢;split at e
 ·exact A2l hH e
 ·exact e
 ·cases e
theorem A7w (hH:jC H H'):∀{cs:List C} {r},uI H cs=some r→uI H' cs=some r:=by
 intro cs
 induction cs with
 |nil=>intro r e;exact e
 |cons c cs ih=>
  intro r e;simp only[uI]at e⊢;split at e
  ·rename_i h1 h2;rw[A2l hH h1,ih h2];exact e
  ·cases e
theorem xS {T:Tb} (h:leR rd rd') (hH:jC H H'):∀{os:List Operand} {ts:List TypeId} {r},iS T H rd os ts=some r→iS T H' rd' os ts=some r:=by
 intro os
 induction os with
 |nil=>intro ts r e;exact e
 |cons o os ih=>
  intro ts r e;cases ts with
  |nil=>exact e
  |cons t ts=>
   simp only[iS]at e⊢;rcases mP (T:=T) h t o with h1|h1
   ·rw[h1]at e;cases e
   ·rw[h1];split at e
    ·split at e
     ·rename_i h5 h6;rw[B1X hH h5,ih h6];exact e
     ·cases e
    ·cases e
theorem A7x (hH:jC H H') {z:List C} {k:TK} {a:A} {r} (e:uJ H z k a=some r):uJ H' z k a=some r:=by
 unfold uJ at e⊢;split at e
 ·exact e
 ·exact e
 ·exact qW hH e
 ·cases e
theorem A7y (h:leR rd rd') (hH:jC H H') {op:Op} {r} (e:aH E H nx rd u op=some r):aH E H' nx rd' u op=some r:=by
 unfold aH at e;split at e
 ·rename_i t x;simp only[aH];rcases mP (T:=E.T) h t x with h1|h1
  ·rw[h1]at e;cases e
  ·rw[h1];exact e
 ·exact e
 ·rename_i t p x;simp only[aH];rcases h.or p with h1|h1
  ·exfalso;rw[h1]at e;(repeat' split at e)<;> simp_all
  ·rcases mP (T:=E.T) h t x with h2|h2
   ·exfalso;rw[h2]at e;(repeat' split at e)<;> simp_all
   ·rw[h1,h2];split at e
    ·split at e
     ·rename_i h4 h5;rw[hH _ _ h4,h5];exact e
     ·cases e
    ·split at e
     ·rename_i h4 h5;rw[hH _ _ h4,h5];exact e
     ·cases e
    ·cases e
 ·simp only[aH];split at e
  ·split at e
   ·rename_i h2 h3 h4;rw[h2,A5u h h3,h4];exact e
   ·cases e
  ·cases e
 ·rename_i t l c;simp only[aH];rcases h.or l with h1|h1
  ·exfalso;rw[h1]at e;(repeat' split at e)<;> simp_all
  ·rcases h.or c with h2|h2
   ·exfalso;rw[h2]at e;(repeat' split at e)<;> simp_all
   ·rw[h1,h2];exact e
 ·rename_i s x t tx;simp only[aH];rcases mP (T:=E.T) h t s with h1|h1
  ·exfalso;rw[h1]at e;(repeat' split at e)<;> simp_all
  ·rcases mP (T:=E.T) h tx x with h2|h2
   ·exfalso;rw[h2]at e;(repeat' split at e)<;> simp_all
   ·rw[h1,h2];split at e
    ·split at e
     ·rename_i h5 h6;have h7:=A7x hH h6;rw[h5]at h7;rw[h5,h7];simp only;split at e
      ·split at e
       ·rename_i h8;rw[hH _ _ h8];exact e
       ·cases e
      ·exact e
      ·cases e
     ·cases e
    ·cases e
 ·rename_i fo args tys;simp only[aH];rcases h.or fo with h1|h1
  ·rw[h1]at e;cases e
  ·rw[h1];split at e
   ·split at e
    ·split at e
     ·rename_i h3 h4;rw[xS h hH h3,A7w hH h4];exact e
     ·cases e
    ·split at e
     ·split at e
      ·split at e
       ·rename_i h3 h4;rw[h _ _ h3,xS h hH h4];simp only;split at e
        ·rename_i h5;rw[hH _ _ h5];exact e
        ·cases e
       ·cases e
      ·cases e
     ·cases e
   ·cases e
 ·cases e
end
def jS (ops:List Oper) (f:Nat→Option Ent):Op→Option (A×Prop)
 | .pick (.tmp tc) oa ob=>match U7 f [] (.tmp tc)with
  |some c=>match aG c with
   |some t=>match rdP ops f [] tc true oa,rdP ops f [] tc false ob with
    |some xa,some xb=>match jP xa,jP xb with
     |true,false=>match aG xb with
      |some q=>some (bool q,t=false)
      |none=>none
     |false,true=>match aG xa with
      |some p=>some (bool p,t=true)
      |none=>none
     |_,_=>none
    |_,_=>none
   |none=>none
  |none=>none
 |_=>none
def mA (E:D9) (ops:List Oper) (f:Nat→Option Ent) (H:Nat→Option HB) (nx:Nat) (o:Oper) (u:Value):Option (A×Prop×Option HB×Option (Nat×Option HB)):=match P9 E ops [] f H o with
 |some (x,ob)=>some (x,ob,none,none)
 |none=>match jS ops f o.op with
  |some (x,ob)=>some (x,ob,none,none)
  |none=>aH E H nx (U7 f []) u o.op
def cG (E:D9) (kn:Nat→Option Bool) (ops:List Oper) (rs:List (Nat×Nat)) (i:Nat) (f:Nat→Option Ent) (H:Nat→Option HB) (nx:Nat) (o:Oper) (u:Value):Option (Option Ent×Prop×Option HB×Option (Nat×Option HB)):=
 match o.guard with
 |none=>match mA E ops f H nx o u with
  |some (x,ob,hb,kill)=>some (some (.u x),ob,hb,kill)
  |none=>none
 |some (j,b)=>match eN ops j with
  |none=>none
  |some dj=>match Nat.blt j i && B4I j dj rs,kn j with
   |true,some k=>match f dj with
    |some (.u c)=>match aG c with
     |some g=>match A5g b k with
      |true=>match mA E ops f H nx o u with
       |some (x,ob,hb,kill)=>some (some (.u x),g=k∧ob,hb,kill)
       |none=>none
      |false=>some (some (.u B9J),g=k,none,none)
     |none=>match jP c with
      |true=>some (some (.u B9J),True,none,none)
      |false=>none
    |_=>none
   |true,none=>match P9 E ops (dG ops f 5 j b) f H o with
    |some (x,ob)=>match A2E ops f (dG ops f 5 j b) ob with
     |some ob'=>some (some (.gd j b x),ob',none,none)
     |none=>none
    |none=>none
   |false,_=>none
section
variable {E : D9} {f f' : Nat → Option Ent} {H H' : Nat → Option HB} {nx : Nat} {u : Value} {ops : List Oper} {rs : List (Nat × Nat)} {i : Nat} {o : Oper} {kn : Nat → Option Bool}
theorem A5v {op:Op} {rd rd':Operand→Option A} {T:Tb} {wm:Bool} {ty:TypeId} {r} (h:aH E H nx rd u op=some r):K2 T H' wm rd' ty op=none:=by
 unfold aH at h;split at h<;> first|rfl|cases h
theorem A5w {op:Op} {rd:Operand→Option A} {r} (h:aH E H nx rd u op=some r):uK ops f op=none:=by
 unfold aH at h;split at h<;> first|rfl|cases h
theorem gP {x:A} (h:jP x=true):aG x=none:=by
 unfold jP at h;split at h
 ·rfl
 ·cases h
theorem A5x {op:Op} {rd:Operand→Option A} {r} (h:aH E H nx rd u op=some r):jS ops f op=none:=by
 unfold aH at h;split at h<;> first|rfl|cases h
theorem qY {op:Op} {x:A} {ob:Prop} (h:jS ops f op=some (x,ob)):∃tc oa ob' c t xa xb,op= .pick (.tmp tc) oa ob'∧U7 f [] (.tmp tc)=some c∧aG c=some t∧rdP ops f [] tc true oa=some xa∧rdP ops f [] tc false ob'=some xb∧
 ((jP xa=true∧jP xb=false∧∃q,aG xb=some q∧x=bool q∧ob=(t=false))∨(jP xa=false∧jP xb=true∧∃p,aG xa=some p∧x=bool p∧ob=(t=true))):=by
 unfold jS at h;split at h
 ·rename_i tc oa ob';split at h
  ·rename_i c h1;split at h
   ·rename_i t h2;split at h
    ·rename_i xa xb h3 h4;split at h
     ·rename_i u1 u2;split at h
      ·rename_i q hq;cases h;exact⟨tc,oa,ob',c,t,xa,xb,rfl,h1,h2,h3,h4,.inl ⟨u1,u2,q,hq,rfl,rfl⟩⟩
      ·cases h
     ·rename_i u1 u2;split at h
      ·rename_i q hq;cases h;exact⟨tc,oa,ob',c,t,xa,xb,rfl,h1,h2,h3,h4,.inr ⟨u1,u2,q,hq,rfl,rfl⟩⟩
      ·cases h
     ·cases h
    ·cases h
   ·cases h
  ·cases h
 ·cases h
theorem A5y {op:Op} {x:A} {ob:Prop} (h:jS ops f op=some (x,ob)):uK ops f op=some (x,ob):=by
 obtain⟨tc,oa,ob',c,t,xa,xb,rfl,h1,h2,h3,h4,h5⟩:=qY h;rcases h5 with⟨u1,u2,q,hq,rfl,rfl⟩|⟨u1,u2,q,hq,rfl,rfl⟩
 ·simp only[uK,h1,h2,h3,h4,xJ,gP u1,hq]
 ·simp only[uK,h1,h2,h3,h4,xJ,gP u2,hq]
theorem A5z {x:A} {ob:Prop} (h:jS ops f o.op=some (x,ob)):P9 E ops [] f H o=none:=by
 obtain⟨tc,oa,ob',c,t,xa,xb,hop,h1,h2,h3,h4,h5⟩:=qY h;rcases h5 with⟨u1,u2,q,hq,rfl,rfl⟩|⟨u1,u2,q,hq,rfl,rfl⟩
 ·simp only[P9,hop,jO,h1,h2,h3,h4,gP u1]
 ·simp only[P9,hop,jO,h1,h2,h3,h4,gP u2,hq]
theorem A7z (hf:jC f f') {op:Op} {x:A} {ob:Prop} (h:jS ops f op=some (x,ob)):jS ops f' op=some (x,ob):=by
 obtain⟨tc,oa,ob',c,t,xa,xb,rfl,h1,h2,h3,h4,h5⟩:=qY h;rcases h5 with⟨u1,u2,q,hq,rfl,rfl⟩|⟨u1,u2,q,hq,rfl,rfl⟩
 ·simp only[jS,dJ hf _ _ _ h1,h2,fS hf _ _ _ _ _ h3,fS hf _ _ _ _ _ h4,u1,u2,hq]
 ·simp only[jS,dJ hf _ _ _ h1,h2,fS hf _ _ _ _ _ h3,fS hf _ _ _ _ _ h4,u1,u2,hq]
def vP (f:Nat→Option Ent) (d:Option Nat) (e:Option Ent):Nat→Option Ent:=match d with
 |some d=>bX f d e
 |none=>f
def A2m (N i:Nat) (rs:List (Nat×Nat)) (d:Option Nat):Bool:=match d with
 |some d=>Nat.blt d N && A5i i d rs
 |none=>true
theorem dK {N:Nat} {d:Option Nat} {e:Option Ent} (h:A2m N i rs d=true):O5 N i rs f d e=some (vP f d e):=by
 cases d with
 |none=>rfl
 |some d=>simp only[A2m]at h;simp only[O5,h,vP]
theorem uL {x:A} {ob:Prop} {hb:Option HB} {kill:Option (Nat×Option HB)} (hd:A2m E.N i rs o.dst=true) (h:mA E ops f H nx o u=some (x,ob,hb,kill)):
 ∃nx',lY E ops rs i f H nx o u=some (⟨vP f o.dst (some (.u x)),qX H nx hb kill,nx'⟩,ob):=by
 unfold mA at h;split at h
 ·rename_i x' ob' hp;cases h;exact⟨_,by simp only[lY,hp,dK hd,qX,xR];rfl⟩
 ·rename_i hp;split at h
  ·rename_i x' ob' hpu;cases h;exact⟨_,by simp only[lY,hp,A5y hpu,dK hd,qX,xR];rfl⟩
  ·obtain⟨nx',h1⟩:=A3c h;exact⟨nx',by simp only[lY,hp,A5w h,h1,dK hd]⟩
theorem oO {e:Option Ent} {ob:Prop} {hb:Option HB} {kill:Option (Nat×Option HB)} (hd:A2m E.N i rs o.dst=true) (h:cG E kn ops rs i f H nx o u=some (e,ob,hb,kill)):
 ∃nx',O0 E kn ops rs i f H nx o u=some (⟨vP f o.dst e,qX H nx hb kill,nx'⟩,ob):=by
 unfold cG at h;split at h
 ·rename_i hg;split at h
  ·rename_i h1;cases h;obtain⟨nx',h2⟩:=uL hd h1;exact⟨nx',by simp only[O0,hg,h2]⟩
  ·cases h
 ·rename_i j b hg;split at h
  ·cases h
  ·rename_i dj hdj;split at h
   ·rename_i k hc hk;split at h
    ·rename_i c hf;split at h
     ·rename_i g hgb;split at h
      ·rename_i hbk;split at h
       ·rename_i h1;cases h;obtain⟨nx',h2⟩:=uL hd h1;exact⟨nx',by simp only[O0,hg,hdj,hc,hk,hf,hgb,hbk,h2]⟩
       ·cases h
      ·rename_i hbk;cases h;exact⟨nx,by simp only[O0,hg,hdj,hc,hk,hf,hgb,hbk,dK hd,qX,xR]⟩
     ·rename_i hgb;split at h
      ·rename_i hund;cases h;exact⟨nx,by simp only[O0,hg,hdj,hc,hk,hf,hgb,hund,dK hd,qX,xR]⟩
      ·cases h
    ·cases h
   ·rename_i hc hk;split at h
    ·rename_i x ob1 hp;split at h
     ·rename_i hgo;cases h;exact⟨nx,by simp only[O0,hg,hdj,hc,hk,hp,hgo,dK hd,qX,xR]⟩
     ·cases h
    ·cases h
   ·cases h
theorem A6A (hf:jC f f') {Γ:List (Nat×Bool)} {c a b:Operand} {x:A} (h:jO ops f Γ c a b=some x):jO ops f' Γ c a b=some x:=by
 unfold jO at h⊢;split at h
 ·rename_i tc oa ob;split at h
  ·rename_i cx h1;split at h
   ·rename_i h2 h3 h4;simp only[dJ hf _ _ _ h1,h2,fS hf _ _ _ _ _ h3,fS hf _ _ _ _ _ h4];exact h
   ·cases h
  ·cases h
 ·cases h
theorem oP (hf:jC f f') (hH:jC H H') {Γ:List (Nat×Bool)} {r} (h:P9 E ops Γ f H o=some r):P9 E ops Γ f' H' o=some r:=by
 unfold P9 at h⊢;split at h
 ·split at h
  ·rename_i h1;rw[A6A hf h1];exact h
  ·cases h
 ·exact A5t (dJ hf Γ) hH h
theorem B1Y (hf:jC f f'):∀{Γ:List (Nat×Bool)} {p q:Prop},A2E ops f Γ p=some q→A2E ops f' Γ p=some q:=by
 intro Γ
 induction Γ with
 |nil=>intro p q h;exact h
 |cons x Γ ih=>
  intro p q h;obtain⟨j,b⟩:=x;simp only[A2E]at h⊢;split at h
  ·split at h
   ·rename_i h1;simp only[hf _ _ h1];split at h
    ·exact ih h
    ·cases h
   ·cases h
  ·cases h
theorem A6B (hf:jC f f'):∀{n j:Nat} {b:Bool} {p q:Prop},A2E ops f (dG ops f n j b) p=some q→dG ops f' n j b=dG ops f n j b:=by
 intro n
 induction n with
 |zero=>intro j b p q h;rfl
 |succ n ih=>
  intro j b p q h;simp only[dG,A2E]at h⊢;cases hd:eN ops j with
  |none=>rfl
  |some d=>
   simp only[hd]at h⊢;cases he:f d with
   |none=>simp[he]at h
   |some e=>
    simp only[he,hf _ _ he]at h⊢;cases e with
    |u x=>rfl
    |gd j' b' x=>
     simp only at h⊢;split at h
     ·rw[ih h]
     ·cases h
theorem xU (hf:jC f f') (hH:jC H H') {r} (h:mA E ops f H nx o u=some r):mA E ops f' H' nx o u=some r:=by
 unfold mA at h⊢;split at h
 ·rename_i h1;rw[oP hf hH h1];exact h
 ·rename_i h1;split at h
  ·rename_i x' ob' hpu;have h3:=A7z hf hpu;rw[A5z h3];simp only[h3];exact h
  ·have h2:P9 E ops [] f' H' o=none:=by
    unfold P9;split
    ·rename_i hop;rw[hop]at h;cases h
    ·exact A5v h
   rw[h2];simp only[A5x (ops:=ops) (f:=f') h];exact A7y (dJ hf []) hH h
theorem mQ (hf:jC f f') (hH:jC H H') {r} (h:cG E kn ops rs i f H nx o u=some r):cG E kn ops rs i f' H' nx o u=some r:=by
 unfold cG at h⊢;split at h
 ·split at h
  ·rename_i h1;rw[xU hf hH h1];exact h
  ·cases h
 ·split at h
  ·cases h
  ·split at h
   ·split at h
    ·rename_i hfd;simp only[hf _ _ hfd];split at h
     ·split at h
      ·split at h
       ·rename_i h1;rw[xU hf hH h1];exact h
       ·cases h
      ·exact h
     ·exact h
    ·cases h
   ·split at h
    ·rename_i hp;split at h
     ·rename_i hgo;rw[A6B hf hgo,oP hf hH hp];simp only;rw[B1Y hf hgo];exact h
     ·cases h
    ·cases h
   ·cases h
end
abbrev DR:=Option Ent×Prop×Option HB×Option (Nat×Option HB)
def C3H (m k:Nat):Bool:=Nat.beq (Nat.land (Nat.shiftRight m k) 1) 1
def T8 (ms:List Nat) (k j:Nat):Bool:=match X0 ms j with
 |some m=>C3H m k
 |none=>false
def A6C:List Oper→Nat→Nat→Option Nat
 |[],_,_=>none
 |o::l,i,s=>match oeq o.dst s with
  |true=>some i
  |false=>A6C l (i+1) s
def gQ (ks:List (Nat×Nat)) (f:Nat→Bool) (n:Nat):Bool:=match ks with
 |[]=>false
 |(k,n')::l=>(Nat.beq n n' && f k) || gQ l f n
def iU (ks:List (Nat×Nat)) (f:Nat→Bool) (n:Nat):Option Nat:=match ks with
 |[]=>none
 |(k,n')::l=>match iU l f n with
  |some k'=>some k'
  |none=>match Nat.beq n n' && f k with
   |true=>some k
   |false=>none
def drX (r:Option DR) (n:Nat):Option HB:=match r with
 |some (_,_,_,some (n',x))=>match Nat.beq n n' with
  |true=>x
  |false=>none
 |_=>none
def drE (r:Option DR):Option Ent:=match r with
 |some (e,_)=>e
 |none=>none
def drH (r:Option DR):Option HB:=match r with
 |some (_,_,hb,_)=>hb
 |none=>none
def mF (ops:List Oper) (ms:List Nat) (f0:Nat→Option Ent) (res:Nat→Option DR) (j:Nat):Nat→Option Ent:=fun s=>match A6C ops 0 s with
 |none=>f0 s
 |some k=>match T8 ms k j with
  |true=>drE (res k)
  |false=>match T8 ms j k || Nat.beq j k with
   |true=>f0 s
   |false=>none
def wE (ks:List (Nat×Nat)) (H0:Nat→Option HB) (nx0:Nat) (res:Nat→Option DR) (f:Nat→Bool):Nat→Option HB:=fun n=>match iU ks f n with
 |some k=>drX (res k) n
 |none=>match Nat.blt n nx0 with
  |true=>H0 n
  |false=>match f (n-nx0)with
   |true=>drH (res (n-nx0))
   |false=>none
def mH (ms:List Nat) (ks:List (Nat×Nat)) (H0:Nat→Option HB) (nx0:Nat) (res:Nat→Option DR) (j:Nat):Nat→Option HB:=fun n=>match gQ ks (fun k=> !T8 ms k j && !(T8 ms j k || Nat.beq j k)) n with
 |true=>none
 |false=>wE ks H0 nx0 res (fun k=>T8 ms k j) n
def B9U (ms:List Nat) (k n:Nat):List (Nat×Nat)→Bool
 |[]=>true
 |(k',n')::l=>(!Nat.beq n n' || T8 ms k k') && B9U ms k n l
def vQ (ms:List Nat) (nx0:Nat):List (Nat×Nat)→Bool
 |[]=>true
 |(k,n)::l=>(Nat.blt n nx0 || T8 ms (n-nx0) k) && B9U ms k n l && vQ ms nx0 l
def A2n (E:D9) (kn:Nat→Option Bool) (ops:List Oper) (ms:List Nat) (ks:List (Nat×Nat)) (f0:Nat→Option Ent) (H0:Nat→Option HB) (nx0:Nat) (res:Nat→Option DR) (j:Nat) (o:Oper) (u:Value):Option DR:=
 cG E kn ops (C7 ops ops) j (mF ops ms f0 res j) (mH ms ks H0 nx0 res j) (nx0+j) o u
def dGo (E:D9) (kn:Nat→Option Bool) (ops:List Oper) (ms:List Nat) (ks:List (Nat×Nat)) (f0:Nat→Option Ent) (H0:Nat→Option HB) (nx0:Nat) (bs:Nat→Value):List Oper→Nat→(Nat→Option DR)→Prop→Option ((Nat→Option DR)×Prop)
 |[],_,res,p=>some (res,p)
 |o::l,j,res,p=>match A2n E kn ops ms ks f0 H0 nx0 res j o (bs j)with
  |some (e,ob,hb,kill)=>match(match kill with|some (n,_)=>gQ ks (fun k=>Nat.beq j k) n|none=>true)with
   |true=>dGo E kn ops ms ks f0 H0 nx0 bs l (j+1) (fun i=>match Nat.beq i j with
    |true=>some (e,ob,hb,kill)
    |false=>res i) (p∧ob)
   |false=>none
  |none=>none
def jI (ops:List Oper) (f0:Nat→Option Ent) (res:Nat→Option DR) (f:Nat→Bool):Nat→Option Ent:=fun s=>match A6C ops 0 s with
 |none=>f0 s
 |some k=>match f k with
  |true=>drE (res k)
  |false=>f0 s
def ltB (m k:Nat):Bool:=Nat.blt k m
def uM (E:D9) (kn:Nat→Option Bool) (ops:List Oper) (m:Nat) (ms:List Nat) (ks:List (Nat×Nat)) (st:St) (bs:Nat→Value):Option (St×Prop):=match st with
 |⟨f0,H0,nx0⟩=>match vQ ms nx0 ks with
  |false=>none
  |true=>match dGo E kn ops ms ks f0 H0 nx0 bs (tke m ops) 0 (fun _=>none) True with
   |some (res,p)=>some (⟨jI ops f0 res (ltB m),wE ks H0 nx0 res (ltB m),nx0+m⟩,p)
   |none=>none
def I2 (m:Region.Mode):List Edge→List Nat
 |[]=>[]
 |e::l=>match Region.binds m e with
  |true=>e.on::I2 m l
  |false=>I2 m l
def A2o (ms:List Nat):List Nat→Nat
 |[]=>0
 |k::l=>Nat.lor (Nat.lor (Nat.shiftLeft 1 k) ((X0 ms k).getD 0)) (A2o ms l)
def B0H (j:Nat):List Nat→Bool
 |[]=>true
 |k::l=>Nat.blt k j && B0H j l
def xV:List Oper→List Nat
 |[]=>[]
 |o::l=>match o.dst with
  |some d=>d::xV l
  |none=>xV l
def B9V (N:Nat) (ops:List Oper) (rs:List (Nat×Nat)) (ms:List Nat):List Oper→Nat→Bool
 |[],_=>true
 |o::l,j=>B0H j (I2 .any o.after.toList) && (match X0 ms j with|some m=>Nat.beq m (A2o ms (I2 .any o.after.toList))|none=>false) &&
  A2m N j rs o.dst && (match o.guard with|some (g,_)=>T8 ms g j|none=>true) && B9V N ops rs ms l (j+1)
def A3d (ms:List Nat) (i:Nat):Nat→Bool
 |0=>true
 |k+1=>T8 ms k i && A3d ms i k
def B0I (ms:List Nat) (m:Nat):Nat→Bool
 |0=>true
 |i+1=>(Nat.blt i m || A3d ms i i) && B0I ms m i
def A2G (N:Nat) (ops:List Oper) (m:Nat) (ms:List Nat):Bool:=I1 (xV ops) && B9V N ops (C7 ops ops) ms ops 0 && (Nat.ble m (len ops) && B0I ms m (len ops))
theorem B1Z {ms:List Nat} {i:Nat}:∀{k:Nat},A3d ms i k=true→∀j,j<k→T8 ms j i=true:=by
 intro k
 induction k with
 |zero=>intro _ j hj;omega
 |succ k ih=>
  intro h j hj;simp only[A3d,Bool.and_eq_true]at h;by_cases hk:j=k
  ·subst hk;exact h.1
  ·exact ih h.2 j (by omega)
theorem A6D {ms:List Nat} {m:Nat}:∀{n:Nat},B0I ms m n=true→∀i,m≤i→i<n→∀k,k<i→T8 ms k i=true:=by
 intro n
 induction n with
 |zero=>intro _ i _ hi;omega
 |succ n ih=>
  intro h i hm hi k hk;simp only[B0I,Bool.and_eq_true,Bool.or_eq_true,Nat.blt_eq]at h;by_cases hn:i=n
  ·subst hn;rcases h.1 with h1|h1
   ·omega
   ·exact B1Z h1 k hk
  ·exact ih h.2 i hm (by omega) k hk
section
variable {ops : List Oper} {ms : List Nat} {ks : List (Nat × Nat)} {N : Nat} {mrk : MK}
theorem B0J (m k:Nat):C3H m k=m.testBit k:=by
 unfold C3H;rw[Bool.eq_iff_iff,Nat.beq_eq];simp only[Nat.testBit]
 change(m >>> k) &&& 1=1↔_
 rw[Nat.and_comm];have:1 &&& (m >>> k)=0∨1 &&& (m >>> k)=1:=by rw[Nat.and_comm,Nat.and_one_is_mod];omega
 rcases this with h|h<;> simp[h]
theorem B1a {k:Nat}:∀{l:List Nat},(A2o ms l).testBit k=true↔∃e∈l,k=e∨T8 ms k e=true:=by
 intro l
 induction l with
 |nil=>simp[A2o]
 |cons e l ih=>
  have h0:A2o ms (e::l)=((1 <<<e) ||| ((X0 ms e).getD 0)) ||| A2o ms l:=rfl
  rw[h0];simp only[Nat.testBit_or,Bool.or_eq_true,ih,List.mem_cons,exists_eq_or_imp];refine or_congr (or_congr ?_ ?_) Iff.rfl
  ·rw[Nat.one_shiftLeft,Nat.testBit_two_pow];simp[eq_comm]
  ·unfold T8;cases X0 ms e with
   |none=>simp
   |some m=>simp[B0J]
theorem gR {m:Region.Mode} {e:Edge}:∀{l:List Edge},e∈l→Region.binds m e=true→e.on∈I2 m l:=by
 intro l
 induction l with
 |nil=>intro h;cases h
 |cons x l ih=>
  intro h hb;simp only[I2];rcases List.mem_cons.1 h with rfl|h
  ·rw[hb];exact List.mem_cons_self
  ·split
   ·exact List.mem_cons_of_mem _ (ih h hb)
   ·exact ih h hb
theorem Y5 {m:Region.Mode} {k:Nat}:∀{l:List Edge},k∈I2 m l→∃e∈l,Region.binds m e=true∧e.on=k:=by
 intro l
 induction l with
 |nil=>intro h;cases h
 |cons x l ih=>
  intro h;simp only[I2]at h;split at h
  ·rename_i hb;rcases List.mem_cons.1 h with rfl|h
   ·exact⟨x,List.mem_cons_self,hb,rfl⟩
   ·obtain⟨e,h1,h2⟩:=ih h;exact⟨e,List.mem_cons_of_mem _ h1,h2⟩
  ·obtain⟨e,h1,h2⟩:=ih h;exact⟨e,List.mem_cons_of_mem _ h1,h2⟩
theorem B4d {j:Nat}:∀{l:List Nat},B0H j l=true→∀k∈l,k<j:=by
 intro l
 induction l with
 |nil=>intro _ k h;cases h
 |cons x l ih=>
  intro h k hk;simp only[B0H,Bool.and_eq_true,Nat.blt_eq]at h;rcases List.mem_cons.1 hk with rfl|hk
  ·exact h.1
  ·exact ih h.2 k hk
structure A6E (N:Nat) (ops:List Oper) (ms:List Nat) (j:Nat) (o:Oper):Prop where
 lt:∀k∈I2 .any o.after.toList,k<j
 bit:∀k,T8 ms k j=true↔∃e∈I2 .any o.after.toList,k=e∨T8 ms k e=true
 dst:A2m N j (C7 ops ops) o.dst=true
 gd:∀g b,o.guard=some (g,b)→T8 ms g j=true
theorem B0K {rs:List (Nat×Nat)} (hrs:rs=C7 ops ops):∀{l:List Oper} {i:Nat},B9V N ops rs ms l i=true→∀(j:Nat) (o:Oper),l[j]? =some o→A6E N ops ms (i+j) o:=by
 intro l
 induction l with
 |nil=>intro i _ j o h;simp at h
 |cons x l ih=>
  intro i h j o hj;simp only[B9V,Bool.and_eq_true]at h;obtain⟨⟨⟨⟨h1,h2⟩,h3⟩,h4⟩,h5⟩:=h;cases j with
  |zero=>
   simp at hj;subst hj;refine⟨B4d h1,fun k=>?_,hrs▸h3,fun g b hg=>by rw[hg]at h4;exact h4⟩;split at h2
   ·rename_i m hm;rw[Nat.beq_eq]at h2;have:T8 ms k (i+0)=m.testBit k:=by simp only[T8,Nat.add_zero,hm,B0J]
    rw[this,h2];exact B1a
   ·cases h2
  |succ j=>
   have:=ih h5 j o (by simpa using hj)
   rwa [show i+1+j=i+(j+1)from by omega]at this
theorem fT {s k:Nat}:∀{l:List Oper} {i:Nat},A6C l i s=some k→∃o,i≤k∧l[k-i]? =some o∧o.dst=some s:=by
 intro l
 induction l with
 |nil=>intro i h;cases h
 |cons x l ih=>
  intro i h;simp only[A6C]at h;split at h
  ·rename_i hb;cases h;refine⟨x,Nat.le_refl _,by simp,?_⟩;unfold oeq at hb;split at hb
   ·rename_i hd;rw[Nat.beq_eq]at hb;subst hb;exact hd
   ·cases hb
  ·obtain⟨o,h1,h2,h3⟩:=ih h;refine⟨o,by omega,?_,h3⟩;rw[show k-i=(k-(i+1))+1 from by omega];simpa using h2
theorem B4e {d:Nat} {o:Oper}:∀{l:List Oper},o∈l→o.dst=some d→d∈xV l:=by
 intro l
 induction l with
 |nil=>intro h;cases h
 |cons x l ih=>
  intro h hd;simp only[xV];rcases List.mem_cons.1 h with rfl|h
  ·rw[hd];exact List.mem_cons_self
  ·split
   ·exact List.mem_cons_of_mem _ (ih h hd)
   ·exact ih h hd
theorem A6F {s:Nat} {o:Oper}:∀{l:List Oper} {i j:Nat},I1 (xV l)=true→l[j]? =some o→o.dst=some s→A6C l i s=some (i+j):=by
 intro l
 induction l with
 |nil=>intro i j _ h;simp at h
 |cons x l ih=>
  intro i j hn hj hd;cases j with
  |zero=>
   simp at hj;subst hj;simp[A6C,oeq,hd]
  |succ j=>
   have hj':l[j]? =some o:=by simpa using hj
   have hne:oeq x.dst s=false:=by
    cases hx:x.dst with
    |none=>rfl
    |some d=>
     simp only[oeq];cases hb:Nat.beq d s with
     |false=>rfl
     |true=>
      rw[Nat.beq_eq]at hb;subst hb;simp only[xV,hx,I1,Bool.and_eq_true,Bool.not_eq_true']at hn;have:=fP (B4e (List.mem_of_getElem? hj') hd);rw[this]at hn;cases hn.1
   have hn':I1 (xV l)=true:=by
    simp only[xV]at hn;split at hn
    ·simp only[I1,Bool.and_eq_true]at hn;exact hn.2
    ·exact hn
   simp only[A6C,hne];rw[ih hn' hj' hd]
   congr 1;omega
theorem xW {f:Nat→Bool} {n:Nat}:gQ ks f n=true↔∃k,(k,n)∈ks∧f k=true:=by
 induction ks with
 |nil=>simp[gQ]
 |cons x ks ih=>
  obtain⟨k,n'⟩:=x;simp only[gQ,Bool.or_eq_true,Bool.and_eq_true,ih,Nat.beq_eq,List.mem_cons,Prod.mk.injEq]
  constructor
  ·rintro (⟨rfl,h⟩|⟨k',h1,h2⟩)
   ·exact⟨k,.inl ⟨rfl,rfl⟩,h⟩
   ·exact⟨k',.inr h1,h2⟩
  ·rintro ⟨k',(⟨rfl,rfl⟩|h1),h2⟩
   ·exact .inl ⟨rfl,h2⟩
   ·exact .inr ⟨k',h1,h2⟩
theorem jT {f g:Nat→Bool} {n:Nat} (h:∀k,(k,n)∈ks→f k=g k):iU ks f n=iU ks g n:=by
 induction ks with
 |nil=>rfl
 |cons x ks ih=>
  obtain⟨k,n'⟩:=x;simp only[iU];rw[ih (fun k hk=>h k (List.mem_cons_of_mem _ hk))];cases hb:Nat.beq n n' with
  |false=>rfl
  |true=>rw[Nat.beq_eq]at hb;subst hb;rw[h k List.mem_cons_self]
theorem xX {f:Nat→Bool} {n:Nat} (h:iU ks f n=none):∀k,(k,n)∈ks→f k=false:=by
 induction ks with
 |nil=>intro k hk;cases hk
 |cons x ks ih=>
  obtain⟨k,n'⟩:=x;simp only[iU]at h;split at h
  ·cases h
  ·rename_i h1;split at h
   ·cases h
   ·rename_i h2;intro k' hk';rcases List.mem_cons.1 hk' with hk'|hk'
    ·cases hk';simpa using h2
    ·exact ih h1 k' hk'
theorem mR {f:Nat→Bool} {n k nx0:Nat} (hc:vQ ms nx0 ks=true) (h:iU ks f n=some k):(k,n)∈ks∧f k=true∧∀k',(k',n)∈ks→f k'=true→k'=k∨T8 ms k' k=true:=by
 induction ks with
 |nil=>cases h
 |cons x ks ih=>
  obtain⟨k0,n'⟩:=x;simp only[vQ,Bool.and_eq_true]at hc;have hp:∀{l:List (Nat×Nat)},B9U ms k0 n' l=true→∀k',(k',n')∈l→T8 ms k0 k'=true:=by
   intro l
   induction l with
   |nil=>intro _ k' hk';cases hk'
   |cons y l ihl=>
    obtain⟨k1,n1⟩:=y;intro hq k' hk';simp only[B9U,Bool.and_eq_true,Bool.or_eq_true,Bool.not_eq_true']at hq;rcases List.mem_cons.1 hk' with hk'|hk'
    ·cases hk';rcases hq.1 with h1|h1
     ·simp at h1
     ·exact h1
    ·exact ihl hq.2 k' hk'
  simp only[iU]at h;split at h
  ·rename_i k' h1;cases h;obtain⟨g1,g2,g3⟩:=ih hc.2 h1;refine⟨List.mem_cons_of_mem _ g1,g2,fun k' hk' hf=>?_⟩;rcases List.mem_cons.1 hk' with hk'|hk'
   ·cases hk';exact .inr (hp hc.1.2 k g1)
   ·exact g3 k' hk' hf
  ·rename_i h1;split at h
   ·rename_i h2;cases h;simp only[Bool.and_eq_true,Nat.beq_eq]at h2;obtain⟨rfl,h2⟩:=h2;refine⟨List.mem_cons_self,h2,fun k' hk' hf=>?_⟩;rcases List.mem_cons.1 hk' with hk'|hk'
    ·cases hk';exact .inl rfl
    ·have:=xX h1 k' hk';rw[hf]at this;cases this
   ·cases h
theorem B9W {nx0 k n:Nat} (hc:vQ ms nx0 ks=true) (h:(k,n)∈ks):n<nx0∨T8 ms (n-nx0) k=true:=by
 induction ks with
 |nil=>cases h
 |cons x ks ih=>
  obtain⟨k0,n'⟩:=x;simp only[vQ,Bool.and_eq_true,Bool.or_eq_true,Nat.blt_eq]at hc;rcases List.mem_cons.1 h with h|h
  ·cases h;exact hc.1.1
  ·exact ih hc.2 h
end
section
variable {P : Program} {E : D9} {kn : Nat → Option Bool} {ops : List Oper} {ms : List Nat} {ks : List (Nat × Nat)} {f0 : Nat → Option Ent} {H0 : Nat → Option HB} {nx0 : Nat}
 {B:Nat→Prop} {W:World} {M0 M:B5} {Q:Exit→Act→World→Prop} {k:List X8} {st:St} {a:Act} {w:World}
theorem oQ {res res':Nat→Option DR} {j:Nat} (h:∀k,T8 ms k j=true→res k=res' k):mF ops ms f0 res j=mF ops ms f0 res' j:=by
 funext s
 simp only[mF];split
 ·rfl
 ·rename_i k hk;cases hb:T8 ms k j with
  |true=>simp only[h k hb]
  |false=>rfl
theorem A2p {res res':Nat→Option DR} {f:Nat→Bool} (hc:vQ ms nx0 ks=true) (h:∀k,f k=true→res k=res' k):wE ks H0 nx0 res f=wE ks H0 nx0 res' f:=by
 funext n
 simp only[wE];cases hl:iU ks f n with
 |some k=>simp only[h k (mR hc hl).2.1]
 |none=>
  cases hb:f (n-nx0)with
  |true=>simp only[h _ hb]
  |false=>rfl
theorem B4f {res res':Nat→Option DR} {j:Nat} (hc:vQ ms nx0 ks=true) (h:∀k,T8 ms k j=true→res k=res' k):mH ms ks H0 nx0 res j=mH ms ks H0 nx0 res' j:=by
 funext n
 simp only[mH];rw[A2p (f:=fun k=>T8 ms k j) hc h]
theorem uN {res res':Nat→Option DR} {j:Nat} {o:Oper} {u:Value} (hc:vQ ms nx0 ks=true) (h:∀k,T8 ms k j=true→res k=res' k):A2n E kn ops ms ks f0 H0 nx0 res j o u=A2n E kn ops ms ks f0 H0 nx0 res' j o u:=by
 unfold A2n;rw[oQ h,B4f hc h]
theorem C3I {m:Nat} (hc:vQ ms nx0 ks=true) (hlt:∀k j,j<ops.length→T8 ms k j=true→k<j) {bs:Nat→Value}:∀{l:List Oper} {i:Nat} {res res':Nat→Option DR} {p p':Prop},l=(ops.take m).drop i→dGo E kn ops ms ks f0 H0 nx0 bs l i res p=some (res',p')→
 (∀j,j<i→res' j=res j)∧(p'→p)∧∀(j:Nat) (o:Oper),i≤j→j<m→ops[j]? =some o→∃e ob hb kill,res' j=some (e,ob,hb,kill)∧A2n E kn ops ms ks f0 H0 nx0 res' j o (bs j)=some (e,ob,hb,kill)∧(p'→ob)∧∀n x,kill=some (n,x)→gQ ks (fun k=>Nat.beq j k) n=true:=by
 intro l
 induction l with
 |nil=>
  intro i res res' p p' hl h;cases h;refine⟨fun _ _=>rfl,id,fun j o hij hjm hj=>?_⟩;have h1:(ops.take m).length≤i:=List.drop_eq_nil_iff.1 hl.symm;rw[List.length_take]at h1;have h2:=(gS_.1 hj).1;omega
 |cons x l ih=>
  intro i res res' p p' hl h;simp only[dGo]at h;split at h
  ·rename_i e ob hb kill hst;split at h
   ·rename_i hkill;have hl':l=(ops.take m).drop (i+1):=by
     have:=congrArg List.tail hl;simpa[List.tail_drop]using this
    obtain⟨g1,g2,g3⟩:=ih hl' h;have hi':i<(ops.take m).length:=by
     rcases Nat.lt_or_ge i (ops.take m).length with h'|h'
     ·exact h'
     ·rw[List.drop_eq_nil_of_le h']at hl;cases hl
    have hi:i<ops.length:=by rw[List.length_take]at hi';omega
    have him:i<m:=by rw[List.length_take]at hi';omega
    have hx:ops[i]? =some x:=by
     have h0:((ops.take m).drop i)[0]? =some x:=by rw[←hl];rfl
     rw[List.getElem?_drop,Nat.add_zero,List.getElem?_take,if_pos him]at h0;exact h0
    refine⟨fun j hj=>?_,fun hp=>(g2 hp).1,fun j o hij hjm hj=>?_⟩
    ·rw[g1 j (by omega)];have:Nat.beq j i=false:=by
      cases hb:Nat.beq j i with
      |false=>rfl
      |true=>rw[Nat.beq_eq]at hb;omega
     simp only[this]
    ·rcases Nat.lt_or_ge i j with hlt'|hge
     ·exact g3 j o hlt' hjm hj
     ·obtain rfl:j=i:=by omega
      rw[hx]at hj;cases hj;have hres:res' j=some (e,ob,hb,kill):=by
       rw[g1 j (by omega)];simp
      refine⟨e,ob,hb,kill,hres,?_,fun hp=>(g2 hp).2,fun n x hn=>by subst hn;exact hkill⟩;rw[←hst];refine uN hc fun k hk=>?_
      have hkj:=hlt k j hi hk;rw[g1 k (by omega)];have:Nat.beq k j=false:=by
       cases hb:Nat.beq k j with
       |false=>rfl
       |true=>rw[Nat.beq_eq]at hb;omega
      simp only[this]
   ·cases h
  ·cases h
theorem I7.weaken {S:Nat→Prop} {N:Nat} {mrk:MK} {rs:List (Nat×Nat)} {f f':Nat→Option Ent} {H H':Nat→Option HB} {nx nx':Nat} (hS:I7 N mrk B W M0 ops rs S ⟨f,H,nx⟩ M a w) (hf:jC f' f) (hH:jC H' H):I7 N mrk B W M0 ops rs S ⟨f',H',nx'⟩ M a w:=
 ⟨⟨hS.h.below,hS.h.base,hS.h.mem,fun n x hx=>hS.h.ok n x (hH n x hx),fun n n' x x' b hn e1 e2=>hS.h.inj n n' x x' b hn (hH _ _ e1) (hH _ _ e2)⟩,hS.old,hS.d,hS.n,fun s e he=>hS.f s e (hf s e he),fun s j b x hx=>hS.g s j b x (hf _ _ hx)⟩
def H3 (listed:Array Bool) (k:Nat):Bool:=listed.getD k false
theorem J7 {listed:Array Bool} {i k:Nat} (hi:i<listed.size):H3 (listed.setIfInBounds i true) k=(H3 listed k || Nat.beq i k):=by
 unfold H3;cases hb:Nat.beq i k with
 |true=>rw[Nat.beq_eq]at hb;subst hb;simp[hi]
 |false=>
  have hne:i≠k:=fun e=>by subst e;simp at hb
  simp[Array.getElem?_setIfInBounds_ne hne]
structure B0L (E:D9) (kn:Nat→Option Bool) (ops:List Oper) (m:Nat) (ms:List Nat) (ks:List (Nat×Nat)) (f0:Nat→Option Ent) (H0:Nat→Option HB) (nx0:Nat) (R:(Nat→Value)→Nat→Option DR):Prop where
 chk:∀(j:Nat) (o:Oper),ops[j]? =some o→A6E E.N ops ms j o
 nd:I1 (xV ops)=true
 le:m≤ops.length
 tail:∀i,m≤i→i<ops.length→∀k,k<i→T8 ms k i=true
 st:∀us (j:Nat) (o:Oper),j<m→ops[j]? =some o→∃e ob hb kill,R us j=some (e,ob,hb,kill)∧A2n E kn ops ms ks f0 H0 nx0 (R us) j o (us j)=some (e,ob,hb,kill)∧ob∧∀n x,kill=some (n,x)→gQ ks (fun k=>Nat.beq j k) n=true
 ck:vQ ms nx0 ks=true
 out:∀us j,m≤j→R us j=none
variable {R : (Nat → Value) → Nat → Option DR}
theorem qZ (hc:∀(j:Nat) (o:Oper),ops[j]? =some o→A6E E.N ops ms j o):∀k j,j<ops.length→T8 ms k j=true→k<j:=by
 intro k j
 induction j using Nat.strongRecOn generalizing k with
 |_ j ih=>
  intro hj hb;have h1:=hc j _ (gE_ hj);obtain⟨e,he,hke⟩:=(h1.bit k).1 hb;have hlt:=h1.lt e he;rcases hke with rfl|hke
  ·exact hlt
  ·have:=ih e hlt k (by omega) hke;omega
theorem A2q (hc:∀(j:Nat) (o:Oper),ops[j]? =some o→A6E E.N ops ms j o):∀l k j,j<ops.length→T8 ms k j=true→T8 ms l k=true→T8 ms l j=true:=by
 intro l k j
 induction j using Nat.strongRecOn generalizing k with
 |_ j ih=>
  intro hj hb hl;have h1:=hc j _ (gE_ hj);obtain⟨e,he,hke⟩:=(h1.bit k).1 hb;have hlt:=h1.lt e he;rcases hke with rfl|hke
  ·exact(h1.bit l).2 ⟨_,he,.inr hl⟩
  ·exact(h1.bit l).2 ⟨e,he,.inr (ih e hlt k (by omega) hke hl)⟩
theorem B0L.dep {m:Nat} (hF:B0L E kn ops m ms ks f0 H0 nx0 R):∀(j:Nat),j<m→∀us us':Nat→Value,(∀k,k=j∨T8 ms k j=true→us k=us' k)→R us j=R us' j:=by
 intro j
 induction j using Nat.strongRecOn with
 |_ j ih=>
  intro hjm us us' h;have hj:j<ops.length:=by have:=hF.le;omega
  obtain⟨e,ob,hb,kill,h1,h2,_⟩:=hF.st us j _ hjm (gE_ hj);obtain⟨e',ob',hb',kill',h1',h2',_⟩:=hF.st us' j _ hjm (gE_ hj);rw[h1,h1',←h2,←h2',h j (.inl rfl)];refine uN hF.ck fun k hk=>?_
  have hkj:=qZ hF.chk k j hj hk;exact ih k hkj (by omega) us us' fun l hl=>h l (.inr (by
   rcases hl with rfl|hl
   ·exact hk
   ·exact A2q hF.chk l k j hj hk hl))
theorem A2r {res res':Nat→Option DR} {f:Nat→Bool} (h:∀k,k<ops.length→f k=true→res k=res' k):jI ops f0 res f=jI ops f0 res' f:=by
 funext s
 simp only[jI];split
 ·rfl
 ·rename_i k hk;obtain⟨o,_,h2,_⟩:=fT hk;have hlt:k<ops.length:=by have:=(gS_.1 h2).1;simpa using this
  cases hb:f k with
  |true=>simp only[h k hlt hb]
  |false=>rfl
theorem B0M {m:Nat} (hc:∀(j:Nat) (o:Oper),ops[j]? =some o→A6E E.N ops ms j o) (htail:∀i,m≤i→i<ops.length→∀k,k<i→T8 ms k i=true):∀(r i:Nat),i+r=ops.length→m≤i→∀(fuel:Nat) (listed:Array Bool) (a:Act) (w:World),r≤fuel→listed.size=ops.length→
 (∀k,k<ops.length→(H3 listed k=true↔k<i))→wpList P ops.toArray Q (Q6 i ops) a w→wpAny P .any ops.toArray Q fuel listed a w:=by
 intro r
 induction r with
 |zero=>
  intro i hi hm fuel listed a w hf hsz hd h;have hr:Region.ready .any ops.toArray listed=[]:=by
   apply List.eq_nil_iff_forall_not_mem.2;intro j hj;obtain⟨h1,o,ho,_⟩:=mem_ready.1 hj;have hlt:j<ops.length:=by simpa using(Array.getElem?_eq_some_iff.1 ho).1
   have h2:=(hd j hlt).2 (by omega);unfold H3 at h2;have hls:j<listed.size:=by omega
   simp[hls]at h1 h2;rw[h1]at h2;cases h2
  refine wpAny_done hr ?_ fuel;rw[Q0,List.drop_eq_nil_of_le (by omega)]at h;exact h
 |succ r ih=>
  intro i hi hm fuel listed a w hf hsz hd h;obtain⟨f,rfl⟩:∃f,fuel=f+1:=⟨fuel-1,by omega⟩
  have hlt:i<ops.length:=by omega
  have hls:i<listed.size:=by omega
  have hnd:H3 listed i=false:=by
   cases hdi:H3 listed i with
   |false=>rfl
   |true=>have:=(hd i hlt).1 hdi;omega
  have hiu:listed.getD i true=false:=by unfold H3 at hnd;simp[hls]at hnd⊢;exact hnd
  have hready:∀j,j∈Region.ready .any ops.toArray listed↔j=i:=by
   intro j
   constructor
   ·intro hj;obtain⟨h1,o,ho,hall⟩:=mem_ready.1 hj;have hjl:j<ops.length:=by simpa using(Array.getElem?_eq_some_iff.1 ho).1
    have hjn:¬j<i:=fun hji=>by
     have h2:=(hd j hjl).2 hji;unfold H3 at h2;have:j<listed.size:=by omega
     simp[this]at h1 h2;rw[h1]at h2;cases h2
    rcases Nat.lt_or_ge i j with hij|hij
    ·exfalso;have hb:=htail j (by omega) hjl i hij;have:∀j,j<ops.length→∀i,T8 ms i j=true→(∀e∈I2 .any (ops.getD j default).after.toList,H3 listed e=true)→H3 listed i=true:=by
      intro j hj i hb he;have hck:=hc j _ (gE_ hj);obtain⟨e,he1,he2⟩:=(hck.bit i).1 hb;have hed:H3 listed e=true:=he e (by simpa[List.getD,hj]using he1);rcases he2 with rfl|he2
      ·exact hed
      ·have hel:=hck.lt e he1;have:=(hd e (by omega)).1 hed;have hie:i<e:=by
        exact qZ hc i e (by omega) he2
       exact(hd i (by omega)).2 (by omega)
     have hd2:=this j hjl i hb (fun e he=>by
      have ho':ops[j]? =some o:=by simpa using ho
      have:ops.getD j default=o:=by simp[List.getD,ho']
      rw[this]at he;obtain⟨ed,q1,q2,q3⟩:=Y5 he;rw[←q3];exact hall ed (by simpa using q1) q2)
     rw[hnd]at hd2;cases hd2
    ·omega
   ·rintro rfl
    refine mem_ready.2 ⟨hiu,ops[j],by simp[hlt],fun e he hb=>?_⟩;have hm':=gR (l:=ops[j].after.toList) (by simpa using he) hb;have hel:=(hc j _ (gE_ hlt)).lt _ hm';exact(hd e.on (by omega)).2 hel
  refine⟨fun hr=>?_,fun j hj=>?_⟩
  ·have:=(hready i).2 rfl;rw[hr]at this;cases this
  ·have hji:=(hready j).1 hj;subst hji;have hdr:Q6 j ops=ops[j]::Q6 (j+1) ops:=by rw[Q0,Q0,List.drop_eq_getElem_cons hlt]
   rw[hdr]at h;have hgo:∀a w,wpList P ops.toArray Q (Q6 (j+1) ops) a w→wpAny P .any ops.toArray Q f (listed.setIfInBounds j true) a w:=fun a w hh=>ih (j+1) (by omega) (by omega) f _ a w (by omega) (by simp[hsz]) (fun k hk=>by
    rw[J7 hls,Bool.or_eq_true,hd k hk,Nat.beq_eq];omega) hh
   unfold wpOp;have ho:ops.toArray[j]? =some ops[j]:=by simp[hlt]
   simp only[ho];simp only[wpList]at h;split
   ·rename_i hw;rw[if_pos hw]at h;rcases h with h|h
    ·exact .inl (Oper.wp_mono hgo h)
    ·exact .inr h
   ·rename_i hw;rw[if_neg hw]at h;exact hgo _ _ h
theorem any_ok {m:Nat} (hT:K9 P E.T) (hΨ:B1 P E) (hF:B0L E kn ops m ms ks f0 H0 nx0 R)
 (hQ:∀us M a w,I7 E.N E.mrk B W M0 ops (C7 ops ops) (fun j=>j<m) ⟨jI ops f0 (R us) (ltB m),wE ks H0 nx0 (R us) (ltB m),nx0+m⟩ M a w→wpList P ops.toArray Q (Q6 m ops) a w):
 ∀(fuel:Nat) (listed:Array Bool) (a:Act) (w:World),listed.size=ops.length→(∀j,j<ops.length→H3 listed j=true→∀k,T8 ms k j=true→H3 listed k=true)→(∀j,H3 listed j=true→j<m)→
  ((List.range ops.length).countP (fun j=> !H3 listed j)≤fuel)→(∃us M,I7 E.N E.mrk B W M0 ops (C7 ops ops) (fun j=>H3 listed j=true) ⟨jI ops f0 (R us) (H3 listed),wE ks H0 nx0 (R us) (H3 listed),nx0⟩ M a w)→
  wpAny P .any ops.toArray Q fuel listed a w:=by
 have fin:∀(fuel:Nat) (listed:Array Bool) (a:Act) (w:World),listed.size=ops.length→(∀j,H3 listed j=true↔j<m)→((List.range ops.length).countP (fun j=> !H3 listed j)≤fuel)→(∃us M,I7 E.N E.mrk B W M0 ops (C7 ops ops) (fun j=>H3 listed j=true) ⟨jI ops f0 (R us) (H3 listed),wE ks H0 nx0 (R us) (H3 listed),nx0⟩ M a w)→wpAny P .any ops.toArray Q fuel listed a w:=by
  intro fuel listed a w hsz hall hcnt ⟨us,M,hS⟩;have hd:H3 listed=ltB m:=by
   funext k
   rw[Bool.eq_iff_iff,hall k];unfold ltB;rw[Nat.blt_eq]
  have hle:=hF.le;refine B0M hF.chk hF.tail (ops.length-m) m (by omega) (Nat.le_refl _) fuel listed a w ?_ hsz (fun k _=>hall k) (hQ us M a w ?_)
  ·refine Nat.le_trans ?_ hcnt;have:∀n,m≤n→n-m≤(List.range n).countP (fun j=> !H3 listed j):=by
    intro n
    induction n with
    |zero=>intro _;omega
    |succ n ih=>
     intro hn;rw[List.range_succ,List.countP_append];by_cases h:m=n+1
     ·omega
     ·have:=ih (by omega);have e:(!H3 listed n)=true:=by
       cases hq:H3 listed n with
       |false=>rfl
       |true=>have:=(hall n).1 hq;omega
      have e2:List.countP (fun j=> !H3 listed j) [n]=1:=by simp[List.countP_cons,e]
      omega
   exact this _ hle
  ·rw[hd]at hS;have h3:=hS.weaken (nx':=nx0+m) (f':=jI ops f0 (R us) (ltB m)) (H':=wE ks H0 nx0 (R us) (ltB m)) (fun _ _ h=>h) (fun _ _ h=>h);exact⟨h3.h,h3.old,h3.d,h3.n,h3.f,fun s j b x hx=>⟨by have:=(h3.g s j b x hx).1;unfold ltB at this;rwa [Nat.blt_eq]at this,(h3.g s j b x hx).2⟩⟩
 intro fuel
 induction fuel with
 |zero=>
  intro listed a w hsz hcl hdm hc hI;have hall:∀j,j<ops.length→H3 listed j=true:=by
   intro j hj;have h0:(List.range ops.length).countP (fun j=> !H3 listed j)=0:=by omega
   rw[List.countP_eq_zero]at h0;have:=h0 j (List.mem_range.2 hj);simpa using this
  exact fin 0 listed a w hsz (fun j=>⟨hdm j,fun hj=>hall j (by have:=hF.le;omega)⟩) hc hI
 |succ fuel ih=>
  intro listed a w hsz hcl hdm hc hI;by_cases hpre:∀j,j<m→H3 listed j=true
  ·exact fin (fuel+1) listed a w hsz (fun j=>⟨hdm j,hpre j⟩) hc hI
  have hex:∃j,j<m∧H3 listed j=false:=by
   apply Classical.byContradiction;intro hno;refine hpre fun j hj=>?_
   cases hd:H3 listed j with
   |true=>rfl
   |false=>exact absurd ⟨j,hj,hd⟩ hno
  refine⟨fun hr=>?_,fun i hi=>?_⟩
  ·exfalso;have hall:∀j,j<ops.length→H3 listed j=true:=by
    intro j
    induction j using Nat.strongRecOn with
    |_ j ihj=>
     intro hj;cases hd:H3 listed j with
     |true=>rfl
     |false=>
      exfalso;have hjr:j∈Region.ready .any ops.toArray listed:=by
       refine mem_ready.2 ⟨?_,ops[j],by simp[hj],fun e he hb=>?_⟩
       ·unfold H3 at hd;have hls:j<listed.size:=by omega
        simp[hls]at hd⊢;exact hd
       ·have hm:=gR (l:=ops[j].after.toList) (by simpa using he) hb;have hlt:=(hF.chk j _ (gE_ hj)).lt _ hm;exact ihj e.on hlt (by omega)
      rw[hr]at hjr;cases hjr
   obtain⟨j,hj,hd⟩:=hex;rw[hall j (by have:=hF.le;omega)]at hd;cases hd
  ·obtain⟨hun,o,ho,hall⟩:=mem_ready.1 hi;have ho':ops[i]? =some o:=by simpa using ho
   have hlt:i<ops.length:=(gS_.1 ho').1;have hls:i<listed.size:=by omega
   have hnd:H3 listed i=false:=by unfold H3;simp[hls]at hun⊢;exact hun
   have hck:=hF.chk i o ho';have hbd:∀k,T8 ms k i=true→H3 listed k=true:=by
    intro k hk;obtain⟨e,he,hke⟩:=(hck.bit k).1 hk;obtain⟨ed,q1,q2,q3⟩:=Y5 he;have hde:H3 listed e=true:=by rw[←q3];exact hall ed (by simpa using q1) q2
    rcases hke with rfl|hke
    ·exact hde
    ·exact hcl e (by have:=hck.lt e he;omega) hde k hke
   have him:i<m:=by
    rcases Nat.lt_or_ge i m with h'|h'
    ·exact h'
    ·exfalso;obtain⟨j,hj,hd⟩:=hex;rw[hbd j (hF.tail i h' hlt j (by omega))]at hd;cases hd
   have hdm':∀j,H3 (listed.setIfInBounds i true) j=true→j<m:=by
    intro j hj;rw[J7 hls,Bool.or_eq_true,Nat.beq_eq]at hj;rcases hj with hj|hj
    ·exact hdm j hj
    ·omega
   obtain⟨us,M,hS⟩:=hI;have hsz':(listed.setIfInBounds i true).size=ops.length:=by simp[hsz]
   have hcl':∀j,j<ops.length→H3 (listed.setIfInBounds i true) j=true→∀k,T8 ms k j=true→H3 (listed.setIfInBounds i true) k=true:=by
    intro j hj hdj k hk;rw[J7 hls]at hdj⊢;rw[Bool.or_eq_true]at hdj⊢;rcases hdj with hdj|hdj
    ·exact .inl (hcl j hj hdj k hk)
    ·rw[Nat.beq_eq]at hdj;subst hdj;exact .inl (hbd k hk)
   have hc':(List.range ops.length).countP (fun j=> !H3 (listed.setIfInBounds i true) j)≤fuel:=by
    have key:∀(l:List Nat),i∈l→l.countP (fun j=> !H3 (listed.setIfInBounds i true) j)+1≤l.countP (fun j=> !H3 listed j):=by
     intro l;have hle:∀(l:List Nat),l.countP (fun j=> !H3 (listed.setIfInBounds i true) j)≤l.countP (fun j=> !H3 listed j):=by
      intro l;refine List.countP_mono_left fun x _ hx=>?_
      rw[J7 hls]at hx;simp at hx⊢;exact hx.1
     induction l with
     |nil=>intro h;cases h
     |cons x l ihl=>
      intro h;rw[List.countP_cons,List.countP_cons];by_cases hxi:x=i
      ·subst hxi;have e1:(!H3 (listed.setIfInBounds x true) x)=false:=by rw[J7 hls];simp
       have e2:(!H3 listed x)=true:=by rw[hnd];rfl
       rw[e1,e2];simp;exact hle l
      ·have:=ihl ((List.mem_cons.1 h).resolve_left (fun e=>hxi e.symm));have e1:(!H3 (listed.setIfInBounds i true) x)=(!H3 listed x):=by
        rw[J7 hls];have:Nat.beq i x=false:=by
         cases hb:Nat.beq i x with
         |false=>rfl
         |true=>rw[Nat.beq_eq]at hb;exact absurd hb.symm hxi
        rw[this];simp
       rw[e1];omega
    have:=key _ (List.mem_range.2 hlt);omega
   have main:if Region.wanted o (yielded ops.toArray a.tmps)then o.wp P a w (wpAny P .any ops.toArray Q fuel (listed.setIfInBounds i true)) Q else(wpAny P .any ops.toArray Q fuel (listed.setIfInBounds i true)) (a.put o.dst undef) w:=by
    have hS1:I7 E.N E.mrk B W M0 ops (C7 ops ops) (fun j=>H3 listed j=true) ⟨jI ops f0 (R us) (H3 listed),wE ks H0 nx0 (R us) (H3 listed),nx0+i⟩ M a w:=hS.weaken (fun _ _ h=>h) (fun _ _ h=>h);refine gL hT hΨ hS1 (i:=i) (S':=fun j=>H3 (listed.setIfInBounds i true) j=true) (by rw[hnd];simp) (fun j hj=>by rw[J7 hls,hj];rfl) (kn:=kn) (fun j b hg=>hbd j (hck.gd j b hg)) fun u=>?_
    let us':Nat→Value:=fun n=>match Nat.beq n i with|true=>u|false=>us n
    have hus:us' i=u:=by simp[us']
    have husne:∀n,n≠i→us' n=us n:=by
     intro n hn;have:Nat.beq n i=false:=by
      cases hb:Nat.beq n i with
      |false=>rfl
      |true=>rw[Nat.beq_eq]at hb;exact absurd hb hn
     simp[us',this]
    have hsame:∀k,k<ops.length→H3 listed k=true→R us k=R us' k:=by
     intro k hk hdk;refine hF.dep k (hdm k hdk) us us' fun l hl=>(husne l ?_).symm
     rintro rfl
     rcases hl with rfl|hl
     ·rw[hnd]at hdk;cases hdk
     ·rw[hcl k hk hdk _ hl]at hnd;cases hnd
    have hsameR:∀k,H3 listed k=true→R us k=R us' k:=by
     intro k hdk;rcases Nat.lt_or_ge k ops.length with h|h
     ·exact hsame k h hdk
     ·have:=hF.le;rw[hF.out us k (by omega),hF.out us' k (by omega)]
    have eF:jI ops f0 (R us) (H3 listed)=jI ops f0 (R us') (H3 listed):=A2r hsame;have eH:wE ks H0 nx0 (R us) (H3 listed)=wE ks H0 nx0 (R us') (H3 listed):=A2p hF.ck fun k hk=>hsameR k hk
    obtain⟨e,ob,hb,kill,r1,r2,r3,r4⟩:=hF.st us' i o him ho';rw[hus]at r2;have lF:jC (mF ops ms f0 (R us') i) (jI ops f0 (R us') (H3 listed)):=by
     intro s x hx;simp only[mF]at hx;simp only[jI];split at hx
     ·exact hx
     ·rename_i k hw;obtain⟨ok,_,q2,_⟩:=fT hw;have hkl:k<ops.length:=by have:=(gS_.1 q2).1;simpa using this
      split at hx
      ·rename_i hbk;simp only[hbd k hbk];exact hx
      ·split at hx
       ·rename_i hbk;have:H3 listed k=false:=by
         cases hdk:H3 listed k with
         |false=>rfl
         |true=>
          exfalso;rw[Bool.or_eq_true]at hbk;rcases hbk with hbk|hbk
          ·rw[hcl k hkl hdk i hbk]at hnd;cases hnd
          ·rw[Nat.beq_eq]at hbk;subst hbk;rw[hnd]at hdk;cases hdk
        simp only[this];exact hx
       ·cases hx
    have dlt:∀k,H3 listed k=true→k<ops.length:=fun k hd=>by
     rcases Nat.lt_or_ge k listed.size with h'|h'
     ·omega
     ·unfold H3 at hd;simp[Array.getElem?_eq_none h']at hd
    have lH:jC (mH ms ks H0 nx0 (R us') i) (wE ks H0 nx0 (R us') (H3 listed)):=by
     intro n x hx;simp only[mH]at hx;split at hx
     ·cases hx
     ·rename_i hk;have hag:∀k,(k,n)∈ks→T8 ms k i=H3 listed k:=by
       intro k hkn;cases hb:T8 ms k i with
       |true=>rw[hbd k hb]
       |false=>
        cases hd:H3 listed k with
        |false=>rfl
        |true=>
         exfalso;have:gQ ks (fun k=> !T8 ms k i && !(T8 ms i k || Nat.beq i k)) n=true:=xW.2 ⟨k,hkn,by
          rw[hb,Bool.not_false,Bool.true_and,Bool.not_eq_true',Bool.or_eq_false_iff];refine⟨?_,?_⟩
          ·cases hb2:T8 ms i k with
           |false=>rfl
           |true=>rw[hcl k (dlt k hd) hd i hb2]at hnd;cases hnd
          ·cases hb2:Nat.beq i k with
           |false=>rfl
           |true=>rw[Nat.beq_eq]at hb2;subst hb2;rw[hnd]at hd;cases hd⟩
         rw[this]at hk;cases hk
      simp only[wE]at hx⊢;rw[jT (f:=H3 listed) (g:=fun k=>T8 ms k i) (fun k hk=>(hag k hk).symm)];split at hx
      ·exact hx
      ·split at hx
       ·exact hx
       ·split at hx
        ·rename_i hbn;simp only[hbd _ hbn];exact hx
        ·cases hx
    have r5:=mQ lF lH r2;rw[←eF,←eH]at r5;obtain⟨nx',r6⟩:=oO hck.dst r5;refine⟨_,ob,r6,r3,fun a' w' M' hS'=>?_⟩;refine ih (listed.setIfInBounds i true) a' w' hsz' hcl' hdm' hc' ⟨us',M',?_⟩;refine hS'.weaken (fun s x hx=>?_) (fun n x hx=>?_)
    ·
     simp only[jI]at hx;have hput:∀s,o.dst≠some s→vP (jI ops f0 (R us) (H3 listed)) o.dst e s=jI ops f0 (R us) (H3 listed) s:=by
      intro s hs;cases hd:o.dst with
      |none=>rfl
      |some d=>
       have:Nat.beq s d=false:=by
        cases hb:Nat.beq s d with
        |false=>rfl
        |true=>rw[Nat.beq_eq]at hb;subst hb;exact absurd hd hs
       simp only[vP,bX,this]
     by_cases hd:o.dst=some s
     ·have hw:=A6F (i:=0) hF.nd ho' hd;rw[Nat.zero_add]at hw;rw[hw]at hx;have:H3 (listed.setIfInBounds i true) i=true:=by rw[J7 hls];simp
      simp only[this,r1,drE]at hx;rw[hd];simp only[vP,bX,Nat.beq_refl];exact hx
     ·rw[hput s hd,eF];simp only[jI];split at hx
      ·exact hx
      ·rename_i k hw;have hki:Nat.beq i k=false:=by
        cases hb:Nat.beq i k with
        |false=>rfl
        |true=>
         rw[Nat.beq_eq]at hb;subst hb;obtain⟨ok,_,q2,q3⟩:=fT hw;have:ops[i]? =some ok:=by simpa using q2
         rw[ho']at this;cases this;exact absurd q3 hd
       rw[J7 hls,hki,Bool.or_false]at hx;exact hx
    ·
     have hfe:H3 (listed.setIfInBounds i true)=fun k=>H3 listed k || Nat.beq i k:=by funext k;exact J7 hls
     have hii:T8 ms i i=false:=by
      cases hb2:T8 ms i i with
      |false=>rfl
      |true=>have:=qZ hF.chk i i hlt hb2;omega
     have hki:∀m y,kill=some (m,y)→(i,m)∈ks:=fun m y hm=>by
      obtain⟨k',h1,h2⟩:=xW.1 (r4 m y hm);rw[Nat.beq_eq]at h2;subst h2;exact h1
     have hmk:∀k,(k,n)∈ks→n=nx0+i→T8 ms i k=true:=fun k hk hn=>by
      rcases B9W hF.ck hk with h1|h1
      ·omega
      ·rwa [show n-nx0=i by omega]at h1
     have old:wE ks H0 nx0 (R us) (H3 listed) n=some x→n≠nx0+i→(∀y,kill≠some (n,y))→qX (wE ks H0 nx0 (R us) (H3 listed)) (nx0+i) hb kill n=some x:=by
      intro h1 h2 h3;have he:xR (wE ks H0 nx0 (R us) (H3 listed)) kill n=some x:=by
       cases kill with
       |none=>exact h1
       |some q=>
        obtain⟨m',y⟩:=q;simp only[xR];rw[B9 _ _ (fun e=>h3 y (by rw[e]))];exact h1
      cases hb with
      |none=>exact he
      |some b=>simp only[qX];rw[B9 _ _ h2];exact he
     simp only[wE]at hx;split at hx
     ·rename_i k hlk;obtain⟨g1,g2,g3⟩:=mR hF.ck hlk;rw[hfe]at g2 g3;by_cases hkeq:k=i
      ·subst hkeq;rw[r1]at hx;simp only[drX]at hx;split at hx
       ·rename_i n' y hreq;simp only[Option.some.injEq,Prod.mk.injEq]at hreq;obtain⟨_,_,_,hkill⟩:=hreq;split at hx
        ·rename_i hbn;rw[Nat.beq_eq]at hbn;subst hbn;have hne:n≠nx0+k:=fun hn=>by rw[hmk k g1 hn]at hii;cases hii
         rw[hkill];cases hb with
         |none=>simp only[qX,xR,B4];exact hx
         |some b=>simp only[qX,xR];rw[B9 _ _ hne,B4];exact hx
        ·cases hx
       ·cases hx
      ·have hdk:H3 listed k=true:=by
        simp only[Bool.or_eq_true,Nat.beq_eq]at g2;rcases g2 with h1|h1
        ·exact h1
        ·exact absurd h1.symm hkeq
       have hnb:T8 ms i k=false:=by
        cases hb2:T8 ms i k with
        |false=>rfl
        |true=>rw[hcl k (dlt k hdk) hdk i hb2]at hnd;cases hnd
       have hnk:(i,n)∉ks:=fun hm=>by
        rcases g3 i hm (by simp)with h1|h1
        ·exact hkeq h1.symm
        ·rw[hnb]at h1;cases h1
       refine old ?_ (fun hn=>by rw[hmk k g1 hn]at hnb;cases hnb) (fun y hy=>hnk (hki n y hy));have hlk':iU ks (H3 listed) n=some k:=by
        rw[←hlk,hfe];refine jT fun k' hk'=>?_
        have:Nat.beq i k'=false:=by
         cases hb2:Nat.beq i k' with
         |false=>rfl
         |true=>rw[Nat.beq_eq]at hb2;subst hb2;exact absurd hk' hnk
        rw[this,Bool.or_false]
       simp only[wE,hlk',hsameR k hdk];exact hx
     ·rename_i hlk;have hno:=xX hlk;rw[hfe]at hno;have hnk:(i,n)∉ks:=fun hm=>by have:=hno i hm;simp at this
      have hlk':iU ks (H3 listed) n=none:=by
       rw[←hlk,hfe];refine jT fun k' hk'=>?_
       have h1:(H3 listed k' || Nat.beq i k')=false:=hno k' hk';rw[h1];rw[Bool.or_eq_false_iff]at h1;exact h1.1
      split at hx
      ·rename_i hn;rw[Nat.blt_eq]at hn;refine old ?_ (by omega) (fun y hy=>hnk (hki n y hy));simp only[wE,hlk',(by rw[Nat.blt_eq];exact hn:Nat.blt n nx0=true)];exact hx
      ·rename_i hn;have hn':¬n<nx0:=fun h=>by rw[(by rw[Nat.blt_eq];exact h:Nat.blt n nx0=true)]at hn;cases hn
       split at hx
       ·rename_i hd;rw[J7 hls,Bool.or_eq_true]at hd;by_cases hni:n-nx0=i
        ·rw[hni,r1]at hx;simp only[drH]at hx;have:n=nx0+i:=by omega
         subst this;rw[hx];simp only[qX];rw[B4]
        ·have hd':H3 listed (n-nx0)=true:=by
          rcases hd with hd|hd
          ·exact hd
          ·rw[Nat.beq_eq]at hd;exact absurd hd.symm hni
         refine old ?_ (by omega) (fun y hy=>hnk (hki n y hy));simp only[wE,hlk',hn,hd',hsameR _ hd'];exact hx
       ·cases hx
   unfold wpOp;simp only[ho];split
   ·rename_i hw;rw[if_pos hw]at main;exact .inl main
   ·rename_i hw;rw[if_neg hw]at main;exact main
def V2:Code→Bool
 | .region _ _ true=>true
 |_=>false
theorem B9X {bs:Nat→Value}:∀{l:List Oper} {i:Nat} {res res':Nat→Option DR} {p p':Prop},dGo E kn ops ms ks f0 H0 nx0 bs l i res p=some (res',p')→∀j,i+l.length≤j→res' j=res j:=by
 intro l
 induction l with
 |nil=>intro i res res' p p' h j hj;cases h;rfl
 |cons x l ih=>
  intro i res res' p p' h j hj;simp only[dGo]at h;split at h
  ·split at h
   ·rw[ih h j (by simp at hj⊢;omega)];have:Nat.beq j i=false:=by
     cases hb:Nat.beq j i with
     |false=>rfl
     |true=>rw[Nat.beq_eq]at hb;simp at hj;omega
    simp only[this]
   ·cases h
  ·cases h
theorem V1.drawn {N:Nat} {mrk:MK} (hS:V1 N mrk B W M0 [] [] 0 st M a w) (n:Nat):V1 N mrk B W M0 [] [] 0 st M a {w with drawn:=n}:=by
 refine⟨⟨⟨hS.h.below.os,hS.h.below.tape,hS.h.below.output,hS.h.below.size,hS.h.below.block⟩,hS.h.base,hS.h.mem,fun m x hx=>?_,hS.h.inj⟩,hS.old,hS.d,hS.n,hS.f,hS.g⟩;have:=hS.h.ok m x hx;cases x with
 |obj S P=>exact⟨this.1,fun M2 w2 g1 g2 g3=>this.2 M2 w2 g1 g2 g3⟩
 |_=>exact this
theorem A6G (hT:K9 P E.T) (hΨ:B1 P E) (kn:Nat→Option Bool) (m:Nat) (ms:List Nat) (ks:List (Nat×Nat)) {ops:List Oper} (hchk:A2G E.N ops m ms=true)
 {st':(Nat→Value)→St} {ob:(Nat→Value)→Prop} (h:∀bs,uM E kn ops m ms ks st bs=some (st' bs,ob bs)) (ho:∀bs,ob bs) (hk:∀bs,G P E B W M0 Q (.ops ops m::k) (st' bs)) (hro:E.ro=none) (hS:V1 E.N E.mrk B W M0 [] [] 0 st M a w):
 wpAny P .any ops.toArray (after none P Q k) ops.toArray.size (Array.replicate ops.toArray.size false) a {w with drawn:=w.drawn+1}:=by
 simp only[A2G,Bool.and_eq_true,Nat.ble_eq,O9]at hchk;obtain⟨⟨hc1,hc2⟩,hc3,hc4⟩:=hchk;obtain⟨f0,H0,nx0⟩:=st;have hS0:V1 E.N E.mrk B W M0 [] [] 0 ⟨f0,H0,nx0⟩ M a w:=hS;have hS1:=hS0.drawn (w.drawn+1);have hck:∀(j:Nat) (o:Oper),ops[j]? =some o→A6E E.N ops ms j o:=fun j o hj=>by
  have:=B0K rfl hc2 j o hj
  rwa [Nat.zero_add]at this
 have hck0:vQ ms nx0 ks=true:=by
  have:=h (fun _=>undef);simp only[uM]at this;split at this
  ·cases this
  ·rename_i hc;exact hc
 have hR:∀bs,∃res p,dGo E kn ops ms ks f0 H0 nx0 bs (tke m ops) 0 (fun _=>none) True=some (res,p)∧p∧st' bs=⟨jI ops f0 res (ltB m),wE ks H0 nx0 res (ltB m),nx0+m⟩:=by
  intro bs;have:=h bs;simp only[uM,hck0]at this;split at this
  ·rename_i res p hg;simp only[Option.some.injEq,Prod.mk.injEq]at this;exact⟨res,p,hg,by rw[this.2];exact ho bs,this.1.symm⟩
  ·cases this
 let R:(Nat→Value)→Nat→Option DR:=fun bs=>Classical.choose (hR bs)
 have hR2:∀bs,∃p,dGo E kn ops ms ks f0 H0 nx0 bs (tke m ops) 0 (fun _=>none) True=some (R bs,p)∧p∧st' bs=⟨jI ops f0 (R bs) (ltB m),wE ks H0 nx0 (R bs) (ltB m),nx0+m⟩:=fun bs=>Classical.choose_spec (hR bs)
 have hF:B0L E kn ops m ms ks f0 H0 nx0 R:=by
  refine⟨hck,hc1,hc3,A6D hc4,fun us j o hjm hj=>?_,hck0,fun us j hj=>?_⟩
  ·obtain⟨p,h1,h2,_⟩:=hR2 us;obtain⟨_,_,g3⟩:=C3I (m:=m) hck0 (qZ hck) (i:=0) (by rw[aC];simp) h1;obtain⟨e,ob',hb,kill,q1,q2,q3,q4⟩:=g3 j o (Nat.zero_le _) hjm hj;exact⟨e,ob',hb,kill,q1,q2,q3 h2,q4⟩
  ·obtain⟨p,h1,h2,_⟩:=hR2 us;exact B9X h1 j (by rw[aC,List.length_take];omega)
 have hnone:∀j,H3 (Array.replicate ops.toArray.size false) j=false:=by
  intro j;unfold H3;simp only[Array.getD_eq_getD_getElem?,Array.getElem?_replicate];split<;> rfl
 refine any_ok (B:=B) (W:=W) (M0:=M0) (Q:=after none P Q k) hT hΨ hF (fun us M' a' w' hS'=>?_) _ _ _ _ (by simp) (fun j _ hd=>by rw[hnone j]at hd;cases hd) (fun j hd=>by rw[hnone j]at hd;cases hd) ?_ ⟨fun _=>undef,M,?_⟩
 ·obtain⟨p,h1,h2,h3⟩:=hR2 us;have:=hk us;rw[h3]at this;have:=this M' a' w' hS';rw[hro]at this;exact this
 ·refine Nat.le_trans List.countP_le_length ?_;simp
 ·have hd0:H3 (Array.replicate ops.toArray.size false)=fun _=>false:=funext hnone
  rw[hd0];have e1:jI ops f0 (R fun _=>undef) (fun _=>false)=f0:=by
   funext s;simp only[jI];split<;> rfl
  have h4:I7 E.N E.mrk B W M0 ops (C7 ops ops) (fun j=>(fun _=>false:Nat→Bool) j=true) ⟨f0,H0,nx0⟩ M a {w with drawn:=w.drawn+1}:=by
   refine⟨hS1.h,hS1.old,hS1.d,hS1.n,fun s e he=>?_,fun s j b x hx=>?_⟩
   ·cases e with
    |u x=>exact hS1.f s _ he
    |gd j b x=>have:=(hS1.g s j b x he).1;simp at this
   ·have:=(hS1.g s j b x hx).1;simp at this
  refine h4.weaken (by rw[e1];exact fun _ _ h=>h) (fun n x hx=>?_);simp only[wE]at hx;split at hx
  ·rename_i k hlk;have:=(mR hck0 hlk).2.1;cases this
  ·split at hx
   ·exact hx
   ·cases hx
theorem bY (hT:K9 P E.T) (hΨ:B1 P E) (hm:P.follows .mixedOrders=true) (kn:Nat→Option Bool) (m:Nat) (ms:List Nat) (ks:List (Nat×Nat)) {c:Code} (hd:V2 c=true) (hchk:A2G E.N (H6 c) m ms=true)
 {st':(Nat→Value)→St} {ob:(Nat→Value)→Prop} (h:∀bs,uM E kn (H6 c) m ms ks st bs=some (st' bs,ob bs)) (ho:∀bs,ob bs) (hk:∀bs,G P E B W M0 Q (.ops (H6 c) m::k) (st' bs)) (hro:E.ro=none:=by rfl):G P E B W M0 Q (.code c::k) st:=by
 intro M a w hS;cases c<;> simp only[V2,Bool.false_eq_true]at hd;rename_i id ops dr;cases dr<;> simp only[V2,Bool.false_eq_true]at hd;obtain⟨ops⟩:=ops;simp only[H6]at hchk h hk;refine wpIn_wide.2 ?_ |> fun(h:cwp none P (Code.region id ops.toArray true) (after none P Q k) a w)=>(by simp only[after,hro];exact h)
 exact wp_region_any hm (A6G hT hΨ kn m ms ks hchk h ho hk hro hS)
end
section
open Go.ChangeShapes Go.WideShapes
def Rd (P:Program) (t:TypeId) (good:PV→Prop):Prop:=∀(H:Type) (enc:TypeId×Value→H) (w:World) (fuel:Nat) (cs:List Value) (x:DataW H×List MemPlace),
 DataW.trod enc P w 0 (fun _=>true) true fuel t cs=some x→∃(y:PV) (c:Value),cs=[c]∧R (B5.all w) y c∧good y
def Rds (P:Program) (t:TypeId) (n:Nat) (good:List PV→Prop):Prop:=∀(H:Type) (enc:TypeId×Value→H) (w:World) (fuel:Nat) (cs:List Value) (x:DataW H×List MemPlace),
 DataW.trod enc P w 0 (fun _=>true) true fuel t cs=some x→∃(ys:List PV),good ys∧ys.length=n∧cs.length=n∧∀(j:Nat) (y:PV),ys[j]? =some y→∃c,cs[j]? =some c∧R (B5.all w) y c
section
variable {P : Program} {t e : TypeId}
theorem B4g {k:IntKind} (ht:P.underlying t=some (.int k)):Rd P t (fun y=>∃n,y= .val (.int k n)∧L1 k n):=by
 intro H enc w fuel cs x h;obtain⟨n,rfl,_,hw⟩:=DataW.trod_int ht h;exact⟨_,_,rfl,.val rfl,n,rfl,C3G hw⟩
theorem B9Y {g:PV→Prop} {g':List PV→Prop} (h:Rd P t g) (hg:∀y,g y→g' [y]):Rds P t 1 g':=by
 intro H enc w fuel cs x hx;obtain⟨y,c,rfl,hR,hy⟩:=h _ enc w fuel cs x hx;refine⟨[y],hg y hy,rfl,rfl,fun j z hz=>?_⟩;cases j with
 |zero=>simp at hz;subst hz;exact⟨c,rfl,hR⟩
 |succ j=>simp at hz
theorem C3J {k:LK} {g:k.T→Prop} (ht:P.underlying t=some (.slice e)) (hc:P.cellsOf e=k.sz) (he:Rds P e k.sz (fun ys=>∃x:k.T,k.enc x=ys∧g x)):
 Rd P t (fun y=>∃l:List k.T,y= .lst k l∧l.length≤maxLen∧∀x∈l,g x):=by
 intro H enc w fuel cs x h;rcases DataW.trod_slice ht h with⟨rfl,_⟩|⟨a,len,cap,elems,rest,n,_,rfl,_,hb,hl,hm,hlen,hel,_,_⟩
 ·exact⟨_,_,rfl,R.lst_nil _ _,[],rfl,by simp,by simp⟩
 ·have B6b:∀i,i<len→∃(x:k.T),g x∧∀(j:Nat) (y:PV),(k.enc x)[j]? =some y→∃u,w.cell? (a.add (i*k.sz+j))=some u∧R (B5.all w) y u:=by
   intro i hi;have h1:=hel i hi;rw[gE_ (by omega),Option.bind_eq_some_iff,hc]at h1;obtain⟨cs',q1,q2⟩:=h1;obtain⟨_,q3,q4⟩:=World.cells?_some q1;obtain⟨ys,⟨x,rfl,hg⟩,r2,r3,r4⟩:=he _ enc w n cs' _ q2;refine⟨x,hg,fun j y hy=>?_⟩;obtain⟨u,u1,u2⟩:=r4 j y hy;have hj:=N9 hy;refine⟨u,?_,u2⟩;have:=q4 j hj;rw[u1]at this;rw[←this]
   congr 1
   unfold Addr.add;by_cases hj0:j=0<;> by_cases hi0:i*k.sz=0<;> simp[hj0,hi0,Nat.add_assoc]
  let f:Nat→k.T:=fun i=>if h:i<len then Classical.choose (B6b i h)else k.dft
  have hf:∀i,i<len→g (f i)∧∀(j:Nat) (y:PV),(k.enc (f i))[j]? =some y→∃u,w.cell? (a.add (i*k.sz+j))=some u∧R (B5.all w) y u:=by
   intro i hi;simp only[f,dif_pos hi];exact Classical.choose_spec (B6b i hi)
  have hlf:((List.range len).map f).length=len:=by simp
  have hget:∀(i:Nat) (x:k.T),((List.range len).map f)[i]? =some x→i<len∧x=f i:=by
   intro i x hx;have hi:i<len:=by have:=(gS_.1 hx).1;simpa using this
   simp[hi]at hx;exact⟨hi,hx.symm⟩
  have hnone:0<len→a=⟨a.block,a.off,none⟩:=by
   intro h0;obtain⟨_,h2⟩:=hf 0 h0;have hsz:=LK.sz_pos k;have hl':0<(k.enc (f 0)).length:=by rw[LK.enc_len];exact hsz
   obtain⟨u,u1,_⟩:=h2 0 _ (gE_ hl');have:=(A2k u1).1;simpa[Addr.add]using this
  refine⟨.lst k ((List.range len).map f),_,rfl,R.lst_mk (b:=a.block) (o:=a.off) hlf hl hm (fun hne=>?_) (by simp) (fun i x j y e1 e2=>?_),(List.range len).map f,rfl,by rw[hlf];omega,fun x hx=>?_⟩
  ·have:0<len:=by
    rcases Nat.eq_zero_or_pos len with e|e
    ·subst e;exact absurd rfl hne
    ·exact e
   rw[←hnone this]
  ·obtain⟨hi,rfl⟩:=hget i x e1;obtain⟨u,u1,u2⟩:=(hf i hi).2 j y e2;refine⟨u,?_,u2⟩;have:=B4b (hnone (by omega)) u1
   rwa [←Nat.add_assoc]at this
  ·obtain⟨i,hi,rfl⟩:=List.mem_map.1 hx;exact(hf i (List.mem_range.1 hi)).1
variable {H : Type} {enc : TypeId × Value → H} {W : World} {v : Value} {d : DataW H} {ps : List MemPlace}
theorem B4h {g:PV→Prop} (hr:Rd P t g) (hv:v.cells= #[v]) (h:DataW.Trod enc P W 0 (fun _=>true) true t v d ps):∃y,RA (B5.all W) (pv y) v∧g y:=by
 obtain⟨fuel,hf⟩:=h;rw[hv]at hf;obtain⟨y,c,hc,hR,hg⟩:=hr _ enc W fuel _ _ hf;simp at hc;subst hc;exact⟨y,.c (.pv hR),hg⟩
theorem C6L {k:IntKind} (ht:P.underlying t=some (.int k)) {r:Reach} {b0:Nat} (hv:Value.okWide P W r b0 t v) (h:DataW.Trod enc P W 0 (fun _=>true) true t v d ps):∃n,RA (B5.all W) (int k n) v∧L1 k n:=by
 obtain⟨n,rfl⟩:=okWide_int ht hv;obtain⟨y,r,n',rfl,hn⟩:=B4h (B4g ht) rfl h;exact⟨n',r,hn⟩
theorem C6M {k:LK} {g:k.T→Prop} (ht:P.underlying t=some (.slice e)) (hc:P.cellsOf e=k.sz) (he:Rds P e k.sz (fun ys=>∃x:k.T,k.enc x=ys∧g x)) {r:Reach} {b0:Nat} (hv:Value.okWide P W r b0 t v) (h:DataW.Trod enc P W 0 (fun _=>true) true t v d ps):
 ∃l:List k.T,RA (B5.all W) (lst k l) v∧l.length≤maxLen∧∀x∈l,g x:=by
 obtain⟨a,n,c,rfl⟩:=okWide_slice ht hv;obtain⟨y,r,l,rfl,hl⟩:=B4h (C3J ht hc he) rfl h;exact⟨l,r,hl⟩
theorem C6N (ht:P.underlying e=some (.int .u8)):Rds P e (LK.sz .byt) (fun ys=>∃x:UInt8,LK.enc .byt x=ys∧True):=
 B9Y (B4g ht) (fun y ⟨n,hy,hn⟩=>by
  subst hy;simp only[L1]at hn;refine⟨UInt8.ofNat n.toNat,?_,trivial⟩;have:((UInt8.ofNat n.toNat).toNat:Int)=n:=by rw[UInt8.toNat_ofNat'];omega
  simp[LK.enc];omega)
end
end
def cH (J:B5→Nat→World→Prop):Prop:=∀M M' i W W',J M i W→Below W.heap.size W W'→M'.on W'→M.le M'→(∀k o,M' k=some o→k<W.heap.size→M k=some o)→J M' i W'
def B4i (P:Program) (gf:Nat) (cs:List C) {Y:Type} (ev:Y→List Value) (ys:List Y):Prop:=
 (∀args w,(callFunc gf args).run P w= .ok (.enter gf args) w)∧
 ∀(M:B5) (us:List Value) (lid:Nat) (J Jx:B5→Nat→World→Prop) (w:World),M.on w→R8 M cs us→
  cH J→cH Jx→J M 0 w→
  (∀Mi i W x,ys[i]? =some x→J Mi i W→Mi.on W→YieldAt Fence.wide 0 P lid (ev x).toArray W fun e W'=>
   (e= .returned (.bool true)∧J Mi (i+1) W'∧Mi.on W')∨(e= .returned (.bool false)∧Jx Mi (i+1) W'∧Mi.on W'))→
  Calls P gf (Value.func (.yield lid) #[] #[]::us).toArray w fun e W'=>(∃v,e= .returned v)∧∃Mi,J Mi ys.length W'∨∃i,i≤ys.length∧Jx Mi i W'
def rd (E:D9) (l:Nat):D9:={E with ro:=some (l+1)}
theorem B4j {P:Program} {E:D9} {l:Nat} (h:B1 P E):B1 P (rd E l):=⟨h.fn,h.pt,h.co⟩
def C2M:Code→Option (Operand×List Nat)
 | .rangeFunc g ⟨ps⟩ _ _=>some (g,ps)
 |_=>none
def asn:Code→Code| .rangeFunc _ _ a _=>a|_=> .skip
def rbd:Code→Code| .rangeFunc _ _ _ b=>b|_=> .skip
section
variable {P : Program} {E : D9} {B : Nat → Prop} {W : World} {M0 M F : B5} {Q : Exit → Act → World → Prop} {k : List X8} {st : St} {a : Act} {w : World} {N : Nat} {mrk : MK} {sh : Bool}
theorem B4k {s:Nat} {l m:List (Nat×A)}:fI s (l++m)=match fI s l with
 |some x=>some x
 |none=>fI s m:=by
 induction l with
 |nil=>rfl
 |cons p l ih=>
  simp only[List.cons_append,fI];cases Nat.beq s p.1<;> simp[ih]
theorem A8A {s:Nat}:∀{ps:List Nat} {az:List A},F8 s ps=false→fI s (ps.zip az)=none:=by
 intro ps
 induction ps with
 |nil=>intro az _;simp[fI]
 |cons p ps ih=>
  intro az h;cases az with
  |nil=>simp[fI]
  |cons a az=>
   simp only[F8,Bool.or_eq_false_iff]at h;simp only[List.zip_cons_cons,fI,h.1,ih h.2]
theorem B1b {M:B5}:∀(ps:List Nat) (az:List A) (vs:List Value) (t:Array Value),I1 ps=true→az.length=ps.length→vs.length=ps.length→(∀p∈ps,p<t.size)→
 (∀(j:Nat) x v,az[j]? =some x→vs[j]? =some v→RA M x v)→
 ((ps.zip vs).foldl (fun(t:Array Value) (q:Nat×Value)=>t.setIfInBounds q.1 q.2) t).size=t.size∧
 ∀s,(∀x,fI s (ps.zip az)=some x→∃v,((ps.zip vs).foldl (fun(t:Array Value) (q:Nat×Value)=>t.setIfInBounds q.1 q.2) t)[s]? =some v∧RA M x v)∧
  (fI s (ps.zip az)=none→((ps.zip vs).foldl (fun(t:Array Value) (q:Nat×Value)=>t.setIfInBounds q.1 q.2) t)[s]? =t[s]?):=by
 intro ps
 induction ps with
 |nil=>intro az vs t _ _ _ _ _;exact⟨by simp,fun s=>⟨fun x h=>by simp[fI]at h,fun _=>by simp⟩⟩
 |cons p ps ih=>
  intro az vs t hn ha hv hp hr;cases az with
  |nil=>simp at ha
  |cons a az=>
  cases vs with
  |nil=>simp at hv
  |cons v vs=>
  simp only[I1,Bool.and_eq_true,Bool.not_eq_true']at hn;obtain⟨i1,i2⟩:=ih az vs (t.setIfInBounds p v) hn.2 (by simpa using ha) (by simpa using hv) (fun q hq=>by rw[Array.size_setIfInBounds];exact hp q (by simp[hq])) (fun j x v e1 e2=>hr (j+1) x v (by simpa using e1) (by simpa using e2));simp only[List.zip_cons_cons,List.foldl_cons];refine⟨by rw[i1,Array.size_setIfInBounds],fun s=>?_⟩;obtain⟨g1,g2⟩:=i2 s;simp only[fI];cases hb:Nat.beq s p with
  |true=>
   rw[Nat.beq_eq]at hb;subst hb;refine⟨fun x hx=>?_,fun h=>by simp at h⟩;simp at hx;subst hx;refine⟨v,?_,hr 0 a v rfl rfl⟩;rw[g2 (A8A hn.1),Array.getElem?_setIfInBounds,if_pos rfl,if_pos (hp s (by simp))]
  |false=>
   refine⟨fun x hx=>g1 x hx,fun h=>?_⟩;rw[g2 h,Array.getElem?_setIfInBounds,if_neg (fun e=>by subst e;simp at hb)]
def RQ {X:Type} (E:D9) (B:Nat→Prop) (W:World) (M0:B5) (H:X→List HB) (ok:X→Prop):Exit→Act→World→Prop:=
 fun e a w=>e= .ret∧∃x M,ok x∧V1 E.N E.mrk B W M0 [] [] 0 (mk [] (H x)) M a w
theorem uO {w:World} {l:Nat} {o:Obj} (h:w.heap[l]? =some o):w.putObj l o=w:=by
 have:w.heap.setIfInBounds l o=w.heap:=by
  apply Array.ext_getElem?;intro k;rw[Array.getElem?_setIfInBounds];by_cases e:l=k
  ·subst e;rw[if_pos rfl,if_pos (Array.getElem?_eq_some_iff.1 h).1,h]
  ·rw[if_neg e]
 unfold World.putObj;rw[this]
theorem E1.later {H:Nat→Option HB} {w':World} (hS:E1 B W H M w) (hb:Below w.heap.size w w'):E1 B W H M w':=by
 refine⟨hS.below.trans (.of hb hS.base),fun k hk=>Nat.lt_of_lt_of_le (hS.base k hk) hb.size,fun k o hk=>?_,fun n x hx=>?_,hS.inj⟩
 ·have:=hS.mem k o hk;rw[hb.block k (Array.getElem?_eq_some_iff.1 this).1];exact this
 ·exact(hS.ok n x hx).keep (B5.le_refl _) (fun b hb'=>(HB.block_lt (hS.ok n x hx) hb').2.2) (fun b hb'=>hb.block b (HB.block_lt (hS.ok n x hx) hb').2.1)
theorem A3e {X Y:Type} {gf:Nat} {cs:List C} {ev:Y→List Value} {ys:List Y} (it:B4i P gf cs ev ys) (ea:Y→List A) (hea:∀M y,cY M (ea y) (ev y).toArray) (hro:E.ro=none) (hmk:E.mrk= .t) {c:Code} {o:Operand} {ps:List Nat} (hc:C2M c=some (o,ps)) (hp:ps.all (fun p=>Nat.blt p E.N)=true) (hpn:I1 ps=true) (hel:∀y,(ea y).length=ps.length)
 (hv:U7 st.f [] o=some (.c (.clo gf cs)))
 (Fs:List (Nat×A)) (H:X→List HB) (ok okx:Nat→X→Prop) (ns:List Nat) (x0:X) (hx0:ok 0 x0) (hw:Wk st ns Fs (H x0)) (h0:hdI k=0)
 (round:∀(lid:Nat) (M1 M2:B5) (J1:Act→World→Prop) (i:Nat) (x:X) (y:Y),ys[i]? =some y→ok i x→
  (∀st',G P (rd E lid) B W M2 (RQ (rd E lid) B W M2 H (okx (i+1))) [.code (rbd c),.lp (LJ (rd E lid) B W M2 (fun _=>[]) H (ok (i+1)))] st'→G P (rd E lid) B W M1 (fun _ _ _=>False) [.lp J1] st')→
  G P (rd E lid) B W M1 (fun _ _ _=>False) [.code (asn c),.lp J1] (mk (ps.zip (ea y)++Fs) (H x)))
 (done:∀x,ok ys.length x→G P E B W M0 Q k (mk Fs (H x)))
 (left:∀i x,i≤ys.length→okx i x→G P E B W M0 Q (.code .ret::k) (mk Fs (H x))):G P E B W M0 Q (.code c::k) st:=by
 intro M a w hS;unfold C2M at hc;split at hc
 rotate_left
 ·cases hc
 rename_i o' p' az bd;cases hc;simp only[after];simp only[asn,rbd]at round;obtain⟨us,hu1,hu2⟩:∃us:List Value,a.eval o= .func (.func gf) #[] us.toArray∧R8 M cs us:=by
  have h1:=I9 hS (Γ:=[]) (by simp) _ _ hv;generalize a.eval o=v at h1;cases h1 with
  |c h1=>
   cases h1 with
   |clo hs h2=>
    rename_i us;obtain⟨us⟩:=us;exact⟨us,rfl,by simpa using hs,fun j c u e1 e2=>h2 j c u e1 (by simpa using e2)⟩
 have hS0:V1 E.N E.mrk B W M0 [] [] 0 (mk Fs (H x0)) M a w:=hw.sat hS;have hMw:M.on w:=hS.h.mem;have hwB:∀k,B k→k<w.heap.size:=hS.h.base;show Code.wpIn (fce E.ro) 0 P _ (after E.ro P Q k) a w;rw[hro];refine wpIn_rangeFunc ?_;intro fn hfn;show∃l A2F w₁ d w₁' f args w₂,(Instr.enterLoop fn a.tmps ps.toArray az bd none).run P w=_∧_
 let rec0:LoopState→Option Code→Loop:=fun s pe=>{state:=s,pending:=pe,fn,tmps:=a.tmps,params:=ps.toArray,assign:=az,body:=bd,defers:=w.heap.size}
 let D:=w.heap.size
 let lid:=w.heap.size+1
 let W1:=(w.alloc (.deferred (some []))).alloc (.loop (rec0 .ready none))
 have hlt:∀k o,M k=some o→k<D:=fun k o hk=>(Array.getElem?_eq_some_iff.1 (hMw k o hk)).1
 have hB1:Below w.heap.size w W1:=((Below.refl _ w).alloc (Nat.le_refl _) _).alloc (by simp) _;obtain⟨MD,hMD⟩:∃MD,MD=(M.put D (.deferred (some []))).put lid (.loop (rec0 .ready none)):=⟨_,rfl⟩
 have hDl:D≠lid:=by show w.heap.size≠w.heap.size+1;omega
 have hBD:¬B D:=fun h=>Nat.lt_irrefl _ (hwB _ h)
 have hBl:¬B lid:=fun h=>Nat.lt_irrefl _ (Nat.lt_of_succ_lt (hwB _ h))
 have hMMD:M.le MD:=fun k o hk=>by
  have:=hlt k o hk;rw[hMD,B5.put_ne _ _ (show k≠lid by show k≠w.heap.size+1;have:k<w.heap.size:=this;omega),B5.put_ne _ _ (show k≠D by omega)];exact hk
 have hMDl:MD lid=some (.loop (rec0 .ready none)):=by rw[hMD];exact B5.put_same _ _ _
 have hMDD:MD D=some (.deferred (some [])):=by rw[hMD,B5.put_ne _ _ hDl];exact B5.put_same _ _ _
 have hMDlow:∀k,B k→MD k=M k:=fun k hk=>by
  rw[hMD,B5.put_ne _ _ (show k≠lid from fun e=>hBl (e▸hk)),B5.put_ne _ _ (show k≠D from fun e=>hBD (e▸hk))]
 have hFs:∀s e,(match fI s Fs with|some x=>some (Ent.u x)|none=>none)=some e→∃x,e= .u x∧fI s Fs=some x∧∃v,a.tmps[s]? =some v∧RA M x v:=by
  intro s e he;split at he
  ·rename_i x hx;cases he;obtain⟨v,v1,v2⟩:=hS0.f s (.u x) (by simp only[mk,hx]);exact⟨x,rfl,hx,v,v1,v2⟩
  ·cases he
 let Inv:(Nat→X→Prop)→Obj→B5→Nat→World→Prop:=fun ok o Mi i Wd=>∃x M',ok i x∧E1 B W (mk [] (H x)).H M' Wd∧M.le Mi∧Mi.le M'∧(∀k o,M' k=some o→B k→M k=some o)∧M' D=some (.deferred (some []))∧M' lid=some o∧Mi lid=none
 have hInv:∀ok o,cH (Inv ok o):=by
  rintro ok o Mi Mi' i Wa Wb ⟨x,M',h1,h2,h3,h4,h5,h6,h7,h8⟩ hb hon hle hlow
  have hs:=h2.later hb;have hnone:∀n y b,(mk [] (H x)).H n=some y→y.has b→M' b=none∧Mi' b=none:=by
   intro n y b hn hbk;obtain⟨_,q2,q3⟩:=HB.block_lt (h2.ok n y hn) hbk;refine⟨q3,?_⟩;cases hq:Mi' b with
   |none=>rfl
   |some o'=>have:=h4 b o' (hlow b o' hq q2);rw[q3]at this;cases this
  have hleM:M'.le (fun k=>match M' k with|some o=>some o|none=>Mi' k):=fun k o hk=>by simp only[hk]
  refine⟨x,fun k=>match M' k with|some o=>some o|none=>Mi' k,h1,⟨hs.below,hs.base,fun k o hk=>?_,fun n y hy=>?_,hs.inj⟩,B5.le_trans h3 hle,fun k o hk=>?_,fun k o hk hkB=>?_,hleM _ _ h6,hleM _ _ h7,?_⟩
  ·split at hk
   ·rename_i o' ho';cases hk;exact hs.mem k o ho'
   ·exact hon k o hk
  ·refine(hs.ok n y hy).keep hleM (fun b hbk=>?_) (fun b hbk=>rfl);obtain⟨q1,q2⟩:=hnone n y b hy hbk;simp only[q1,q2]
  ·cases hm:M' k with
   |none=>simp only[hm];exact hk
   |some o'=>simp only[hm];have e1:=hs.mem k o' hm;rw[hon k o hk]at e1;exact e1.symm
  ·replace hk:(match M' k with|some o=>some o|none=>Mi' k)=some o:=hk
   split at hk
   ·rename_i o' ho';cases hk;exact h5 k o ho' hkB
   ·rename_i ho';have:=h4 k o (hlow k o hk (h2.base k hkB));rw[ho']at this;cases this
  ·cases hq:Mi' lid with
   |none=>rfl
   |some o'=>
    have:=hlow lid o' hq (Array.getElem?_eq_some_iff.1 (h2.mem lid _ h7)).1;rw[h8]at this;cases this
 let MDi:B5→B5:=fun Mi=>(Mi.put D (.deferred (some []))).put lid (.loop (rec0 .ready none))
 have hDil:∀Mi,MDi Mi lid=some (.loop (rec0 .ready none)):=fun Mi=>B5.put_same _ _ _
 have hDiD:∀Mi,MDi Mi D=some (.deferred (some [])):=fun Mi=>by show B5.put _ _ _ _=_;rw[B5.put_ne _ _ hDl];exact B5.put_same _ _ _
 have hDin:∀(Mi:B5) k,k≠lid→k≠D→MDi Mi k=Mi k:=fun Mi k h1 h2=>by show B5.put _ _ _ _=_;rw[B5.put_ne _ _ h1,B5.put_ne _ _ h2]
 have hturn:∀(ok:Nat→X→Prop) (i:Nat) (x:X) (Mi M2 M3:B5) (o:Loop) (o':Loop) (Wd:World) (a3:Act),M.le Mi→(∀k o,Mi k=some o→B k→M k=some o)→(∀k o,Mi k=some o→k=D→o= .deferred (some []))→Mi lid=none→ok i x→M2.le M3→M2 lid=some (.loop o)→(∀k,k≠lid→M2 k=MDi Mi k)→V1 E.N E.mrk B W M2 [] [] 0 (mk [] (H x)) M3 a3 Wd→
  Wd.heap[lid]? =some (.loop o)∧Inv ok (.loop o') Mi i (Wd.putObj lid (.loop o'))∧Mi.on (Wd.putObj lid (.loop o')):=by
  intro ok i x Mi M2 M3 o o' Wd a3 hMMi hMlow hMiD hMil hok hle hl h2 hS3;have hl3:=hS3.h.mem lid _ (hle lid _ hl);have hpu:=hS3.h.putObj (o':= .loop o') hl3 rfl hBl (hS3.h.offM (hle lid _ hl));have hMi3:Mi.le (M3.put lid (.loop o')):=fun k o hk=>by
   by_cases e:k=lid
   ·subst e;rw[hMil]at hk;cases hk
   ·rw[B5.put_ne _ _ e];by_cases e2:k=D
    ·have:=hMiD k o hk e2;subst this e2;exact hle _ _ (by rw[h2 _ e];exact hDiD Mi)
    ·exact hle k o (by rw[h2 k e,hDin Mi k e e2];exact hk)
  refine⟨hl3,⟨x,M3.put lid (.loop o'),hok,hpu,hMMi,hMi3,fun k o hk hkB=>?_,?_,B5.put_same _ _ _,hMil⟩,fun k o hk=>hpu.mem k o (hMi3 k o hk)⟩
  ·have hkl:k≠lid:=fun e=>hBl (e▸hkB)
   rw[B5.put_ne _ _ hkl]at hk;have:=hS3.old k o hk hkB;rw[h2 k hkl,hDin Mi k hkl (fun e=>hBD (e▸hkB))]at this;exact hMlow k o this hkB
  ·rw[B5.put_ne _ _ hDl];exact hle _ _ (by rw[h2 D hDl];exact hDiD Mi)
 have hI1:Inv ok (.loop (rec0 .ready none)) M 0 W1:=by
  suffices hh:E1 B W (mk [] (H x0)).H MD W1∧M lid=none from⟨x0,MD,hx0,hh.1,B5.le_refl _,hMMD,fun k o hk hkB=>by rw[hMDlow k hkB]at hk;exact hk,hMDD,hMDl,hh.2⟩
  have h1:E1 B W (mk Fs (H x0)).H M W1:=hS0.h.later hB1;have hWD:W1.heap[D]? =some (.deferred (some [])):=(Below.heap_alloc _ _ _ (by simp[D])).trans (World.alloc_heap_new w _);have hWl:W1.heap[lid]? =some (.loop (rec0 .ready none)):=by
   have:=World.alloc_heap_new (w.alloc (.deferred (some []))) (.loop (rec0 .ready none));rwa [World.size_alloc]at this
  have h2:=h1.putObj (o':= .deferred (some [])) hWD rfl hBD (hS0.h.offS (Nat.le_refl _));have e1:W1.putObj D (.deferred (some []))=W1:=uO hWD;rw[e1]at h2;have h3:=h2.putObj (o':= .loop (rec0 .ready none)) hWl rfl hBl (hS0.h.offS (Nat.le_succ _));have e2:W1.putObj lid (.loop (rec0 .ready none))=W1:=uO hWl;rw[e2,←hMD]at h3;refine⟨h3,?_⟩;cases hq:M lid with
  |none=>rfl
  |some o'=>have:=hlt lid o' hq;exact absurd this (by show¬(w.heap.size+1<w.heap.size);omega)
 have hbeh:∀(x:X) (M':B5) (o:Loop) (Wd:World),E1 B W (mk [] (H x)).H M' Wd→M.le M'→(∀k o,M' k=some o→B k→M k=some o)→M' D=some (.deferred (some []))→M' lid=some (.loop o)→
  ∀(o':Loop),V1 E.N E.mrk B W M0 [] [] 0 (mk Fs (H x)) (M'.put lid (.loop o')) {a with defers:=[A2F D]++a.defers} (Wd.putObj lid (.loop o')):=by
  intro x M' o Wd h1 h2 h3 h4 h5 o';have hl5:=h1.mem lid _ h5;have hle:M.le (M'.put lid (.loop o')):=fun k o hk=>by
   have hkl:k≠lid:=by have:=hlt k o hk;show k≠w.heap.size+1;have:k<w.heap.size:=this;omega
   rw[B5.put_ne _ _ hkl];exact h2 k o hk
  refine⟨h1.putObj hl5 rfl hBl (h1.offM h5),fun k o hk hkB=>?_,⟨?_,fun k o hk=>hle k o (hS.d.kp k o hk)⟩,hS.n,fun s e he=>?_,fun s j b x hx=>?_⟩
  ·rw[B5.put_ne _ _ (show k≠lid from fun e=>hBl (e▸hkB))]at hk;exact hS.old k o (h3 k o hk hkB) hkB
  ·obtain⟨Ds,d0,d1,d2,d3⟩:=hS.d.df;refine⟨D::Ds,fun e=>(by rw[hmk]at e;exact absurd rfl e),List.nodup_cons.2 ⟨fun hm=>?_,d1⟩,by simp[d2],fun D' hD'=>?_⟩
   ·have:=hlt D _ (d3 D hm).2;omega
   ·rcases List.mem_cons.1 hD' with rfl|hm
    ·exact⟨hBD,by rw[B5.put_ne _ _ hDl];exact h4⟩
    ·exact⟨(d3 D' hm).1,hle _ _ (d3 D' hm).2⟩
  ·obtain⟨x',rfl,_,v,v1,v2⟩:=hFs s e he;exact⟨v,v1,RA.mono hle v2⟩
  ·obtain⟨x',e,_⟩:=hFs s _ hx;cases e
 refine⟨lid,[A2F D],W1,{target:= .fn (.func gf) us.toArray,args:= #[.func (.yield lid) #[] #[]]},W1,gf,(Value.func (.yield lid) #[] #[]::us).toArray,W1,?_,?_,?_,?_,fun e=>(by cases e),?_⟩
 ·exact run_enterLoop_outer _ _ _ _ _
 ·simp only[resolve,hu1];simp[go_sem]
 ·intro f' hf';trivial
 ·simp[invoke,go_sem,it.1]
 refine((callsIn_wide (n:=0-1)).2 (it.2 M us lid (Inv ok (.loop (rec0 .ready none))) (Inv okx (.loop (rec0 .done (some .ret)))) W1 (fun k o hk=>?_) hu2 (hInv _ _) (hInv _ _) hI1 ?_)).mono ?_
 ·exact(hB1.block k (hlt k o hk)).trans (hMw k o hk)
 ·
  rintro Mi i Wd y hy ⟨x,M',hok,h1,h2a,h2b,h3,h4,h5,hMil⟩ hMd
  have hl5:=h1.mem lid _ h5;have hMlow:∀k o,Mi k=some o→B k→M k=some o:=fun k o hk hkB=>h3 k o (h2b k o hk) hkB
  have hMiD:∀k o,Mi k=some o→k=D→o= .deferred (some []):=fun k o hk e=>by
   subst e;have:=h2b _ _ hk;rw[h4]at this;cases this;rfl
  have hvl:(ev y).length=ps.length:=by rw[←hel y];simpa using(hea M y).1
  refine⟨fn,_,az,bd,run_yield (P:=P) (args:=(ev y).toArray) hl5 (by simpa[rec0]using hvl),roundIn_of_wpIn hfn ?_⟩;obtain⟨R,hR⟩:∃R:Ending→World→Prop,R=fun e W'=>(e= .returned (.bool true)∧Inv ok (.loop (rec0 .ready none)) Mi (i+1) W'∧Mi.on W')∨(e= .returned (.bool false)∧Inv okx (.loop (rec0 .done (some .ret))) Mi (i+1) W'∧Mi.on W'):=⟨_,rfl⟩
  rw[←hR];obtain⟨M2,hM2⟩:∃M2,M2=(MDi Mi).put lid (.loop (rec0 .busy none)):=⟨_,rfl⟩
  have hM2l:M2 lid=some (.loop (rec0 .busy none)):=by rw[hM2];exact B5.put_same _ _ _
  have hM2n:∀k,k≠lid→M2 k=MDi Mi k:=fun k hk=>by rw[hM2,B5.put_ne _ _ hk]
  let J1:Act→World→Prop:=fun a1 w1=>∃w2,(Instr.beginRound lid).run P w1= .ok () w2∧bd.wpIn (Fence.wide.inRound lid) 0 P (roundPost P lid R) a1 w2
  have hround:=round lid (MDi Mi) M2 J1 i x y hy hok ?hop
  case hop=>
   intro st' hG Mx a1 w1 hSx;have hSx:V1 E.N E.mrk B W (MDi Mi) [] [] 0 st' Mx a1 w1:=hSx;have hxl:=hSx.d.kp lid _ (hDil Mi);have hwl:=hSx.h.mem lid _ hxl;refine⟨_,run_beginRound hwl rfl,?_⟩;have hSt:V1 E.N E.mrk B W M2 [] [] 0 st' (Mx.put lid (.loop (rec0 .busy none))) a1 (w1.putObj lid (.loop (rec0 .busy none))):=by
    refine V1.turn hSx hwl rfl hBl (hSx.h.offM hxl) (fun k o hk hkB=>?_) rfl ⟨?_,fun k o hk=>?_⟩
    ·rw[hM2n k (fun e=>hBl (e▸hkB))];exact hSx.old k o hk hkB
    ·obtain⟨Ds,d0,d1,d2,d3⟩:=hSx.d.df;refine⟨Ds,d0,d1,d2,fun D' hD'=>⟨(d3 D' hD').1,?_⟩⟩;have hne:D'≠lid:=by
      intro e;have:=(d3 D' hD').2;rw[e,hxl]at this;cases this
     rw[B5.put_ne _ _ hne];exact(d3 D' hD').2
    ·by_cases e:k=lid
     ·subst e;rw[hM2l]at hk;rw[B5.put_same];exact hk
     ·rw[B5.put_ne _ _ e];rw[hM2n k e]at hk;exact hSx.d.kp k o hk
   have hb:=hG _ a1 _ hSt;refine wpIn_mono (Q:=after (some (lid+1)) P _ [.lp _]) hb ?_;intro e a3 W3 he;cases e with
   |normal=>
    obtain⟨x',M3,hok',hS3⟩:=he;obtain⟨q1,q2,q3⟩:=hturn ok (i+1) x' Mi M2 M3 (rec0 .busy none) (rec0 .ready none) W3 a3 h2a hMlow hMiD hMil hok' hS3.d.kp hM2l hM2n hS3;refine⟨_,_,run_endRound none q1,?_⟩;rw[hR];exact .inl ⟨rfl,q2,q3⟩
   |ret=>
    obtain⟨_,x',M3,hok',hS3⟩:=he;obtain⟨q1,q2,q3⟩:=hturn okx (i+1) x' Mi M2 M3 (rec0 .busy none) (rec0 .done (some .ret)) W3 a3 h2a hMlow hMiD hMil hok' hS3.d.kp hM2l hM2n hS3;refine⟨_,_,run_endRound (some .ret) q1,?_⟩;rw[hR];exact .inr ⟨rfl,q2,q3⟩
   |_=>exact absurd he.1 (by simp)
  have h2:M.le M':=B5.le_trans h2a h2b;obtain⟨t',ht'⟩:∃t',t'=(ps.zip (ev y)).foldl (fun(t:Array Value) (q:Nat×Value)=>t.setIfInBounds q.1 q.2) a.tmps:=⟨_,rfl⟩
  have hfl:=B1b (M:=M') ps (ea y) (ev y) a.tmps hpn (hel y) hvl (fun q hq=>by
   have:=List.all_eq_true.1 hp q hq;rw[Nat.blt_eq]at this;rw[hS.n];exact this) (fun j x v e1 e2=>(hea M' y).2 j x v e1 (by simpa using e2))
  rw[←ht']at hfl;have ha:=hround M' ⟨t',[]⟩ Wd ?hs
  case hs=>
   refine⟨h1,fun k o hk hkB=>?_,.nil (by show[]=E.mrk.dl;rw[hmk];rfl) (fun k o hk=>?_),?_,fun s e he=>?_,fun s j b x hx=>?_⟩
   ·rw[hDin Mi k (fun e=>hBl (e▸hkB)) (fun e=>hBD (e▸hkB))];exact h2a k o (h3 k o hk hkB)
   ·by_cases e:k=lid
    ·subst e;rw[hDil]at hk;rw[h5];exact hk
    ·by_cases e2:k=D
     ·subst e2;rw[hDiD]at hk;rw[h4];exact hk
     ·rw[hDin Mi k e e2]at hk;exact h2b k o hk
   ·show t'.size=E.N;rw[hfl.1];exact hS.n
   ·show∃v,t'[s]? =some v∧_;simp only[mk,B4k]at he;obtain⟨g1,g2⟩:=hfl.2 s;cases hl:fI s (ps.zip (ea y))with
    |some x=>
     simp only[hl]at he;cases he;exact g1 x hl
    |none=>
     simp only[hl]at he;obtain⟨x',rfl,_,v,v1,v2⟩:=hFs s e he;exact⟨v,by rw[g2 hl];exact v1,RA.mono h2 v2⟩
   ·simp only[mk]at hx;split at hx<;> cases hx
  have hfold:(ps.toArray.zip (ev y).toArray).foldl (fun t (p,v)=>t.setIfInBounds p v) a.tmps=t':=by
   rw[ht',List.zip_toArray,List.foldl_toArray]
  show az.wpIn _ _ P _ {tmps:=(ps.toArray.zip (ev y).toArray).foldl (fun t (p,v)=>t.setIfInBounds p v) a.tmps,defers:=[]} Wd;rw[hfold];refine wpIn_mono (Q:=after (some (lid+1)) P _ [.lp J1]) ha ?_;intro e a3 W3 he;cases e with
  |normal=>exact he
  |_=>exact he.elim
 ·
  rintro e W2 ⟨⟨v,rfl⟩,Mi,(⟨x,M',hok,h1,h2a,h2b,h3,h4,h5,hMil⟩|⟨i,hi,x,M',hok,h1,h2a,h2b,h3,h4,h5,hMil⟩)⟩
  ·have hl5:=h1.mem lid _ h5;refine⟨none,_,run_endLoop hl5 (by simp[rec0]),?_⟩;have:=done x hok _ _ _ ((hbeh x M' _ W2 h1 (B5.le_trans h2a h2b) h3 h4 h5 {rec0 .ready none with state:= .exhausted}).hd h0);rw[hro]at this;exact this
  ·have hl5:=h1.mem lid _ h5;refine⟨some .ret,_,run_endLoop hl5 (by simp[rec0]),?_⟩;have:=left i x hi hok _ _ _ (hbeh x M' _ W2 h1 (B5.le_trans h2a h2b) h3 h4 h5 {rec0 .done (some .ret)with state:= .exhausted});rw[hro]at this;exact this
end
section
variable {P : Program} {E : D9} {B : Nat → Prop} {W : World} {M0 M F : B5} {Q : Exit → Act → World → Prop} {k : List X8} {st : St} {a : Act} {w : World} {N : Nat} {mrk : MK} {sh : Bool} {J Jx : B5 → Nat → World → Prop} {n : Nat} {ops : List Oper} {rs : List (Nat × Nat)} {S : Nat → Prop}
theorem I7.nodef (h:mrk= .f) (hS:I7 N mrk B W M0 ops rs S st M a w):a.defers=[]:=by
 obtain⟨Ds,d0,_,d2,_⟩:=hS.d.df;rw[d0 (by rw[h];simp),h]at d2;simpa[MK.dl]using d2
theorem I7.rebase (h:mrk= .f) (hS:I7 N mrk B W M0 ops rs S st M a w) {w':World} (hM:M.on w'):I7 N mrk (low w'.heap.size) w' M ops rs S ⟨st.f,fun _=>none,st.nx⟩ M a w':=
 ⟨⟨K0.refl _ _,fun _ h=>h,hM,fun _ _ h=>(by cases h),fun _ _ _ _ _ _ h=>(by cases h)⟩,fun _ _ h _=>h,.nil (by rw[hS.nodef h,h];rfl) (B5.le_refl _),hS.n,hS.f,hS.g⟩
def Qit (J Jx:B5→Nat→World→Prop) (n:Nat):Exit→Act→World→Prop:=
 fun e a w=>(e= .normal∨e= .ret)∧a.defers=[]∧∃Mi,J Mi n w∨∃i,i≤n∧Jx Mi i w
theorem B4l (hmk:E.mrk= .f) (hJ:cH J) (hJx:cH Jx) (h:J M0 n W∨∃i,i≤n∧Jx M0 i W) (hS:I7 E.N E.mrk (low W.heap.size) W M0 ops rs S st M a w):a.defers=[]∧∃Mi,J Mi n w∨∃i,i≤n∧Jx Mi i w:=by
 refine⟨hS.nodef hmk,M,?_⟩;rcases h with h|⟨i,hi,h⟩
 ·exact .inl (hJ M0 M n W w h hS.h.below.low hS.h.mem hS.d.kp (fun k o hk hlt=>hS.old k o hk hlt))
 ·exact .inr ⟨i,hi,hJx M0 M i W w h hS.h.below.low hS.h.mem hS.d.kp (fun k o hk hlt=>hS.old k o hk hlt)⟩
theorem A3f (hmk:E.mrk= .f) (hJ:cH J) (hJx:cH Jx) {c:Code} (hc:iT c=true) (h:J M0 n W∨∃i,i≤n∧Jx M0 i W):G P E (low W.heap.size) W M0 (Qit J Jx n) (.code c::k) st:=by
 intro M a w hS;cases c<;> simp only[iT,Bool.false_eq_true]at hc;exact wpIn_ret (cZ ⟨.inr rfl,B4l hmk hJ hJx h hS⟩)
theorem A3g (hmk:E.mrk= .f) (hJ:cH J) (hJx:cH Jx) (h:J M0 n W∨∃i,i≤n∧Jx M0 i W):G P E (low W.heap.size) W M0 (Qit J Jx n) [] st:=
 fun M a w hS=>⟨.inl rfl,B4l hmk hJ hJx h hS⟩
def Jit (E:D9) (J:B5→Nat→World→Prop) (n:Nat) (Fs:Nat→List (Nat×A)) (i:Nat):Act→World→Prop:=
 fun a w=>∃M,i≤n∧J M i w∧V1 E.N E.mrk (low w.heap.size) w M [] [] 0 (mk (Fs i) []) M a w
theorem B4m (hmk:E.mrk= .f) (hJ:cH J) {Fs:Nat→List (Nat×A)} {i:Nat} (hi:i≤n) (h:J M0 i W) (hw:Wk st [] (Fs i) []) {ops rs j} (hS:V1 E.N E.mrk (low W.heap.size) W M0 ops rs j st M a w):Jit E J n Fs i a w:=by
 refine⟨M,hi,hJ M0 M i W w h hS.h.below.low hS.h.mem hS.d.kp (fun k o hk hlt=>hS.old k o hk hlt),?_⟩;have:=(hw.sat hS).rebase hmk (w':=w) hS.h.mem;refine⟨⟨this.h.below,this.h.base,this.h.mem,fun n x hx=>?_,fun n n' x x' b hn hx=>?_⟩,this.old,this.d,this.n,this.f,this.g⟩
 ·simp[mk,G0]at hx
 ·simp[mk,G0]at hx
theorem A3h (hmk:E.mrk= .f) (hJ:cH J) {Fs:Nat→List (Nat×A)} {i:Nat} (hi:i≤n) (h:J M0 i W) (hw:Wk st [] (Fs i) []):G P E (low W.heap.size) W M0 Q (.lp (Jit E J n Fs i)::k) st:=
 fun M a w hS=>B4m hmk hJ hi h hw hS
theorem xY (hmk:E.mrk= .f) (hJ:cH J) (Fs:Nat→List (Nat×A)) {c:Code} (hc:qU c=true) (h0:J M0 0 W) (hw:Wk st [] (Fs 0) [])
 (body:∀i w M,i≤n→J M i w→G P E (low w.heap.size) w M Q (.code (bod c):: .lp (Jit E J n Fs (i+1))::k) (mk (Fs i) [])):G P E (low W.heap.size) W M0 Q (.code c::k) st:=by
 intro M a w hS;cases c<;> simp only[qU,Bool.false_eq_true]at hc;rename_i c;simp only[after];have hI0:Jit E J n Fs 0 a w:=B4m hmk hJ (Nat.zero_le _) h0 hw hS
 let p:Act→World→Nat→Prop:=fun a w i=>Jit E J n Fs i a w
 let ν:Act→World→Nat:=fun a w=>open Classical in if h:∃m,∃i,p a w i∧n-i=m then Classical.choose (gN (fun m=>∃i,p a w i∧n-i=m) h)else 0
 have hν:∀a w,(∃i,p a w i)→(∃i,p a w i∧n-i=ν a w)∧∀i,p a w i→ν a w≤n-i:=by
  rintro a w ⟨i,hi⟩
  have h:∃m,∃i,p a w i∧n-i=m:=⟨_,i,hi,rfl⟩
  simp only[ν,dif_pos h];have:=Classical.choose_spec (gN (fun m=>∃i,p a w i∧n-i=m) h);exact⟨this.1,fun i hi=>this.2 _ ⟨i,hi,rfl⟩⟩
 refine wpIn_loop (fun a w=>∃i,p a w i) ν ⟨0,hI0⟩ fun a w hI=>?_
 obtain⟨⟨i,⟨M,h1,h2,h3⟩,hi⟩,_⟩:=hν a w hI;have:=body i w M h1 h2 M a w h3;simp only[after,bod]at this;refine wpIn_mono this fun e a' w' q=>?_
 cases e with
 |normal=>
  obtain⟨M',q1,q2⟩:=q;refine⟨⟨i+1,M',q1,q2⟩,Nat.lt_of_le_of_lt ((hν a' w' ⟨i+1,M',q1,q2⟩).2 (i+1) ⟨M',q1,q2⟩) (by omega)⟩
 |_=>exact q
theorem bZ (n j:Nat) (ty':TypeId) {lk:LK} {b:Nat} {ty:TypeId} {cs:List C} (hn:st.H n=some (.blk b ty cs)) (hj:X0 cs j=some (.pv (.nil lk)))
 (hk:G P E B W M0 Q k ⟨st.f,D4 (D4 st.H n (some (.blk b ty (cs.set j (.own st.nx (.slice none 0 0)))))) st.nx (some (.own (.slice none 0 0) ty' lk [])),st.nx+1⟩):G P E B W M0 Q k st:=by
 intro M a w hS;have h1:E1 B W (D4 st.H n (some (.blk b ty (cs.set j (.own st.nx (.slice none 0 0)))))) M w:=by
  refine⟨hS.h.below,hS.h.base,hS.h.mem,fun m x hx=>?_,fun m m' x x' c hm e1 e2 hb=>?_⟩
  ·by_cases e:m=n
   ·subst e;rw[B4]at hx;cases hx;obtain⟨q1,q2,us,q3,q4⟩:=hS.h.ok _ _ hn;refine⟨q1,q2,us,q3,by simpa using q4.1,fun i c u e1 e2=>?_⟩;rw[List.getElem?_set]at e1;split at e1
    ·rename_i hij;split at e1
     ·cases e1;rw[G0]at hj;have:=q4.2 i _ u (by rw[←hij];exact hj) e2;cases this with
      |pv h=>cases h;exact .own rfl
     ·cases e1
    ·exact q4.2 i c u e1 e2
   ·rw[B9 _ _ e]at hx;exact hS.h.ok m x hx
  ·have key:∀m x,D4 st.H n (some (.blk b ty (cs.set j (.own st.nx (.slice none 0 0))))) m=some x→∃y,st.H m=some y∧y.has=x.has:=by
    intro m x hx;by_cases e:m=n
    ·subst e;rw[B4]at hx;cases hx;exact⟨_,hn,rfl⟩
    ·rw[B9 _ _ e]at hx;exact⟨x,hx,rfl⟩
   obtain⟨y,y1,y2⟩:=key m x e1;obtain⟨y',y1',y2'⟩:=key m' x' e2;rw[←y2'];exact hS.h.inj m m' y y' c hm y1 y1' (by rw[y2];exact hb)
 exact hk M a w ⟨h1.newOwn (row:=none) (aE w none) (by simp) (F6.nil _ _ _ _ _) (by simp[Value.ownBlock]) st.nx (fun m x hm hx=>⟨hx,by simp⟩),hS.old,hS.d,hS.n,hS.f,hS.g⟩
theorem xZ {Y:Type} {cs:List C} {ev:Y→List Value} {ys:List Y} {f:FuncId} {fn:Func} (hf:P.funcs[f]? =some fn) (hb:fn.body.isNone=false) (hN:fn.ntmps=E.N) (hro:E.ro=some 0) (hmk:E.mrk= .f) (hres:fn.results= #[]) (hl:Nat.ble (len cs+1) E.N=true)
 (hcf:∀args w,(callFunc f args).run P w= .ok (.enter f args) w)
 (h:∀(M:B5) (lid:Nat) (J Jx:B5→Nat→World→Prop) (w:World),cH J→cH Jx→J M 0 w→
  (∀i x,ys[i]? =some x→∀Mi W,J Mi i W→Mi.on W→YieldAt Fence.wide 0 P lid (ev x).toArray W fun e W'=>(e= .returned (.bool true)∧J Mi (i+1) W'∧Mi.on W')∨(e= .returned (.bool false)∧Jx Mi (i+1) W'∧Mi.on W'))→
  G P E (low w.heap.size) w M (Qit J Jx ys.length) [.code (N8 fn)] (lT (pv (.val (.func (.yield lid) #[] #[]))::cs.map A.c))):B4i P f cs ev ys:=by
 refine⟨hcf,fun M us lid J Jx w hM hu hJ hJx h0 hy=>?_⟩;cases hbd:fn.body with
 |none=>rw[hbd]at hb;cases hb
 |some c=>
  rw[Nat.ble_eq,O9]at hl;have hul:=hu.1;refine(callsIn_wide (n:=0)).1 (callsIn_of_wp_marks hf hbd trivial ?_);have hg:=h M lid J Jx w hJ hJx h0 (fun i x hx Mi W hJi hon=>hy Mi i W x hx hJi hon) M ⟨(Value.func (.yield lid) #[] #[]::us).toArray++Array.replicate (fn.ntmps-(Value.func (.yield lid) #[] #[]::us).toArray.size) undef,[]⟩ w ⟨⟨K0.refl _ _,fun _ h=>h,hM,by simp[lT],by simp[lT]⟩,fun _ _ e _=>e,.nil (by rw[hmk];rfl) (B5.le_refl _),by simp;omega,fun s e he=>?_,fun s j b x hx=>?_⟩
  ·have hfb:N8 fn=c:=by simp[N8,hbd]
   have hg2:cwp E.ro P (N8 fn) (after E.ro P (Qit J Jx ys.length) []) _ w:=hg;rw[hfb,hro]at hg2;refine wpIn_mono hg2 (fun e a w q=>?_);obtain⟨q1,q2,q3⟩:=q;have fin:LeavesInM Fence.wide 0 P fn a.tmps (fun e W'=>(∃v,e= .returned v)∧∃Mi,J Mi ys.length W'∨∃i,i≤ys.length∧Jx Mi i W') a.defers .returning w:=by
    rw[q2];exact⟨.tuple #[],by simp[results,hres],⟨_,rfl⟩,q3⟩
   rcases q1 with rfl|rfl
   ·exact fin
   ·exact fin
  ·simp only[lT,G0]at he;split at he
   ·rename_i x hx;cases he;have hlt:s<(Value.func (.yield lid) #[] #[]::us).length:=by
     have:=(gS_.1 hx).1;simp only[List.length_cons,List.length_map]at this⊢;omega
    cases s with
    |zero=>simp at hx;subst hx;exact⟨_,Array.getElem?_append_left (by simp),.c (.pv (.val rfl))⟩
    |succ s=>
     simp only[List.getElem?_cons_succ,List.getElem?_map]at hx;cases hc:cs[s]? with
     |none=>rw[hc]at hx;cases hx
     |some c=>
      rw[hc]at hx;cases hx;simp only[List.length_cons]at hlt;refine⟨us[s]'(by omega),by rw[Array.getElem?_append_left (by simp;omega)];simp,.c (hu.2 s c _ hc (gE_ (by omega)))⟩
   ·cases he
  ·simp only[lT,G0]at hx;split at hx<;> cases hx
end
section
variable {P : Program} {E : D9} {B : Nat → Prop} {W : World} {M0 : B5} {Q : Exit → Act → World → Prop} {k : List X8} {st : St}
theorem jD (n:Nat) (h:st.nx=n) (hk:G P E B W M0 Q k ⟨st.f,st.H,n⟩):G P E B W M0 Q k st:=by
 subst h;exact hk
theorem yA {ns:List Nat} {fs:Nat→List (Nat×A)} {hs:Nat→List HB} (b:Nat) (h0:hdI k=0) (h:Wk st ns (fs b) (hs b)) (hk:∀b,G P E B W M0 Q k (mk (fs b) (hs b))):G P E B W M0 Q k st:=
 xN h0 h (hk b)
theorem yB {ns:List Nat} {fs:Nat→Nat→List (Nat×A)} {hs:Nat→Nat→List HB} (b c:Nat) (h0:hdI k=0) (h:Wk st ns (fs b c) (hs b c)) (hk:∀b c,G P E B W M0 Q k (mk (fs b c) (hs b c))):G P E B W M0 Q k st:=
 xN h0 h (hk b c)
theorem A8B {ns:List Nat} {fs:Nat→Nat→Nat→List (Nat×A)} {hs:Nat→Nat→Nat→List HB} (b c d:Nat) (h0:hdI k=0) (h:Wk st ns (fs b c d) (hs b c d)) (hk:∀b c d,G P E B W M0 Q k (mk (fs b c d) (hs b c d))):G P E B W M0 Q k st:=
 xN h0 h (hk b c d)
theorem K7 (n j m:Nat) {b:Nat} {ty ty':TypeId} {cs:List C} {v:Value} {lk:LK} {l:List lk.T} (hn:st.H n=some (.blk b ty cs)) (hj:X0 cs j=some (.own m v)) (hm:st.H m=some (.own v ty' lk l))
 (hk:G P E B W M0 Q k ⟨st.f,D4 (D4 st.H m none) n (some (.blk b ty (cs.set j (.pv (.lst lk l))))),st.nx⟩):G P E B W M0 Q k st:=by
 have hnm:n≠m:=fun e=>by subst e;rw[hn]at hm;cases hm
 intro M a w hS;obtain⟨M',h1,h2,h3⟩:=hS.h.freeze hm (H':=D4 st.H m none) (fun q x hq=>by
  by_cases e:q=m
  ·subst e;rw[B4]at hq;cases hq
  ·rw[B9 _ _ e]at hq;exact⟨e,hq⟩)
 have hn':D4 st.H m none n=some (.blk b ty cs):=by rw[B9 _ _ hnm];exact hn
 have hSH:E1 B W (D4 (D4 st.H m none) n (some (.blk b ty (cs.set j (.pv (.lst lk l)))))) M' w:=by
  refine⟨h2.below,h2.base,h2.mem,fun q x hx=>?_,fun q q' x x' c hq e1 e2 hb=>?_⟩
  ·by_cases e:q=n
   ·subst e;rw[B4]at hx;cases hx;obtain⟨q1,q2,us,q3,q4⟩:=h2.ok _ _ hn';refine⟨q1,q2,us,q3,by simpa using q4.1,fun i c u e1 e2=>?_⟩;rw[List.getElem?_set]at e1;split at e1
    ·rename_i hij;split at e1
     ·cases e1;rw[G0]at hj;have:=q4.2 i _ u (by rw[←hij];exact hj) e2;cases this with
      |own h=>exact .pv h3
     ·cases e1
    ·exact q4.2 i c u e1 e2
   ·rw[B9 _ _ e]at hx;exact h2.ok q x hx
  ·have key:∀q x,D4 (D4 st.H m none) n (some (.blk b ty (cs.set j (.pv (.lst lk l))))) q=some x→∃y,D4 st.H m none q=some y∧y.has=x.has:=by
    intro q x hx;by_cases e:q=n
    ·subst e;rw[B4]at hx;cases hx;exact⟨_,hn',rfl⟩
    ·rw[B9 _ _ e]at hx;exact⟨x,hx,rfl⟩
   obtain⟨y,y1,y2⟩:=key q x e1;obtain⟨y',y1',y2'⟩:=key q' x' e2;rw[←y2'];exact h2.inj q q' y y' c hq y1 y1' (by rw[y2];exact hb)
 exact hk M' a w ⟨hSH,fun k o e hk=>hS.old k o (h1.2 k o e hk) hk,hS.d.mono h1.1 rfl,hS.n,fun s e he=>by
  obtain⟨u,u1,u2⟩:=hS.f s e he;exact⟨u,u1,u2.mono h1.1⟩,hS.g⟩
end
end
end Go.Mt
namespace Go.Mt
open Go.RowKit
section
variable {P : Program} {E : D9} {B : Nat → Prop} {W : World} {M0 M F : B5} {Q : Exit → Act → World → Prop} {k : List X8} {st : St} {a : Act} {w w' : World} {N : Nat} {mrk : MK} {H : Nat → Option HB}
theorem W8 (s:Nat) {x y:A} (h:st.f s=some (.u x)) (e:∀M v,RA M x v→RA M y v) (hk:G P E B W M0 Q k ⟨bX st.f s (some (.u y)),st.H,st.nx⟩):G P E B W M0 Q k st:=by
 intro M a w hS;refine hk M a w ⟨hS.h,hS.old,hS.d,hS.n,fun s' e' he=>?_,fun s' j b z hx=>?_⟩
 ·simp only[bX]at he;split at he
  ·rename_i hb;rw[Nat.beq_eq]at hb;subst hb;cases he;obtain⟨u,u1,u2⟩:=hS.f _ _ h;exact⟨u,u1,e M u u2⟩
  ·exact hS.f s' e' he
 ·simp only[bX]at hx;split at hx
  ·cases hx
  ·exact hS.g s' j b z hx
theorem B4n (s m:Nat) {x:PV} {v:Value} {ty:TypeId} {lk:LK} {l:List lk.T} (h:st.f s=some (.u (.c (.pv x)))) (hx:x= .val v) (hm:st.H m=some (.own v ty lk l))
 (hk:G P E B W M0 Q k ⟨bX st.f s (some (.u (.c (.own m v)))),st.H,st.nx⟩):G P E B W M0 Q k st:=by
 subst hx;refine W8 s h (fun M u hr=>?_) hk;cases hr with
 |c hr=>cases hr with
  |pv hr=>
   have:=hr.val_eq;subst this;exact .c (.own hr.one)
theorem E1.reown (hS:E1 B W H M w) {n:Nat} {v:Value} {ty:TypeId} {k k':LK} {l:List k.T} {l':List k'.T} (hn:H n=some (.own v ty k l)) (hc:F6 M B w v ty k l→F6 M B w v ty k' l'):
 E1 B W (D4 H n (some (.own v ty k' l'))) M w:=by
 refine⟨hS.below,hS.base,hS.mem,fun q x hx=>?_,fun q q' x x' c hq e1 e2 hb=>?_⟩
 ·by_cases e:q=n
  ·subst e;rw[B4]at hx;cases hx;exact hc (hS.ok _ _ hn)
  ·rw[B9 _ _ e]at hx;exact hS.ok q x hx
 ·have key:∀q x,D4 H n (some (.own v ty k' l')) q=some x→∃y,H q=some y∧y.has=x.has:=by
   intro q x hx;by_cases e:q=n
   ·subst e;rw[B4]at hx;cases hx;exact⟨_,hn,rfl⟩
   ·rw[B9 _ _ e]at hx;exact⟨x,hx,rfl⟩
  obtain⟨y,y1,y2⟩:=key q x e1;obtain⟨y',y1',y2'⟩:=key q' x' e2;rw[←y2'];exact hS.inj q q' y y' c hq y1 y1' (by rw[y2];exact hb)
theorem F6.conv {v:Value} {ty:TypeId} {k k':LK} {l:List k.T} {l':List k'.T} (hl:l.length=l'.length) (hsz:k.sz=k'.sz)
 (hc:∀i x' j y',l'[i]? =some x'→(k'.enc x')[j]? =some y'→∃x y,l[i]? =some x∧(k.enc x)[j]? =some y∧∀us:Array Value,∀u,w.heap[v.ownBlock.getD 0]? =some (.cells us ty (0,0))→us[i*k.sz+j]? =some u→R M y u→R M y' u)
 (h:F6 M B w v ty k l):F6 M B w v ty k' l':=by
 rcases h with⟨rfl,rfl⟩|⟨b,cap,us,rfl,h1,h2,h3,h4,h5,h6,h7⟩
 ·refine .inl ⟨rfl,?_⟩;cases l' with
  |nil=>rfl
  |cons _ _=>simp at hl
 ·refine .inr ⟨b,cap,us,by rw[hl],h1,h2,h3,by rw[←hl];exact h4,h5,by rw[←hsz];exact h6,fun i x' j y' e1 e2=>?_⟩;obtain⟨x,y,q1,q2,q3⟩:=hc i x' j y' e1 e2;obtain⟨u,u1,u2⟩:=h7 i x j y q1 q2;exact⟨u,by rw[←hsz];exact u1,q3 us u h3 u1 u2⟩
theorem mS (n:Nat) {v:Value} {ty:TypeId} {l:List TE} (l':List (List B0)) (hn:st.H n=some (.own v ty .tbh l)) (e:l=l'.map .l)
 (hk:G P E B W M0 Q k ⟨st.f,D4 st.H n (some (.own v ty .tbl l')),st.nx⟩):G P E B W M0 Q k st:=by
 subst e;intro M a w hS;refine hk M a w ⟨hS.h.reown hn (F6.conv (by simp) rfl (fun i x' j y' e1 e2=>?_)),hS.old,hS.d,hS.n,hS.f,hS.g⟩;refine⟨.l x',y',by rw[List.getElem?_map];have e1':l'[i]? =some x':=e1;rw[e1'];rfl,e2,fun us u _ _ r=>r⟩
theorem C3K (n:Nat) {v:Value} {ty:TypeId} {l:List (List B0)} (hn:st.H n=some (.own v ty .tbl l))
 (hk:G P E B W M0 Q k ⟨st.f,D4 st.H n (some (.own v ty .tbh (l.map .l))),st.nx⟩):G P E B W M0 Q k st:=by
 intro M a w hS;refine hk M a w ⟨hS.h.reown hn (F6.conv (by simp) rfl (fun i x' j y' e1 e2=>?_)),hS.old,hS.d,hS.n,hS.f,hS.g⟩;have e1':(l.map TE.l)[i]? =some x':=e1;rw[List.getElem?_map]at e1';cases hl:l[i]? with
 |none=>rw[hl]at e1';cases e1'
 |some x=>rw[hl]at e1';cases e1';exact⟨x,y',rfl,e2,fun us u _ _ r=>r⟩
theorem yC (n m j:Nat) {V v:Value} {ty ty':TypeId} {L:List TE} {l:List B0} (hn:st.H n=some (.own V ty .tbh L)) (hj:L[j]? =some (.v v)) (hm:st.H m=some (.own v ty' .ent l))
 (hk:G P E B W M0 Q k ⟨st.f,D4 (D4 st.H m none) n (some (.own V ty .tbh (L.set j (.l l)))),st.nx⟩):G P E B W M0 Q k st:=by
 have hnm:n≠m:=fun e=>by
  subst e;rw[hn]at hm;simp only[Option.some.injEq,HB.own.injEq]at hm;cases hm.2.2.1
 intro M a w hS;obtain⟨M',h1,h2,h3⟩:=hS.h.freeze hm (H':=D4 st.H m none) (fun q x hq=>by
  by_cases e:q=m
  ·subst e;rw[B4]at hq;cases hq
  ·rw[B9 _ _ e]at hq;exact⟨e,hq⟩)
 have hn':D4 st.H m none n=some (.own V ty .tbh L):=by rw[B9 _ _ hnm];exact hn
 refine hk M' a w ⟨h2.reown hn' (F6.conv (by simp) rfl (fun i x' q y' e1 e2=>?_)),fun k o e hk=>hS.old k o (h1.2 k o e hk) hk,hS.d.mono h1.1 rfl,hS.n,fun s e he=>?_,hS.g⟩
 ·have e1':(L.set j (TE.l l))[i]? =some x':=e1;rw[List.getElem?_set]at e1';split at e1'
  ·rename_i hij;subst hij;split at e1'
   ·cases e1';refine⟨.v v,.val v,hj,?_,fun us u _ _ r=>?_⟩
    ·have:=N9 e2;simp only[LK.sz]at this;have hq:q=0:=by omega
     subst hq;rfl
    ·have:=r.val_eq;subst this;have:=N9 e2;simp only[LK.sz]at this;have hq:q=0:=by omega
     subst hq;have e2':some (PV.lst .ent l)=some y':=e2;cases e2';exact h3
   ·cases e1'
  ·exact⟨x',y',e1',e2,fun us u _ _ r=>r⟩
 ·obtain⟨u,u1,u2⟩:=hS.f s e he;exact⟨u,u1,u2.mono h1.1⟩
def DOk (M:B5) (B:Nat→Prop) (w:World) (e1:TypeId) (l1:Value→List TE) (e2:TypeId) (l2:List B0) (v:Value):Prop:=
 ∃u1 u2,v= .agg #[u1]∧F6 M B w u1 e1 .tbh (l1 u2)∧F6 M B w u2 e2 .ent l2∧∀b,u1.ownBlock=some b→u2.ownBlock≠some b
def gS (M0:B5) (W:World) (e1:TypeId) (l1:Value→List TE) (e2:TypeId) (l2:List B0):Ending→World→Prop:=
 fun e w'=>∃v F,e= .returned v∧Below W.heap.size W w'∧jK F W.heap.size w'∧DOk (M0.or F) (low W.heap.size) w' e1 l1 e2 l2 v
def C3L (P:Program) (f:FuncId) (args:List A) (e1:TypeId) (l1:Value→List TE) (e2:TypeId) (l2:List B0):Prop:=
 qQ P f∧∀(M:B5) (w:World) (vs:Array Value),M.on w→cY M args vs→Calls P f vs w (gS M w e1 l1 e2 l2)
variable {e1 : TypeId} {l1 : Value → List TE} {e2 : TypeId} {l2 : List B0}
theorem B1c (hT:K9 P E.T) {fn:Func} (hS:V1 N mrk (low W.heap.size) W M0 [] [] 0 st M a w) (hM0:M0.on W) {n m:Nat} {V v:Value} {ob:Prop} (h:Y4 E.T st.f st.H fn.results.toList=some ([.g [.own n V]],ob)) (hob:ob)
 (hn:st.H n=some (.own V e1 .tbh (l1 v))) (hm:st.H m=some (.own v e2 .ent l2)):
 ∃v,(results fn a.tmps).run P w= .ok v w∧gS M0 W e1 l1 e2 l2 (.returned v) w:=by
 obtain⟨vs,h1,h2,h2',h3⟩:=qV hT hS (g:=fun| .tmp t=>pure (a.tmps.getD t undef)| .cell t ty=>do loadVar ty (←asAddr (a.tmps.getD t undef))) (fun _=>rfl) (fun _ _=>rfl) h hob;have hres:(results fn a.tmps).run P w= .ok (if hh:vs.toArray.size=1 then vs.toArray[0]else .tuple vs.toArray) w:=by
  unfold results;rw[Array.mapM_eq_mapM_toList];simp only[Sem.run_bind,Sem.run_map];exact congrArg (fun r:Result (List Value)=>(r.andThen fun a w'=>Result.ok a.toArray w').andThen fun a w'=>Sem.run P (pure (if h:a.size=1 then a[0]else Value.tuple a)) w') h1
 let F:B5:=fun k=>if W.heap.size≤k then M k else none
 have hF:jK F W.heap.size w:=by
  intro k o e;simp only[F]at e;split at e
  ·rename_i hk;exact⟨hk,hS.h.mem k o e⟩
  ·cases e
 have hle:M.le (M0.or F):=by
  intro k o hk;simp only[B5.or,F];by_cases hlt:W.heap.size≤k
  ·simp[hlt,hk]
  ·simp only[if_neg hlt];exact hS.old k o hk (Nat.lt_of_not_le hlt)
 have hno:∀b,¬low W.heap.size b→M b=none→(M0.or F) b=none:=by
  intro b hb hMb
  replace hb:=Nat.le_of_not_lt hb
  have hFb:F b=none:=by simp[F,hMb]
  simp only[B5.or,hFb];exact B5.none_of_size hM0 hb
 have ow:∀(u:Value) (e:TypeId) (k:LK) (l:List k.T),F6 M (low W.heap.size) w u e k l→F6 (M0.or F) (low W.heap.size) w u e k l:=by
  intro u e k l ho;rcases ho with⟨rfl,rfl⟩|⟨b,cap,us,rfl,h1,h2,h3,h4,h5,h6,h7⟩
  ·exact .inl ⟨rfl,rfl⟩
  ·exact .inr ⟨b,cap,us,rfl,h1,hno b h1 h2,h3,h4,h5,h6,fun i x j y e1 e2=>let⟨u,u1,u2⟩:=h7 i x j y e1 e2;⟨u,u1,u2.mono hle⟩⟩
 have hnm:n≠m:=fun e=>by
  subst e;rw[hn]at hm;simp only[Option.some.injEq,HB.own.injEq]at hm;cases hm.2.2.1
 refine⟨_,hres,_,F,rfl,hS.h.below.low,hF,?_⟩
 match vs,h2,h3 with
 |[x],h2,h3=>
  have hx:=h3 0 _ x rfl rfl;cases hx with
  |g hx=>
   rename_i us;have hsz:us.size=1:=by have:=hx.1;simpa using this
   have hu:us.toList[0]? =some us[0]:=by simp[hsz]
   have h0:=hx.2 0 _ _ rfl hu;have hV:us[0]=V:=(RA.c h0).own_inv;refine⟨V,v,?_,ow _ _ _ _ (hS.h.ok _ _ hn),ow _ _ _ _ (hS.h.ok _ _ hm),fun b hb=>hS.h.inj n m _ _ b hnm hn hm hb⟩;show Value.agg us=_
   congr 1
   apply Array.ext
   ·simp[hsz]
   ·intro i hi1 hi2;have:i=0:=by omega
    subst this;simpa using hV
theorem B1d (hT:K9 P E.T) {fn:Func} (hM0:M0.on W) {n m:Nat} {V v:Value} {ob:Prop} (h:Y4 E.T st.f st.H fn.results.toList=some ([.g [.own n V]],ob)) (hob:ob)
 (hn:st.H n=some (.own V e1 .tbh (l1 v))) (hm:st.H m=some (.own v e2 .ent l2)) (hdl:mrk.dl=[]):
 ∀{M:B5} {a:Act} {w:World},V1 N mrk (low W.heap.size) W M0 [] [] 0 st M a w→LeavesInM Fence.wide 0 P fn a.tmps (gS M0 W e1 l1 e2 l2) a.defers .returning w:=by
 have key:∀(Ds:List Nat) {M:B5} {a:Act} {w:World},V1 N mrk (low W.heap.size) W M0 [] [] 0 st M a w→Ds.Nodup→a.defers=Ds.map A2F→(mrk≠ .t→Ds=[])→(∀D,D∈Ds→¬low W.heap.size D∧M D=some (.deferred (some [])))→
  LeavesInM Fence.wide 0 P fn a.tmps (gS M0 W e1 l1 e2 l2) a.defers .returning w:=by
  intro Ds
  induction Ds with
  |nil=>intro M a w hS _ e _ _;rw[e];exact B1c hT hS hM0 h hob hn hm
  |cons D Ds ih=>
   intro M a w hS hn e hmk hD;rw[e];obtain⟨hB,hm⟩:=hD D (by simp);have hl:=hS.h.mem D _ hm;refine⟨by simp,.inl ⟨D,_,rfl,run_takeDeferred hl,?_⟩⟩;have hd':∀D',D'∈Ds→¬low W.heap.size D'∧(M.put D (.deferred none)) D'=some (.deferred (some [])):=fun D' h'=>by
    have:=hD D' (List.mem_cons_of_mem _ h');refine⟨this.1,?_⟩;rw[B5.put_ne _ _ (fun e=>by subst e;exact(List.nodup_cons.1 hn).1 h')];exact this.2
   have hk:M0.le (M.put D (.deferred none)):=fun k o hk=>by
    have hlt:=(Array.getElem?_eq_some_iff.1 (hM0 k o hk)).1;rw[B5.put_ne _ _ (fun e=>hB (by subst e;exact hlt))];exact hS.d.kp k o hk
   have hS':V1 N mrk (low W.heap.size) W M0 [] [] 0 st (M.put D (.deferred none)) ⟨a.tmps,Ds.map A2F⟩ (w.putObj D (.deferred none)):=
    V1.turn hS hl rfl hB (fun n x hx hh=>by have:=(HB.block_lt (hS.h.ok n x hx) hh).2.2;rw[hm]at this;cases this) hS.old rfl ⟨⟨Ds,fun e=>(by have:=hmk e;cases this),(List.nodup_cons.1 hn).2,by simp[hdl],hd'⟩,hk⟩
   exact ih hS' (List.nodup_cons.1 hn).2 rfl (fun e=>(by have:=hmk e;cases this)) hd'
 intro M a w hS;obtain⟨Ds,h0,h1,h2,h3⟩:=hS.d.df;exact key Ds hS h1 (by rw[h2,hdl,List.append_nil]) h0 h3
theorem C3M (hT:K9 P E.T) {fn:Func} {c:Code} (hM0:M0.on W) (hc:iT c=true) (n m:Nat) {V v:Value} {ob:Prop} (h:Y4 E.T st.f st.H fn.results.toList=some ([.g [.own n V]],ob)) (hob:ob)
 (hn:st.H n=some (.own V e1 .tbh (l1 v))) (hm:st.H m=some (.own v e2 .ent l2)) (hdl:E.mrk.dl=[]:=by rfl):
 G P E (low W.heap.size) W M0 (aU P fn (gS M0 W e1 l1 e2 l2)) (.code c::k) st:=by
 intro M a w hS;cases c<;> simp only[iT,Bool.false_eq_true]at hc;simp only[after];exact wpIn_ret (cZ (B1d hT hM0 h hob hn hm hdl hS))
theorem A8C {f:FuncId} {fn:Func} {args:List A} (hf:P.funcs[f]? =some fn) (hb:fn.body.isNone=false) (hnm:(fn.name== "runtime.NumGoroutine")=false) (hN:fn.ntmps=E.N) (hl:Nat.ble (len args) E.N=true)
 (h:∀M0 W,M0.on W→G P E (low W.heap.size) W M0 (aU P fn (gS M0 W e1 l1 e2 l2)) [.code (N8 fn)] (lT args)) (hro:E.ro=none:=by rfl) (hdl:E.mrk.dl=[]:=by rfl):C3L P f args e1 l1 e2 l2:=by
 refine⟨⟨fn,hf,hb,hnm⟩,fun M0 w vs hM0 hra=>?_⟩;cases hbd:fn.body with
 |none=>rw[hbd]at hb;cases hb
 |some c=>
  rw[Nat.ble_eq,O9]at hl;refine(callsIn_wide (n:=0)).1 (callsIn_of_wp_marks hf hbd trivial ?_);have hg:=h M0 w hM0 M0 ⟨vs++Array.replicate (fn.ntmps-vs.size) undef,[]⟩ w ⟨⟨K0.refl _ _,fun _ h=>h,hM0,by simp[lT],by simp[lT]⟩,fun _ _ e _=>e,.nil hdl.symm (B5.le_refl _),by simp[hra.1];omega,fun s e he=>?_,fun s j b x hx=>?_⟩
  ·have hfb:N8 fn=c:=by simp[N8,hbd]
   have hg2:cwp E.ro P (N8 fn) (after E.ro P (aU P fn (gS M0 w e1 l1 e2 l2)) []) _ w:=hg;rw[hfb,hro]at hg2;exact wpIn_mono hg2 (fun e a w q=>q)
  ·simp only[lT,G0]at he;split at he
   ·rename_i x hx;cases he;have hlt:s<vs.size:=by rw[hra.1];exact(gS_.1 hx).1
    obtain⟨u,hu⟩:=bI vs s hlt;exact⟨u,by simp[Array.getElem?_append_left hlt,hu],hra.2 s x u hx hu⟩
   ·cases he
  ·simp only[lT,G0]at hx;split at hx<;> cases hx
theorem E1.add (hS:E1 B W H M w) {v:Value} {e:TypeId} {k:LK} {l:List k.T} (nx:Nat) (ho:F6 M B w v e k l) (hnew:∀m y,m≠nx→H m=some y→∀c,y.has c→v.ownBlock≠some c):
 E1 B W (D4 H nx (some (.own v e k l))) M w:=by
 refine⟨hS.below,hS.base,hS.mem,fun n x hx=>?_,fun n n' x x' b hnn h1 h2 hb=>?_⟩
 ·by_cases hn:n=nx
  ·subst hn;rw[B4]at hx;cases hx;exact ho
  ·rw[B9 _ _ hn]at hx;exact hS.ok n x hx
 ·by_cases hn:n=nx
  ·subst hn;rw[B4]at h1;cases h1;intro hc;have hb':v.ownBlock=some b:=hb;rw[B9 _ _ (fun e=>hnn e.symm)]at h2;exact hnew n' x' (fun e=>hnn e.symm) h2 b hc hb'
  ·by_cases hn':n'=nx
   ·subst hn';rw[B4]at h2;cases h2;rw[B9 _ _ hn]at h1;exact fun hc=>hnew n x hn h1 b hb hc
   ·rw[B9 _ _ hn]at h1;rw[B9 _ _ hn']at h2;exact hS.inj n n' x x' b hnn h1 h2 hb
theorem B9Z {all:List Oper} {i:Nat} {o:Oper} {fo:Operand} {args:List Operand} {tys:List TypeId} {f:Nat} {az:List A} {ob:Prop} {f':Value→Nat→Option Ent}
 (hc:C3L P f az e1 l1 e2 l2) (hd:Q6 i all=o::Q6 (i+1) all) (hg:o.guard=none) (ho:o.op= .call ⟨.value fo,⟨args⟩,⟨tys⟩⟩) (hfo:U7 st.f [] fo=some (.c (.clo f [])))
 (ha:iS E.T st.H (U7 st.f []) args tys=some (az,false,ob)) (hob:ob) (hf:∀u1,O5 E.N i (C7 all all) st.f o.dst (some (.u (.g [.own st.nx u1])))=some (f' u1))
 (hk:∀u1 u2,G P E B W M0 Q (.ops all (i+1)::k) ⟨f' u1,D4 (D4 st.H st.nx (some (.own u1 e1 .tbh (l1 u2)))) (st.nx+1) (some (.own u2 e2 .ent l2)),st.nx+2⟩):G P E B W M0 Q (.ops all i::k) st:=by
 intro M a w hS;show wA E.ro P all.toArray (after E.ro P Q k) (Q6 i all) a w;rw[hd];refine N1 fun K hK=>?_
 have hw:Region.wanted o (yielded all.toArray a.tmps)=true:=by unfold Region.wanted;rw[hg]
 rw[if_pos hw];obtain⟨dst,op,ty,pos,aft,guard⟩:=o;simp only at ho hg hf;subst ho hg;have hr:=I9 hS (Γ:=[]) (by simp);obtain⟨k1,k2⟩:=oM hS.h hr _ _ _ _ _ ha hob;obtain⟨⟨fn,q1,q2,q3⟩,hcall⟩:=hc;have hfv:a.eval fo= .func (.func f) #[] #[]:=by
  have:=hr _ _ hfo;cases this with
  |c h=>
   generalize a.eval fo=v at h;cases h with
   | @clo _ _ us hs hh=>
    have e:us= #[]:=Array.eq_empty_of_size_eq_zero (by simpa using hs);rw[e]
 have hrun:(execOp a.eval ⟨dst,.call ⟨.value fo,⟨args⟩,⟨tys⟩⟩,ty,pos,aft,none⟩).run P w= .ok (.enter f (args.map a.eval).toArray) w:=by
  have e3':fn.name≠ "runtime.NumGoroutine" :=by simpa using q3
  have e2':fn.body≠none:=by intro e;rw[e]at q2;cases q2
  simp[execOp,resolve,invoke,hfv,Deferred.ofValue,callFunc,q1,e2',e3']
 unfold Oper.wp;rw[hrun,Oper.upon_enter];refine(hcall M w _ hS.h.mem (k2 rfl)).mono fun e w' ⟨v,F,he,hb,hF,u1,u2,hv,o1,o2,hne⟩=>?_
 subst he hv;have hS':=hS.h.call hb hF;have hMle:=B5.ext_or hS.h.mem hS.h.base hF;have ow:∀(u:Value) (e:TypeId) (k:LK) (l:List k.T),F6 (M.or F) (low w.heap.size) w' u e k l→F6 (M.or F) B w' u e k l∧∀b,u.ownBlock=some b→w.heap.size≤b:=by
  intro u e k l ho;rcases ho with⟨rfl,rfl⟩|⟨b,cap,us,rfl,q1,q2,q3,q4,q5,q6,q7⟩
  ·exact⟨.inl ⟨rfl,rfl⟩,by simp[Value.ownBlock]⟩
  ·exact⟨.inr ⟨b,cap,us,rfl,fun h=>q1 (hS.h.base _ h),q2,q3,q4,q5,q6,q7⟩,fun b' hb'=>by cases hb';exact Nat.le_of_not_lt q1⟩
 obtain⟨p1,p1'⟩:=ow _ _ _ _ o1;obtain⟨p2,p2'⟩:=ow _ _ _ _ o2;have hold:∀m y,st.H m=some y→∀c,y.has c→c<w.heap.size:=fun m y hy c hc=>(HB.block_lt (hS.h.ok m y hy) hc).2.1
 have hA:=hS'.add st.nx p1 (fun m y hm hy c hc hu=>by have:=hold m y hy c hc;have:=p1' c hu;omega);have hA2:=hA.add (st.nx+1) p2 (fun m y hm hy c hc hu=>by
  by_cases e:m=st.nx
  ·subst e;rw[B4]at hy;cases hy;exact hne c hc hu
  ·rw[B9 _ _ e]at hy;have:=hold m y hy c hc;have:=p2' c hu;omega)
 refine hK _ _ (hk u1 u2 (M.or F) _ w' (I7.put hS (S':=fun j=>j<i+1) (Nat.lt_irrefl i) (fun j hj=>Nat.lt_succ_of_lt hj) hMle hA2 (hf u1) (E6 _ _) (fun e' he=>?_) (by simp)));cases he;refine .g ⟨rfl,fun j c u a1 a2=>?_⟩
 match j,a1,a2 with
 |0,a1,a2=>cases a1;cases a2;exact .own (F6.one o1)
end
end Go.Mt
namespace Go.Mt
open Go.RowKit
section
variable {P : Program} {E : D9} {B : Nat → Prop} {W : World} {M0 : B5} {Q : Exit → Act → World → Prop} {k : List X8} {st : St}
theorem B4o (ty:TypeId) (lk:LK) (hk:G P E B W M0 Q k ⟨st.f,D4 st.H st.nx (some (.own (.slice none 0 0) ty lk [])),st.nx+1⟩):G P E B W M0 Q k st:=by
 intro M a w hS;exact hk M a w ⟨hS.h.newOwn (row:=none) (aE w none) (by simp) (F6.nil _ _ _ _ _) (by simp[Value.ownBlock]) st.nx (fun m x hm hx=>⟨hx,by simp⟩),hS.old,hS.d,hS.n,hS.f,hS.g⟩
end
end Go.Mt
namespace Go.Mt
open Go.RowKit
section
variable {P : Program} {E : D9} {B : Nat → Prop} {W : World} {M0 : B5} {Q : Exit → Act → World → Prop} {k : List X8} {st : St}
theorem B4p (m:Nat) (hk:G P E B W M0 Q k ⟨st.f,D4 st.H m none,st.nx⟩):G P E B W M0 Q k st:=by
 intro M a w hS;exact hk M a w ⟨hS.h.less (fun n x h=>by
  have h':D4 st.H m none n=some x:=h;by_cases e:n=m
  ·subst e;rw[B4]at h';cases h'
  ·rwa [B9 _ _ e]at h'),hS.old,hS.d,hS.n,hS.f,hS.g⟩
end
end Go.Mt
namespace Go.Mt
open Go.RowKit
noncomputable section
section
open Go.ChangeShapes Go.WideShapes
section
variable {P : Program}
end
end
section
variable {P : Program} {E : D9} {B : Nat → Prop} {W : World} {M0 : B5} {Q : Exit → Act → World → Prop} {k : List X8} {st : St}
end
section
variable {P : Program} {E : D9} {B : Nat → Prop} {W : World} {M0 M F : B5} {Q : Exit → Act → World → Prop} {k : List X8} {st : St} {a : Act} {w w' : World} {N : Nat} {mrk : MK} {H : Nat → Option HB}
theorem rA {rd:Operand→Option A} (hr:∀o x,rd o=some x→RA M x (a.eval o)):∀(os:List Operand) (az:List A),aD rd os=some az→cY M az (os.map a.eval).toArray:=by
 intro os
 induction os with
 |nil=>intro az h;cases h;exact⟨rfl,by simp⟩
 |cons o os ih=>
  intro az h;simp only[aD]at h;split at h
  ·rename_i x xs h1 h2;cases h;obtain⟨i1,i2⟩:=ih _ h2;refine⟨by simpa using i1,fun j c v e1 e2=>?_⟩;cases j with
   |zero=>simp at e1 e2;subst e1 e2;exact hr _ _ h1
   |succ j=>simp at e1 e2;exact i2 j c v e1 (by simpa using e2)
  ·cases h
theorem cY.ren {σ:Nat→Nat} {az:List A} {vs:Array Value} (r:cY M az vs):cY M (az.map (A2C σ)) vs:=by
 refine⟨by rw[List.length_map];exact r.1,fun j c v e1 e2=>?_⟩;rw[List.getElem?_map]at e1;cases hx:az[j]? with
 |none=>rw[hx]at e1;cases e1
 |some x=>rw[hx]at e1;cases e1;exact vY (r.2 j x v hx e2)
def gT (all:List Oper) (f:Nat→Option Ent) (o:Oper):Prop:=match o.guard with
 |none=>True
 |some (j,b)=>∃dj,eN all j=some dj∧f dj=some (.u (bool b))
theorem lB {all:List Oper} {o:Oper} {ops:List Oper} {rs:List (Nat×Nat)} {S:Nat→Prop} (hS:I7 N mrk B W M0 ops rs S st M a w) (h:gT all st.f o):Region.wanted o (yielded all.toArray a.tmps)=true:=by
 unfold gT at h;unfold Region.wanted;split at h
 ·rename_i hg;rw[hg]
 ·rename_i j b hg;rw[hg];obtain⟨dj,h1,h2⟩:=h;obtain⟨u,u1,u2⟩:=hS.f _ _ h2;have:=RA.val_inv u2;subst this;simp[P0 h1,u1]
def R2 {X:Type} (M0:B5) (W:World) (hs:List HB) (ok:X→Prop) (rx:X→A) (hs':X→List HB):Ending→World→Prop:=
 fun e w'=>∃v M' x,e= .returned v∧B5.ext (fH W hs) M0 M'∧ok x∧RA M' (rx x) v∧E1 (fH W hs) W (X0 (hs' x)) M' w'
def B1e (az:List A):A:=match az with
 |[x]=>x
 |xs=> .t xs
theorem B1f {X:Type} {hs':List HB} {ms:List Nat} {σ:Nat→Nat} (hS:E1 B W H M w) (hm:ms.Nodup) (hl:ms.map (fun n=>(H n).map (qR σ))=hs'.map some):E1 B W (X0 hs') M w:=by
 have hlen:ms.length=hs'.length:=by have:=congrArg List.length hl;simpa using this
 have hget:∀(j:Nat) (y:HB),hs'[j]? =some y→∃n x,ms[j]? =some n∧H n=some x∧y=qR σ x:=by
  intro j y e;have hlt:=(gS_.1 e).1;have hn':ms[j]? =some ms[j]:=gE_ (by omega);have:=congrArg (fun l=>l[j]?) hl;simp only[List.getElem?_map,hn',e,Option.map_some,Option.some.injEq]at this;cases hx:H ms[j]with
  |none=>rw[hx]at this;cases this
  |some x=>rw[hx]at this;cases this;exact⟨_,x,hn',hx,rfl⟩
 refine⟨hS.below,hS.base,hS.mem,fun j y hy=>?_,fun j j' y y' b hj h1 h2 hb=>?_⟩
 ·rw[G0]at hy;obtain⟨n,x,_,hx,rfl⟩:=hget j y hy;exact vZ (hS.ok n x hx)
 ·rw[G0]at h1 h2;obtain⟨n,x,e1,hx,rfl⟩:=hget j y h1;obtain⟨n',x',e2,hx',rfl⟩:=hget j' y' h2;rw[V0]at hb⊢;exact hS.inj n n' x x' b (fun e=>by subst e;exact hj (qS hm e1 e2)) hx hx' hb
def uP (args:List A) (hs:List HB):St:=⟨fun s=>match X0 args s with
 |some x=>some (.u x)
 |none=>none,X0 hs,len hs⟩
theorem uQ {X:Type} {f:FuncId} {fn:Func} {args:List A} {hs:List HB} {ok:X→Prop} {rx:X→A} {hs':X→List HB} (hf:P.funcs[f]? =some fn) (hb:fn.body.isNone=false) (hnm:(fn.name== "runtime.NumGoroutine")=false) (hN:fn.ntmps=E.N) (hl:Nat.ble (len args) E.N=true)
 (h:∀M0 W,M0.on W→(∀k o,M0 k=some o→fH W hs k)→G P E (fH W hs) W M0 (aU P fn (R2 M0 W hs ok rx hs')) [.code (N8 fn)] (uP args hs)) (hro:E.ro=none:=by rfl) (hdl:E.mrk.dl=[]:=by rfl):C5 P f args hs ok rx hs':=by
 refine⟨⟨fn,hf,hb,hnm⟩,fun M0 w vs hS0 hra=>?_⟩;cases hbd:fn.body with
 |none=>rw[hbd]at hb;cases hb
 |some c=>
  rw[Nat.ble_eq,O9]at hl;refine(callsIn_wide (n:=0)).1 (callsIn_of_wp_marks hf hbd trivial ?_);have hlow:∀k o,M0 k=some o→fH w hs k:=fun k o hk=>by
   refine⟨(Array.getElem?_eq_some_iff.1 (hS0.mem k o hk)).1,fun j x hx hh=>?_⟩;have:=(HB.block_lt (hS0.ok j x (by rw[G0];exact hx)) hh).2.2;rw[hk]at this;cases this
  have hg:=h M0 w hS0.mem hlow M0 ⟨vs++Array.replicate (fn.ntmps-vs.size) undef,[]⟩ w ⟨hS0,fun _ _ e _=>e,.nil hdl.symm (B5.le_refl _),by simp[hra.1];omega,fun s e he=>?_,fun s j b x hx=>?_⟩
  ·have hfb:N8 fn=c:=by simp[N8,hbd]
   have hg2:cwp E.ro P (N8 fn) (after E.ro P (aU P fn (R2 M0 w hs ok rx hs')) []) _ w:=hg;rw[hfb,hro]at hg2;exact wpIn_mono hg2 (fun e a w q=>q)
  ·simp only[uP,G0]at he;split at he
   ·rename_i x hx;cases he;have hlt:s<vs.size:=by rw[hra.1];exact(gS_.1 hx).1
    obtain⟨u,hu⟩:=bI vs s hlt;exact⟨u,by simp[Array.getElem?_append_left hlt,hu],hra.2 s x u hx hu⟩
   ·cases he
  ·simp only[uP,G0]at hx;split at hx<;> cases hx
theorem A8D {X:Type} {f:FuncId} {fn:Func} {args:List A} {hs:List HB} {ok:X→Prop} {rx:X→A} {hs':X→List HB} (hf:P.funcs[f]? =some fn) (hb:fn.body.isNone=false) (hnm:(fn.name== "runtime.NumGoroutine")=false) (hN:fn.ntmps=E.N) (hl:Nat.ble (len args) E.N=true)
 (h:∀M0 W,M0.on W→G P E (fH W hs) W M0 (aU P fn (R2 M0 W hs ok rx hs')) [.code (N8 fn)] (uP args hs)) (hro:E.ro=none:=by rfl) (hdl:E.mrk.dl=[]:=by rfl):C5 P f args hs ok rx hs':=
 uQ hf hb hnm hN hl (fun M0 W h1 _=>h M0 W h1) hro hdl
end
section
variable {P : Program} {E : D9} {B : Nat → Prop} {W : World} {M0 M F : B5} {Q : Exit → Act → World → Prop} {k : List X8} {st : St} {a : Act} {w w' : World}
def EqS (P:Program) (t:TypeId) (xs ys:List C) (b:Bool):Prop:=P.eqGuardType P.depth t=false∧∀(M:B5) (w:World) (us vs:Array Value),R8 M xs us.toList→R8 M ys vs.toList→(Op.equalIn 10000 t (.agg us) (.agg vs)).run P w= .ok b w
theorem C4r {all:List Oper} {i:Nat} {o:Oper} {t t2:TypeId} {x y:Operand} {xs ys:List C} {b:Bool} {f':Nat→Option Ent}
 (he:EqS P t xs ys b) (hd:Q6 i all=o::Q6 (i+1) all) (hg:o.guard=none) (ho:o.op= .binOp .eql t x y t2) (hx:U7 st.f [] x=some (.g xs)) (hy:U7 st.f [] y=some (.g ys))
 (hf:O5 E.N i (C7 all all) st.f o.dst (some (.u (bool b)))=some f') (hk:G P E B W M0 Q (.ops all (i+1)::k) ⟨f',st.H,st.nx⟩):G P E B W M0 Q (.ops all i::k) st:=by
 intro M a w hS;show wA E.ro P all.toArray (after E.ro P Q k) (Q6 i all) a w;rw[hd];refine N1 fun K hK=>?_
 have hw:Region.wanted o (yielded all.toArray a.tmps)=true:=by unfold Region.wanted;rw[hg]
 rw[if_pos hw];obtain⟨dst,op,ty,pos,aft,guard⟩:=o;simp only at ho hg hf;subst ho hg;have hr:=I9 hS (Γ:=[]) (by simp);obtain⟨us,e1,hus⟩:∃us,a.eval x= .agg us∧R8 M xs us.toList:=by
  have:=hr _ _ hx;generalize a.eval x=v at this;cases this with|g h=>exact⟨_,rfl,h⟩
 obtain⟨vs,e2,hvs⟩:∃us,a.eval y= .agg us∧R8 M ys us.toList:=by
  have:=hr _ _ hy;generalize a.eval y=v at this;cases this with|g h=>exact⟨_,rfl,h⟩
 have hrun:(execOp a.eval ⟨dst,.binOp .eql t x y t2,ty,pos,aft,none⟩).run P w= .ok (.value (.bool b)) w:=by
  simp only[execOp,Sem.run_bind,e1,e2,run_eqGuard_agg w .eql t x y us vs he.1,Result.andThen_ok,run_eql_struct,he.2 M w us vs hus hvs];rfl
 refine F9 hrun (hK _ _ (hk M _ w (I7.put hS (S':=fun j=>j<i+1) (Nat.lt_irrefl i) (fun j hj=>Nat.lt_succ_of_lt hj) (B5.ext_refl _ _) hS.h hf (E6 _ _) (fun e' he=>?_) (by simp))));cases he;exact .c (.pv (.val rfl))
theorem B9a {t t0 t1:TypeId} {k:IntKind} {f0 f1:Field} {fs2:Array Field} {zs ys' xs':List C} {a b:Int} {r:Bool} {m:Nat}
 (hg:P.eqGuardType P.depth t=false) (hu:P.underlying t=some (.struct #[f0,f1])) (hp:P.stoodInHeld t=false)
 (u0:P.underlying f0.type=some (.int k)) (o0:f0.offset=0) (n0:f0.name≠ "_")
 (u1:P.underlying f1.type=some (.struct fs2)) (o1:f1.offset=1) (n1:f1.name≠ "_") (p1:P.stoodInHeld f1.type=false) {inf:TypeInfo} (c1:P.info? f1.type=some inf) (cm:inf.size=m)
 (hq:iQ P 0 zs fs2.toList=true) (hr:qO zs xs' ys'=some r) (lx:xs'.length=m) (ly:ys'.length=m):
 EqS P t (.pv (.val (.int k a))::xs') (.pv (.val (.int k b))::ys') (decide (a=b) && r):=by
 refine⟨hg,fun M w us vs hus hvs=>?_⟩;have hf:P.fieldsOf t= #[f0,f1]:=by unfold Program.fieldsOf;rw[hu]
 have hf1:P.fieldsOf f1.type=fs2:=by unfold Program.fieldsOf;rw[u1]
 rw[show(10000:Nat)=9999+1 from rfl,run_equalIn_struct w 9999 t us vs (by rw[hf];exact hu) hp,hf];obtain⟨x0,us',g1,g2,g3⟩:=hus.cell;obtain⟨y0,vs',k1,k2,k3⟩:=hvs.cell;have hx0:x0= .int k a:=by cases g2 with|pv r=>exact r.val_eq
 have hy0:y0= .int k b:=by cases k2 with|pv r=>exact r.val_eq
 subst hx0 hy0;have gu:us[0]? =some (.int k a):=by have:=congrArg (fun l=>l[0]?) g1;simpa using this
 have gv:vs[0]? =some (.int k b):=by have:=congrArg (fun l=>l[0]?) k1;simpa using this
 have su:us.size=m+1:=by have:=hus.1;simp at this;omega
 have sv:vs.size=m+1:=by have:=hvs.1;simp at this;omega
 have q1:=Z1 (w:=w) (P:=P) u0 rfl (xs:=us) (off:=f0.offset) (v:= .int k a) (by rw[o0];exact gu);have q2:=Z1 (w:=w) (P:=P) u0 rfl (xs:=vs) (off:=f0.offset) (v:= .int k b) (by rw[o0];exact gv);have pt:∀zs:Array Value,(part f1.type zs f1.offset).run P w= .ok (.agg (zs.extract 1 (1+m))) w:=by
  intro zs;have hi:(Go.isAgg f1.type).run P w= .ok true w:=by
   unfold Go.isAgg;simp only[Sem.run_bind,run_underlying u1,Result.andThen_ok];rfl
  have hs:(Go.sizeOf f1.type).run P w= .ok m w:=by
   simp[Go.sizeOf,D7 c1,cm]
  simp[part,hi,hs,o1]
 have sub:∀{zs:Array Value} {l:List Value} {z:Value},zs.toList=z::l→zs.size=m+1→(zs.extract 1 (1+m)).toList=l:=by
  intro zs l z h1 h2;have hl:l.length=m:=by have:=congrArg List.length h1;simp at this;omega
  rw[Array.toList_extract,h1];simp only[List.extract,List.drop_succ_cons,List.drop_zero,Nat.add_sub_cancel_left];exact List.take_of_length_le (by omega)
 have e1:(Op.equalIn (9998+1) f1.type (.agg (us.extract 1 (1+m))) (.agg (vs.extract 1 (1+m)))).run P w= .ok r w:=by
  rw[run_equalIn_struct w 9998 f1.type _ _ (by rw[hf1];exact u1) p1,hf1];exact jJ 9997 hq hr (by rw[List.drop_zero,sub g1 su];exact g3) (by rw[List.drop_zero,sub k1 sv];exact k3)
 have e0:(Op.equalIn (9998+1) f0.type (.int k a) (.int k b)).run P w= .ok (decide (a=b)) w:=by
  rw[run_equalIn_int w 9998 f0.type k k a b u0];congr 1
 show(Op.eqFields (9998+1) us vs [f0,f1]).run P w=_;simp only[Op.eqFields,if_pos n0,if_pos n1,Sem.run_bind,q1,q2,Result.andThen_ok,e0,pt us,pt vs,e1];have e2:(Op.equalIn 9999 f1.type (.agg (us.extract 1 (1+m))) (.agg (vs.extract 1 (1+m)))).run P w= .ok r w:=e1;cases hab:decide (a=b)<;> cases r<;> simp[pt us,pt vs,e2]
end
section
variable {P : Program} {E : D9} {B : Nat → Prop} {W : World} {M0 M F : B5} {Q : Exit → Act → World → Prop} {k : List X8} {st : St} {a : Act} {w w' : World} {H : Nat → Option HB}
theorem E1.rehb (hS:E1 B W H M w) {n:Nat} {x x':HB} (hn:H n=some x) (hx:X2 M B w x→X2 M B w x') (hb:∀b,x'.has b→x.has b):E1 B W (D4 H n (some x')) M w:=by
 refine⟨hS.below,hS.base,hS.mem,fun q y hy=>?_,fun q q' y y' c hq e1 e2 hc=>?_⟩
 ·by_cases e:q=n
  ·subst e;rw[B4]at hy;cases hy;exact hx (hS.ok _ _ hn)
  ·rw[B9 _ _ e]at hy;exact hS.ok q y hy
 ·have key:∀q y,D4 H n (some x') q=some y→∃z,H q=some z∧∀b,y.has b→z.has b:=by
   intro q y hy;by_cases e:q=n
   ·subst e;rw[B4]at hy;cases hy;exact⟨_,hn,hb⟩
   ·rw[B9 _ _ e]at hy;exact⟨y,hy,fun _ h=>h⟩
  obtain⟨z,z1,z2⟩:=key q y e1;obtain⟨z',z1',z2'⟩:=key q' y' e2;exact fun h=>hS.inj q q' z z' c hq z1 z1' (z2 c hc) (z2' c h)
theorem B9b (n:Nat) {v:Value} {ty:TypeId} {lk:LK} {l:List lk.T} (hn:st.H n=some (.own v ty lk l)) (h0:l=[]→v= .slice none 0 0→G P E B W M0 Q k st)
 (h1:∀b cap,v= .slice (some ⟨b,0,none⟩) l.length cap→l.length≤cap→cap≤maxLen→G P E B W M0 Q k st):G P E B W M0 Q k st:=by
 intro M a w hS;rcases hS.h.ok n _ hn with⟨h2,h3⟩|⟨b,cap,us,h2,_,_,_,h3,h4,_⟩
 ·exact h0 h3 h2 M a w hS
 ·exact h1 b cap h2 h3 h4 M a w hS
theorem B9c (n j m:Nat) {b:Nat} {ty ty':TypeId} {cs:List C} {v:Value} {lk:LK} {l:List lk.T} (hn:st.H n=some (.blk b ty cs)) (hj:X0 cs j=some (.pv (.val v))) (hm:st.H m=some (.own v ty' lk l))
 (hk:G P E B W M0 Q k ⟨st.f,D4 st.H n (some (.blk b ty (cs.set j (.own m v)))),st.nx⟩):G P E B W M0 Q k st:=by
 intro M a w hS;have hv:v.oneCell'=true:=F6.one (hS.h.ok _ _ hm);refine hk M a w ⟨hS.h.rehb hn (fun h=>?_) (fun c hc=>hc),hS.old,hS.d,hS.n,hS.f,hS.g⟩;obtain⟨h1,h2,us,h3,h4⟩:=h;refine⟨h1,h2,us,h3,by rw[List.length_set];exact h4.1,fun q c u e1 e2=>?_⟩;rw[List.getElem?_set]at e1;split at e1
 ·rename_i hq;subst hq;split at e1
  ·cases e1;have:=h4.2 j _ u (by rw[←G0];exact hj) e2;cases this with
   |pv h=>have:=h.val_eq;subst this;exact .own hv
  ·cases e1
 ·exact h4.2 q c u e1 e2
theorem B9d (n m:Nat) {b N cap:Nat} {ty:TypeId} {lk:LK} {l:List lk.T} (hn:st.H n=some (.own (.slice (some ⟨b,0,none⟩) N cap) ty lk l)) (hm:m≤l.length)
 (hk:G P E B W M0 Q k ⟨st.f,D4 st.H n (some (.own (.slice (some ⟨b,0,none⟩) m cap) ty lk (l.take m))),st.nx⟩):G P E B W M0 Q k st:=by
 intro M a w hS;refine hk M a w ⟨hS.h.rehb hn (fun h=>?_) (fun c hc=>hc),hS.old,hS.d,hS.n,hS.f,hS.g⟩;rcases h with⟨h,_⟩|⟨b',cap',us,h,h1,h2,h3,h4,h5,h6,h7⟩
 ·cases h
 ·cases h;have hl:(l.take m).length=m:=by rw[List.length_take];omega
  refine .inr ⟨b,cap,us,by rw[hl],h1,h2,h3,by omega,h5,h6,fun i x j y e1 e2=>?_⟩;rw[List.getElem?_take]at e1;split at e1
  ·exact h7 i x j y e1 e2
  ·cases e1
theorem B4q {ty:TypeId} {ie:TI} (h:wY P ty ie):∃inf z,P.info? ty=some inf∧inf.size=ie.size∧inf.zero=some z∧z.cells.size=ie.size∧∀u∈z.cells.toList,u.oneCell'=true:=by
 obtain⟨inf,z,i1,i2,i3,i4,i5,i6⟩:=h.info;exact⟨inf,z,i1,i2,i4,i5,(i6 (fun _=>none)).one⟩
theorem A2H {z:Array Value} (hz:∀u∈z.toList,u.oneCell'=true) (hp:0<z.size) (n:Nat):∀u∈(Builtin.zeroCells z n).toList,u.oneCell'=true:=by
 intro u hu;simp only[Builtin.zeroCells,Array.toList_map,List.mem_map]at hu;obtain⟨i,_,rfl⟩:=hu;have hlt:=Nat.mod_lt i hp;rw[getElem!_pos z _ hlt];exact hz _ (by simp)
theorem eO {ρ:Operand→Value} {x:Operand} {ts:Array TypeId} {dst:Option Tmp} {ty:TypeId} {pos:String} {after:Array Edge} {guard:Option (Nat×Bool)} {r:Result Value}
 (h:(Builtin.clear_ ts ty #[ρ x]).run P w=r):
 (execOp ρ ⟨dst,.call ⟨.builtin .clear, #[x],ts⟩,ty,pos,after,guard⟩).run P w=r.andThen fun v w'=> .ok (.value v) w':=by
 simp[execOp,resolve,invoke,Go.builtin,h]
theorem A8E {all:List Oper} {i:Nat} {o:Oper} {s1:Operand} {t:TypeId} (n:Nat) {b N cap lo hi sz z1 z2:Nat} {z:List C} {ty:TypeId} {ie:TI} {lk lk':LK} {l:List lk.T} {f':Nat→Option Ent}
 (hT:K9 P E.T) (hd:Q6 i all=o::Q6 (i+1) all) (hg:o.guard=none) (ho:o.op= .call ⟨.builtin .clear,⟨[s1]⟩,⟨[t]⟩⟩) (ht:E.T t=some ⟨.slc ty lk',z1,z2,z⟩) (hte:E.T ty=some ie) (hsz:lk'.sz=lk.sz) (hsz':lk'.sz=sz)
 (hn:st.H n=some (.own (.slice (some ⟨b,0,none⟩) N cap) ty lk l)) (h1:U7 st.f [] s1=some (pv (.val (sli b 0 lo hi cap sz)))) (hlo:l.length≤lo) (hhi:hi≤cap)
 (hf:O5 E.N i (C7 all all) st.f o.dst (some (.u (.t [])))=some f')
 (hk:G P E B W M0 Q (.ops all (i+1)::k) ⟨f',st.H,st.nx⟩):G P E B W M0 Q (.ops all i::k) st:=by
 intro M a w hS;show wA E.ro P all.toArray (after E.ro P Q k) (Q6 i all) a w;rw[hd];refine N1 fun K hK=>?_
 have hw:Region.wanted o (yielded all.toArray a.tmps)=true:=by unfold Region.wanted;rw[hg]
 rw[if_pos hw];obtain⟨dst,op,tyo,pos,aft,guard⟩:=o;simp only at ho hg hf;subst ho hg;have hr:=I9 hS (Γ:=[]) (by simp);have v1:=(hr _ _ h1).val_inv;have hu:=(hT _ _ ht).und;simp only at hu;obtain⟨hu,inf,hinf,hs3⟩:=hu;subst hsz';rw[hsz]at v1;obtain⟨inf',zv,i1,i2,i4,i5,i6⟩:=B4q (hT _ _ hte);have:inf'=inf:=by rw[hinf]at i1;cases i1;rfl
 subst this;have hzs:zv.cells.size=lk.sz:=by rw[i5,←i2,hs3,hsz]
 have post:∀w',E1 B W st.H M w'→K (({a with}:Act).put dst (.tuple #[])) w':=fun w' hA=>
  hK _ _ (hk M _ w' (I7.put hS (S':=fun j=>j<i+1) (Nat.lt_irrefl i) (fun j hj=>Nat.lt_succ_of_lt hj) (B5.ext_refl _ _) hA hf (E6 _ _) (fun e' he=>by cases he;exact .t rfl (by simp)) (by simp)))
 have ev1:a.eval s1= .slice (some ⟨b,if cap=lo then 0 else 0+lo*lk.sz,none⟩) (hi-lo) (cap-lo):=by rw[v1];rfl
 by_cases hz:hi-lo=0
 ·have hrun:(execOp a.eval ⟨dst,.call ⟨.builtin .clear, #[s1], #[t]⟩,tyo,pos,aft,none⟩).run P w= .ok (.value (.tuple #[])) w:=by
   rw[eO (r:= .ok (.tuple #[]) w)]
   ·rfl
   ·simp[Builtin.clear_,run_underlying hu,ev1,hz]
  exact F9 hrun (post w hS.h)
 ·rcases hS.h.ok n _ hn with⟨h,_⟩|⟨b',cap',us,h,g1,g2,g3,g4,g5,g6,g7⟩
  ·cases h
  ·cases h;have hne:cap≠lo:=by omega
   rw[if_neg hne]at ev1;obtain⟨zs,hzs'⟩:∃zs,zs=(Builtin.zeroCells zv.cells (hi-lo)).toList:=⟨_,rfl⟩
   have hzl:zs.length=(hi-lo)*lk.sz:=by rw[hzs',Array.length_toList,size_zeroCells,hzs]
   have hfit:lo*lk.sz+zs.length≤us.size:=by
    rw[hzl,g6,←Nat.add_mul];exact Nat.mul_le_mul_right _ (by omega)
   have hst:=run_storeCells_at P b (lo*lk.sz) ty zs 0 us w g3 (by simpa using hfit) (by rw[hzs'];exact A2H i6 (by rw[hzs];exact lk.sz_pos) _);simp only[Nat.add_zero]at hst;have hrun:(execOp a.eval ⟨dst,.call ⟨.builtin .clear, #[s1], #[t]⟩,tyo,pos,aft,none⟩).run P w= .ok (.value (.tuple #[])) (w.setRow b (us.toList.take (lo*lk.sz)++zs++us.toList.drop (lo*lk.sz+zs.length)).toArray):=by
    have hzv:(zeroValue ty).run P w= .ok zv w:=by simp[zeroValue,D7 hinf,i4]
    have hc:(Builtin.clear_ #[t] tyo #[.slice (some ⟨b,0+lo*lk.sz,none⟩) (hi-lo) (cap-lo)]).run P w= .ok (.tuple #[]) (w.setRow b (us.toList.take (lo*lk.sz)++zs++us.toList.drop (lo*lk.sz+zs.length)).toArray):=by
     obtain⟨q,hq⟩:∃q,hi-lo=q+1:=⟨hi-lo-1,by omega⟩
     rw[hq]at hzs'⊢;simp[Builtin.clear_,run_underlying hu,hzv,←hzs',hst]
    rw[←ev1]at hc;rw[eO hc];rfl
   refine F9 hrun (post _ ?_);refine hS.h.step (row:=some b) (I8 w b _) (fun b' hb'=>by cases hb';exact⟨g1,g2⟩) (nn:=n) (fun m x hm hx=>⟨hx,fun b' hb'=>by cases hb';exact hS.h.inj n m _ x b (fun e=>hm e.symm) hn hx rfl⟩) hn ?_ (fun b' hb'=> .inr hb');refine .inr ⟨b,cap,_,rfl,g1,g2,setRow_heap w b us _ ty _ g3,g4,g5,?_,fun q x j y e1 e2=>?_⟩
   ·simp only[List.size_toArray,List.length_append,List.length_take,List.length_drop,Array.length_toList];omega
   ·obtain⟨u,u1,u2⟩:=g7 q x j y e1 e2;have hq:=(gS_.1 e1).1;have hjs:=N9 e2;have hlt:q*lk.sz+j<lo*lk.sz:=by
     calc q*lk.sz+j<q*lk.sz+lk.sz:=by omega
      _=(q+1)*lk.sz:=by rw[Nat.add_mul];omega
      _≤lo*lk.sz:=Nat.mul_le_mul_right _ (by omega)
    refine⟨u,?_,u2⟩;have hlu:=(Array.getElem?_eq_some_iff.1 u1).1;rw[List.getElem?_toArray,List.append_assoc,List.getElem?_append_left (by simp only[List.length_take,Array.length_toList];omega),List.getElem?_take,if_pos hlt];simpa using u1
end
def aI (l:List Nat):List Nat→Bool
 |[]=>true
 |x::xs=>F8 x l && aI l xs
def rdL (l:List Nat):List Oper→Nat→List Nat
 |[],_=>[]
 |o::os,j=>match !F8 j l && aI l (I2 .any o.after.toList)with
  |true=>j::rdL l os (j+1)
  |false=>rdL l os (j+1)
structure rB (n:Nat) (l:List Nat) (listed:Array Bool):Prop where
 sz:listed.size=n
 on:∀j,H3 listed j=true↔F8 j l=true
theorem A3i {l:List Nat}:∀{xs:List Nat},aI l xs=true↔∀x∈xs,F8 x l=true:=by
 intro xs
 induction xs with
 |nil=>simp[aI]
 |cons x xs ih=>simp[aI,ih]
theorem wF {l:List Nat} {j:Nat}:∀{os:List Oper} {i:Nat},j∈rdL l os i↔∃o,i≤j∧os[j-i]? =some o∧F8 j l=false∧aI l (I2 .any o.after.toList)=true:=by
 intro os
 induction os with
 |nil=>intro i;simp[rdL]
 |cons x os ih=>
  intro i;have key:(∃o,i≤j∧(x::os)[j-i]? =some o∧F8 j l=false∧aI l (I2 .any o.after.toList)=true)↔(j=i∧F8 i l=false∧aI l (I2 .any x.after.toList)=true)∨(∃o,i+1≤j∧os[j-(i+1)]? =some o∧F8 j l=false∧aI l (I2 .any o.after.toList)=true):=by
   constructor
   ·rintro ⟨o,h1,h2,h3,h4⟩
    by_cases e:j=i
    ·subst e;simp at h2;subst h2;exact .inl ⟨rfl,h3,h4⟩
    ·refine .inr ⟨o,by omega,?_,h3,h4⟩;rw[show j-i=(j-(i+1))+1 from by omega]at h2;simpa using h2
   ·rintro (⟨rfl,h3,h4⟩|⟨o,h1,h2,h3,h4⟩)
    ·exact⟨x,Nat.le_refl _,by simp,h3,h4⟩
    ·refine⟨o,by omega,?_,h3,h4⟩;rw[show j-i=(j-(i+1))+1 from by omega];simpa using h2
  rw[key,←ih];simp only[rdL];split
  ·rename_i h;simp only[Bool.and_eq_true,Bool.not_eq_true']at h;simp only[List.mem_cons,h.1,h.2,and_self,and_true]
  ·rename_i h
   constructor
   ·exact .inr
   ·rintro (⟨rfl,h3,h4⟩|h')
    ·rw[h3,h4]at h;cases h
    ·exact h'
section
variable {P : Program} {E : D9} {kn : Nat → Option Bool} {ops : List Oper} {B : Nat → Prop} {W : World} {M0 : B5} {Q : Exit → Act → World → Prop} {k : List X8} {st : St} {l : List Nat} {r i : Nat}
def noP (Q:Exit→Act→World→Prop):Exit→Act→World→Prop:=fun e a w=>match e with
 | .panic _=>False
 |e=>Q e a w
theorem C3N {Q:Exit→Act→World→Prop}:∀e a w,noP Q e a w→Q e a w:=by
 intro e a w h;cases e<;> first|exact h|exact h.elim
theorem Oper.wp_Qmono {o:Oper} {a:Act} {w:World} {K:Act→World→Prop} {Q Q':Exit→Act→World→Prop} (h:∀e a w,Q e a w→Q' e a w) (hh:o.wp P a w K Q):o.wp P a w K Q':=by
 unfold Oper.wp at *;generalize(execOp a.eval o).run P w=r at *;cases r with
 |ok n w'=>
  cases n<;> simp only[Oper.upon]at hh⊢<;>
   first
    |exact hh
    |exact Calls.mono hh (fun e w'' he=>by
     cases e with
     |returned v=>exact he
     |panicked c=>exact h _ _ _ he
     |outgrown=>obtain⟨a,w,he⟩:=he;exact⟨a,w,h _ _ _ he⟩)
    |exact Rows.mono hh (fun _ _ he=>he)
 |halt x w'=>cases x<;> simp only[Oper.upon]at hh⊢<;> first|exact hh|exact h _ _ _ hh
theorem A8F {ops:Array Oper} {i:Nat} {a:Act} {w:World} {K K':Act→World→Prop} {Q Q':Exit→Act→World→Prop} (h:∀e a w,Q e a w→Q' e a w) (hK:∀a w,K a w→K' a w) (hh:wpOp P ops Q i K a w):wpOp P ops Q' i K' a w:=by
 refine wpOp_mono hK ?_;unfold wpOp at *;split
 ·rename_i ho;simpa[ho]using hh
 ·rename_i o ho;simp only[ho]at hh;split
  ·rename_i hw;rw[if_pos hw]at hh;rcases hh with hh|⟨h1,a,w,h2⟩
   ·exact .inl (Oper.wp_Qmono h hh)
   ·exact .inr ⟨h1,a,w,h _ _ _ h2⟩
  ·rename_i hw;rw[if_neg hw]at hh;exact hh
theorem A6H {ops:Array Oper} {Q Q':Exit→Act→World→Prop} (h:∀e a w,Q e a w→Q' e a w):∀{r:Nat} {listed:Array Bool} {a:Act} {w:World},wpAny P .any ops Q r listed a w→wpAny P .any ops Q' r listed a w:=by
 intro r
 induction r with
 |zero=>intro listed a w hh;exact⟨hh.1,h _ _ _ hh.2⟩
 |succ r ih=>intro listed a w hh;exact⟨fun h0=>h _ _ _ (hh.1 h0),fun i hi=>A8F h (fun a w hk=>ih hk) (hh.2 i hi)⟩
def GA (P:Program) (E:D9) (B:Nat→Prop) (W:World) (M0:B5) (Q:Exit→Act→World→Prop) (k:List X8) (ops:List Oper) (r:Nat) (l:List Nat) (st:St):Prop:=
 ∀(M:B5) (a:Act) (w:World) (listed:Array Bool),rB ops.length l listed→I7 E.N E.mrk B W M0 ops (C7 ops ops) (fun j=>F8 j l=true) st M a w→wpAny P .any ops.toArray (noP (after none P Q k)) r listed a w
def GO (P:Program) (E:D9) (B:Nat→Prop) (W:World) (M0:B5) (Q:Exit→Act→World→Prop) (k:List X8) (ops:List Oper) (r:Nat) (l:List Nat) (st:St) (i:Nat):Prop:=
 ∀(M:B5) (a:Act) (w:World) (listed:Array Bool),rB ops.length l listed→I7 E.N E.mrk B W M0 ops (C7 ops ops) (fun j=>F8 j l=true) st M a w→wpOp P ops.toArray (noP (after none P Q k)) i (wpAny P .any ops.toArray (noP (after none P Q k)) r (listed.setIfInBounds i true)) a w
def GOs (P:Program) (E:D9) (B:Nat→Prop) (W:World) (M0:B5) (Q:Exit→Act→World→Prop) (k:List X8) (ops:List Oper) (r:Nat) (l:List Nat) (st:St):List Nat→Prop
 |[]=>True
 |i::is=>GO P E B W M0 Q k ops r l st i∧GOs P E B W M0 Q k ops r l st is
theorem B9e:∀{is:List Nat},GOs P E B W M0 Q k ops r l st is→∀i∈is,GO P E B W M0 Q k ops r l st i:=by
 intro is
 induction is with
 |nil=>intro _ i h;cases h
 |cons x xs ih=>
  intro h i hi;rcases List.mem_cons.1 hi with rfl|hi
  ·exact h.1
  ·exact ih h.2 i hi
theorem dA {listed:Array Bool} (hl:rB ops.length l listed) {j:Nat}:j∈Region.ready .any ops.toArray listed↔j∈rdL l ops 0:=by
 rw[mem_ready,wF]
 constructor
 ·rintro ⟨h1,o,h2,h3⟩
  have hj:j<ops.length:=by simpa using(Array.getElem?_eq_some_iff.1 h2).1
  refine⟨o,Nat.zero_le _,by simpa using h2,?_,A3i.2 fun x hx=>?_⟩
  ·cases hm:F8 j l with
   |false=>rfl
   |true=>
    have:=(hl.on j).2 hm;have hls:j<listed.size:=by rw[hl.sz];exact hj
    unfold H3 at this;simp[hls]at h1 this;rw[h1]at this;cases this
  ·obtain⟨e,e1,e2,rfl⟩:=Y5 hx;exact(hl.on _).1 (h3 e (by simpa using e1) e2)
 ·rintro ⟨o,_,h2,h3,h4⟩
  have hj:j<ops.length:=by simpa using(gS_.1 h2).1
  have hls:j<listed.size:=by rw[hl.sz];exact hj
  refine⟨?_,o,by simpa using h2,fun e he hb=>(hl.on _).2 (A3i.1 h4 _ (gR (by simpa using he) hb))⟩;have:H3 listed j=false:=by
   cases hd:H3 listed j with
   |false=>rfl
   |true=>rw[(hl.on j).1 hd]at h3;cases h3
  unfold H3 at this;simp[hls]at this⊢;exact this
theorem B2 (rs:List Nat) (h:rdL l ops 0=rs) (hne:rs≠[]) (hk:GOs P E B W M0 Q k ops r l st rs):GA P E B W M0 Q k ops (r+1) l st:=by
 intro M a w listed hl hS;refine⟨fun h0=>?_,fun j hj=>B9e hk j (h▸(dA hl).1 hj) M a w listed hl hS⟩;cases rs with
 |nil=>exact absurd rfl hne
 |cons x xs=>
  have:x∈Region.ready .any ops.toArray listed:=(dA hl).2 (by rw[h];exact List.mem_cons_self);rw[h0]at this;cases this
theorem B9f (h:rdL l ops 0=[]) (hk:G P E B W M0 Q (.ops ops (len ops)::k) st) (hro:E.ro=none:=by rfl):GA P E B W M0 Q k ops r l st:=by
 intro M a w listed hl hS;have hr:Region.ready .any ops.toArray listed=[]:=List.eq_nil_iff_forall_not_mem.2 fun j hj=>by
  have:=(dA hl).1 hj;rw[h]at this;cases this
 refine wpAny_done hr ?_ r;have h1:=hk M a w ⟨hS.h,hS.old,hS.d,hS.n,hS.f,fun s j b x hx=>?_⟩
 ·rw[hro]at h1;have h2:wpList P ops.toArray (after none P Q k) (Q6 (len ops) ops) a w:=h1;rw[Q0,O9,List.drop_length]at h2;exact h2
 ·obtain⟨g1,g2⟩:=hS.g s j b x hx;refine⟨?_,g2⟩;have:=(hl.on j).2 g1;show j<len ops;rw[O9,←hl.sz];rcases Nat.lt_or_ge j listed.size with h'|h'
  ·exact h'
  ·unfold H3 at this;simp[Array.getElem?_eq_none h']at this
theorem rB.set {n:Nat} {listed:Array Bool} (hl:rB n l listed) (hi:i<n):rB n (i::l) (listed.setIfInBounds i true):=by
 refine⟨by simp[hl.sz],fun j=>?_⟩;rw[J7 (by rw[hl.sz];exact hi),Bool.or_eq_true,hl.on j];simp only[F8,Bool.or_eq_true];rw[Nat.beq_eq,Nat.beq_eq,or_comm]
 constructor<;> (rintro (h|h))<;> first|exact .inl h.symm|exact .inr h
def gdB (l:List Nat):Option (Nat×Bool)→Bool
 |some (j,_)=>F8 j l
 |none=>true
theorem C2N (hT:K9 P E.T) (hΨ:B1 P E) (kn:Nat→Option Bool) {o:Oper} (ho:X0 ops i=some o) (hi:F8 i l=false) (hg:gdB l o.guard=true) {st':Value→St} {ob:Value→Prop}
 (h:∀u,O0 E kn ops (C7 ops ops) i st.f st.H st.nx o u=some (st' u,ob u)) (hob:∀u,ob u) (hk:∀u,GA P E B W M0 Q k ops r (i::l) (st' u)):GO P E B W M0 Q k ops r l st i:=by
 intro M a w listed hl hS;rw[G0]at ho;have hlt:i<ops.length:=(gS_.1 ho).1;have hgS:∀j b,o.guard=some (j,b)→F8 j l=true:=fun j b e=>by rw[e]at hg;exact hg
 have main:=gL (S':=fun j=>F8 j (i::l)=true) hT hΨ (kn:=kn) hS (i:=i) (by rw[hi];simp) (fun j hj=>by simp only[F8,Bool.or_eq_true];exact .inr hj) hgS (K:=wpAny P .any ops.toArray (noP (after none P Q k)) r (listed.setIfInBounds i true)) (Q:=noP (after none P Q k))
  (fun u=>⟨st' u,ob u,h u,hob u,fun a' w' M' hS'=>hk u M' a' w' _ (hl.set hlt) hS'⟩)
 unfold wpOp;have ho':ops.toArray[i]? =some o:=by simpa using ho
 simp only[ho'];split
 ·rename_i hw;rw[if_pos hw]at main;exact .inl main
 ·rename_i hw;rw[if_neg hw]at main;exact main
theorem E7 {X:Type} {o:Oper} {fo:Operand} {args:List Operand} {tys:List TypeId} {f:Nat} {caps:List C} {az az':List A} {hs:List HB} {ok:X→Prop} {rx:X→A} {hs':X→List HB} {f':X→Nat→Option Ent} (ns:List Nat) (σ:Nat→Nat)
 (hc:C5 P f az hs ok rx hs') (hnth:X0 ops i=some o) (hi:F8 i l=false) (hg:gT ops st.f o) (ho:o.op= .call ⟨.value fo,⟨args⟩,⟨tys⟩⟩) (hfo:U7 st.f [] fo=some (.c (.clo f caps)))
 (ha:aD (U7 st.f []) args=some az') (hren:(az'++caps.map A.c).map (A2C σ)=az) (hn:ns.Nodup) (hnx':C4p (fun n=>Nat.blt n st.nx) ns=true) (hl:ns.map (fun n=>(st.H n).map (qR σ))=hs.map some)
 (hf:∀x,O5 E.N i (C7 ops ops) st.f o.dst (some (.u (A2C (aF ns st.nx) (rx x))))=some (f' x))
 (hk:∀x,ok x→GA P E B W M0 Q k ops r (i::l) ⟨f' x,U1 (J9 st.H ns) (aF ns st.nx) (hs' x) 0,st.nx+len (hs' x)⟩):GO P E B W M0 Q k ops r l st i:=by
 intro M a w listed hls hS;rw[G0]at hnth;have hlt:i<ops.length:=(gS_.1 hnth).1;have hw:Region.wanted o (yielded ops.toArray a.tmps)=true:=lB hS hg;unfold wpOp;have ho':ops.toArray[i]? =some o:=by simpa using hnth
 simp only[ho'];rw[if_pos hw];refine .inl ?_;obtain⟨dst,op,ty,pos,aft,guard⟩:=o;simp only at ho hf;subst ho;have hr:=I9 hS (Γ:=[]) (by simp);have k1:=rA hr _ _ ha;obtain⟨hS1,hback⟩:=B3y hS.h (hs:=hs) hn hl;obtain⟨us,hfv,hus⟩:∃us:List Value,a.eval fo= .func (.func f) #[] us.toArray∧R8 M caps us:=by
  have:=hr _ _ hfo;cases this with|c h=>
  generalize a.eval fo=v at h;cases h with
  | @clo _ _ us hs hh=>exact⟨us.toList,by simp,by simpa using hs,fun j c u e1 e2=>hh j c u e1 (by simpa using e2)⟩
 have k3:cY M (caps.map A.c) us.toArray:=by
  refine⟨by simpa using hus.1,fun j c u e1 e2=>?_⟩;rw[List.getElem?_map]at e1;cases hc:caps[j]? with
  |none=>rw[hc]at e1;cases e1
  |some x=>rw[hc]at e1;cases e1;exact .c (hus.2 j x u hc (by simpa using e2))
 have k2:cY M az ((args.map a.eval).toArray++us.toArray):=by rw[←hren];exact(k1.app k3).ren
 obtain⟨⟨fn,q1,q2,q3⟩,hcall⟩:=hc;have hrun:(execOp a.eval ⟨dst,.call ⟨.value fo,⟨args⟩,⟨tys⟩⟩,ty,pos,aft,guard⟩).run P w= .ok (.enter f ((args.map a.eval).toArray++us.toArray)) w:=by
  have e3':fn.name≠ "runtime.NumGoroutine" :=by simpa using q3
  have e2':fn.body≠none:=by intro e;rw[e]at q2;cases q2
  simp[execOp,resolve,invoke,hfv,Deferred.ofValue,callFunc,q1,e2',e3']
 unfold Oper.wp;rw[hrun,Oper.upon_enter];refine(hcall M w _ hS1 k2).mono fun e w' ⟨v,M',x,he,hM',hok,hv,hS'⟩=>?_
 subst he;obtain⟨hA,hE⟩:=hback M' w' (hs' x) (aF ns st.nx) hM' hS';refine hk x hok M' _ w' _ (hls.set hlt) (I7.put hS (S':=fun j=>F8 j (i::l)=true) (by rw[hi];simp) (fun j hj=>by simp only[F8,Bool.or_eq_true];exact .inr hj) hE hA (hf x) (E6 _ _) (fun e' he=>?_) (by simp));cases he;exact vY hv
theorem wG {d:Nat}:∀{l:List Nat},F8 d l=true→d∈l:=by
 intro l
 induction l with
 |nil=>intro h;cases h
 |cons x l ih=>
  intro h;simp only[F8,Bool.or_eq_true,Nat.beq_eq]at h;rcases h with rfl|h
  ·exact List.mem_cons_self
  ·exact List.mem_cons_of_mem _ (ih h)
def frB (all:List Oper) (l:List Nat) (oi:Oper) (i:Nat):List Oper→Nat→Bool
 |[],_=>true
 |o::os,j=>(Nat.beq j i || F8 j l || F8 i (I2 .any o.after.toList) || oi.apart all.toArray o) && frB all l oi i os (j+1)
theorem B4r {all:List Oper} {oi:Oper}:∀{os:List Oper} {s:Nat},frB all l oi i os s=true→∀(j:Nat) (o:Oper),os[j]? =some o→s+j≠i→F8 (s+j) l=false→i∉I2 .any o.after.toList→oi.apart all.toArray o=true:=by
 intro os
 induction os with
 |nil=>intro s _ j o h;simp at h
 |cons x os ih=>
  intro s h j o hj h1 h2 h3;simp only[frB,Bool.and_eq_true]at h;cases j with
  |zero=>
   simp at hj;subst hj;have h4:=h.1;simp only[Bool.or_eq_true]at h4;rcases h4 with((h4|h4)|h4)|h4
   ·rw[Nat.beq_eq]at h4;exact absurd h4 h1
   ·rw[Nat.add_zero]at h2;rw[h2]at h4;cases h4
   ·exact absurd (wG h4) h3
   ·exact h4
  |succ j=>exact ih h.2 j o (by simpa using hj) (by omega) (by rw[←h2];congr 1;omega) h3
theorem wH (i:Nat) {o:Oper} {f':Nat→Option Ent} (x:A) (hnth:X0 ops i=some o) (hi:F8 i l=false) (hsel:Region.noSelect ops.toArray=true) (hrd:aI l (I2 .any o.after.toList)=true) (hfr:frB ops l o i ops 0=true) (hg:o.guard=none)
 (hy:∀(M:B5) (a:Act) (w:World),I7 E.N E.mrk B W M0 ops (C7 ops ops) (fun j=>F8 j l=true) st M a w→∃v,RA M x v∧∀w,(execOp a.eval o).run P w= .ok (.value v) w)
 (hf:O5 E.N i (C7 ops ops) st.f o.dst (some (.u x))=some f') (hk:GA P E B W M0 Q k ops r (i::l) ⟨f',st.H,st.nx⟩):GA P E B W M0 Q k ops (r+1) l st:=by
 intro M a w listed hl hS;obtain⟨v,hv,hrun⟩:=hy M a w hS;rw[G0]at hnth;have hlt:i<ops.length:=(gS_.1 hnth).1;have ho':ops.toArray[i]? =some o:=by simpa using hnth
 have hmem:i∈Region.ready .any ops.toArray listed:=(dA hl).2 (wF.2 ⟨o,Nat.zero_le _,by simpa using hnth,hi,hrd⟩);refine wpAny_first ho' (Region.noSelect_spec hsel) (fun c a w h=>h) r listed a w (fun j oj hj hji hun hno=>?_) hmem (.inl ⟨by unfold Region.wanted;rw[hg],hrun⟩) (hk M _ w _ (hl.set hlt) (I7.put hS (S':=fun j=>F8 j (i::l)=true) (by rw[hi];simp) (fun j hj=>by simp only[F8,Bool.or_eq_true];exact .inr hj) (B5.ext_refl _ _) hS.h hf (E6 _ _) (fun e' he=>by cases he;exact hv) (by simp)));have hj':ops[j]? =some oj:=by simpa using hj
 have hjl:j<ops.length:=(gS_.1 hj').1;refine B4r hfr j oj hj' (by omega) ?_ (fun hm=>?_)
 ·rw[Nat.zero_add];cases hm:F8 j l with
  |false=>rfl
  |true=>
   have:=(hl.on j).2 hm;have hls:j<listed.size:=by rw[hl.sz];exact hjl
   unfold H3 at this;simp[hls]at hun this;rw[hun]at this;cases this
 ·obtain⟨e,e1,e2,e3⟩:=Y5 hm;exact hno e (by simpa using e1) e2 e3
theorem A3j (i:Nat) {o:Oper} {y:Operand} {f':Nat→Option Ent} {x:A} (hnth:X0 ops i=some o) (ho:o.op= .move y) (hx:U7 st.f [] y=some x) (hi:F8 i l=false) (hsel:Region.noSelect ops.toArray=true) (hrd:aI l (I2 .any o.after.toList)=true) (hfr:frB ops l o i ops 0=true) (hg:o.guard=none)
 (hf:O5 E.N i (C7 ops ops) st.f o.dst (some (.u x))=some f') (hk:GA P E B W M0 Q k ops r (i::l) ⟨f',st.H,st.nx⟩):GA P E B W M0 Q k ops (r+1) l st:=
 wH i x hnth hi hsel hrd hfr hg (fun M a w hS=>by
  obtain⟨dst,op,ty,pos,aft,guard⟩:=o;simp only at ho;subst ho;exact⟨a.eval y,I9 hS (Γ:=[]) (by simp) _ _ hx,fun w=>by simp[execOp]⟩) hf hk
theorem A3k (i:Nat) {o:Oper} {y:Operand} {f':Nat→Option Ent} {n b q:Nat} (hnth:X0 ops i=some o) (ho:o.op= .nilCheck y) (hx:U7 st.f [] y=some (.c (.ptr n b q))) (hi:F8 i l=false) (hsel:Region.noSelect ops.toArray=true) (hrd:aI l (I2 .any o.after.toList)=true) (hfr:frB ops l o i ops 0=true) (hg:o.guard=none)
 (hf:O5 E.N i (C7 ops ops) st.f o.dst (some (.u (.c (.ptr n b q))))=some f') (hk:GA P E B W M0 Q k ops r (i::l) ⟨f',st.H,st.nx⟩):GA P E B W M0 Q k ops (r+1) l st:=
 wH i _ hnth hi hsel hrd hfr hg (fun M a w hS=>by
  obtain⟨dst,op,ty,pos,aft,guard⟩:=o;simp only at ho;subst ho;have:=(I9 hS (Γ:=[]) (by simp) _ _ hx).ptr_inv;exact⟨.pointer (some ⟨b,q,none⟩),.c .ptr,fun w=>by simp[execOp,this]⟩) hf hk
theorem A8G (i:Nat) (hT:K9 P E.T) {o:Oper} {y:Operand} {f':Nat→Option Ent} {n b q sT fi off size s1 s2:Nat} {bb:Bool} {z:List C} {fs:List (Nat×Nat×Bool)} (hnth:X0 ops i=some o) (ho:o.op= .fieldAddr sT y fi) (hx:U7 st.f [] y=some (.c (.ptr n b q)))
 (ht:E.T sT=some ⟨.strct fs,s1,s2,z⟩) (hfd:X0 fs fi=some (off,size,bb)) (hsz:Nat.ble 1 size=true) (hi:F8 i l=false) (hsel:Region.noSelect ops.toArray=true) (hrd:aI l (I2 .any o.after.toList)=true) (hfr:frB ops l o i ops 0=true) (hg:o.guard=none)
 (hf:O5 E.N i (C7 ops ops) st.f o.dst (some (.u (.c (.ptr n b (q+off)))))=some f') (hk:GA P E B W M0 Q k ops r (i::l) ⟨f',st.H,st.nx⟩):GA P E B W M0 Q k ops (r+1) l st:=
 wH i _ hnth hi hsel hrd hfr hg (fun M a w hS=>by
  obtain⟨dst,op,ty,pos,aft,guard⟩:=o;simp only at ho;subst ho;have hv:=(I9 hS (Γ:=[]) (by simp) _ _ hx).ptr_inv;obtain⟨fields,fd,inf,d,e1,e2,e3,e4,e5,e6,e7⟩:=eK hT ht hfd;simp only at e3 e5 e7;rw[Nat.ble_eq]at hsz;have hs:inf.size≠0:=by omega
  exact⟨.pointer (some ⟨b,q+off,none⟩),.c .ptr,fun w=>by simp[execOp,Instr.fieldAt,run_underlying e1,e2,hv,Instr.sureAddr,fieldPlace,Go.sizeOf,D7 e4,hs,Addr.add_lit,e3]⟩) hf hk
theorem C4s (hm:P.follows .mixedOrders=true) {c:Code} (hd:V2 c=true) (ops:List Oper) (he:H6 c=ops) (n:Nat) (hn:len ops=n) (hk:GA P E B W M0 Q k ops n [] st) (hro:E.ro=none:=by rfl):G P E B W M0 Q (.code c::k) st:=by
 intro M a w hS;cases c<;> simp only[V2,Bool.false_eq_true]at hd;rename_i id ops0 dr;cases dr<;> simp only[V2,Bool.false_eq_true]at hd;obtain⟨ops0⟩:=ops0;simp only[H6]at he;subst he;refine wpIn_wide.2 ?_ |> fun(h:cwp none P (Code.region id ops0.toArray true) (after none P Q k) a w)=>(by simp only[after,hro];exact h)
 refine wp_region_any hm ?_;have hS1:=V1.drawn (show V1 E.N E.mrk B W M0 [] [] 0 st M a w from hS) (w.drawn+1);have hnone:∀j,H3 (Array.replicate ops0.toArray.size false) j=false:=by
  intro j;unfold H3;simp only[Array.getD_eq_getD_getElem?,Array.getElem?_replicate];split<;> rfl
 have:=hk M a _ (Array.replicate ops0.toArray.size false) ⟨by simp,fun j=>by rw[hnone j];simp[F8]⟩ ⟨hS1.h,hS1.old,hS1.d,hS1.n,fun s e he=>?_,fun s j b x hx=>?_⟩
 ·rw[←hn,O9]at this;exact A6H C3N (by simpa using this)
 ·cases e with
  |u x=>exact hS1.f s _ he
  |gd j b x=>have:=(hS1.g s j b x he).1;simp at this
 ·have:=(hS1.g s j b x hx).1;simp at this
theorem C3O (i:Nat) (hT:K9 P E.T) (hΨ:B1 P E) (kn:Nat→Option Bool) {o:Oper} (h1:rdL l ops 0=[i]) (ho:X0 ops i=some o) (hi:F8 i l=false) (hg:gdB l o.guard=true) {st':Value→St} {ob:Value→Prop}
 (h:∀u,O0 E kn ops (C7 ops ops) i st.f st.H st.nx o u=some (st' u,ob u)) (hob:∀u,ob u) (hk:∀u,GA P E B W M0 Q k ops r (i::l) (st' u)):GA P E B W M0 Q k ops (r+1) l st:=
 B2 [i] h1 (by simp) ⟨C2N hT hΨ kn ho hi hg h hob hk,trivial⟩
theorem E4 (i:Nat) (h1:rdL l ops 0=[i]) (hi:GO P E B W M0 Q k ops r l st i):GA P E B W M0 Q k ops (r+1) l st:=
 B2 [i] h1 (by simp) ⟨hi,trivial⟩
theorem M9 (n:Nat) (ss:List Nat) {v:Value} {ty:TypeId} {lk:LK} {lt:List lk.T} (hn:st.H n=some (.own v ty lk lt)) (hs:A3X st n v ss)
 (hk:GA P E B W M0 Q k ops r l ⟨mO st.f (lst lk lt) ss,D4 st.H n none,st.nx⟩):GA P E B W M0 Q k ops r l st:=by
 intro M a w listed hl hS;obtain⟨M',h1,h2,h3⟩:=hS.h.freeze hn (H':=D4 st.H n none) (fun m x hm=>by
  by_cases e:m=n
  ·subst e;rw[B4]at hm;cases hm
  ·rw[B9 _ _ e]at hm;exact⟨e,hm⟩)
 refine hk M' a w listed hl ⟨h2,fun k o e hk=>hS.old k o (h1.2 k o e hk) hk,hS.d.mono h1.1 rfl,hS.n,fun s e he=>?_,fun s j b x hx=>?_⟩
 ·rcases kZ he with⟨q1,rfl⟩|q
  ·obtain⟨m,hm⟩:=A2h hs s q1;obtain⟨u,u1,u2⟩:=hS.f s _ hm;have:=RA.own_inv u2;subst this;exact⟨_,u1,.c (.pv h3)⟩
  ·obtain⟨u,u1,u2⟩:=hS.f s _ q;exact⟨u,u1,u2.mono h1.1⟩
 ·rcases kZ hx with⟨_,e⟩|q
  ·cases e
  ·exact hS.g s j b x q
end
section
variable {P : Program} {E : D9} {B : Nat → Prop} {W : World} {M0 M F : B5} {Q : Exit → Act → World → Prop} {k : List X8} {st : St} {a : Act} {w w' : World}
theorem B1g {g g':Nat→Option (Nat×Nat)} (h:∀i x,g i=some x→g' i=some x):∀{vs:List (Nat×Value)} {us us':Array Value},Instr.fill g us vs=some us'→Instr.fill g' us vs=some us':=by
 intro vs
 induction vs with
 |nil=>intro us us' e;exact e
 |cons v vs ih=>
  intro us us' e;obtain⟨i,v⟩:=v;simp only[Instr.fill]at e⊢;cases hg:g i with
  |none=>rw[hg]at e;cases e
  |some x=>
   obtain⟨off,size⟩:=x;rw[hg]at e;rw[h i _ hg];simp only at e⊢;split at e
   ·cases e
   ·rename_i hc;rw[if_neg hc];exact ih e
def oR (s:Nat):Nat→Nat→List (Nat×Nat×Bool)
 |_,0=>[]
 |i,n+1=>(i*s,s,false)::oR s (i+1) n
theorem B1h (s:Nat):∀(n i j:Nat) x,(oR s i n)[j]? =some x→x=((i+j)*s,s,false):=by
 intro n
 induction n with
 |zero=>intro i j x h;simp[oR]at h
 |succ n ih=>
  intro i j x h;cases j with
  |zero=>simp[oR]at h;rw[←h];rfl
  |succ j=>
   have:=ih (i+1) j x (by simpa[oR]using h);rw[this,show i+1+j=i+(j+1)from by omega]
theorem B4s {all:List Oper} {i:Nat} {o:Oper} {t e:TypeId} {N s1 s2:Nat} {z cs:List C} {ie:TI} {ps:List (Nat×Operand)} {parts:List (Nat×A)} {f':Nat→Option Ent} (hT:K9 P E.T)
 (hd:Q6 i all=o::Q6 (i+1) all) (hg:o.guard=none) (ho:o.op= .build t ⟨ps⟩) (ht:E.T t=some ⟨.arr N e,s1,s2,z⟩) (he:E.T e=some ie) (hp:W0 E.T (U7 st.f []) ps=some parts) (hc:A2T (oR ie.size 0 N) z parts=some cs)
 (hf:O5 E.N i (C7 all all) st.f o.dst (some (.u (.g cs)))=some f') (hk:G P E B W M0 Q (.ops all (i+1)::k) ⟨f',st.H,st.nx⟩):G P E B W M0 Q (.ops all i::k) st:=by
 intro M a w hS;show wA E.ro P all.toArray (after E.ro P Q k) (Q6 i all) a w;rw[hd];refine N1 fun K hK=>?_
 have hw:Region.wanted o (yielded all.toArray a.tmps)=true:=by unfold Region.wanted;rw[hg]
 rw[if_pos hw];obtain⟨dst,op,ty,pos,aft,guard⟩:=o;simp only at ho hg hf;subst ho hg;have hr:=I9 hS (Γ:=[]) (by simp);obtain⟨inf,zv,i1,i2,i3,i4,i5,i6⟩:=(hT _ _ ht).info;have hu:=(hT _ _ ht).und;simp only at hu;obtain⟨inf2,_,j1,j2,_⟩:=(hT _ _ he).info
 let places:Array (Nat×Nat):=((oR ie.size 0 N).map fun x=>(x.1,x.2.1)).toArray
 have hpl:∀(i:Nat) x,(oR ie.size 0 N)[i]? =some x→places[i]? =some (x.1,x.2.1):=by
  intro i x hx;simp[places,hx]
 obtain⟨hp1,hp2⟩:=xC (T:=E.T) hr _ _ hp;obtain⟨us',k1,k2⟩:=A5b hpl _ _ z cs zv.cells (i6 M) ⟨hp1,hp2⟩ hc;have k3:=B1g (g':=fun i=>some (i*ie.size,ie.size)) (fun i x hx=>by
  simp only[places,List.getElem?_toArray,List.getElem?_map]at hx;cases hq:(oR ie.size 0 N)[i]? with
  |none=>rw[hq]at hx;cases hx
  |some q=>
   have:=B1h ie.size N 0 i q hq;rw[hq]at hx;cases hx;rw[this,Nat.zero_add]) k1
 have hzero:(zeroValue t).run P w= .ok zv w:=by simp[zeroValue,D7 i1,i4]
 have hrun:(execOp a.eval ⟨dst,.build t ⟨ps⟩,ty,pos,aft,none⟩).run P w= .ok (.value (.agg us')) w:=by
  simp only[execOp,Instr.build,Sem.run_bind,hzero,Result.andThen_ok,run_underlying hu.1,(hT _ _ he).sizeOf];simp only[List.map_toArray];rw[k3];rfl
 refine F9 hrun (hK _ _ (hk M _ w (I7.put hS (S':=fun j=>j<i+1) (Nat.lt_irrefl i) (fun j hj=>Nat.lt_succ_of_lt hj) (B5.ext_refl _ _) hS.h hf (E6 _ _) (fun e' he=>?_) (by simp))));cases he;exact .g k2
end
section
variable {P : Program} {E : D9} {B : Nat → Prop} {W : World} {M0 : B5} {Q : Exit → Act → World → Prop} {k : List X8} {st : St}
theorem C3P (s n:Nat) {m:Nat} {v:Value} {ty:TypeId} {lk:LK} {l:List lk.T} (h:st.f s=some (.u (.c (.own m v)))) (hn:st.H n=some (.own v ty lk l)) (hk:G P E B W M0 Q k ⟨bX st.f s (some (.u (pv (.val v)))),st.H,st.nx⟩):G P E B W M0 Q k st:=by
 intro M a w hS;have h1:v.oneCell'=true:=F6.one (hS.h.ok n _ hn);exact W8 s h (fun M u hr=>by rw[hr.own_inv];exact .c (.pv (.val h1))) hk M a w hS
theorem C3Q {ns:List Nat} {fs:Nat→Value→List (Nat×A)} {hs:Nat→Value→List HB} (b:Nat) (v:Value) (h0:hdI k=0) (h:Wk st ns (fs b v) (hs b v)) (hk:∀b v,G P E B W M0 Q k (mk (fs b v) (hs b v))):G P E B W M0 Q k st:=
 xN h0 h (hk b v)
end
section
variable {P : Program} {E : D9} {B : Nat → Prop} {W : World} {M0 M F : B5} {Q : Exit → Act → World → Prop} {k : List X8} {st : St} {a : Act} {w w' : World} {N : Nat} {mrk : MK} {H : Nat → Option HB}
theorem B4t {ops:List Oper} {l:List Nat} {n:Nat} (i:Nat) {o:Oper} {f':Nat→Option Ent} (x:A) (hnth:X0 ops i=some o) (hi:F8 i l=false) (hsel:Region.noSelect ops.toArray=true) (hrd:aI l (I2 .any o.after.toList)=true) (hfr:frB ops l o i ops 0=true) (hg:gT ops st.f o)
 (hy:∀(M:B5) (a:Act) (w:World),I7 E.N E.mrk B W M0 ops (C7 ops ops) (fun j=>F8 j l=true) st M a w→∃v,RA M x v∧∀w,(execOp a.eval o).run P w= .ok (.value v) w)
 (hf:O5 E.N i (C7 ops ops) st.f o.dst (some (.u x))=some f') (hk:GA P E B W M0 Q k ops n (i::l) ⟨f',st.H,st.nx⟩):GA P E B W M0 Q k ops (n+1) l st:=by
 intro M a w listed hl hS;obtain⟨v,hv,hrun⟩:=hy M a w hS;rw[G0]at hnth;have hlt:i<ops.length:=(gS_.1 hnth).1;have ho':ops.toArray[i]? =some o:=by simpa using hnth
 have hmem:i∈Region.ready .any ops.toArray listed:=(dA hl).2 (wF.2 ⟨o,Nat.zero_le _,by simpa using hnth,hi,hrd⟩);refine wpAny_first ho' (Region.noSelect_spec hsel) (fun c a w h=>h) n listed a w (fun j oj hj hji hun hno=>?_) hmem (.inl ⟨lB hS hg,hrun⟩) (hk M _ w _ (hl.set hlt) (I7.put hS (S':=fun j=>F8 j (i::l)=true) (by rw[hi];simp) (fun j hj=>by simp only[F8,Bool.or_eq_true];exact .inr hj) (B5.ext_refl _ _) hS.h hf (E6 _ _) (fun e' he=>by cases he;exact hv) (by simp)));have hj':ops[j]? =some oj:=by simpa using hj
 have hjl:j<ops.length:=(gS_.1 hj').1;refine B4r hfr j oj hj' (by omega) ?_ (fun hm=>?_)
 ·rw[Nat.zero_add];cases hm:F8 j l with
  |false=>rfl
  |true=>
   have:=(hl.on j).2 hm;have hls:j<listed.size:=by rw[hl.sz];exact hjl
   unfold H3 at this;simp[hls]at hun this;rw[hun]at this;cases this
 ·obtain⟨e,e1,e2,e3⟩:=Y5 hm;exact hno e (by simpa using e1) e2 e3
theorem aA.toH {f:Nat} {sh:Bool} {az:List A} {e:TypeId} {lk:LK} {l:List lk.T} (h:aA P f sh az (.o e lk l)):C5 P f az [] (fun _:Value=>True) (fun u=> .c (.own 0 u)) (fun u=>[.own u e lk l]):=by
 refine⟨h.1,fun M w vs hS hra=>(h.2 M w vs hS.mem hra).mono fun en w' ⟨v,F,he,hb,hF,hv⟩=>?_⟩;have hv':F6 (shM sh M F) (low w.heap.size) w' v e lk l:=hv;have hle:(shM sh M F).le (M.or F):=by
  cases sh with
  |true=>exact B5.le_refl _
  |false=>exact B5.or_le
 have hS':=hS.call hb hF;have ho:F6 (M.or F) (fH w []) w' v e lk l∧v.oneCell'=true:=by
  rcases hv' with⟨rfl,rfl⟩|⟨b,cap,us,rfl,q1,q2,q3,q4,q5,q6,q7⟩
  ·exact⟨.inl ⟨rfl,rfl⟩,rfl⟩
  ·refine⟨.inr ⟨b,cap,us,rfl,fun h=>q1 (hS.base _ h),?_,q3,q4,q5,q6,fun i x j y a1 a2=>let⟨u,b1,b2⟩:=q7 i x j y a1 a2;⟨u,b1,b2.mono hle⟩⟩,rfl⟩;unfold B5.or;have hMb:=B5.none_of_size hS.mem (Nat.le_of_not_lt q1);cases hFb:F b with
   |none=>exact hMb
   |some o=>
    exfalso;cases sh with
    |true=>simp[shM,B5.or,hFb]at q2
    |false=>simp[shM,hFb]at q2
 refine⟨v,M.or F,v,he,B5.ext_or hS.mem hS.base hF,trivial,.c (.own ho.2),hS'.below,hS'.base,hS'.mem,fun n x hx=>?_,fun n n' x x' b hnn h1 h2=>?_⟩
 ·match n,hx with
  |0,hx=>cases hx;exact ho.1
 ·match n,n',hnn,h1,h2 with
  |0,0,hnn,_,_=>exact absurd rfl hnn
theorem A6I (hT:K9 P E.T) (hΨ:B1 P E) {kn:Nat→Option Bool} {ops:List Oper} {rs:List (Nat×Nat)} {Q:Exit→Act→World→Prop} {r:List Oper}:∀(l:List Oper) (i:Nat) (st:St) (M:B5) (a:Act) (w:World),V1 E.N E.mrk B W M0 ops rs i st M a w→
 (∀bs,(K8 E kn ops rs l i st bs).rest=[]∧(K8 E kn ops rs l i st bs).ob∧∀a' w' M',V1 E.N E.mrk B W M0 ops rs (K8 E kn ops rs l i st bs).i (K8 E kn ops rs l i st bs).st M' a' w'→wA E.ro P ops.toArray Q r a' w')→
 wA E.ro P ops.toArray Q (l++r) a w:=by
 intro l
 induction l with
 |nil=>
  intro i st M a w hS h;exact(h (fun _=>undef)).2.2 a w M hS
 |cons o l ih=>
  intro i st M a w hS h;obtain⟨f,H,nx⟩:=st;by_cases hex:∃u,O0 E kn ops rs i f H nx o u=none
  ·obtain⟨u,hu⟩:=hex;have:=(h (fun _=>u)).1;simp only[K8,hu]at this;cases this
  ·refine N1 fun K hK=>A2b hT hΨ hS (kn:=kn) fun u=>?_
   cases hst:O0 E kn ops rs i f H nx o u with
   |none=>exact absurd ⟨u,hst⟩ hex
   |some r'=>
    obtain⟨st',ob⟩:=r';have hb:=fun bs:Nat→Value=>h (fun n=>match n with|0=>u|n+1=>bs n)
    simp only[K8,hst]at hb;have hob:ob:=by
     have:=(hb (fun _=>undef)).2.1;split at this
     ·exact this.1
     ·exact this.elim
    refine⟨st',ob,rfl,hob,fun a' w' M' hS'=>hK _ _ (ih (i+1) st' M' a' w' hS' fun bs=>?_)⟩;have:=hb bs;cases hr:K8 E kn ops rs l (i+1) st' bs with
    |mk r2 i' st'' ob'=>rw[hr]at this;exact⟨this.1,this.2.1.2,this.2.2⟩
    |bad=>rw[hr]at this;exact absurd this.2.1 (fun h=>h)
theorem C2O (hT:K9 P E.T) (hΨ:B1 P E) (m:Nat) (kn:Nat→Option Bool) {all l r:List Oper} {i:Nat} {st':(Nat→Value)→St} {ob:(Nat→Value)→Prop} (hl:tke m (Q6 i all)=l) (hd:Q6 i all=l++r) (hr:Q6 (i+m) all=r)
 (h:∀bs,K8 E kn all (C7 all all) l i st bs= .mk [] (i+m) (st' bs) (ob bs)) (ho:∀bs,ob bs) (hk:∀bs,G P E B W M0 Q (.ops all (i+m)::k) (st' bs)):G P E B W M0 Q (.ops all i::k) st:=by
 intro M a w hS;show wA E.ro P all.toArray (after E.ro P Q k) (Q6 i all) a w;rw[hd];refine A6I hT hΨ (kn:=kn) (rs:=C7 all all) l i st M a w hS fun bs=>?_
 rw[h bs];refine⟨rfl,ho bs,fun a' w' M' hS'=>?_⟩;have:=hk bs M' a' w' hS';have h2:wA E.ro P all.toArray (after E.ro P Q k) (Q6 (i+m) all) a' w':=this;rw[hr]at h2;exact h2
end
section
variable {P : Program} {E : D9} {B : Nat → Prop} {W : World} {M0 M F : B5} {Q : Exit → Act → World → Prop} {k : List X8} {st : St} {a : Act} {w w' : World} {N : Nat} {mrk : MK} {H : Nat → Option HB}
theorem oS {l l':List Nat} (h:aI l l'=true) {j:Nat} (hj:F8 j l'=true):F8 j l=true:=A3i.1 h j (wG hj)
theorem C4t {ops:List Oper} {l:List Nat} {r:Nat} (ns:List Nat) {fs:List (Nat×A)} {hs:List HB} (l':List Nat) (h1:aI l l'=true) (h2:aI l' l=true) (h:Wk st ns fs hs) (hk:GA P E B W M0 Q k ops r l' (mk fs hs)):GA P E B W M0 Q k ops r l st:=by
 intro M a w listed hl hS;have hm:∀j,F8 j l=true↔F8 j l'=true:=fun j=>⟨fun h=>oS h2 h,fun h=>oS h1 h⟩
 obtain⟨g1,g2,g3⟩:=h;obtain⟨q1,q2⟩:=A3W g3;have hH:∀n x,(mk fs hs).H n=some x→∃m y,ns[n]? =some m∧st.H m=some y∧jB y x:=by
  intro n x hn;simp only[mk,G0]at hn;exact q2 n x hn
 refine hk M a w listed ⟨hl.sz,fun j=>(hl.on j).trans (hm j)⟩ ⟨⟨hS.h.below,hS.h.base,hS.h.mem,fun n x hn=>?_,fun n n' x x' b hnn e1 e2 hb=>?_⟩,hS.old,hS.d,hS.n,fun s e he=>?_,fun s j b x hx=>?_⟩
 ·obtain⟨m,y,p1,p2,p3⟩:=hH n x hn;exact(bJ p3 (hS.h.ok m y p2)).1
 ·obtain⟨m,y,p1,p2,p3⟩:=hH n x e1;obtain⟨m',y',p1',p2',p3'⟩:=hH n' x' e2;have b1:=(bJ p3 (hS.h.ok m y p2)).2;have b2:=(bJ p3' (hS.h.ok m' y' p2')).2;rw[b1]at hb;rw[b2];refine hS.h.inj m m' y y' b (fun e=>hnn ?_) p2 p2' hb;subst e;exact gM g1 n n' m p1 p1'
 ·simp only[mk]at he;split at he
  ·rename_i x hx;cases he;obtain⟨y,p1,p2⟩:=B4S g2 s x hx;obtain⟨u,u1,u2⟩:=hS.f s _ p1;exact⟨u,u1,wB p2 u2⟩
  ·cases he
 ·simp only[mk]at hx;split at hx<;> cases hx
end
section
variable {P : Program} {E : D9} {B : Nat → Prop} {W : World} {M0 M F : B5} {Q : Exit → Act → World → Prop} {k : List X8} {st : St} {a : Act} {w w' : World} {N : Nat} {mrk : MK} {H H' : Nat → Option HB}
theorem B5.cle_refl (M:B5):B5.cle M M:=fun _ _ _ e=>e
theorem X2.ckeep {M':B5} {x:HB} (h:X2 M B w x) (hM:B5.cle M M') (hMn:∀b,x.has b→M' b=none) (hb:∀b,x.has b→w'.heap[b]? =w.heap[b]?):X2 M' B w' x:=by
 cases x with
 |blk b ty cs=>
  obtain⟨h1,h2,us,h3,h4⟩:=h;exact⟨h1,hMn b rfl,us,(hb b rfl).trans h3,R8.cmono hM h4⟩
 |own v ty k l=>
  rcases h with⟨rfl,rfl⟩|⟨b,cap,us,rfl,h1,h2,h3,h4,h5,h6,h7⟩
  ·exact .inl ⟨rfl,rfl⟩
  ·exact .inr ⟨b,cap,us,rfl,h1,hMn b rfl,(hb b rfl).trans h3,h4,h5,h6,fun i x j y e1 e2=>let⟨u,hu,hr⟩:=h7 i x j y e1 e2;⟨u,hu,R.cmono hM hr⟩⟩
 |obj S P=>
  refine⟨fun k hk=>⟨(h.1 k hk).1,hMn k hk,?_⟩,fun M2 w2 g1 g2 g3=>h.2 M2 w2 (B5.cle_trans hM g1) g2 (fun k hk=>(g3 k hk).trans (hb k hk))⟩;have h1:=(h.1 k hk).2.2;have h2:=hb k hk;rw[Array.getElem?_eq_getElem h1]at h2;exact(Array.getElem?_eq_some_iff.1 h2).1
 |mp b kk vk l=>
  obtain⟨h1,h2,es,c,h3,h4⟩:=h;exact⟨h1,hMn b rfl,es,c,(hb b rfl).trans h3,h4⟩
 |mpr b kk vk l bi vs=>
  obtain⟨h1,h2,h0,es,c,sn,h3,h4,h5,h6⟩:=h;exact⟨⟨h1.1,hMn b (.inl rfl)⟩,⟨h2.1,hMn bi (.inr rfl)⟩,h0,es,c,sn,(hb b (.inl rfl)).trans h3,h4,(hb bi (.inr rfl)).trans h5,h6⟩
def B4u (L:List HB):Prop:=∀(i j:Nat) (x y:HB) (b:Nat),i≠j→L[i]? =some x→L[j]? =some y→x.has b→¬y.has b
def pk {X:Type} (ok:X→Prop) (f:X→List HB) (S:Nat→Prop):B5→World→Prop:=fun M w=>∃x,ok x∧(∀h,h∈f x→X2 M (fun k=>¬S k) w h)∧B4u (f x)
abbrev OB {X:Type} (ok:X→Prop) (f:X→List HB) (S:Nat→Prop):HB:= .obj S (pk ok f S)
theorem E1.opened (hS:E1 B W H M w) {X:Type} {ok:X→Prop} {f:X→List HB} {S:Nat→Prop} {n:Nat} (hn:H n=some (OB ok f S)):∃x,ok x∧∀(τ:Nat→Nat),E1 B W (U1 (D4 H n none) τ (f x) 0) M w:=by
 obtain⟨h1,h2⟩:=hS.ok n _ hn;obtain⟨x,hx,h3,h4⟩:=h2 M w (B5.cle_refl M) (fun k hk=>(h1 k hk).2.1) (fun _ _=>rfl);refine⟨x,hx,fun τ=>?_⟩;have hin:∀(j:Nat) (h:HB),(f x)[j]? =some h→∀b,h.has b→S b:=fun j h e b hb=>by
  have:=(HB.block_lt (h3 h (List.mem_of_getElem? e)) hb).1;exact Classical.not_not.1 this
 have hold:∀m y,D4 H n none m=some y→m≠n∧H m=some y:=fun m y e=>by
  by_cases hm:m=n
  ·subst hm;rw[B4]at e;cases e
  ·rw[B9 _ _ hm]at e;exact⟨hm,e⟩
 refine⟨hS.below,hS.base,hS.mem,fun m y hy=>?_,fun m m' y y' b hmm e1 e2 hb=>?_⟩
 ·rcases Z2 _ _ _ hy with⟨j,h,e,_,rfl⟩|e
  ·exact vZ ((h3 h (List.mem_of_getElem? e)).reB (fun b hb=>(h1 b (hin j h e b hb)).1))
  ·exact hS.ok m y (hold m y e).2
 ·rcases Z2 _ _ _ e1 with⟨j,h,g1,g2,rfl⟩|g1
  ·rw[V0]at hb;rcases Z2 _ _ _ e2 with⟨j',h',q1,q2,rfl⟩|q1
   ·rw[V0];exact h4 j j' h h' b (fun e=>hmm (by rw[g2,q2,e])) g1 q1 hb
   ·have:=hold m' y' q1;exact hS.inj n m' _ y' b (fun e=>this.1 e.symm) hn this.2 (hin j h g1 b hb)
  ·have g:=hold m y g1;rcases Z2 _ _ _ e2 with⟨j',h',q1,q2,rfl⟩|q1
   ·rw[V0];intro hb';exact hS.inj n m _ y b (fun e=>g.1 e.symm) hn g.2 (hin j' h' q1 b hb') hb
   ·exact hS.inj m m' y y' b hmm g.2 (hold m' y' q1).2 hb
def opN (n nx:Nat):Nat→Nat
 |0=>n
 |j+1=>nx+j
theorem C3R (n:Nat) {X:Type} {ok:X→Prop} {f:X→List HB} {S:Nat→Prop} (hn:st.H n=some (OB ok f S))
 (hk:∀x,ok x→G P E B W M0 Q k ⟨st.f,U1 (D4 st.H n none) (opN n st.nx) (f x) 0,st.nx+(len (f x)-1)⟩):G P E B W M0 Q k st:=by
 intro M a w hS;obtain⟨x,hx,h⟩:=hS.h.opened hn;exact hk x hx M a w ⟨h _,hS.old,hS.d,hS.n,hS.f,hS.g⟩
theorem A8H {n:Nat}:∀(L:List Nat) (H:Nat→Option HB),n∉L→J9 H L n=H n:=by
 intro L
 induction L with
 |nil=>intro H _;rfl
 |cons m L ih=>
  intro H h;rw[J9,ih _ (fun e=>h (List.mem_cons_of_mem _ e)),B9 _ _ (fun e=>h (by simp[e]))]
theorem E1.shut (hS:E1 B W H M w) {X:Type} {ok:X→Prop} {f:X→List HB} (x:X) (hx:ok x) {ns:List Nat} (hnd:I1 ns=true) (h:vO ⟨fun _=>none,H,0⟩ ns (f x)) (n:Nat):∃S,E1 B W (D4 (J9 H ns) n (some (OB ok f S))) M w:=by
 obtain⟨hl,hw⟩:=A3W h;have hns:∀(j m:Nat),ns[j]? =some m→∃z y,(f x)[j]? =some z∧H m=some y∧jB y z:=fun j m e=>by
  have hlt:j<(f x).length:=by rw[←hl];exact(gS_.1 e).1
  obtain⟨m',y,e1,e2,e3⟩:=hw j _ (gE_ hlt);rw[e]at e1;cases e1;exact⟨_,y,gE_ hlt,e2,e3⟩
 refine⟨fun b=>∃(j:Nat) (z:HB),(f x)[j]? =some z∧z.has b,?_⟩;have hin:∀(j:Nat) (z:HB) (b:Nat),(f x)[j]? =some z→z.has b→∃(m:Nat) (y:HB),ns[j]? =some m∧H m=some y∧y.has b:=fun j z b e hb=>by
  obtain⟨m,y,e1,e2,e3⟩:=hw j z e;exact⟨m,y,e1,e2,by rw[←(bJ e3 (hS.ok m y e2)).2];exact hb⟩
 have hob:X2 M B w (OB ok f (fun b=>∃(j:Nat) (z:HB),(f x)[j]? =some z∧z.has b)):=by
  refine⟨fun b hb=>?_,fun M' w' g1 g2 g3=>⟨x,hx,fun z hz=>?_,fun i j y z b hij e1 e2 h1 h2=>?_⟩⟩
  ·obtain⟨j,z,e,hz⟩:=hb;obtain⟨m,y,_,e2,e3⟩:=hin j z b e hz;have:=HB.block_lt (hS.ok m y e2) e3;exact⟨this.1,this.2.2,this.2.1⟩
  ·obtain⟨j,hj⟩:=List.getElem?_of_mem hz;obtain⟨m,y,e1,e2,e3⟩:=hw j z hj;have hz':=(bJ e3 (hS.ok m y e2)).1;have:X2 M (fun k=>¬∃(j:Nat) (z:HB),(f x)[j]? =some z∧z.has k) w z:=hz'.reB (fun b hb hn=>hn ⟨j,z,hj,hb⟩);exact this.ckeep g1 (fun b hb=>g2 b ⟨j,z,hj,hb⟩) (fun b hb=>g3 b ⟨j,z,hj,hb⟩)
  ·obtain⟨m,u,e3,e4,e5⟩:=hin i y b e1 h1;obtain⟨m',u',e3',e4',e5'⟩:=hin j z b e2 h2;exact hS.inj m m' u u' b (fun e=>by subst e;exact hij (gM hnd i j m e3 e3')) e4 e4' e5 e5'
 have hold:∀m y,m≠n→D4 (J9 H ns) n (some (OB ok f (fun b=>∃(j:Nat) (z:HB),(f x)[j]? =some z∧z.has b))) m=some y→m∉ns∧H m=some y:=fun m y hm e=>by
  rw[B9 _ _ hm]at e;exact fO _ _ e
 have hfar:∀m y b,m∉ns→H m=some y→y.has b→¬∃(j:Nat) (z:HB),(f x)[j]? =some z∧z.has b:=fun m y b hm e hb ⟨j,z,e1,hz⟩=>by
  obtain⟨m',u,e3,e4,e5⟩:=hin j z b e1 hz;exact hS.inj m m' y u b (fun e=>by subst e;exact hm (List.mem_of_getElem? e3)) e e4 hb e5
 refine⟨hS.below,hS.base,hS.mem,fun m y hy=>?_,fun m m' y y' b hmm e1 e2 hb=>?_⟩
 ·by_cases hm:m=n
  ·subst hm;rw[B4]at hy;cases hy;exact hob
  ·exact hS.ok m y (hold m y hm hy).2
 ·by_cases hm:m=n
  ·subst hm;rw[B4]at e1;cases e1;have:=hold m' y' (fun e=>hmm e.symm) e2;exact fun hb'=>hfar m' y' b this.1 this.2 hb' hb
  ·have g:=hold m y hm e1;by_cases hm':m'=n
   ·subst hm';rw[B4]at e2;cases e2;exact hfar m y b g.1 g.2 hb
   ·exact hS.inj m m' y y' b hmm g.2 (hold m' y' hm' e2).2 hb
theorem C3S (n:Nat) {X:Type} {ok:X→Prop} {f:X→List HB} (ns:List Nat) (x:X) (hx:ok x)
 (hk:∀S,G P E B W M0 Q k ⟨st.f,D4 (J9 st.H ns) n (some (OB ok f S)),st.nx⟩) (hnd:I1 ns=true:=by exact rfl) (h:vO st ns (f x):=by and_intros<;> first|exact trivial|exact rfl|omega|(refine A6 ?_;first|exact rfl|(simp;done)|(simp_all;done))|(simp;done)|(simp_all;done)):G P E B W M0 Q k st:=by
 intro M a w hS;have h':vO ⟨fun _=>none,st.H,0⟩ ns (f x):=by
  have key:∀(ns:List Nat) (L:List HB),vO st ns L→vO ⟨fun _=>none,st.H,0⟩ ns L:=by
   intro ns
   induction ns with
   |nil=>intro L h;cases L with
    |nil=>exact h
    |cons=>cases h
   |cons m ns ih=>intro L h;cases L with
    |nil=>cases h
    |cons y L=>exact⟨h.1,ih L h.2⟩
  exact key _ _ h
 obtain⟨S,hs⟩:=hS.h.shut x hx hnd h' n;exact hk S M a w ⟨hs,hS.old,hS.d,hS.n,hS.f,hS.g⟩
structure F0 (P:Program) (E:D9):Prop where
 T:K9 P E.T
 Ψ:B1 P E
def B0N (ob p:Prop):RS→RS
 | .mk k st ob3=> .mk k st (ob∧p∧ob3)
 | .bad=> .bad
def A3l (E:D9) (kn:Nat→Option Bool) (n:Nat):List Bool→List X8→St→(Nat→Nat→Nat→Value)→RS
 |[],k,st,bs=>run E kn n k st (bs 0)
 |d::ds,k,st,bs=>match run E kn n k st (bs 0)with
  | .mk k' st' ob=>match k' with
   | .code c::k2=>match cnd c with
    |some o=>match xJ (U7 st'.f [] o)with
     |some g=>B0N ob (g=d) (A3l E kn n ds (.code (match d with|true=>thn c|false=>els c)::k2) st' (fun m=>bs (m+1)))
     |none=> .bad
    |none=> .bad
   |_=> .bad
  | .bad=> .bad
theorem B4v {ob p:Prop} {r:RS} (h:(B0N ob p r).ob∧G P E B W M0 Q (B0N ob p r).k (B0N ob p r).st):(ob∧p)∧r.ob∧G P E B W M0 Q r.k r.st:=by
 cases r with
 |bad=>exact h.1.elim
 |mk k st o=>exact⟨⟨h.1.1,h.1.2.1⟩,h.1.2.2,h.2⟩
theorem B4w {a:A} {g:Bool} (h:aG a=some g):a=bool g:=by
 unfold aG at h;split at h
 ·cases h;rfl
 ·cases h
theorem A3m (hE:F0 P E) {kn:Nat→Option Bool} {n:Nat}:∀(ds:List Bool) (k:List X8) (st:St),
 (∀bs,(A3l E kn n ds k st bs).ob∧G P E B W M0 Q (A3l E kn n ds k st bs).k (A3l E kn n ds k st bs).st)→G P E B W M0 Q k st:=by
 intro ds
 induction ds with
 |nil=>intro k st h;exact A7t hE.T hE.Ψ n k st (fun bs=>h (fun _=>bs))
 |cons d ds ih=>
  intro k st h;refine A7t hE.T hE.Ψ (kn:=kn) n k st (fun b0=>?_);have hb:=fun bs:Nat→Nat→Nat→Value=>h (fun m=>match m with|0=>b0|m+1=>bs m)
  simp only[A3l]at hb;generalize hr:run E kn n k st b0=r at hb⊢;cases r with
  |bad=>exact(hb (fun _ _ _=>undef)).1.elim
  |mk k' st' ob=>
  simp only[RS.k,RS.st,RS.ob]at hb⊢;cases k' with
  |nil=>exact(hb (fun _ _ _=>undef)).1.elim
  |cons x k2=>
  cases x with
  |code c=>
   simp only at hb;cases hc:cnd c with
   |none=>simp only[hc]at hb;exact(hb (fun _ _ _=>undef)).1.elim
   |some o=>
   simp only[hc]at hb;cases hv:xJ (U7 st'.f [] o)with
   |none=>simp only[hv]at hb;exact(hb (fun _ _ _=>undef)).1.elim
   |some g=>
   simp only[hv]at hb;obtain⟨y,hy,hg⟩:=mN hv;have hyg:=B4w hg;subst hyg;have hb2:=fun bs=>B4v (hb bs)
   have h0:=(hb2 (fun _ _ _=>undef)).1;refine⟨h0.1,C6 hc hy (fun e=>?_) (fun e=>?_)⟩
   ·have hd:d=true:=by rw[←h0.2];exact e
    subst hd;exact ih _ _ (fun bs=>(hb2 bs).2)
   ·have hd:d=false:=by rw[←h0.2];exact e
    subst hd;exact ih _ _ (fun bs=>(hb2 bs).2)
  |_=>exact(hb (fun _ _ _=>undef)).1.elim
theorem A2I (x:UInt8):(x.toNat:Int)≤255:=by have:=x.toNat_lt;omega
theorem A3 (hE:F0 P E) (ds:List Bool) {k':(Nat→Nat→Nat→Value)→List X8} {st':(Nat→Nat→Nat→Value)→St} {ob:(Nat→Nat→Nat→Value)→Prop}
 (hk:∀bs,G P E B W M0 Q (k' bs) (st' bs)) (h:∀bs,A3l E (fun _=>none) 60 ds k st bs= .mk (k' bs) (st' bs) (ob bs):=by exact fun bs=>rfl)
 (ho:∀bs,ob bs:=by(intro bs;and_intros<;> (intros;first|exact trivial|omega|exact rfl|exact A2I _|exact uG _|exact uH _|exact gO _|exact lA _|(simp only;omega)|(simp;done)|(simp;omega)|(simp only[L1,IntKind.bits];omega)|(simp_all;done)|(simp_all;omega)))):G P E B W M0 Q k st:=
 A3m hE ds k st fun bs=>by rw[h bs];exact⟨ho bs,hk bs⟩
theorem Q2 (hE:F0 P E) (ds:List Bool) {k':(Nat→Nat→Nat→Value)→List X8} {st':(Nat→Nat→Nat→Value)→St} {ob:(Nat→Nat→Nat→Value)→Prop}
 (ho:∀bs,ob bs) (hk:∀bs,G P E B W M0 Q (k' bs) (st' bs)) (h:∀bs,A3l E (fun _=>none) 60 ds k st bs= .mk (k' bs) (st' bs) (ob bs):=by exact fun bs=>rfl):G P E B W M0 Q k st:=
 A3m hE ds k st fun bs=>by rw[h bs];exact⟨ho bs,hk bs⟩
theorem J3 (hE:F0 P E) (kn:Nat→Option Bool) (ds:List Bool) {k':(Nat→Nat→Nat→Value)→List X8} {st':(Nat→Nat→Nat→Value)→St} {ob:(Nat→Nat→Nat→Value)→Prop}
 (ho:∀bs,ob bs) (hk:∀bs,G P E B W M0 Q (k' bs) (st' bs)) (h:∀bs,A3l E kn 60 ds k st bs= .mk (k' bs) (st' bs) (ob bs):=by exact fun bs=>rfl):G P E B W M0 Q k st:=
 A3m hE ds k st fun bs=>by rw[h bs];exact⟨ho bs,hk bs⟩
def uR:List A→List A→Prop
 |[],[]=>True
 |x::xs,y::ys=>qT x y∧uR xs ys
 |_,_=>False
theorem B1i:∀{xs ys:List A},uR xs ys→xs.length=ys.length∧∀(j:Nat) x y,xs[j]? =some x→ys[j]? =some y→qT x y:=by
 intro xs
 induction xs with
 |nil=>
  intro ys h;cases ys with
  |nil=>exact⟨rfl,by simp⟩
  |cons=>cases h
 |cons x xs ih=>
  intro ys h;cases ys with
  |nil=>cases h
  |cons y ys=>
   obtain⟨i1,i2⟩:=ih h.2;refine⟨by simp[i1],fun j u v e1 e2=>?_⟩;cases j with
   |zero=>simp at e1 e2;subst e1 e2;exact h.1
   |succ j=>simp at e1 e2;exact i2 j u v e1 e2
theorem A6J {xs ys:List A} (h:uR xs ys) {vs:Array Value} (r:cY M xs vs):cY M ys vs:=by
 obtain⟨h1,h2⟩:=B1i h;refine⟨by rw[r.1,h1],fun j y v e1 e2=>?_⟩;have hlt:j<xs.length:=by rw[h1];exact(gS_.1 e1).1
 exact wB (h2 j _ y (gE_ hlt) e1) (r.2 j _ v (gE_ hlt) e2)
theorem oT {hs:List HB} {ns:List Nat} (hS:E1 B W H M w) (hn:I1 ns=true) (h:vO ⟨fun _=>none,H,0⟩ ns hs):∃H2:Nat→Option HB,E1 B W H2 M w∧ns.Nodup∧ns.map (fun n=>(H2 n).map (qR id))=hs.map some∧∀m,m∉ns→H2 m=H m:=by
 obtain⟨hl,hw⟩:=A3W h;have hnd:ns.Nodup:=by
  have key:∀l:List Nat,I1 l=true→l.Nodup:=by
   intro l
   induction l with
   |nil=>intro _;exact List.nodup_nil
   |cons x l ih=>
    intro h;simp only[I1,Bool.and_eq_true,Bool.not_eq_true']at h;exact List.nodup_cons.2 ⟨fun hm=>(by rw[fP hm]at h;cases h.1),ih h.2⟩
  exact key ns hn
 have hid:∀y:HB,qR id y=y:=fun y=>by
  have hc:∀c:C,A2B id c=c:=fun c=>by cases c<;> rfl
  cases y with
  |blk b ty cs=>
   have:cs.map (A2B id)=cs:=by
    have:A2B id=id:=funext hc;rw[this,List.map_id]
   simp[qR,this]
  |_=>rfl
 let H2:Nat→Option HB:=fun m=>match ns.idxOf? m with
  |some j=>hs[j]?
  |none=>H m
 have hin:∀(j m:Nat),ns[j]? =some m→H2 m=hs[j]? :=fun j m e=>by
  have:ns.idxOf? m=some j:=by
   rw[List.idxOf?,List.findIdx?_eq_some_iff_getElem];have hlt:=(gS_.1 e)
   refine⟨hlt.1,by simp[hlt.2],fun i hi=>?_⟩;simp only[beq_iff_eq];intro e2;have hlt1:=hlt.1;exact absurd (qS hnd (i:=i) (j:=j) (n:=m) (by rw[gE_ (by omega),e2]) e) (by omega)
  simp only[H2,this]
 have hout:∀m,m∉ns→H2 m=H m:=fun m hm=>by
  have:ns.idxOf? m=none:=by
   rw[List.idxOf?,List.findIdx?_eq_none_iff];intro x hx;simp only[beq_eq_false_iff_ne];intro e;exact hm (e▸hx)
  simp only[H2,this]
 have hcov:∀m y,H2 m=some y→∃z,H m=some z∧(X2 M B w z→X2 M B w y)∧y.has=z.has:=fun m y e=>by
  by_cases hm:m∈ns
  ·obtain⟨j,hj⟩:=List.getElem?_of_mem hm;rw[hin j m hj]at e;obtain⟨m',z,e1,e2,e3⟩:=hw j y e;rw[hj]at e1;cases e1;exact⟨z,e2,fun h=>(bJ e3 h).1,(bJ e3 (hS.ok m z e2)).2⟩
  ·rw[hout m hm]at e;exact⟨y,e,fun h=>h,rfl⟩
 refine⟨H2,⟨hS.below,hS.base,hS.mem,fun m y hy=>?_,fun m m' y y' b hmm e1 e2 hb=>?_⟩,hnd,?_,hout⟩
 ·obtain⟨z,e1,e2,_⟩:=hcov m y hy;exact e2 (hS.ok m z e1)
 ·obtain⟨z,g1,_,g2⟩:=hcov m y e1;obtain⟨z',g1',_,g2'⟩:=hcov m' y' e2;rw[g2'];rw[g2]at hb;exact hS.inj m m' z z' b hmm g1 g1' hb
 ·refine List.ext_getElem? fun j=>?_
  rw[List.getElem?_map,List.getElem?_map];cases hj:ns[j]? with
  |none=>
   have:hs[j]? =none:=by rw[List.getElem?_eq_none_iff]at hj⊢;omega
   rw[this];rfl
  |some m=>
   rw[Option.map_some,hin j m hj];have hlt:j<hs.length:=by rw[←hl];exact(gS_.1 hj).1
   rw[gE_ hlt];simp[hid]
def yD (T:Tb) (rd:Operand→Option A):List Operand→List TypeId→Option (List A)
 |[],_=>some []
 |o::l,t::ts=>match rdT T t rd o,yD T rd l ts with
  |some x,some xs=>some (x::xs)
  |_,_=>none
 |_::_,[]=>none
theorem A8I {T:Tb} {rd:Operand→Option A} (hr:∀o x,rd o=some x→RA M x (a.eval o)):∀(os:List Operand) (ts:List TypeId) (az:List A),yD T rd os ts=some az→cY M az (os.map a.eval).toArray:=by
 intro os
 induction os with
 |nil=>intro ts az h;cases h;exact⟨rfl,by simp⟩
 |cons o os ih=>
  intro ts az h;cases ts with
  |nil=>cases h
  |cons t ts=>
  simp only[yD]at h;split at h
  ·rename_i x xs h1 h2;cases h;obtain⟨i1,i2⟩:=ih _ _ h2;refine⟨by simpa using i1,fun j c v e1 e2=>?_⟩;cases j with
   |zero=>simp at e1 e2;subst e1 e2;exact dD hr (fun _=>rfl) h1
   |succ j=>simp at e1 e2;exact i2 j c v e1 (by simpa using e2)
  ·cases h
theorem B4x {X:Type} {all:List Oper} {i:Nat} {o:Oper} {fo:Operand} {args:List Operand} {tys:List TypeId} {f:Nat} {caps:List C} {az az':List A} {hs:List HB} {ok:X→Prop} {rx:X→A} {hs':X→List HB} {f':X→Nat→Option Ent} (ns:List Nat)
 (hc:C5 P f az hs ok rx hs') (hsim:uR (az'++caps.map A.c) az) (hl:vO ⟨fun _=>none,st.H,0⟩ ns hs)
 (hk:∀x,ok x→G P E B W M0 Q (.ops all (i+1)::k) ⟨f' x,U1 (J9 st.H ns) (aF ns st.nx) (hs' x) 0,st.nx+(len (hs' x)-len ns)⟩)
 (hd:Q6 i all=o::Q6 (i+1) all:=by exact rfl) (hg:gT all st.f o:=by exact trivial) (ho:o.op= .call ⟨.value fo,⟨args⟩,⟨tys⟩⟩:=by exact rfl) (hfo:U7 st.f [] fo=some (.c (.clo f caps)):=by exact rfl)
 (ha:yD E.T (U7 st.f []) args tys=some az':=by exact rfl) (hn:I1 ns=true:=by exact rfl)
 (hf:∀x,O5 E.N i (C7 all all) st.f o.dst (some (.u (A2C (aF ns st.nx) (rx x))))=some (f' x):=by exact fun x=>rfl):G P E B W M0 Q (.ops all i::k) st:=by
 intro M a w hS;obtain⟨H2,g1,g2,g3,g4⟩:=oT hS.h hn hl;have hcl:∀n,J9 H2 ns n=J9 st.H ns n:=fun n=>by
  have key:∀(ns':List Nat) (A B:Nat→Option HB),(∀m,m∉ns'→A m=B m)→J9 A ns' n=J9 B ns' n:=by
   intro ns'
   induction ns' with
   |nil=>intro A B h;exact h n (by simp)
   |cons m l ih=>
    intro A B h;refine ih _ _ (fun q hq=>?_);by_cases e:q=m
    ·subst e;rw[B4,B4]
    ·rw[B9 _ _ e,B9 _ _ e];exact h q (by simp[e,hq])
  exact key ns _ _ g4
 have hcl':J9 H2 ns=J9 st.H ns:=funext hcl;have hS2:V1 E.N E.mrk B W M0 all (C7 all all) i ⟨st.f,H2,st.nx⟩ M a w:=⟨g1,hS.old,hS.d,hS.n,hS.f,hS.g⟩
 show wA E.ro P all.toArray (after E.ro P Q k) (Q6 i all) a w;rw[hd];refine N1 fun K hK=>?_
 have hw:Region.wanted o (yielded all.toArray a.tmps)=true:=lB hS hg;rw[if_pos hw];obtain⟨dst,op,ty,pos,aft,guard⟩:=o;simp only at ho hf;subst ho;have hr:=I9 hS (Γ:=[]) (by simp);have k1:=A8I hr _ _ _ ha;obtain⟨hS1,hback⟩:=B3y g1 (hs:=hs) g2 g3;obtain⟨us,hfv,hus⟩:∃us:List Value,a.eval fo= .func (.func f) #[] us.toArray∧R8 M caps us:=by
  have:=hr _ _ hfo;cases this with|c h=>
  generalize a.eval fo=v at h;cases h with
  | @clo _ _ us hs hh=>exact⟨us.toList,by simp,by simpa using hs,fun j c u e1 e2=>hh j c u e1 (by simpa using e2)⟩
 have k3:cY M (caps.map A.c) us.toArray:=by
  refine⟨by simpa using hus.1,fun j c u e1 e2=>?_⟩;rw[List.getElem?_map]at e1;cases hc:caps[j]? with
  |none=>rw[hc]at e1;cases e1
  |some x=>rw[hc]at e1;cases e1;exact .c (hus.2 j x u hc (by simpa using e2))
 have k2:cY M az ((args.map a.eval).toArray++us.toArray):=A6J hsim (k1.app k3);obtain⟨⟨fn,q1,q2,q3⟩,hcall⟩:=hc;have hrun:(execOp a.eval ⟨dst,.call ⟨.value fo,⟨args⟩,⟨tys⟩⟩,ty,pos,aft,guard⟩).run P w= .ok (.enter f ((args.map a.eval).toArray++us.toArray)) w:=by
  have e3':fn.name≠ "runtime.NumGoroutine" :=by simpa using q3
  have e2':fn.body≠none:=by intro e;rw[e]at q2;cases q2
  simp[execOp,resolve,invoke,hfv,Deferred.ofValue,callFunc,q1,e2',e3']
 unfold Oper.wp;rw[hrun,Oper.upon_enter];refine(hcall M w _ hS1 k2).mono fun e w' ⟨v,M',x,he,hM',hok,hv,hS'⟩=>?_
 subst he;obtain⟨hA,hE⟩:=hback M' w' (hs' x) (aF ns st.nx) hM' hS';rw[hcl']at hA;refine hK _ _ (hk x hok M' _ w' (I7.put hS (S':=fun j=>j<i+1) (Nat.lt_irrefl i) (fun j hj=>Nat.lt_succ_of_lt hj) hE hA (hf x) (E6 _ _) (fun e' he=>?_) (by simp)));cases he;exact vY hv
theorem A5 {X:Type} {all:List Oper} {i:Nat} {o:Oper} {fo:Operand} {args:List Operand} {tys:List TypeId} {f:Nat} {caps:List C} {az az':List A} {hs:List HB} {ok:X→Prop} {rx:X→A} {hs':X→List HB} {f':X→Nat→Option Ent} (ns:List Nat)
 (hc:C5 P f az hs ok rx hs')
 (hk:∀x,ok x→G P E B W M0 Q (.ops all (i+1)::k) ⟨f' x,U1 (J9 st.H ns) (aF ns st.nx) (hs' x) 0,st.nx+(len (hs' x)-len ns)⟩)
 (hd:Q6 i all=o::Q6 (i+1) all:=by exact rfl) (hg:gT all st.f o:=by exact trivial) (ho:o.op= .call ⟨.value fo,⟨args⟩,⟨tys⟩⟩:=by exact rfl) (hfo:U7 st.f [] fo=some (.c (.clo f caps)):=by exact rfl)
 (ha:yD E.T (U7 st.f []) args tys=some az':=by exact rfl) (hn:I1 ns=true:=by exact rfl)
 (hf:∀x,O5 E.N i (C7 all all) st.f o.dst (some (.u (A2C (aF ns st.nx) (rx x))))=some (f' x):=by exact fun x=>rfl)
 (hsim:uR (az'++caps.map A.c) az:=by and_intros<;> first|exact trivial|exact rfl|omega|(refine A6 ?_;first|exact rfl|(simp;done)|(simp_all;done))|(simp;done)|(simp_all;done)) (hl:vO ⟨fun _=>none,st.H,0⟩ ns hs:=by and_intros<;> first|exact trivial|exact rfl|omega|(refine A6 ?_;first|exact rfl|(simp;done)|(simp_all;done))|(simp;done)|(simp_all;done)):G P E B W M0 Q (.ops all i::k) st:=
 B4x ns hc hsim hl hk hd hg ho hfo ha hn hf
theorem B9g {hs':List HB} {ms:List Nat} (hS:E1 B W H M w) (hm:I1 ms=true) (h:vO ⟨fun _=>none,H,0⟩ ms hs'):E1 B W (X0 hs') M w:=by
 obtain⟨H2,g1,g2,g3,_⟩:=oT hS hm h;exact B1f (X:=Unit) g1 g2 g3
theorem lC {X:Type} (hmk:E.mrk= .f) (hT:K9 P E.T) {fn:Func} {hs:List HB} (hS:V1 E.N E.mrk (fH W hs) W M0 [] [] 0 st M a w) {az:List A} {ob:Prop} (h:Y4 E.T st.f st.H fn.results.toList=some (az,ob)) (hob:ob)
 {ok:X→Prop} {rx:X→A} {hs':X→List HB} (x:X) (hok:ok x) (ms:List Nat) (hr:qT (B1e az) (rx x)) (hm:I1 ms=true) (hl:vO ⟨fun _=>none,st.H,0⟩ ms (hs' x)):
 LeavesInM Fence.wide 0 P fn a.tmps (R2 M0 W hs ok rx hs') a.defers .returning w:=by
 rw[hS.nodef hmk];obtain⟨vs,h1,h2,h2',h3⟩:=qV hT hS (g:=fun| .tmp t=>pure (a.tmps.getD t undef)| .cell t ty=>do loadVar ty (←asAddr (a.tmps.getD t undef))) (fun _=>rfl) (fun _ _=>rfl) h hob;have hres:(results fn a.tmps).run P w= .ok (if hh:vs.toArray.size=1 then vs.toArray[0]else .tuple vs.toArray) w:=by
  unfold results;rw[Array.mapM_eq_mapM_toList];simp only[Sem.run_bind,Sem.run_map];exact congrArg (fun r:Result (List Value)=>(r.andThen fun a w'=>Result.ok a.toArray w').andThen fun a w'=>Sem.run P (pure (if h:a.size=1 then a[0]else Value.tuple a)) w') h1
 refine⟨_,hres,_,M,x,rfl,⟨hS.d.kp,hS.old⟩,hok,?_,B9g hS.h hm hl⟩;refine wB hr ?_
 match az,vs,h2,h3 with
 |[y],[v],_,h3=>exact h3 0 y v rfl rfl
 |[],[],_,_=>exact .t rfl (by simp)
 |y::y'::ys,v::v'::vs,h2,h3=>exact .t (by simpa using h2) (fun j c u e1 e2=>h3 j c u e1 (by simpa using e2))
theorem B3 {X:Type} {hs:List HB} (hE:F0 P E) {fn:Func} {c:Code} {az:List A} {ob:Prop} {ok:X→Prop} {rx:X→A} {hs':X→List HB} (x:X) (hok:ok x) (ms:List Nat)
 (h:Y4 E.T st.f st.H fn.results.toList=some (az,ob):=by exact rfl) (hob:ob:=by and_intros<;> first|exact trivial|exact rfl) (hc:iT c=true:=by exact rfl) (hm:I1 ms=true:=by exact rfl) (hmk:E.mrk= .f:=by exact rfl)
 (hr:qT (B1e az) (rx x):=by and_intros<;> first|exact trivial|exact rfl|omega|(refine A6 ?_;first|exact rfl|(simp;done)|(simp_all;done))|(simp;done)|(simp_all;done)) (hl:vO ⟨fun _=>none,st.H,0⟩ ms (hs' x):=by and_intros<;> first|exact trivial|exact rfl|omega|(refine A6 ?_;first|exact rfl|(simp;done)|(simp_all;done))|(simp;done)|(simp_all;done)):
 G P E (fH W hs) W M0 (aU P fn (R2 M0 W hs ok rx hs')) (.code c::k) st:=by
 intro M a w hS;cases c<;> simp only[iT,Bool.false_eq_true]at hc;simp only[after];exact wpIn_ret (cZ (lC hmk hE.T hS h hob x hok ms hr hm hl))
theorem Y6 {X:Type} {hs:List HB} (hE:F0 P E) {fn:Func} {az:List A} {ob:Prop} {ok:X→Prop} {rx:X→A} {hs':X→List HB} (x:X) (hok:ok x) (ms:List Nat)
 (h:Y4 E.T st.f st.H fn.results.toList=some (az,ob):=by exact rfl) (hob:ob:=by and_intros<;> first|exact trivial|exact rfl) (hm:I1 ms=true:=by exact rfl) (hmk:E.mrk= .f:=by exact rfl)
 (hr:qT (B1e az) (rx x):=by and_intros<;> first|exact trivial|exact rfl|omega|(refine A6 ?_;first|exact rfl|(simp;done)|(simp_all;done))|(simp;done)|(simp_all;done)) (hl:vO ⟨fun _=>none,st.H,0⟩ ms (hs' x):=by and_intros<;> first|exact trivial|exact rfl|omega|(refine A6 ?_;first|exact rfl|(simp;done)|(simp_all;done))|(simp;done)|(simp_all;done)):
 G P E (fH W hs) W M0 (aU P fn (R2 M0 W hs ok rx hs')) [] st:=
 fun M a w hS=>lC hmk hE.T hS h hob x hok ms hr hm hl
end
section
variable {P : Program} {E : D9} {B : Nat → Prop} {W : World} {M0 M F : B5} {Q : Exit → Act → World → Prop} {k : List X8} {st : St} {a : Act} {w w' : World} {N : Nat} {mrk : MK} {H H' : Nat → Option HB}
theorem E1.drew' (hS:E1 B W H M w):E1 B W H M w.drew:=by
 refine⟨⟨hS.below.os,hS.below.tape,hS.below.output,hS.below.size,hS.below.block⟩,hS.base,hS.mem,fun n x hx=>?_,hS.inj⟩;have:=hS.ok n x hx;cases x with
 |obj S P=>exact⟨this.1,fun M2 w2 g1 g2 g3=>this.2 M2 w2 g1 g2 g3⟩
 |_=>exact this
theorem E1.step2 (hS:E1 B W H M w) {row:Option Nat} (hg:w.grownBy w' row) (hrow:∀b,row=some b→¬B b∧M b=none) {nn:Nat} {xx yy:HB} (hy:H nn=some yy)
 (hH:∀n x,n≠nn→H' n=some x→H n=some x∧∀b,row=some b→¬x.has b) (hnn:H' nn=some xx) (hx:X2 M B w' xx) (hf:∀b,xx.has b→yy.has b∨w.heap.size≤b):E1 B W H' M w':=by
 have hne:∀n x b,n≠nn→H' n=some x→x.has b→¬xx.has b:=by
  intro n x b hn hx' hb hb';obtain⟨h1,h2⟩:=hH n x hn hx';rcases hf b hb' with h|h
  ·exact hS.inj n nn x yy b hn h1 hy hb h
  ·have:=(HB.block_lt (hS.ok n x h1) hb).2.1;omega
 refine⟨hS.below.grown hg hS.base (fun k hk=>(hrow k hk).1),fun k hk=>Nat.lt_of_lt_of_le (hS.base k hk) hg.size,?_,?_,?_⟩
 ·intro k o e;have hlt:k<w.heap.size:=(Array.getElem?_eq_some_iff.1 (hS.mem k o e)).1;rw[hg.block k hlt (fun h=>by have:=(hrow k h.symm).2;rw[e]at this;cases this)];exact hS.mem k o e
 ·intro n x hx';by_cases hn:n=nn
  ·subst hn;rw[hnn]at hx';cases hx';exact hx
  ·obtain⟨h1,h2⟩:=hH n x hn hx';have hok:=hS.ok n x h1;refine hok.keep (B5.le_refl _) (fun b hb=>(HB.block_lt hok hb).2.2) (fun b hb=>hg.block b (HB.block_lt hok hb).2.1 (fun h=>h2 b h.symm hb))
 ·intro n n' x x' b hnn' h1 h2 hb;by_cases hn:n=nn
  ·subst hn;rw[hnn]at h1;cases h1;exact fun h=>hne n' x' b (fun e=>hnn' e.symm) h2 h hb
  ·by_cases hn':n'=nn
   ·subst hn';rw[hnn]at h2;cases h2;exact hne n x b hn h1 hb
   ·exact hS.inj n n' x x' b hnn' (hH n x hn h1).1 (hH n' x' hn' h2).1 hb
theorem A8J (n:Nat) {all:List Oper} {i:Nat} {o:Oper} {it:Operand} {bi bm:Nat} {kk:KK} {vk:VK} {l:List (kk.T×vk.T)} {vs:List Nat} {f1 f2:Nat→Option Ent} (hn:st.H n=some (.mpr bm kk vk l bi vs))
 (h1:∀j,j<l.length→j∉vs→G P E B W M0 Q (.ops all (i+1)::k) ⟨f1,D4 st.H n (some (.mpr bm kk vk l bi (j::vs))),st.nx⟩)
 (h2:(∀j,j<l.length→j∈vs)→G P E B W M0 Q (.ops all (i+1)::k) ⟨f2,st.H,st.nx⟩)
 (hd:Q6 i all=o::Q6 (i+1) all:=by exact rfl) (hg:o.guard=none:=by exact rfl) (ho:o.op= .next it false:=by exact rfl) (hit:∃m,U7 st.f [] it=some (.c (.ptr m bi 0)):=by exact⟨_,rfl⟩)
 (hf1:O5 E.N i (C7 all all) st.f o.dst (some (.u (.u (bool true))))=some f1:=by exact rfl) (hf2:O5 E.N i (C7 all all) st.f o.dst (some (.u (.u (bool false))))=some f2:=by exact rfl):G P E B W M0 Q (.ops all i::k) st:=by
 intro M a w hS;show wA E.ro P all.toArray (after E.ro P Q k) (Q6 i all) a w;rw[hd];refine N1 fun K hK=>?_
 have hw:Region.wanted o (yielded all.toArray a.tmps)=true:=by unfold Region.wanted;rw[hg]
 rw[if_pos hw];obtain⟨dst,op,ty,pos,aft,guard⟩:=o;simp only at ho hf1 hf2;subst ho;obtain⟨m,hit⟩:=hit;have hv:=(I9 hS (Γ:=[]) (by simp) _ _ hit).ptr_inv;obtain⟨g1,g2,g0,es,clock,seen,g3,g4,g5,g6,g7,g8⟩:=hS.h.ok _ _ hn;have hlen:es.size=l.length:=by have:=congrArg List.length g4.all;simpa using this
 have hinj:∀(i j:Nat) e f,es[i]? =some e→es[j]? =some f→e.born=f.born→i=j:=fun i j e f he hf hb=>by
  rcases Nat.lt_trichotomy i j with h|h|h
  ·have:=g4.up i j e f h he hf;omega
  ·exact h
  ·have:=g4.up j i f e h hf he;omega
 have hseen:∀(j:Nat) (hj:j<es.size),seen.contains es[j].born=true↔j∈vs:=fun j hj=>by
  rw[Array.contains_iff_mem,←Array.mem_toList_iff,g6];simp only[List.mem_map,List.mem_reverse]
  constructor
  ·rintro ⟨q,hq,hb⟩
   have hq':q<es.size:=by rw[hlen];exact g8 q hq
   rw[Array.getElem?_eq_getElem hq']at hb;have:=hinj q j _ _ (Array.getElem?_eq_getElem hq') (Array.getElem?_eq_getElem hj) hb;exact this▸hq
  ·intro hq;exact⟨j,hq,by rw[Array.getElem?_eq_getElem hj];rfl⟩
 have hold:∀x∈es.toList,x.born<clock:=fun x hx=>by
  obtain⟨q,hq⟩:=List.getElem?_of_mem hx;exact g4.lt q x (by rw[←Array.getElem?_toList];exact hq)
 unfold Oper.wp;rcases run_next_at (P:=P) w ty bi bm clock clock seen es clock g5 g3 hold (Nat.le_refl _)with⟨r1,r2⟩|⟨e,r1,w1,r2,r3⟩
 ·have hx:(execOp a.eval ⟨dst,.next it false,ty,pos,aft,guard⟩).run P w= .ok (.value (.tuple #[.bool false])) w:=by simp[execOp,hv,r2]
  rw[hx];have hall:∀j,j<l.length→j∈vs:=fun j hj=>by
   have hj':j<es.size:=by omega
   refine(hseen j hj').1 ?_;cases hc:seen.contains es[j].born with
   |true=>rfl
   |false=>
    have:es[j]∈leftOf es seen:=by unfold leftOf;rw[Array.mem_filter];exact⟨Array.getElem_mem hj',by simp only[hc];rfl⟩
    have:=Array.size_pos_of_mem this;omega
  exact hK _ _ (h2 hall M _ w (I7.put hS (S':=fun j=>j<i+1) (Nat.lt_irrefl i) (fun j hj=>Nat.lt_succ_of_lt hj) (B5.ext_refl _ _) hS.h hf2 (E6 _ _) (fun e' he=>by cases he;exact .u rfl (.c (.pv (.val rfl)))) (by simp)))
 ·have hx:(execOp a.eval ⟨dst,.next it false,ty,pos,aft,guard⟩).run P w= .ok (.value (.tuple #[.bool true,e.key,e.val])) (Go.ChangeMaps.setBlock w1 bi (.mapIter (some bm) clock (seen.push e.born) clock)):=by simp[execOp,hv,r3]
  rw[hx];unfold leftOf at r1;rw[Array.mem_toList_iff,Array.mem_filter]at r1;obtain⟨j,hj,rfl⟩:=Array.mem_iff_getElem.1 r1.1;have hnv:j∉vs:=fun h=>by have:=(hseen j hj).2 h;rw[this]at r1;cases r1.2
  have hSw:E1 B W st.H M w1:=by rcases r2 with rfl|rfl;exact hS.h;exact hS.h.drew'
  have hw1:w1.heap=w.heap:=by rcases r2 with rfl|rfl<;> rfl
  refine hK _ _ (h1 j (by omega) hnv M _ _ (I7.put hS (S':=fun j=>j<i+1) (Nat.lt_irrefl i) (fun j hj=>Nat.lt_succ_of_lt hj) (B5.ext_refl _ _) ?_ hf1 (E6 _ _) (fun e' he=>by cases he;exact .u rfl (.c (.pv (.val rfl)))) (by simp)));have hbi:bi<w1.heap.size:=by rw[hw1];exact(Array.getElem?_eq_some_iff.1 g5).1
  refine hSw.step2 (nn:=n) (xx:= .mpr bm kk vk l bi (j::vs)) (row:=some bi) (dF w1 bi _) (fun c hc=>by cases hc;exact g2) hn (fun m y hm hy=>?_) (B4 _ _ _) ⟨g1,g2,g0,es,clock,seen.push es[j].born,?_,g4,World.putObj_heap_same hbi,?_,List.nodup_cons.2 ⟨hnv,g7⟩,fun q hq=>?_⟩ (fun c hc=> .inl hc)
  ·have hy':D4 st.H n _ m=some y:=hy;rw[B9 _ _ hm]at hy';exact⟨hy',fun c hc hh=>by cases hc;exact hS.h.inj n m _ y bi (fun e=>hm e.symm) hn hy' (.inr rfl) hh⟩
  ·show(w1.putObj bi _).heap[bm]? =_;rw[World.putObj_heap_other g0,hw1];exact g3
  ·simp[g6,Array.getElem?_eq_getElem hj]
  ·rcases List.mem_cons.1 hq with rfl|hq
   ·omega
   ·exact g8 q hq
theorem B4y (n:Nat) {bi bm:Nat} {kk:KK} {vk:VK} {l:List (kk.T×vk.T)} {vs:List Nat} (hk:G P E B W M0 Q k ⟨st.f,D4 st.H n (some (.mp bm kk vk l)),st.nx⟩) (hn:st.H n=some (.mpr bm kk vk l bi vs):=by exact rfl):G P E B W M0 Q k st:=by
 intro M a w hS;refine hk M a w ⟨hS.h.rehb hn (fun h=>?_) (fun b hb=> .inl hb),hS.old,hS.d,hS.n,hS.f,hS.g⟩;obtain⟨g1,g2,g0,es,clock,seen,g3,g4,_⟩:=h;exact⟨g1.1,g1.2,es,clock,g3,g4⟩
end
section
variable {P : Program} {E : D9} {B : Nat → Prop} {W : World} {M0 M F : B5} {Q : Exit → Act → World → Prop} {k : List X8} {st : St} {a : Act} {w w' : World} {N : Nat} {mrk : MK} {H H' : Nat → Option HB}
def cB {α:Type} (e:α→(Nat→Prop)→HB):List α→List (Nat→Prop)→List HB
 |a::l,S::Ss=>e a S::cB e l Ss
 |_,_=>[]
abbrev A6K {α:Type} (l:List α):List (Nat→Prop)→Prop:=fun Ss=>Ss.length=l.length
abbrev U2 {α:Type} (e:α→(Nat→Prop)→HB) (l:List α) (S:Nat→Prop):HB:=OB (A6K l) (cB e l) S
theorem A6L {α:Type} {e:α→(Nat→Prop)→HB}:∀{l:List α} {Ss:List (Nat→Prop)} {j:Nat} {h:HB},(cB e l Ss)[j]? =some h→∃a S,l[j]? =some a∧Ss[j]? =some S∧h=e a S:=by
 intro l
 induction l with
 |nil=>intro Ss j h e;simp[cB]at e
 |cons a l ih=>
  intro Ss j h e;cases Ss with
  |nil=>simp[cB]at e
  |cons S Ss=>
   cases j with
   |zero=>simp[cB]at e;exact⟨a,S,rfl,rfl,e.symm⟩
   |succ j=>simp only[cB,List.getElem?_cons_succ]at e⊢;exact ih e
theorem wI {α:Type} {e:α→(Nat→Prop)→HB}:∀{l:List α} {Ss:List (Nat→Prop)} {j:Nat} {a:α} {S:Nat→Prop},l[j]? =some a→Ss[j]? =some S→(cB e l Ss)[j]? =some (e a S):=by
 intro l
 induction l with
 |nil=>intro Ss j a S h;simp at h
 |cons x l ih=>
  intro Ss j a S h1 h2;cases Ss with
  |nil=>simp at h2
  |cons T Ss=>
   cases j with
   |zero=>simp at h1 h2;subst h1 h2;rfl
   |succ j=>simp only[List.getElem?_cons_succ]at h1 h2;simp only[cB,List.getElem?_cons_succ];exact ih h1 h2
theorem E1.pack {X:Type} {ok:X→Prop} {f:X→List HB} (x:X) (hx:ok x) (h1:∀h,h∈f x→X2 M B w h) (h2:B4u (f x)):X2 M B w (OB ok f (fun b=>∃(j:Nat) (z:HB),(f x)[j]? =some z∧z.has b)):=by
 refine⟨fun b ⟨j,z,e,hz⟩=>?_,fun M' w' g1 g2 g3=>⟨x,hx,fun z hz=>?_,h2⟩⟩
 ·have:=HB.block_lt (h1 z (List.mem_of_getElem? e)) hz;exact⟨this.1,this.2.2,this.2.1⟩
 ·obtain⟨j,hj⟩:=List.getElem?_of_mem hz;have:X2 M (fun k=>¬∃(j:Nat) (z:HB),(f x)[j]? =some z∧z.has k) w z:=(h1 z hz).reB (fun b hb hn=>hn ⟨j,z,hj,hb⟩);exact this.ckeep g1 (fun b hb=>g2 b ⟨j,z,hj,hb⟩) (fun b hb=>g3 b ⟨j,z,hj,hb⟩)
theorem E1.unpack (hS:E1 B W H M w) {X:Type} {ok:X→Prop} {f:X→List HB} {S:Nat→Prop} {n:Nat} (hn:H n=some (OB ok f S)):∃x,ok x∧(∀h,h∈f x→X2 M B w h)∧B4u (f x)∧∀(j:Nat) h b,(f x)[j]? =some h→h.has b→S b:=by
 obtain⟨h1,h2⟩:=hS.ok n _ hn;obtain⟨x,hx,h3,h4⟩:=h2 M w (B5.cle_refl M) (fun k hk=>(h1 k hk).2.1) (fun _ _=>rfl);have hin:∀(j:Nat) h b,(f x)[j]? =some h→h.has b→S b:=fun j h b e hb=>by
  have:=(HB.block_lt (h3 h (List.mem_of_getElem? e)) hb).1;exact Classical.not_not.1 this
 exact⟨x,hx,fun h hm=>by
  obtain⟨j,hj⟩:=List.getElem?_of_mem hm;exact(h3 h hm).reB (fun b hb=>(h1 b (hin j h b hj hb)).1),h4,hin⟩
theorem C3T (n m:Nat) {α:Type} {e:α→(Nat→Prop)→HB} {l1 l2:List α} {x:α} {S:Nat→Prop} (hn:st.H n=some (U2 e (l1++x::l2) S)) (hm:st.H m=none)
 (hk:∀S1 S2,G P E B W M0 Q k ⟨st.f,D4 (D4 st.H n (some (U2 e (l1++l2) S1))) m (some (e x S2)),st.nx⟩):G P E B W M0 Q k st:=by
 intro M a w hS;obtain⟨Ss,hl,h1,h2,h3⟩:=hS.h.unpack hn;have hl':Ss.length=l1.length+(l2.length+1):=by rw[show Ss.length=(l1++x::l2).length from hl];simp
 have hnm:n≠m:=fun e=>by subst e;rw[hm]at hn;cases hn
 let T:=Ss.take l1.length++Ss.drop (l1.length+1)
 have hj:l1.length<Ss.length:=by omega
 have hx:=wI (e:=e) (l:=l1++x::l2) (Ss:=Ss) (j:=l1.length) (a:=x) (S:=Ss[l1.length]) (by simp) (gE_ hj);have hmap:∀(j:Nat) h,(cB e (l1++l2) T)[j]? =some h→(cB e (l1++x::l2) Ss)[if j<l1.length then j else j+1]? =some h:=fun j h hh=>by
  obtain⟨y,Y,g1,g2,rfl⟩:=A6L hh;refine wI ?_ ?_
  ·split
   ·rename_i hlt;rw[List.getElem?_append_left hlt]at g1⊢;exact g1
   ·rename_i hge;rw[List.getElem?_append_right (by omega)]at g1⊢;rw[show j+1-l1.length=(j-l1.length)+1 from by omega,List.getElem?_cons_succ];exact g1
  ·simp only[T]at g2;split
   ·rename_i hlt;rw[List.getElem?_append_left (by simp;omega),List.getElem?_take,if_pos hlt]at g2;exact g2
   ·rename_i hge;rw[List.getElem?_append_right (by simp;omega),List.getElem?_drop]at g2;rw[←g2];congr 1;simp;omega
 have hT:A6K (l1++l2) T:=by simp[A6K,T];omega
 have hd:B4u (cB e (l1++l2) T):=fun i j y z b hij e1 e2=>h2 _ _ y z b (by split<;> split<;> omega) (hmap i y e1) (hmap j z e2)
 have hok:X2 M B w (U2 e (l1++l2) (fun b=>∃(j:Nat) (z:HB),(cB e (l1++l2) T)[j]? =some z∧z.has b)):=E1.pack T hT (fun h hm=>by
  obtain⟨j,hj⟩:=List.getElem?_of_mem hm;exact h1 h (List.mem_of_getElem? (hmap j h hj))) hd
 refine hk (fun b=>∃(j:Nat) (z:HB),(cB e (l1++l2) T)[j]? =some z∧z.has b) Ss[l1.length] M a w ⟨⟨hS.h.below,hS.h.base,hS.h.mem,fun q y hy=>?_,fun q q' y y' b hq e1 e2 hb=>?_⟩,hS.old,hS.d,hS.n,hS.f,hS.g⟩
 ·simp only at hy;by_cases hqm:q=m
  ·subst hqm;rw[B4]at hy;cases hy;exact h1 _ (List.mem_of_getElem? hx)
  ·rw[B9 _ _ hqm]at hy;by_cases hqn:q=n
   ·subst hqn;rw[B4]at hy;cases hy;exact hok
   ·rw[B9 _ _ hqn]at hy;exact hS.h.ok q y hy
 ·
  have cls:∀q y,D4 (D4 st.H n (some (U2 e (l1++l2) (fun b=>∃(j:Nat) (z:HB),(cB e (l1++l2) T)[j]? =some z∧z.has b)))) m (some (e x Ss[l1.length])) q=some y→∀b,y.has b→
   (q=m∧S b∧(e x Ss[l1.length]).has b)∨(q=n∧S b∧∃(j:Nat) (z:HB),(cB e (l1++l2) T)[j]? =some z∧z.has b)∨(q≠m∧q≠n∧st.H q=some y):=fun q y hy b hb=>by
   by_cases hqm:q=m
   ·subst hqm;rw[B4]at hy;cases hy;exact .inl ⟨rfl,h3 _ _ b hx hb,hb⟩
   ·rw[B9 _ _ hqm]at hy;by_cases hqn:q=n
    ·subst hqn;rw[B4]at hy;cases hy;obtain⟨j,z,e1,e2⟩:=hb;exact .inr (.inl ⟨rfl,h3 _ _ b (hmap j z e1) e2,j,z,e1,e2⟩)
    ·rw[B9 _ _ hqn]at hy;exact .inr (.inr ⟨hqm,hqn,hy⟩)
  intro hb';rcases cls q y e1 b hb with⟨c1,c2,c3⟩|⟨c1,c2,j,z,c3,c4⟩|⟨c1,c2,c3⟩
  ·rcases cls q' y' e2 b hb' with⟨d1,_,_⟩|⟨d1,d2,j',z',d3,d4⟩|⟨d1,d2,d3⟩
   ·exact hq (c1.trans d1.symm)
   ·exact h2 l1.length _ _ _ b (by split<;> omega) hx (hmap j' z' d3) c3 d4
   ·exact hS.h.inj n q' _ y' b (fun e=>d2 e.symm) hn d3 c2 hb'
  ·rcases cls q' y' e2 b hb' with⟨d1,_,d3⟩|⟨d1,_⟩|⟨d1,d2,d3⟩
   ·exact h2 l1.length _ _ _ b (by split<;> omega) hx (hmap j z c3) d3 c4
   ·exact hq (c1.trans d1.symm)
   ·exact hS.h.inj n q' _ y' b (fun e=>d2 e.symm) hn d3 c2 hb'
  ·rcases cls q' y' e2 b hb' with⟨d1,d2,_⟩|⟨d1,d2,_⟩|⟨d1,d2,d3⟩
   ·exact hS.h.inj n q _ y b (fun e=>c2 e.symm) hn c3 d2 hb
   ·exact hS.h.inj n q _ y b (fun e=>c2 e.symm) hn c3 d2 hb
   ·exact hS.h.inj q q' y y' b hq c3 d3 hb hb'
theorem B4z (n m:Nat) {α:Type} {e:α→(Nat→Prop)→HB} (l1 l2:List α) {x:α} {S S2:Nat→Prop} (hn:st.H n=some (U2 e (l1++l2) S)) (hm:st.H m=some (e x S2)) (hnm:n≠m)
 (hk:∀S1,G P E B W M0 Q k ⟨st.f,D4 (D4 st.H m none) n (some (U2 e (l1++x::l2) S1)),st.nx⟩):G P E B W M0 Q k st:=by
 intro M a w hS;obtain⟨Ss,hl,h1,h2,h3⟩:=hS.h.unpack hn;have hl':Ss.length=l1.length+l2.length:=by rw[show Ss.length=(l1++l2).length from hl];simp
 let T:=Ss.take l1.length++S2::Ss.drop l1.length
 have hT:A6K (l1++x::l2) T:=by simp[A6K,T];omega
 have hmap:∀(j:Nat) h,(cB e (l1++x::l2) T)[j]? =some h→(j=l1.length∧h=e x S2)∨(j≠l1.length∧(cB e (l1++l2) Ss)[if j<l1.length then j else j-1]? =some h):=fun j h hh=>by
  obtain⟨y,Y,g1,g2,rfl⟩:=A6L hh;simp only[T]at g2;rcases Nat.lt_trichotomy j l1.length with hj|hj|hj
  ·refine .inr ⟨by omega,?_⟩;rw[if_pos hj];rw[List.getElem?_append_left hj]at g1;rw[List.getElem?_append_left (by simp;omega),List.getElem?_take,if_pos hj]at g2;exact wI (by rw[List.getElem?_append_left hj];exact g1) g2
  ·subst hj;rw[List.getElem?_append_right (Nat.le_refl _)]at g1;rw[List.getElem?_append_right (by simp;omega)]at g2;simp at g1;have:l1.length-(Ss.take l1.length).length=0:=by simp;omega
   rw[this]at g2;simp at g2;subst g1 g2;exact .inl ⟨rfl,rfl⟩
  ·refine .inr ⟨by omega,?_⟩;rw[if_neg (by omega)];rw[List.getElem?_append_right (by omega),show j-l1.length=(j-1-l1.length)+1 from by omega,List.getElem?_cons_succ]at g1;have hlen:(Ss.take l1.length).length=l1.length:=by simp;omega
   rw[List.getElem?_append_right (by omega),hlen,show j-l1.length=(j-1-l1.length)+1 from by omega,List.getElem?_cons_succ,List.getElem?_drop]at g2;refine wI (by rw[List.getElem?_append_right (by omega)];exact g1) ?_;rw[←g2];congr 1;omega
 have hoth:∀(j:Nat) (z:HB) (b:Nat),(cB e (l1++l2) Ss)[j]? =some z→z.has b→¬(e x S2).has b:=fun j z b e1 e2=>hS.h.inj n m _ _ b hnm hn hm (h3 j z b e1 e2)
 have hd:B4u (cB e (l1++x::l2) T):=fun i j y z b hij e1 e2 hb=>by
  rcases hmap i y e1 with⟨c1,rfl⟩|⟨c1,c2⟩
  ·rcases hmap j z e2 with⟨d1,rfl⟩|⟨d1,d2⟩
   ·exact absurd (c1.trans d1.symm) hij
   ·exact fun hb'=>hoth _ z b d2 hb' hb
  ·rcases hmap j z e2 with⟨d1,rfl⟩|⟨d1,d2⟩
   ·exact hoth _ y b c2 hb
   ·exact h2 _ _ y z b (by split<;> split<;> omega) c2 d2 hb
 have hok:X2 M B w (U2 e (l1++x::l2) (fun b=>∃(j:Nat) (z:HB),(cB e (l1++x::l2) T)[j]? =some z∧z.has b)):=E1.pack T hT (fun h hmm=>by
  obtain⟨j,hj⟩:=List.getElem?_of_mem hmm;rcases hmap j h hj with⟨_,rfl⟩|⟨_,c⟩
  ·exact hS.h.ok m _ hm
  ·exact h1 h (List.mem_of_getElem? c)) hd
 refine hk (fun b=>∃(j:Nat) (z:HB),(cB e (l1++x::l2) T)[j]? =some z∧z.has b) M a w ⟨⟨hS.h.below,hS.h.base,hS.h.mem,fun q y hy=>?_,fun q q' y y' b hq e1 e2 hb=>?_⟩,hS.old,hS.d,hS.n,hS.f,hS.g⟩
 ·simp only at hy;by_cases hqn:q=n
  ·subst hqn;rw[B4]at hy;cases hy;exact hok
  ·rw[B9 _ _ hqn]at hy;by_cases hqm:q=m
   ·subst hqm;rw[B4]at hy;cases hy
   ·rw[B9 _ _ hqm]at hy;exact hS.h.ok q y hy
 ·have cls:∀q y,D4 (D4 st.H m none) n (some (U2 e (l1++x::l2) (fun b=>∃(j:Nat) (z:HB),(cB e (l1++x::l2) T)[j]? =some z∧z.has b))) q=some y→∀b,y.has b→
   (q=n∧(S b∨(e x S2).has b))∨(q≠n∧q≠m∧st.H q=some y):=fun q y hy b hb=>by
   by_cases hqn:q=n
   ·subst hqn;rw[B4]at hy;cases hy;obtain⟨j,z,e1,e2⟩:=hb;rcases hmap j z e1 with⟨_,rfl⟩|⟨_,c⟩
    ·exact .inl ⟨rfl,.inr e2⟩
    ·exact .inl ⟨rfl,.inl (h3 _ z b c e2)⟩
   ·rw[B9 _ _ hqn]at hy;by_cases hqm:q=m
    ·subst hqm;rw[B4]at hy;cases hy
    ·rw[B9 _ _ hqm]at hy;exact .inr ⟨hqn,hqm,hy⟩
  intro hb';have far:∀q y,q≠n→q≠m→st.H q=some y→∀b,y.has b→(S b∨(e x S2).has b)→False:=fun q y c1 c2 c3 b hb h=>by
   rcases h with h|h
   ·exact hS.h.inj q n y _ b c1 c3 hn hb h
   ·exact hS.h.inj q m y _ b c2 c3 hm hb h
  rcases cls q y e1 b hb with⟨c1,c2⟩|⟨c1,c2,c3⟩
  ·rcases cls q' y' e2 b hb' with⟨d1,_⟩|⟨d1,d2,d3⟩
   ·exact hq (c1.trans d1.symm)
   ·exact far q' y' d1 d2 d3 b hb' c2
  ·rcases cls q' y' e2 b hb' with⟨d1,d2⟩|⟨d1,d2,d3⟩
   ·exact far q y c1 c2 c3 b hb d2
   ·exact hS.h.inj q q' y y' b hq c3 d3 hb hb'
end
end
end Go.Mt
