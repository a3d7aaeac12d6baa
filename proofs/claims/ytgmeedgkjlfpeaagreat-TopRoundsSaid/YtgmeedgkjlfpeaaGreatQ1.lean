/-
  The program library and the walks of this claim, part 1 of 6.
-/
import Derived.WalkKit
import Derived.Below
import Derived.Laws.StructEq
import Derived.ChangeKeysEq
import Derived.Laws.Cover3
import Derived.Laws.IdiomCopy
import Derived.Laws.CopyRow
import Derived.Deep.AppendSrc
import Derived.RangeFuncRecord
import Derived.TacticsIn
import Derived.RangeFuncCalls
set_option linter.unusedSimpArgs false
set_option linter.unusedVariables false
set_option maxHeartbeats 4000000
namespace Go.Mt
theorem gE_.{u} {α:Type u} {l:List α} {i:Nat} (h:i<l.length):l[i]? =some l[i]:=List.getElem?_eq_getElem h
theorem gS_.{u} {α:Type u} {l:List α} {i:Nat} {a:α}:l[i]? =some a↔∃h:i<l.length,l[i]=a:=List.getElem?_eq_some_iff
open Go.RowKit
structure C2n where
 fr:Int
 to:Int
 deriving DecidableEq,Inhabited
structure A5U where
 cl:Int
 at_:Int
 n:Int
 deriving DecidableEq,Inhabited
structure B0 where
 kind:Int
 start:Int
 count:Int
 size:Int
 sum:Int
 deriving DecidableEq,Inhabited
structure iZ where
 seq:Int
 start:Int
 count:Int
 sum:Int
 deriving DecidableEq,Inhabited
structure qM where
 at_:Int
 data:List UInt8
 deriving DecidableEq,Inhabited
structure gJ where
 name:List UInt8
 on:Bool
 l:List C2n
 deriving DecidableEq,Inhabited
structure A7h where
 name:List UInt8
 size:Int
 t:List (List B0)
 deriving DecidableEq,Inhabited
structure cE where
 finger:Int
 e:B0
 deriving DecidableEq,Inhabited
structure Stp where
 act:Int
 which:Bool
 fr:Int
 to:Int
 deriving DecidableEq,Inhabited
structure C6P where
 act:Int
 b:List UInt8
 e:B0
 deriving DecidableEq,Inhabited
inductive TE where
 |l (x:List B0)
 |v (u:Value)
inductive TS where
 |l (x:List C2n)
 |v (u:Value)
structure BmH where
 name:List UInt8
 on:Bool
 sp:TS
structure bP where
 nm:List UInt8
 bk:List UInt8
 deriving DecidableEq,Inhabited
structure bQ where
 shot:Int
 cl:Int
 e:B0
 deriving DecidableEq,Inhabited
structure A7i where
 nm:List UInt8
 at_:Int
 b:List UInt8
 deriving DecidableEq,Inhabited
structure X7 where
 cl:Int
 size:Int
 bk:List UInt8
 t:List (List B0)
 sh:List A7h
 mp:List gJ
 ct:List Int
 deriving DecidableEq,Inhabited
inductive LK where
 |byt|ints (k:IntKind)|spn|pcs|ent|slt|rcd|tbl|bms|sht|knw|bls|tbh|stp|act|bmh|sec|log|ptr|lnk|lin|mta|str|fn
 deriving DecidableEq
abbrev LK.T:LK→Type
 | .byt=>UInt8| .ints _=>Int| .spn=>C2n| .pcs=>A5U| .ent=>B0| .slt=>iZ| .rcd=>qM| .tbl=>List B0| .bms=>gJ| .sht=>A7h| .knw=>cE| .bls=>Bool| .tbh=>TE| .stp=>Stp| .act=>C6P| .bmh=>BmH| .sec=>List UInt8| .log=>A7i| .ptr=>Nat| .lnk=>bP| .lin=>bQ| .mta=>X7| .str=>List UInt8| .fn=>Nat×List Nat
def LK.dft:(k:LK)→k.T
 | .byt=>0| .ints _=>0| .spn=>⟨0,0⟩| .pcs=>⟨0,0,0⟩| .ent=>⟨0,0,0,0,0⟩| .slt=>⟨0,0,0,0⟩| .rcd=>⟨0,[]⟩| .tbl=>[]| .bms=>⟨[],false,[]⟩| .sht=>⟨[],0,[]⟩| .knw=>⟨0,⟨0,0,0,0,0⟩⟩| .bls=>false| .tbh=> .l []| .stp=>⟨0,false,0,0⟩| .act=>⟨0,[],⟨0,0,0,0,0⟩⟩| .bmh=>⟨[],false,.l []⟩| .sec=>List.replicate 16 0| .log=>⟨[],0,List.replicate 16 0⟩| .ptr=>0| .lnk=>⟨[],[]⟩| .lin=>⟨0,0,⟨0,0,0,0,0⟩⟩| .mta=>⟨0,0,[],[],[],[],[]⟩| .str=>[]| .fn=>(0,[])
def LK.sz:LK→Nat
 | .byt=>1| .ints _=>1| .spn=>2| .pcs=>3| .ent=>5| .slt=>4| .rcd=>2| .tbl=>1| .bms=>3| .sht=>3| .knw=>6| .bls=>1| .tbh=>1| .stp=>4| .act=>7| .bmh=>3| .sec=>16| .log=>18| .ptr=>1| .lnk=>2| .lin=>7| .mta=>7| .str=>1| .fn=>1
inductive PV where
 |val (v:Value)
 |nil (k:LK)
 |lst (k:LK) (l:List k.T)
abbrev i64 (n:Int):PV:= .val (.int .i64 n)
abbrev sv (s:List UInt8):PV:= .val (.string ⟨s.toArray⟩)
abbrev bv (b:Bool):PV:= .val (.bool b)
def TE.pv:TE→PV
 | .l x=> .lst .ent x
 | .v u=> .val u
def TS.pv:TS→PV
 | .l x=> .lst .spn x
 | .v u=> .val u
def jA (l:List UInt8):Nat→Nat→List PV
 |_,0=>[]
 |i,m+1=> .val (.int .u8 (l.getD i 0).toNat)::jA l (i+1) m
def vL:Option Nat→Value
 |none=> .pointer none
 |some b=> .pointer (some ⟨b,0,none⟩)
def LK.enc:(k:LK)→k.T→List PV
 | .byt,b=>[.val (.int .u8 b.toNat)]
 | .ints k,n=>[.val (.int k n)]
 | .spn,s=>[i64 s.fr,i64 s.to]
 | .pcs,s=>[i64 s.cl,i64 s.at_,i64 s.n]
 | .ent,e=>[i64 e.kind,i64 e.start,i64 e.count,i64 e.size,.val (.int .u32 e.sum)]
 | .slt,e=>[i64 e.seq,i64 e.start,i64 e.count,.val (.int .u32 e.sum)]
 | .rcd,r=>[i64 r.at_,.lst .byt r.data]
 | .tbl,l=>[.lst .ent l]
 | .bms,b=>[sv b.name,bv b.on,.lst .spn b.l]
 | .sht,s=>[sv s.name,i64 s.size,.lst .tbl s.t]
 | .knw,s=>[.val (.int .u64 s.finger),i64 s.e.kind,i64 s.e.start,i64 s.e.count,i64 s.e.size,.val (.int .u32 s.e.sum)]
 | .bls,b=>[bv b]
 | .tbh,e=>[e.pv]
 | .stp,s=>[i64 s.act,bv s.which,.val (.int .u8 s.fr),.val (.int .u8 s.to)]
 | .act,s=>[i64 s.act,.lst .byt s.b,i64 s.e.kind,i64 s.e.start,i64 s.e.count,i64 s.e.size,.val (.int .u32 s.e.sum)]
 | .bmh,b=>[sv b.name,bv b.on,b.sp.pv]
 | .sec,l=>jA l 0 16
 | .log,r=>sv r.nm::i64 r.at_::jA r.b 0 16
 | .ptr,b=>[.val (.pointer (some ⟨b,0,none⟩))]
 | .lnk,x=>[sv x.nm,sv x.bk]
 | .lin,x=>[i64 x.shot,i64 x.cl,i64 x.e.kind,i64 x.e.start,i64 x.e.count,i64 x.e.size,.val (.int .u32 x.e.sum)]
 | .mta,m=>[i64 m.cl,i64 m.size,sv m.bk,.lst .tbl m.t,.lst .sht m.sh,.lst .bms m.mp,.lst (.ints .i64) m.ct]
 | .str,s=>[sv s]
 | .fn,x=>[.val (.func (.func x.1) #[] (x.2.map fun b=>vL (some b)).toArray)]
theorem LK.enc_len (k:LK) (x:k.T):(k.enc x).length=k.sz:=by cases k<;> rfl
theorem LK.sz_pos (k:LK):0<k.sz:=by cases k<;> simp[LK.sz]
abbrev B5:=Nat→Option Obj
def B5.le (M M':B5):Prop:=∀k o,M k=some o→M' k=some o
def B5.cell (M:B5) (b o:Nat):Option Value:=match M b with
 |some (.cells cs _ _)=>cs[o]?
 |_=>none
def B5.on (M:B5) (w:World):Prop:=∀k o,M k=some o→w.heap[k]? =some o
theorem B5.le_refl (M:B5):M.le M:=fun _ _ h=>h
theorem B5.le_trans {A B C:B5} (h:A.le B) (h':B.le C):A.le C:=fun k o e=>h' k o (h k o e)
theorem B5.cell_le {M M':B5} (h:M.le M') {b o:Nat} {v:Value} (e:M.cell b o=some v):M'.cell b o=some v:=by
 unfold B5.cell at *;cases hb:M b with
 |none=>simp[hb]at e
 |some x=>rw[hb]at e;rw[h b x hb];exact e
theorem B5.cell_on {M:B5} {w:World} (h:M.on w) {b o:Nat} {v:Value} (e:M.cell b o=some v):w.cell? ⟨b,o,none⟩=some v:=by
 unfold B5.cell at e;cases hb:M b with
 |none=>simp[hb]at e
 |some x=>
  rw[hb]at e;have:=h b x hb;cases x<;> simp at e;simp[World.cell?,this,e]
inductive R (M:B5):PV→Value→Prop
 |val {v:Value} (h:v.oneCell'=true):R M (.val v) v
 |nil {k:LK}:R M (.nil k) (.slice none 0 0)
 |lst {k:LK} {l:List k.T} {a:Option Addr} {c:Nat} (hc:l.length≤c) (hm:c≤maxLen) (b o:Nat) (us:Nat→Nat→Value)
  (ha:l≠[]→a=some ⟨b,o,none⟩) (hn:a=none→c=0)
  (hcell:∀i x j y,l[i]? =some x→(k.enc x)[j]? =some y→M.cell b (o+i*k.sz+j)=some (us i j))
  (hR:∀i x j y,l[i]? =some x→(k.enc x)[j]? =some y→R M y (us i j)):
  R M (.lst k l) (.slice a l.length c)
theorem R.mono {M M':B5} (h:M.le M') {x:PV} {v:Value} (r:R M x v):R M' x v:=by
 induction r with
 |val h=>exact .val h
 |nil=>exact .nil
 |lst hc hm b o us ha hn hcell hR ih=>exact .lst hc hm b o us ha hn (fun i x j y h1 h2=>B5.cell_le h (hcell i x j y h1 h2)) ih
theorem R.one {M:B5} {x:PV} {v:Value} (r:R M x v):v.oneCell'=true:=by
 cases r with
 |val h=>exact h
 |nil=>rfl
 |lst=>rfl
theorem R.val_eq {M:B5} {u v:Value} (r:R M (.val u) v):v=u:=by cases r;rfl
theorem R.lst_nil (M:B5) (k:LK):R M (.lst k []) (.slice none 0 0):=
 .lst (Nat.zero_le _) (Nat.zero_le _) 0 0 (fun _ _=> .bool false) (by simp) (by simp) (by simp) (by simp)
theorem R.lst_inv {M:B5} {k:LK} {l:List k.T} {v:Value} (r:R M (.lst k l) v):∃a c b o,v= .slice a l.length c∧l.length≤c∧c≤maxLen∧(l≠[]→a=some ⟨b,o,none⟩)∧(a=none→c=0)∧
 ∀i x j y,l[i]? =some x→(k.enc x)[j]? =some y→∃u,M.cell b (o+i*k.sz+j)=some u∧R M y u:=by
 cases r with
 |lst hc hm b o us ha hn hcell hR=>exact⟨_,_,b,o,rfl,hc,hm,ha,hn,fun i x j y h1 h2=>⟨_,hcell i x j y h1 h2,hR i x j y h1 h2⟩⟩
theorem R.lst_mk {M:B5} {k:LK} {l:List k.T} {a:Option Addr} {n c:Nat} {b o:Nat} (hl:l.length=n) (hc:n≤c) (hm:c≤maxLen)
 (ha:l≠[]→a=some ⟨b,o,none⟩) (hn:a=none→c=0) (h:∀i x j y,l[i]? =some x→(k.enc x)[j]? =some y→∃u,M.cell b (o+i*k.sz+j)=some u∧R M y u):R M (.lst k l) (.slice a n c):=by
 subst hl;refine .lst hc hm b o (fun i j=>(M.cell b (o+i*k.sz+j)).getD undef) ha hn ?_ ?_
 ·intro i x j y h1 h2;obtain⟨u,hu,_⟩:=h i x j y h1 h2;simp[hu]
 ·intro i x j y h1 h2;obtain⟨u,hu,hr⟩:=h i x j y h1 h2;simp[hu,hr]
end Go.Mt
namespace Go
def Value.blk (v:Value):Nat:=v.ownBlock.getD 0
end Go
namespace Go.Mt
open Go.RowKit
inductive C where
 |pv (x:PV)
 |ptr (n b o:Nat)
 |own (n:Nat) (v:Value)
 |cel (cs:List PV)
 |oel (n:Nat) (v:Value) (i sz o:Nat)
 |clo (f:Nat) (caps:List C)
 |mpt (n b:Nat)
 |opt (v:Option Nat)
 |osl (n:Nat) (v:Value) (lo hi sz:Nat)
 |bx (x:C)
def osV (v:Value) (lo hi sz:Nat):Value:=match v with
 | .slice (some ⟨b,o,sp⟩) _ c=> .slice (some ⟨b,if c=lo then o else o+lo*sz,sp⟩) (hi-lo) (c-lo)
 | .slice none _ c=> .slice none (hi-lo) (c-lo)
 |_=> .slice none 0 0
inductive RC (M:B5):C→Value→Prop
 |pv {x:PV} {v:Value} (h:R M x v):RC M (.pv x) v
 |ptr {n b o:Nat}:RC M (.ptr n b o) (.pointer (some ⟨b,o,none⟩))
 |own {n:Nat} {v:Value} (h:v.oneCell'=true):RC M (.own n v) v
 |cel {cs:List PV} (b o:Nat) (us:Nat→Value) (hc:∀j y,cs[j]? =some y→M.cell b (o+j)=some (us j)) (hR:∀j y,cs[j]? =some y→R M y (us j)):RC M (.cel cs) (.pointer (some ⟨b,o,none⟩))
 |oel {n:Nat} {v:Value} {i sz o:Nat}:RC M (.oel n v i sz o) (.pointer (some ⟨v.blk,i*sz+o,none⟩))
 |clo {f:Nat} {caps:List C} {us:Array Value} (hs:us.size=caps.length) (h:∀(j:Nat) (c:C) (u:Value),caps[j]? =some c→us[j]? =some u→RC M c u):RC M (.clo f caps) (.func (.func f) #[] us)
 |mpt {n b:Nat}:RC M (.mpt n b) (.map (some b))
 |opt {v:Option Nat}:RC M (.opt v) (vL v)
 |osl {n:Nat} {v:Value} {lo hi sz:Nat}:RC M (.osl n v lo hi sz) (osV v lo hi sz)
 |bx {x:C} {u:Value} (b o:Nat) (hc:M.cell b o=some u) (h:RC M x u):RC M (.bx x) (.pointer (some ⟨b,o,none⟩))
theorem RC.mono {M M':B5} (h:M.le M') {x:C} {v:Value} (r:RC M x v):RC M' x v:=by
 induction r with
 |pv r=>exact .pv (r.mono h)
 |ptr=>exact .ptr
 |own h=>exact .own h
 |cel b o us hc hR=>exact .cel b o us (fun j y e=>B5.cell_le h (hc j y e)) (fun j y e=>(hR j y e).mono h)
 |oel=>exact .oel
 |clo hs _ ih=>exact .clo hs ih
 |mpt=>exact .mpt
 |opt=>exact .opt
 |osl=>exact .osl
 |bx b o hc _ ih=>exact .bx b o (B5.cell_le h hc) ih
theorem RC.one {M:B5} {x:C} {v:Value} (r:RC M x v):v.oneCell'=true:=by
 cases r with
 |pv r=>exact r.one
 |own h=>exact h
 | @opt v=>cases v<;> rfl
 |osl=>unfold osV;split<;> rfl
 |_=>rfl
inductive A where
 |c (x:C)
 |g (xs:List C)
 |t (xs:List A)
 |u (x:A)
def R8 (M:B5) (xs:List C) (us:List Value):Prop:=us.length=xs.length∧∀(j:Nat) (c:C) (u:Value),xs[j]? =some c→us[j]? =some u→RC M c u
theorem R8.mono {M M':B5} (h:M.le M') {xs:List C} {us:List Value} (r:R8 M xs us):R8 M' xs us:=⟨r.1,fun j c u a b=>(r.2 j c u a b).mono h⟩
inductive RA (M:B5):A→Value→Prop
 |c {x:C} {v:Value} (h:RC M x v):RA M (.c x) v
 |g {xs:List C} {us:Array Value} (h:R8 M xs us.toList):RA M (.g xs) (.agg us)
 |t {xs:List A} {us:Array Value} (hs:us.size=xs.length) (h:∀(j:Nat) (c:A) (u:Value),xs[j]? =some c→us[j]? =some u→RA M c u):RA M (.t xs) (.tuple us)
 |u {x:A} {us:Array Value} {v:Value} (h0:us[0]? =some v) (h:RA M x v):RA M (.u x) (.tuple us)
theorem RA.mono {M M':B5} (h:M.le M') {x:A} {v:Value} (r:RA M x v):RA M' x v:=by
 induction r with
 |c r=>exact .c (r.mono h)
 |g r=>exact .g (r.mono h)
 |t hs _ ih=>exact .t hs ih
 |u h0 _ ih=>exact .u h0 ih
abbrev pv (x:PV):A:= .c (.pv x)
abbrev int (k:IntKind) (n:Int):A:= .c (.pv (.val (.int k n)))
abbrev bool (b:Bool):A:= .c (.pv (.val (.bool b)))
abbrev str (s:List UInt8):A:= .c (.pv (.val (.string ⟨s.toArray⟩)))
abbrev lst (k:LK) (l:List k.T):A:= .c (.pv (.lst k l))
theorem RA.val_inv {M:B5} {u v:Value} (r:RA M (.c (.pv (.val u))) v):v=u:=by
 cases r with|c r=>cases r with|pv r=>exact r.val_eq
inductive KK where
 |str|int|ent|byt
 deriving DecidableEq
abbrev KK.T:KK→Type
 | .str=>List UInt8| .int=>Int| .ent=>B0| .byt=>List UInt8
def KK.enc:(k:KK)→k.T→Value
 | .str,s=> .string ⟨s.toArray⟩
 | .int,n=> .int .i64 n
 | .ent,e=> .agg #[.int .i64 e.kind,.int .i64 e.start,.int .i64 e.count,.int .i64 e.size,.int .u32 e.sum]
 | .byt,l=> .agg (l.map fun x=>Value.int .u8 (x.toNat:Int)).toArray
def KK.dft:(k:KK)→k.T
 | .str=>[]| .int=>0| .ent=>⟨0,0,0,0,0⟩| .byt=>[0,0,0,0]
def KK.wf:(k:KK)→k.T→Prop
 | .byt,l=>l.length=4
 |_,_=>True
def KK.eqb:(k:KK)→k.T→k.T→Bool
 | .str,a,b=>decide (a=b)
 | .int,a,b=>decide (a=b)
 | .ent,a,b=>decide (a=b)
 | .byt,a,b=>decide (a=b)
theorem KK.eqb_iff {k:KK} {a b:k.T}:k.eqb a b=true↔a=b:=by cases k<;> simp[KK.eqb]
def B8q:KK→KK→Bool
 | .str,.str| .int,.int| .ent,.ent| .byt,.byt=>true
 |_,_=>false
theorem A3N {a b:KK} (h:B8q a b=true):a=b:=by cases a<;> cases b<;> first|rfl|cases h
inductive VK where
 |ptr|str|int
 deriving DecidableEq
abbrev VK.T:VK→Type
 | .ptr=>Option Nat| .str=>List UInt8| .int=>Int
def VK.enc:(k:VK)→k.T→Value
 | .ptr,p=>vL p
 | .str,s=> .string ⟨s.toArray⟩
 | .int,n=> .int .i64 n
def VK.dft:(k:VK)→k.T
 | .ptr=>none| .str=>[]| .int=>0
inductive HB where
 |blk (b:Nat) (ty:TypeId) (cs:List C)
 |own (v:Value) (ty:TypeId) (k:LK) (l:List k.T)
 |obj (S:Nat→Prop) (P:B5→World→Prop)
 |mp (b:Nat) (kk:KK) (vk:VK) (l:List (kk.T×vk.T))
 |mpr (b:Nat) (kk:KK) (vk:VK) (l:List (kk.T×vk.T)) (bi:Nat) (vs:List Nat)
def HB.has:HB→Nat→Prop
 | .blk b _ _,c=>some b=some c
 | .own v _ _ _,c=>v.ownBlock=some c
 | .obj S _,c=>S c
 | .mp b _ _ _,c=>b=c
 | .mpr b _ _ _ bi _,c=>b=c∨bi=c
structure K0 (B:Nat→Prop) (w w':World):Prop where
 os:w'.os=w.os
 tape:w'.tape=w.tape
 output:w'.output=w.output
 size:w.heap.size≤w'.heap.size
 block:∀k,B k→w'.heap[k]? =w.heap[k]?
abbrev low (n:Nat):Nat→Prop:=fun k=>k<n
theorem K0.refl (B:Nat→Prop) (w:World):K0 B w w:=⟨rfl,rfl,rfl,Nat.le_refl _,fun _ _=>rfl⟩
theorem K0.trans {B:Nat→Prop} {a b c:World} (h:K0 B a b) (k:K0 B b c):K0 B a c:=
 ⟨k.os.trans h.os,k.tape.trans h.tape,k.output.trans h.output,Nat.le_trans h.size k.size,fun i hi=>(k.block i hi).trans (h.block i hi)⟩
theorem K0.mono {B B':Nat→Prop} {w w':World} (h:K0 B w w') (hB:∀k,B' k→B k):K0 B' w w':=⟨h.os,h.tape,h.output,h.size,fun k hk=>h.block k (hB k hk)⟩
theorem K0.of {B:Nat→Prop} {n:Nat} {w w':World} (h:Below n w w') (hB:∀k,B k→k<n):K0 B w w':=⟨h.os,h.tape,h.output,h.size,fun k hk=>h.block k (hB k hk)⟩
theorem K0.low {n:Nat} {w w':World} (h:K0 (low n) w w'):Below n w w':=⟨h.os,h.tape,h.output,h.size,fun k hk=>h.block k hk⟩
theorem K0.grown {B:Nat→Prop} {a w w':World} {row:Option Nat} (h:K0 B a w) (hg:w.grownBy w' row) (hB:∀k,B k→k<w.heap.size) (hr:∀k,row=some k→¬B k):K0 B a w':=
 h.trans ⟨hg.os,hg.tape,hg.output,hg.size,fun k hk=>hg.block k (hB k hk) (fun e=>hr k e.symm hk)⟩
def F6 (M:B5) (B:Nat→Prop) (w:World) (v:Value) (ty:TypeId) (k:LK) (l:List k.T):Prop:=
 (v= .slice none 0 0∧l=[])∨
 ∃b cap us,v= .slice (some ⟨b,0,none⟩) l.length cap∧¬B b∧M b=none∧w.heap[b]? =some (.cells us ty (0,0))∧l.length≤cap∧cap≤maxLen∧us.size=cap*k.sz∧
  ∀i x j y,l[i]? =some x→(k.enc x)[j]? =some y→∃u,us[i*k.sz+j]? =some u∧R M y u
def B5.cle (M M':B5):Prop:=∀b o v,M.cell b o=some v→M'.cell b o=some v
def B8r:VK→VK→Bool
 | .ptr,.ptr| .str,.str| .int,.int=>true
 |_,_=>false
theorem A3O {a b:VK} (h:B8r a b=true):a=b:=by cases a<;> cases b<;> first|rfl|cases h
def H9 {kk:KK} {V:Type} (l:List (kk.T×V)) (x:kk.T):Option V:=match l with
 |[]=>none
 |p::l=>match kk.eqb x p.1 with
  |true=>some p.2
  |false=>H9 l x
def C1 {kk:KK} {V:Type} (l:List (kk.T×V)) (x:kk.T) (v:V):List (kk.T×V):=match l with
 |[]=>[(x,v)]
 |p::l=>match kk.eqb x p.1 with
  |true=>(p.1,v)::l
  |false=>p::C1 l x v
def Y3 {kk:KK} {V:Type} (l:List (kk.T×V)) (x:kk.T):List (kk.T×V):=match l with
 |[]=>[]
 |p::l=>match kk.eqb x p.1 with
  |true=>l
  |false=>p::Y3 l x
def A5V {V:Type}:Option V→Bool
 |some _=>true
 |none=>false
def O8 {V:Type} (d:V):Option V→V
 |some v=>v
 |none=>d
structure aB (kk:KK) (vk:VK) (l:List (kk.T×vk.T)) (es:Array MapEntry) (clock:Nat):Prop where
 all:es.toList.map (fun e=>(e.key,e.val))=l.map (fun p=>(kk.enc p.1,vk.enc p.2))
 lt:∀(i:Nat) e,es[i]? =some e→e.born<clock
 up:∀(i j:Nat) e f,i<j→es[i]? =some e→es[j]? =some f→e.born<f.born
 wf:∀p∈l,kk.wf p.1
def X2 (M:B5) (B:Nat→Prop) (w:World):HB→Prop
 | .blk b ty cs=>¬B b∧M b=none∧∃us:Array Value,w.heap[b]? =some (.cells us ty (0,0))∧R8 M cs us.toList
 | .own v ty k l=>F6 M B w v ty k l
 | .obj S P=>(∀k,S k→¬B k∧M k=none∧k<w.heap.size)∧∀(M':B5) (w':World),B5.cle M M'→(∀k,S k→M' k=none)→(∀k,S k→w'.heap[k]? =w.heap[k]?)→P M' w'
 | .mp b kk vk l=>¬B b∧M b=none∧∃es clock,w.heap[b]? =some (.map es clock)∧aB kk vk l es clock
 | .mpr b kk vk l bi vs=>(¬B b∧M b=none)∧(¬B bi∧M bi=none)∧b≠bi∧∃es clock seen,w.heap[b]? =some (.map es clock)∧aB kk vk l es clock∧w.heap[bi]? =some (.mapIter (some b) clock seen clock)∧
  seen.toList=vs.reverse.map (fun i=>((es[i]?).map (·.born)).getD 0)∧vs.Nodup∧∀i∈vs,i<l.length
structure E1 (B:Nat→Prop) (W:World) (H:Nat→Option HB) (M:B5) (w:World):Prop where
 below:K0 B W w
 base:∀k,B k→k<w.heap.size
 mem:M.on w
 ok:∀n x,H n=some x→X2 M B w x
 inj:∀n n' x x' b,n≠n'→H n=some x→H n'=some x'→x.has b→¬x'.has b
end Go.Mt
namespace Go.Mt
open Go.RowKit
noncomputable section
inductive TK where
 |int (k:IntKind)|bool|str|slc (e:TypeId) (k:LK)|ptr (e:TypeId)|strct (fs:List (Nat×Nat×Bool))|arr (n:Nat) (e:TypeId)|map (kk:KK) (vk:VK)|other
structure TI where
 kind:TK
 size:Nat
 bytes:Nat
 zero:List C
abbrev Tb:=Nat→Option TI
def TK.agg:TK→Bool
 | .strct _| .arr _ _=>true
 |_=>false
def B3n:Nat→List (Nat×Nat×Bool)→Bool
 |_,[]=>true
 |j,(o,s,b)::l=>Nat.beq o j && Nat.beq s 1 && !b && B3n (j+1) l
def C2I:List C→Bool
 |[]=>true
 | .pv (.val (.int _ _))::l| .pv (.val (.bool _))::l| .pv (.val (.string _))::l=>C2I l
 |_=>false
def C4m:IntKind→IntKind→Bool
 |a,b=>decide (a=b)
def iQ (P:Program):Nat→List C→List Field→Bool
 |_,[],[]=>true
 |j,.pv (.val (.int k _))::zs,f::fs=>Nat.beq f.offset j && decide (f.name≠ "_") && (match P.underlying f.type with|some (.int k')=>C4m k k'|_=>false) && iQ P (j+1) zs fs
 |j,.pv (.val (.bool _))::zs,f::fs=>Nat.beq f.offset j && decide (f.name≠ "_") && (match P.underlying f.type with|some .bool=>true|_=>false) && iQ P (j+1) zs fs
 |j,.pv (.val (.string _))::zs,f::fs=>Nat.beq f.offset j && decide (f.name≠ "_") && (match P.underlying f.type with|some .string=>true|_=>false) && iQ P (j+1) zs fs
 |_,_,_=>false
def A5W:List C→Bool
 |[]=>true
 | .pv (.val (.int _ _))::l=>A5W l
 |_=>false
def C2o (k:TK) (z:List C):Bool:=match k with
 | .strct fs=>B3n 0 fs && C2I z
 | .arr n _=>A5W z && Nat.beq n z.length && Nat.blt 0 n
 |_=>false
def A7j (P:Program) (t:TypeId) (z:List C):Bool:=match P.underlying t with
 |some (.struct fields)=>iQ P 0 z fields.toList && (!P.stoodInHeld t) && !P.eqGuardType P.depth t
 |some (.array n e)=>A5W z && Nat.beq n z.length && (match P.underlying e with|some (.int _)=>true|_=>false) && (match P.info? e with|some i=>Nat.beq i.size 1|none=>false) && !P.eqGuardType P.depth t
 |_=>false
def eI {kk:KK} (x:kk.T):List kk.T→List MapEntry→Nat→Option (Nat×Value)
 |y::l,e::es,i=>match kk.eqb x y with
  |true=>some (i,e.val)
  |false=>eI x l es (i+1)
 |_,_,_=>none
structure C4n (P:Program) (kt:TypeId) (kk:KK):Prop where
 chk:∀(x:kk.T) (em:Bool) (w:World),kk.wf x→(Instr.checkKey em 10000 kt (kk.enc x)).run P w= .ok () w
 find:∀(x:kk.T) (l:List kk.T) (es:List MapEntry) (w:World),kk.wf x→(∀y∈l,kk.wf y)→es.map (·.key)=l.map kk.enc→(Instr.findKey kt (kk.enc x) es).run P w= .ok (eI x l es 0) w
structure wY (P:Program) (t:TypeId) (i:TI):Prop where
 eq:C2o i.kind i.zero=true→A7j P t i.zero=true
 info:∃inf z,P.info? t=some inf∧inf.size=i.size∧inf.bytes=i.bytes∧inf.zero=some z∧z.cells.size=i.size∧∀M,R8 M i.zero z.cells.toList
 und:match i.kind with
  | .int k=>P.underlying t=some (.int k)
  | .bool=>P.underlying t=some .bool
  | .str=>P.underlying t=some .string
  | .slc e k=>P.underlying t=some (.slice e)∧∃inf,P.info? e=some inf∧inf.size=k.sz
  | .ptr e=>P.underlying t=some (.pointer e)
  | .strct fs=>∃fields,P.underlying t=some (.struct fields)∧fields.size=fs.length∧
   ∀(j:Nat) (f:Field) (x:Nat×Nat×Bool),fields[j]? =some f→fs[j]? =some x→f.offset=x.1∧(∃inf d,P.info? f.type=some inf∧inf.size=x.2.1∧P.underlying f.type=some d∧(match d with| .struct _| .array _ _=>true|_=>false)=x.2.2)
  | .arr n e=>P.underlying t=some (.array n e)∧∃inf,P.info? e=some inf
  | .map kk vk=>∃kt et inf,P.underlying t=some (.map kt et)∧C4n P kt kk∧P.info? et=some inf∧inf.zero=some (vk.enc vk.dft)
  | .other=>(match P.underlying t with|some (.struct _)|some (.array _ _)|none=>false|_=>true)=true
def K9 (P:Program) (T:Tb):Prop:=∀t i,T t=some i→wY P t i
def L1:IntKind→Int→Prop
 | .i8,n=> -128≤n∧n≤127
 | .i16,n=> -32768≤n∧n≤32767
 | .i32,n=> -2147483648≤n∧n≤2147483647
 | .i64,n=> -9223372036854775808≤n∧n≤9223372036854775807
 | .u8,n=>0≤n∧n≤255
 | .u16,n=>0≤n∧n≤65535
 | .u32,n=>0≤n∧n≤4294967295
 | .u64,n=>0≤n∧n≤18446744073709551615
theorem bH {k:IntKind} {n:Int} (h:L1 k n):k.wrap n=n:=by
 cases k<;> first|exact IntWalk.i8_in n h|exact IntWalk.i16_in n h|exact IntWalk.i32_in n h|exact IntWalk.i64_in n h|exact IntWalk.u8_in n h|exact IntWalk.u16_in n h|exact IntWalk.u32_in n h|exact IntWalk.u64_in n h
theorem uG (n:Int):0≤IntKind.u8.wrap n:=by rw[IntKind.wrap_u8];omega
theorem uH (n:Int):IntKind.u8.wrap n≤255:=by rw[IntKind.wrap_u8];omega
def B3o (k:IntKind) (a b:Int):Int:=k.wrap ((BitVec.ofInt k.bits a &&& BitVec.ofInt k.bits b).toNat:Int)
def ior (k:IntKind) (a b:Int):Int:=k.wrap ((BitVec.ofInt k.bits a ||| BitVec.ofInt k.bits b).toNat:Int)
def fG (k:IntKind) (a b:Int):Int:=k.wrap ((BitVec.ofInt k.bits a ^^^ BitVec.ofInt k.bits b).toNat:Int)
def qN:IntKind→IntKind→Bool
 | .i8,.i8| .i16,.i16| .i32,.i32| .i64,.i64| .u8,.u8| .u16,.u16| .u32,.u32| .u64,.u64=>true
 |_,_=>false
theorem cK {a b:IntKind} (h:qN a b=true):a=b:=by cases a<;> cases b<;> first|rfl|cases h
def C4o:IntKind→Bool| .i64=>true|_=>false
def wrm (wm:Bool) (k:IntKind):Bool:=match C4o k with|true=>wm|false=> !wm
def wrp (wm:Bool) (k:IntKind) (n:Int):A×Prop:=match wm with
 |true=>(int k (k.wrap n),True)
 |false=>(int k n,L1 k n)
def bar (wm:Bool) (k:IntKind) (a b:Int):BinOp→Option (A×Prop)
 | .add=>some (wrp wm k (a+b))
 | .sub=>some (wrp wm k (a-b))
 | .mul=>some (wrp wm k (a*b))
 | .quo=>some (int k (a / b),(0≤a∧0<b)∧L1 k (a / b))
 | .rem=>some (int k (a%b),0≤a∧0<b)
 | .and=>some (int k (B3o k a b),True)
 | .or=>some (int k (ior k a b),True)
 | .xor=>some (int k (fG k a b),True)
 | .eql=>some (bool (decide (a=b)),True)
 | .neq=>some (bool (!decide (a=b)),True)
 | .lss=>some (bool (decide (a<b)),True)
 | .leq=>some (bool (decide (a≤b)),True)
 | .gtr=>some (bool (decide (b<a)),True)
 | .geq=>some (bool (decide (b≤a)),True)
 |_=>none
def bin (wm:Bool) (op:BinOp):A→A→Option (A×Prop)
 | .c (.pv (.val (.int k a))),.c (.pv (.val (.int k' b)))=>
  match op with
  | .shl=>match wrm wm k with
   |true=>some (int k (k.wrap (a*2 ^ b.toNat)),0≤b∧b≤k.bits)
   |false=>some (int k (a*2 ^ b.toNat),(0≤b∧b≤k.bits)∧L1 k (a*2 ^ b.toNat))
  | .shr=>some (int k (a / 2 ^ b.toNat),0≤b∧b≤k.bits)
  |op=>match qN k k' with
   |true=>bar (wrm wm k) k a b op
   |false=>none
 | .c (.pv (.val (.string ⟨⟨s⟩⟩))),.c (.pv (.val (.string ⟨⟨t⟩⟩)))=>
  match op with
  | .eql=>some (bool (decide (s=t)),True)
  | .neq=>some (bool (!decide (s=t)),True)
  |_=>none
 |_,_=>none
section
variable {P : Program} {w : World}
theorem C2p {wm:Bool} {k:IntKind} {a b:Int} {op:BinOp} {x:A} {ob:Prop} (h:bar wm k a b op=some (x,ob)) (hob:ob) (hs:op≠ .shl∧op≠ .shr) (xT:TypeId):
 ∃v,x= .c (.pv (.val v))∧v.oneCell'=true∧(Go.binOp op xT (.int k a) (.int k b)).run P w= .ok v w:=by
 cases op<;> simp only[bar,Option.some.injEq,reduceCtorEq]at h<;> (try (simp at hs;done))
 case add=>cases wm<;> simp only[wrp,Prod.mk.injEq]at h<;> obtain⟨rfl,rfl⟩:=h<;> refine⟨_,rfl,rfl,?_⟩<;> simp[Go.binOp,Op.intArith]<;> exact bH hob
 case sub=>cases wm<;> simp only[wrp,Prod.mk.injEq]at h<;> obtain⟨rfl,rfl⟩:=h<;> refine⟨_,rfl,rfl,?_⟩<;> simp[Go.binOp,Op.intArith]<;> exact bH hob
 case mul=>cases wm<;> simp only[wrp,Prod.mk.injEq]at h<;> obtain⟨rfl,rfl⟩:=h<;> refine⟨_,rfl,rfl,?_⟩<;> simp[Go.binOp,Op.intArith]<;> exact bH hob
 case quo=>
  simp only[Prod.mk.injEq]at h;obtain⟨rfl,rfl⟩:=h;obtain⟨⟨h0,h1⟩,h2⟩:=hob;refine⟨_,rfl,rfl,?_⟩;have e:a.tdiv b=a / b:=Int.tdiv_eq_ediv_of_nonneg h0;have hb:b≠0:=by omega
  simp[Go.binOp,Op.intDiv,hb,e,bH h2]
 case rem=>
  simp only[Prod.mk.injEq]at h;obtain⟨rfl,rfl⟩:=h;obtain⟨h0,h1⟩:=hob;refine⟨_,rfl,rfl,?_⟩;have e:a.tmod b=a%b:=Int.tmod_eq_emod_of_nonneg h0;have hb:b≠0:=by omega
  simp[Go.binOp,Op.intDiv,hb,e]
 all_goals
  simp only[Prod.mk.injEq]at h;obtain⟨rfl,rfl⟩:=h;refine⟨_,rfl,rfl,?_⟩;simp[Go.binOp,Op.intBits,Op.intCmp,B3o,ior,fG]
  try (first|rfl|(cases h:decide (a=b)<;> simp_all))
theorem K1 (op:BinOp) (t:TypeId) (x y:Operand) (a b:Value) (h:(match a,b with| .nilIface,.nilIface=>false| .agg _,.agg _=>false|_,_=>true)=true):(eqGuard op t x y a b).run P w= .ok () w:=by
 cases op<;> first
  |rfl
  |(cases a<;> first|rfl|(cases b<;> first|rfl|(cases h)))
theorem C2q {wm:Bool} {op:BinOp} {M:B5} {xa ya:A} {xv yv:Value} (hx:RA M xa xv) (hy:RA M ya yv) {x:A} {ob:Prop} (h:bin wm op xa ya=some (x,ob)) (hob:ob) (xT:TypeId) (ox oy:Operand):
 ∃v,x= .c (.pv (.val v))∧v.oneCell'=true∧(do eqGuard op xT ox oy xv yv;Go.binOp op xT xv yv:Sem Value).run P w= .ok v w:=by
 unfold bin at h;split at h
 ·rename_i k a k' b;have ex:=hx.val_inv;have ey:=hy.val_inv;subst ex ey;rw[Sem.run_bind,K1 _ _ _ _ _ _ rfl];simp only[Result.andThen_ok];split at h
  ·cases hw:(wrm wm k)<;> simp only[hw,Option.some.injEq,Prod.mk.injEq]at h<;> obtain⟨rfl,rfl⟩:=h<;> refine⟨_,rfl,rfl,?_⟩
   ·obtain⟨⟨h0,h1⟩,h2⟩:=hob;have hb:¬b<0:=by omega
    have hm:min b.toNat k.bits=b.toNat:=by omega
    simp[Go.binOp,Op.shift,hb,hm,bH h2]
   ·obtain⟨h0,h1⟩:=hob;have hb:¬b<0:=by omega
    have hm:min b.toNat k.bits=b.toNat:=by omega
    simp[Go.binOp,Op.shift,hb,hm]
  ·simp only[Option.some.injEq,Prod.mk.injEq]at h;obtain⟨rfl,rfl⟩:=h;obtain⟨h0,h1⟩:=hob;refine⟨_,rfl,rfl,?_⟩;have hb:¬b<0:=by omega
   have hm:min b.toNat k.bits=b.toNat:=by omega
   have hp:(0:Int)≤2 ^ b.toNat:=Int.pow_nonneg (by omega);simp[Go.binOp,Op.shift,hb,hm,Int.fdiv_eq_ediv_of_nonneg _ hp]
  ·rename_i h1 h2;split at h
   ·rename_i hk;have:=cK hk;subst this;exact C2p h hob ⟨fun e=>h1 e,fun e=>h2 e⟩ xT
   ·cases h
 ·rename_i s t;have ex:=hx.val_inv;have ey:=hy.val_inv;subst ex ey;rw[Sem.run_bind,K1 _ _ _ _ _ _ rfl];simp only[Result.andThen_ok];split at h
  ·simp only[Option.some.injEq,Prod.mk.injEq]at h;obtain⟨rfl,rfl⟩:=h;exact⟨_,rfl,rfl,by simp[Go.binOp,Op.stringOp];(first|rfl|(rw[Bool.eq_iff_iff];simp))⟩
  ·simp only[Option.some.injEq,Prod.mk.injEq]at h;obtain⟨rfl,rfl⟩:=h;exact⟨_,rfl,rfl,by simp[Go.binOp,Op.stringOp];(first|rfl|(rw[Bool.eq_iff_iff];simp))⟩
  ·cases h
 ·cases h
end
def X0 {α:Type}:List α→Nat→Option α
 |[],_=>none
 |x::_,0=>some x
 |_::l,n+1=>X0 l n
theorem G0 {α:Type} (l:List α) (n:Nat):X0 l n=l[n]? :=by
 induction l generalizing n with
 |nil=>simp[X0]
 |cons x l ih=>cases n<;> simp[X0,ih]
def Q6 {α:Type}:Nat→List α→List α
 |0,l=>l
 |_+1,[]=>[]
 |n+1,_::l=>Q6 n l
theorem Q0 {α:Type} (n:Nat) (l:List α):Q6 n l=l.drop n:=by
 induction n generalizing l with
 |zero=>simp[Q6]
 |succ n ih=>cases l<;> simp[Q6,ih]
def tke {α:Type}:Nat→List α→List α
 |0,_=>[]
 |_+1,[]=>[]
 |n+1,x::l=>x::tke n l
theorem aC {α:Type} (n:Nat) (l:List α):tke n l=l.take n:=by
 induction n generalizing l with
 |zero=>simp[tke]
 |succ n ih=>cases l<;> simp[tke,ih]
def len {α:Type}:List α→Nat
 |[]=>0
 |_::l=>len l+1
theorem O9 {α:Type} (l:List α):len l=l.length:=by induction l<;> simp[len, *]
def ldA (T:Tb) (t:TypeId) (cs:List C):Option A:=
 match T t with
 |some i=>match i.kind.agg with
  |true=>match Nat.ble i.size (len cs)with
   |true=>some (.g (tke i.size cs))
   |false=>none
  |false=>match cs with
   |c::_=>some (.c c)
   |[]=>none
 |none=>none
def A.cells:A→Option (List C)
 | .c x=>some [x]
 | .g xs=>some xs
 | .t _=>none
 | .u _=>none
def A2T (fs:List (Nat×Nat×Bool)) (cs:List C):List (Nat×A)→Option (List C)
 |[]=>some cs
 |(i,a)::rest=>match X0 fs i,a.cells with
  |some (off,size,_),some new=>match Nat.beq (len new) size && Nat.ble (off+size) (len cs)with
   |true=>A2T fs (tke off cs++new++Q6 (off+size) cs) rest
   |false=>none
  |_,_=>none
def A3P (v:Value):Option A:=match v with
 | .bool _| .int _ _| .string _| .nilFunc| .nilIface=>some (pv (.val v))
 | .pointer none=>some (pv (.val v))
 |_=>none
def rdT (T:Tb) (ty:TypeId) (rd:Operand→Option A):Operand→Option A
 | .const (.slice none 0 0)=>match T ty with
  |some ⟨.slc _ k,_,_,_⟩=>some (pv (.nil k))
  |_=>none
 | .const (.agg cs)=>match T ty with
  |some ⟨.strct _,n,_,z⟩=>none
  |_=>none
 |o=>rd o
def U9:A→Option Int
 | .c (.pv (.val (.int _ n)))=>some n
 |_=>none
def A5X (n:Nat) (lo hi mx:Option A):Option (Int×Int×Prop):=
 match lo,hi,mx with
 |none,none,none=>some (0,n,True)
 |some l,none,none=>match U9 l with|some l=>some (l,n,0≤l∧l≤n)|none=>none
 |none,some h,none=>match U9 h with|some h=>some (0,h,0≤h∧h≤n)|none=>none
 |some l,some h,none=>match U9 l,U9 h with|some l,some h=>some (l,h,(0≤l∧l≤h)∧h≤n)|_,_=>none
 |some l,some h,some m=>match U9 l,U9 h,U9 m with|some l,some h,some m=>some (l,h,(0≤l∧l≤h)∧(h≤m∧m≤n))|_,_,_=>none
 |_,_,_=>none
def B8s (n c:Nat) (lo hi mx:Option A):Option (Int×Int×Int×Prop):=
 match lo,hi,mx with
 |none,none,none=>some (0,n,c,n≤c)
 |some l,none,none=>match U9 l with|some l=>some (l,n,c,(0≤l∧l≤n)∧n≤c)|none=>none
 |none,some h,none=>match U9 h with|some h=>some (0,h,c,0≤h∧h≤c)|none=>none
 |some l,some h,none=>match U9 l,U9 h with|some l,some h=>some (l,h,c,(0≤l∧l≤h)∧h≤c)|_,_=>none
 |some l,some h,some m=>match U9 l,U9 h,U9 m with|some l,some h,some m=>some (l,h,m,(0≤l∧l≤h)∧(h≤m∧m≤c))|_,_,_=>none
 |_,_,_=>none
def sli (b o:Nat) (l h m s:Nat):Value:= .slice (some ⟨b,if m=l then o else o+l*s,none⟩) (h-l) (m-l)
def eC (rd:Operand→Option A):Option Operand→Option (Option A)
 |none=>some none
 |some o=>match rd o with|some x=>some (some x)|none=>none
def aD (rd:Operand→Option A):List Operand→Option (List A)
 |[]=>some []
 |o::l=>match rd o,aD rd l with
  |some x,some xs=>some (x::xs)
  |_,_=>none
def W0 (T:Tb) (rd:Operand→Option A):List (Nat×Operand)→Option (List (Nat×A))
 |[]=>some []
 |(i,o)::l=>match rd o,W0 T rd l with
  |some x,some xs=>some ((i,x)::xs)
  |_,_=>none
def B3p:A→Option C
 | .c x=>some x
 |_=>none
def cellsOf:List A→Option (List C)
 |[]=>some []
 |a::l=>match B3p a,cellsOf l with
  |some x,some xs=>some (x::xs)
  |_,_=>none
def oE (H:Nat→Option HB):A→Option ((k:LK)×List k.T×Prop)
 | .c (.pv (.lst k l))=>some ⟨k,l,True⟩
 | .c (.pv (.nil k))=>some ⟨k,[],True⟩
 | .c (.own n v)=>match H n with
  |some (.own v' _ k l)=>some ⟨k,l,v=v'⟩
  |_=>none
 | .c (.osl n v lo hi s)=>match H n with
  |some (.own v' _ k l)=>some ⟨k,(l.take hi).drop lo,(v=v'∧s=k.sz)∧lo≤hi∧hi≤l.length⟩
  |_=>none
 |_=>none
def cvw:IntKind→Bool| .i64| .u64=>false|_=>true
def cnv (T:Tb) (wm:Bool) (dst:TypeId):A→Option (A×Prop)
 | .c (.pv (.val (.int _ n)))=>match T dst with
  |some ⟨.int k,_,_,_⟩=>some (wrp (wm !=cvw k) k n)
  |_=>none
 | .c (.pv (.val (.string s)))=>match T dst with
  |some ⟨.str,_,_,_⟩=>some (pv (.val (.string s)),True)
  |_=>none
 |_=>none
def B1G (T:Tb) (H:Nat→Option HB) (dst:TypeId) (x:A):Option (A×Prop):=match oE H x,T dst with
 |some ⟨.byt,l,ob⟩,some ⟨.str,_,_,_⟩=>some (str l,ob)
 |_,_=>none
def C2J:List (Nat×A)→Bool
 |[]=>true
 |(_,.c (.own _ _))::_=>false
 |_::l=>C2J l
def qO:List C→List C→List C→Option Bool
 |[],[],[]=>some true
 | .pv (.val (.int _ _))::zs,.pv (.val (.int k a))::xs,.pv (.val (.int k' b))::ys=>match qN k k',qO zs xs ys with
  |true,some r=>some (decide (a=b) && r)
  |_,_=>none
 | .pv (.val (.bool _))::zs,.pv (.val (.bool a))::xs,.pv (.val (.bool b))::ys=>match qO zs xs ys with
  |some r=>some (decide (a=b) && r)
  |_=>none
 | .pv (.val (.string _))::zs,.pv (.val (.string ⟨⟨a⟩⟩))::xs,.pv (.val (.string ⟨⟨b⟩⟩))::ys=>match qO zs xs ys with
  |some r=>some (decide (a=b) && r)
  |_=>none
 |_,_,_=>none
def C2r (T:Tb) (t:TypeId) (op:BinOp):A→A→Option (A×Prop)
 | .c (.pv (.val (.bool a))),.c (.pv (.val (.bool b)))=>match T t with
  |some ⟨.bool,_,_,_⟩=>match op with
   | .eql=>some (bool (decide (a=b)),True)
   | .neq=>some (bool (!decide (a=b)),True)
   |_=>none
  |_=>none
 | .c (.pv (.val (.pointer none))),.c (.pv (.val (.pointer none)))=>match T t with
  |some ⟨.ptr _,_,_,_⟩=>match op with
   | .eql=>some (bool true,True)
   | .neq=>some (bool false,True)
   |_=>none
  |_=>none
 | .c (.ptr _ _ _),.c (.pv (.val (.pointer none)))=>match T t with
  |some ⟨.ptr _,_,_,_⟩=>match op with
   | .eql=>some (bool false,True)
   | .neq=>some (bool true,True)
   |_=>none
  |_=>none
 | .g xs,.g ys=>match T t with
  |some i=>match C2o i.kind i.zero,qO i.zero xs ys with
   |true,some r=>match op with
    | .eql=>some (bool r,True)
    | .neq=>some (bool (!r),True)
    |_=>none
   |_,_=>none
  |none=>none
 |_,_=>none
def wZ:List C→Option (List UInt8×Prop)
 |[]=>some ([],True)
 | .pv (.val (.int .u8 n))::l=>match wZ l with
  |some (xs,p)=>some (UInt8.ofNat n.toNat::xs,(0≤n∧n≤255)∧p)
  |none=>none
 |_=>none
theorem A3Q:∀{cs:List C} {l:List UInt8} {ob:Prop},wZ cs=some (l,ob)→ob→cs=(l.map fun x=>PV.val (.int .u8 (x.toNat:Int))).map .pv:=by
 intro cs
 induction cs with
 |nil=>intro l ob h _;cases h;rfl
 |cons c cs ih=>
  intro l ob h hob;unfold wZ at h;split at h
  ·rename_i e;cases e
  ·rename_i n l' e;cases e;split at h
   ·rename_i xs p hd;cases h;simp only[List.map_cons];rw[←ih hd hob.2];have:((UInt8.ofNat n.toNat).toNat:Int)=n:=by
     rw[UInt8.toNat_ofNat'];omega
    rw[this]
   ·cases h
  ·cases h
def A5Y:(kk:KK)→A→Option (kk.T×Prop)
 | .str,.c (.pv (.val (.string ⟨⟨s⟩⟩)))=>some (s,True)
 | .int,.c (.pv (.val (.int .i64 n)))=>some (n,True)
 | .ent,.g [.pv (.val (.int .i64 a)),.pv (.val (.int .i64 b)),.pv (.val (.int .i64 c)),.pv (.val (.int .i64 d)),.pv (.val (.int .u32 e))]=>some (⟨a,b,c,d,e⟩,True)
 | .byt,.g cs=>match wZ cs with
  |some (l,p)=>some (l,p∧l.length=4)
  |none=>none
 |_,_=>none
def vkA:(vk:VK)→vk.T→A
 | .ptr,v=> .c (.opt v)
 | .str,v=>str v
 | .int,v=>int .i64 v
def kkA:(kk:KK)→kk.T→A
 | .str,s=>str s
 | .int,n=>int .i64 n
 | .ent,e=> .g [.pv (.val (.int .i64 e.kind)),.pv (.val (.int .i64 e.start)),.pv (.val (.int .i64 e.count)),.pv (.val (.int .i64 e.size)),.pv (.val (.int .u32 e.sum))]
 | .byt,l=> .g (l.map fun x=> .pv (.val (.int .u8 (x.toNat:Int))))
def K2 (T:Tb) (H:Nat→Option HB) (wm:Bool) (rd:Operand→Option A) (ty:TypeId):Op→Option (A×Prop)
 | .move x| .assign x=>match rdT T ty rd x with
  |some a=>some (a,True)
  |none=>none
 | .binOp op t x y _=>match rd x,rd y with
  |some a,some b=>match bin wm op a b with
   |some r=>some r
   |none=>C2r T t op a b
  |_,_=>none
 | .unOp op _ x=>match op,rd x with
  | .not,some (.c (.pv (.val (.bool b))))=>some (bool (!b),True)
  |_,_=>none
 | .convert src dst x=>match T src,rd x with
  |some ⟨.slc e _,_,_,_⟩,some a=>match T e with
   |some ⟨.int .u8,_,_,_⟩=>B1G T H dst a
   |_=>none
  |some _,some a=>cnv T wm dst a
  |_,_=>none
 | .extract x i=>match rd x with
  |some (.t xs)=>match X0 xs i with
   |some a=>some (a,True)
   |none=>none
  |some (.u x)=>match Nat.beq i 0 with
   |true=>some (x,True)
   |false=>none
  |_=>none
 | .field xT x f=>match T xT,rd x with
  |some ⟨.strct fs,_,_,_⟩,some (.g cs)=>match X0 fs f with
   |some (off,size,true)=>some (.g (tke size (Q6 off cs)),True)
   |some (off,_,false)=>match Q6 off cs with
    |c::_=>some (.c c,True)
    |[]=>none
   |none=>none
  |_,_=>none
 | .fieldAddr sT x f=>match T sT with
  |some ⟨.strct fs,_,_,_⟩=>match X0 fs f with
   |some (off,size,_)=>match Nat.ble 1 size,rd x with
    |true,some (.c (.ptr n b o))=>some (.c (.ptr n b (o+off)),True)
    |true,some (.c (.cel cs))=>some (.c (.cel (Q6 off cs)),True)
    |true,some (.c (.oel n v i sz o))=>some (.c (.oel n v i sz (o+off)),True)
    |_,_=>none
   |none=>none
  |_=>none
 | .indexAddr t x i=>match T t,rd x,rd i with
  |some ⟨.slc _ k',_,_,_⟩,some (.c (.pv (.lst k l))),some (.c (.pv (.val (.int _ i))))=>
   match Nat.beq k'.sz k.sz with
   |true=>some (.c (.cel (k.enc (l.getD i.toNat k.dft))),0≤i∧i<l.length)
   |false=>none
  |some ⟨.slc _ k',_,_,_⟩,some (.c (.own n v)),some (.c (.pv (.val (.int _ i))))=>match H n with
   |some (.own v' _ k l)=>match Nat.beq k'.sz k.sz with
    |true=>some (.c (.oel n v i.toNat k.sz 0),v=v'∧0≤i∧i<l.length)
    |false=>none
   |_=>none
  |some ⟨.slc _ k',_,_,_⟩,some (.c (.osl n v lo hi s)),some (.c (.pv (.val (.int _ i))))=>match H n with
   |some (.own v' _ k l)=>match Nat.beq k'.sz k.sz with
    |true=>some (.c (.oel n v (lo+i.toNat) k.sz 0),(v=v'∧s=k.sz)∧(0≤i∧i<hi-lo)∧hi≤l.length)
    |false=>none
   |_=>none
  |some ⟨.arr N e,_,_,_⟩,some (.c (.ptr n b 0)),some (.c (.pv (.val (.int _ i))))=>match T e,H n with
   |some ie,some (.own v' _ k l)=>match Nat.beq ie.size k.sz with
    |true=>some (.c (.oel n v' i.toNat k.sz 0),b=v'.blk∧(0≤i∧i<N)∧l.length=N)
    |false=>some (.c (.oel n v' i.toNat ie.size 0),b=v'.blk∧(0≤i∧i<N))
   |some ie,some (.blk b' _ _)=>some (.c (.ptr n b (i.toNat*ie.size)),0≤i∧i<N)
   |_,_=>none
  |some ⟨.arr N e,_,_,_⟩,some (.c (.oel n v q sz o)),some (.c (.pv (.val (.int _ i))))=>match T e,H n with
   |some ie,some (.own v' _ k l)=>match Nat.beq ie.size 1 && Nat.beq k.sz 1 with
    |true=>some (.c (.oel n v (q*sz+o+i.toNat) 1 0),0≤i∧i<N)
    |false=>none
   |_,_=>none
  |some ⟨.arr N e,_,_,_⟩,some (.c (.ptr n b o)),some (.c (.pv (.val (.int _ i))))=>match T e,H n with
   |some ie,some (.blk b' _ _)=>some (.c (.ptr n b (o+i.toNat*ie.size)),0≤i∧i<N)
   |_,_=>none
  |_,_,_=>none
 | .load t x=>match rd x with
  |some (.c (.ptr n b o))=>match H n with
   |some (.blk b' _ cs)=>match ldA T t (Q6 o cs)with
    |some a=>some (a,b=b')
    |none=>none
   |some (.own v' _ .byt l)=>match T t with
    |some ⟨.arr N _,_,_,_⟩=>match Nat.beq o 0 && Nat.ble 1 N,ldA T t ((jA l 0 N).map .pv)with
     |true,some a=>some (a,b=v'.blk∧l.length=N)
     |_,_=>none
    |_=>none
   |_=>none
  |some (.c (.cel cs))=>match ldA T t (cs.map .pv)with
   |some a=>some (a,True)
   |none=>none
  |some (.c (.oel n v i sz o))=>match H n with
   |some (.own v' _ k l)=>match ldA T t ((Q6 o (k.enc (l.getD i k.dft))).map .pv)with
    |some a=>some (a,(v=v'∧sz=k.sz)∧i<l.length)
    |none=>none
   |_=>none
  |_=>none
 | .slice t x lo hi mx=>match rd x,eC rd lo,eC rd hi,eC rd mx with
  |some (.c (.pv (.lst k l))),some lo,some hi,some mx=>match T t with
   |some ⟨.slc _ k',_,_,_⟩=>match Nat.beq k'.sz k.sz,A5X l.length lo hi mx with
    |true,some (lo,hi,ob)=>some (lst k ((l.take hi.toNat).drop lo.toNat),ob)
    |_,_=>none
   |_=>none
  |some (.c (.own n v)),some lo,some hi,some none=>match T t,H n with
   |some ⟨.slc _ k',_,_,_⟩,some (.own v' _ k l)=>match Nat.beq k'.sz k.sz,A5X l.length lo hi none with
    |true,some (lo,hi,ob)=>some (.c (.osl n v lo.toNat hi.toNat k.sz),v=v'∧ob)
    |_,_=>none
   |_,_=>none
  |some (.c (.pv (.val (.string ⟨⟨l⟩⟩)))),some lo,some hi,some none=>match T t with
   |some ⟨.str,_,_,_⟩=>match A5X l.length lo hi none with
    |some (lo,hi,ob)=>some (str ((l.take hi.toNat).drop lo.toNat),ob)
    |none=>none
   |_=>none
  |some (.c (.pv (.val (.slice (some ⟨b,o,none⟩) n c)))),some lo,some hi,some mx=>match T t with
   |some ⟨.slc _ k',_,_,_⟩=>match B8s n c lo hi mx with
    |some (l,h,m,ob)=>some (pv (.val (sli b o l.toNat h.toNat m.toNat k'.sz)),ob)
    |none=>none
   |_=>none
  |some (.c (.pv (.val (.slice none n c)))),some lo,some hi,some mx=>match T t with
   |some ⟨.slc _ k',_,_,_⟩=>match B8s n c lo hi mx with
    |some (l,h,m,ob)=>some (pv (.val (.slice none (h.toNat-l.toNat) (m.toNat-l.toNat))),ob)
    |none=>none
   |_=>none
  |_,_,_,_=>none
 | .build t ⟨ps⟩=>match T t with
  |some ⟨.strct fs,_,_,z⟩=>match W0 T rd ps with
   |some ps=>match C2J ps,A2T fs z ps with
    |true,some cs=>some (.g cs,True)
    |_,_=>none
   |none=>none
  |_=>none
 | .call ⟨.builtin .len,⟨[x]⟩,⟨[t]⟩⟩=>match rd x with
  |some (.c (.pv (.val (.string ⟨⟨l⟩⟩))))=>match T t with
   |some ⟨.str,_,_,_⟩=>some (int .i64 l.length,True)
   |_=>none
  |some (.c (.pv (.val (.slice _ n _))))=>match T t with
   |some ⟨.slc _ _,_,_,_⟩=>some (int .i64 n,True)
   |_=>none
  |some (.c (.mpt n b))=>match T t,H n with
   |some ⟨.map _ _,_,_,_⟩,some (.mp b' _ _ l)=>some (int .i64 l.length,b=b')
   |_,_=>none
  |some a=>match oE H a,T t with
   |some ⟨_,l,ob⟩,some ⟨.slc _ _,_,_,_⟩=>some (int .i64 l.length,ob)
   |_,_=>none
  |none=>none
 | .call ⟨.builtin .min,⟨[x,y]⟩,_⟩=>match rd x,rd y with
  |some (.c (.pv (.val (.int k a)))),some (.c (.pv (.val (.int k' b))))=>match qN k k' with
   |true=>some (int k (min a b),True)
   |false=>none
  |_,_=>none
 | .call ⟨.builtin .max,⟨[x,y]⟩,_⟩=>match rd x,rd y with
  |some (.c (.pv (.val (.int k a)))),some (.c (.pv (.val (.int k' b))))=>match qN k k' with
   |true=>some (int k (max a b),True)
   |false=>none
  |_,_=>none
 | .nilCheck x=>match rd x with
  |some (.c (.ptr n b o))=>some (.c (.ptr n b o),True)
  |some (.c (.cel cs))=>some (.c (.cel cs),True)
  |some (.c (.oel n v i sz o))=>some (.c (.oel n v i sz o),True)
  |_=>none
 | .makeFunc (.func f) ⟨[]⟩ ⟨caps⟩=>match aD rd caps with
  |some l=>match cellsOf l with
   |some cs=>some (.c (.clo f cs),True)
   |none=>none
  |none=>none
 | .index t x i=>match T t,rd x,rd i with
  |some ⟨.str,_,_,_⟩,some (.c (.pv (.val (.string ⟨⟨l⟩⟩)))),some (.c (.pv (.val (.int _ i))))=>
   some (int .u8 (l.getD i.toNat 0).toNat,0≤i∧i<l.length)
  |_,_,_=>none
 | .sliceToArrayPointer arr x=>match T arr,rd x with
  |some ⟨.arr N _,_,_,_⟩,some (.c (.pv (.lst .byt l)))=>match Nat.ble 1 N with
   |true=>some (.c (.cel (jA l 0 N)),N≤l.length)
   |false=>none
  |_,_=>none
 | .lookup t x i ok=>match T t,rd x,rd i with
  |some ⟨.map kk vk,_,_,_⟩,some (.c (.mpt n b)),some ia=>match H n with
   |some (.mp b' kk' vk' l)=>match B8q kk kk' && B8r vk vk',A5Y kk' ia with
    |true,some (k,ob)=>some (match ok with|true=> .t [vkA vk' (O8 vk'.dft (H9 l k)),bool (A5V (H9 l k))]|false=>vkA vk' (O8 vk'.dft (H9 l k)),b=b'∧ob)
    |_,_=>none
   |_=>none
  |_,_,_=>none
 |_=>none
section
variable {P : Program} {T : Tb} {w : World} {M : B5} {B : Nat → Prop} {W : World} {H : Nat → Option HB}
theorem vW {kk:KK} {x:A} {v:Value} {k:kk.T} {ob:Prop} (h:A5Y kk x=some (k,ob)) (hob:ob) (r:RA M x v):v=kk.enc k∧kk.wf k:=by
 unfold A5Y at h;split at h
 ·cases h;exact⟨r.val_inv,trivial⟩
 ·cases h;exact⟨r.val_inv,trivial⟩
 ·cases h;cases r with
  | @g _ us hr=>
  obtain⟨l⟩:=us;refine⟨?_,trivial⟩;have hl:=hr.1
  match l,hl,hr with
  |[u0,u1,u2,u3,u4],_,hr=>
   have e0:=hr.2 0 _ _ rfl rfl;have e1:=hr.2 1 _ _ rfl rfl;have e2:=hr.2 2 _ _ rfl rfl;have e3:=hr.2 3 _ _ rfl rfl;have e4:=hr.2 4 _ _ rfl rfl;cases e0 with|pv e0=>cases e1 with|pv e1=>cases e2 with|pv e2=>cases e3 with|pv e3=>cases e4 with|pv e4=>
   rw[e0.val_eq,e1.val_eq,e2.val_eq,e3.val_eq,e4.val_eq];rfl
 ·rename_i cs;cases hd:wZ cs with
  |none=>rw[hd]at h;cases h
  |some lp=>
   obtain⟨l,p⟩:=lp;rw[hd]at h;cases h;cases r with
   | @g _ us hr=>
   refine⟨?_,hob.2⟩;have hcs:=A3Q hd hob.1;subst hcs;simp only[KK.enc]
   congr 1
   apply Array.ext';refine List.ext_getElem? fun j=>?_
   rw[List.getElem?_map];have hl:=hr.1;simp only[List.length_map]at hl;cases hj:k[j]? with
   |none=>rw[List.getElem?_eq_none_iff]at hj;rw[List.getElem?_eq_none_iff.2 (by omega)];rfl
   |some b=>
    have hlt:j<us.toList.length:=by have:=(gS_.1 hj).1;omega
    have:=hr.2 j _ _ (by rw[List.getElem?_map,List.getElem?_map,hj];rfl) (gE_ hlt);rw[gE_ hlt];cases this with|pv q=>rw[q.val_eq];rfl
 ·cases h
theorem xA (vk:VK) (v:vk.T):RA M (vkA vk v) (vk.enc v):=by
 cases vk with
 |ptr=>exact .c .opt
 |str=>exact .c (.pv (.val rfl))
 |int=>exact .c (.pv (.val rfl))
theorem gK {n b:Nat} {v:Value} (r:RA M (.c (.mpt n b)) v):v= .map (some b):=by
 cases r with|c r=>cases r;rfl
theorem A2U {kk:KK} {vk:VK} {x:kk.T}:∀{l:List (kk.T×vk.T)} {es:List MapEntry} {i:Nat},es.map (fun e=>(e.key,e.val))=l.map (fun p=>(kk.enc p.1,vk.enc p.2))→
 (eI x (l.map (·.1)) es i).map (·.2)=(H9 l x).map vk.enc:=by
 intro l
 induction l with
 |nil=>intro es i h;cases es with
  |nil=>rfl
  |cons=>simp at h
 |cons p l ih=>
  intro es i h;cases es with
  |nil=>simp at h
  |cons e es=>
   simp only[List.map_cons,List.cons.injEq,Prod.mk.injEq]at h;simp only[List.map_cons,eI,H9];cases kk.eqb x p.1 with
   |true=>simp[h.1.2]
   |false=>exact ih h.2
theorem vX {kk:KK} {vk:VK} {l:List (kk.T×vk.T)} {es:List MapEntry} (h:es.map (fun e=>(e.key,e.val))=l.map (fun p=>(kk.enc p.1,vk.enc p.2))):es.map (·.key)=(l.map (·.1)).map kk.enc:=by
 have:=congrArg (List.map Prod.fst) h;simpa[List.map_map,Function.comp_def]using this
theorem A5Z {t:TypeId} {inf:TypeInfo} {z:Value} (h:P.info? t=some inf) (hz:inf.zero=some z) (w:World):(zeroValue t).run P w= .ok z w:=by
 simp[zeroValue,typeInfo,h,hz]
def A5a (ok:Bool) (v:Value) (h:Bool):Value:=match ok with
 |true=> .tuple #[v,.bool h]
 |false=>v
theorem xB (hT:K9 P T) (hS:E1 B W H M w) {t:TypeId} {kk:KK} {vk:VK} {s1 s2:Nat} {z:List C} {n b:Nat} {l:List (kk.T×vk.T)} {x i:Value} {ia:A} {k:kk.T} {ob:Prop} {okb:Bool}
 (ht:T t=some ⟨.map kk vk,s1,s2,z⟩) (hn:H n=some (.mp b kk vk l)) (hko:A5Y kk ia=some (k,ob)) (hob:ob) (ri:RA M ia i) (rx:RA M (.c (.mpt n b)) x):
 (Instr.lookup t x i okb).run P w= .ok (A5a okb (vk.enc (O8 vk.dft (H9 l k))) (A5V (H9 l k))) w:=by
 obtain⟨g1,g2,es,clock,g3,g4⟩:=hS.ok _ _ hn;obtain⟨kt,et,inf,u1,u2,u3,u4⟩:=(hT _ _ ht).und;obtain⟨q1,q2⟩:=vW hko hob ri;have q3:=gK rx;have hfind:=u2.find k (l.map (·.1)) es.toList w q2 (fun y hy=>by
  obtain⟨p,hp,rfl⟩:=List.mem_map.1 hy;exact g4.wf p hp) (vX g4.all)
 have hget:(getObj b).run P w= .ok (.map es clock) w:=by simp[getObj,Sem.run,g3]
 have hkm:=A2U (i:=0) (x:=k) g4.all;unfold Instr.lookup;simp only[Sem.run_bind,run_underlying u1,Result.andThen_ok,q1,q3,hget,Sem.run_pure,u2.chk k _ w q2,hfind];cases hf:eI k (l.map (·.1)) es.toList 0 with
 |none=>
  rw[hf]at hkm;cases hm:H9 l k with
  |none=>cases okb<;> simp[A5Z u3 u4,O8,A5V,A5a]
  |some v=>rw[hm]at hkm;cases hkm
 |some jv=>
  obtain⟨j,v⟩:=jv;rw[hf]at hkm;cases hm:H9 l k with
  |none=>rw[hm]at hkm;cases hkm
  |some v'=>
   rw[hm]at hkm;simp only[Option.map_some,Option.some.injEq]at hkm;cases okb<;> simp[O8,A5V,hkm,A5a]
end
section
variable {P : Program} {T : Tb} {w : World} {M : B5}
theorem wY.isAgg {t:TypeId} {i:TI} (h:wY P t i) (w:World):(Go.isAgg t).run P w= .ok i.kind.agg w:=by
 have hu:=h.und;unfold Go.isAgg;cases hk:i.kind<;> rw[hk]at hu<;> simp only at hu
 case int k=>simp[run_underlying hu,TK.agg]
 case bool=>simp[run_underlying hu,TK.agg]
 case str=>simp[run_underlying hu,TK.agg]
 case slc e k=>simp[run_underlying hu.1,TK.agg]
 case ptr e=>simp[run_underlying hu,TK.agg]
 case strct fs=>obtain⟨f,hf,_⟩:=hu;simp[run_underlying hf,TK.agg]
 case arr n e=>simp[run_underlying hu.1,TK.agg]
 case map kk vk=>obtain⟨kt,et,inf,h1,_⟩:=hu;simp[run_underlying h1,TK.agg]
 case other=>
  cases hd:P.underlying t with
  |none=>simp[hd]at hu
  |some d=>cases d<;> simp[hd]at hu<;> simp[run_underlying hd,TK.agg]
theorem wY.sizeOf {t:TypeId} {i:TI} (h:wY P t i) (w:World):(Go.sizeOf t).run P w= .ok i.size w:=by
 obtain⟨inf,z,h1,h2,_⟩:=h.info;simp[Go.sizeOf,typeInfo,h1,h2]
theorem D7 {t:TypeId} {inf:TypeInfo} (h:P.info? t=some inf) (w:World):(typeInfo t).run P w= .ok inf w:=by simp[typeInfo,h]
theorem mK (hT:K9 P T) {t:TypeId} {cs:List C} {x:A} (h:ldA T t cs=some x) {b o:Nat}
 (hc:∀(j:Nat) (c:C),cs[j]? =some c→∃u,w.cell? ⟨b,o+j,none⟩=some u∧RC M c u):
 ∃v,(loadVar t ⟨b,o,none⟩).run P w= .ok v w∧RA M x v:=by
 unfold ldA at h;cases ht:T t with
 |none=>simp[ht]at h
 |some i=>
  have hi:=hT t i ht;simp only[ht]at h;cases ha:i.kind.agg with
  |false=>
   simp only[ha]at h;cases cs with
   |nil=>simp at h
   |cons c cs=>
    simp at h;subst h;obtain⟨u,hu,hr⟩:=hc 0 c rfl;simp only[Nat.add_zero]at hu;refine⟨u,?_,.c hr⟩;simp[loadVar,hi.isAgg,ha,hu]
  |true=>
   simp only[ha]at h;cases hb:Nat.ble i.size (len cs)with
   |false=>simp[hb]at h
   |true=>
    simp only[hb,Option.some.injEq]at h;subst h;rw[O9,Nat.ble_eq]at hb;have hx:∀j,j<i.size→∃u,w.cell? ⟨b,o+j,none⟩=some u∧∀c,cs[j]? =some c→RC M c u:=by
     intro j hj;have hj':j<cs.length:=by omega
     obtain⟨u,hu,hr⟩:=hc j cs[j] (gE_ hj');exact⟨u,hu,fun c hc=>by rw[gE_ hj']at hc;cases hc;exact hr⟩
    let f:Nat→Value:=fun j=>(w.cell? ⟨b,o+j,none⟩).getD undef
    have hl:=run_loadCells (P:=P) w ⟨b,o,none⟩ i.size f (fun j hj=>by
     obtain⟨u,hu,_⟩:=hx j hj;rw[Addr.add_lit];simp[f,hu])
    refine⟨.agg ((List.range i.size).map f).toArray,by simp[loadVar,hi.isAgg,ha,hi.sizeOf,hl],.g ⟨by simp[aC];omega,?_⟩⟩;intro j c u h1 h2;rw[aC,List.getElem?_take]at h1;split at h1
    ·rename_i hj;obtain⟨u',hu',hr⟩:=hx j hj;simp[hj,f,hu']at h2;subst h2;exact hr c h1
    ·cases h1
theorem dD {ty:TypeId} {rd:Operand→Option A} {ρ:Operand→Value} (hr:∀o x,rd o=some x→RA M x (ρ o)) (hc:∀v,ρ (.const v)=v) {o:Operand} {x:A} (h:rdT T ty rd o=some x):RA M x (ρ o):=by
 unfold rdT at h;split at h
 ·split at h
  ·simp at h;subst h;rw[hc];exact .c (.pv .nil)
  ·cases h
 ·split at h<;> cases h
 ·exact hr _ _ h
theorem A2V {v:Value} {x:A} (h:A3P v=some x):RA M x v:=by
 unfold A3P at h;split at h<;> simp at h<;> subst h<;> exact .c (.pv (.val rfl))
theorem oF {B:Nat→Prop} {W:World} {H:Nat→Option HB} (hS:E1 B W H M w) {x:A} {v:Value} (hx:RA M x v) {k:LK} {l:List k.T} {ob:Prop} (h:oE H x=some ⟨k,l,ob⟩) (hob:ob):
 ∃a c b o,v= .slice a l.length c∧(l≠[]→a=some ⟨b,o,none⟩)∧l.length≤c∧c≤maxLen∧
  ∀i x j y,l[i]? =some x→(k.enc x)[j]? =some y→∃u,w.cell? ⟨b,o+i*k.sz+j,none⟩=some u∧R M y u:=by
 unfold oE at h;split at h
 ·cases h;cases hx with|c hx=>cases hx with|pv hx=>
  obtain⟨a,c,b,o,rfl,h1,h2,h3,h4,h5⟩:=hx.lst_inv;exact⟨a,c,b,o,rfl,h3,h1,h2,fun i x j y e1 e2=>let⟨u,hu,hr⟩:=h5 i x j y e1 e2;⟨u,B5.cell_on hS.mem hu,hr⟩⟩
 ·cases h;cases hx with|c hx=>cases hx with|pv hx=>
  cases hx;exact⟨none,0,0,0,rfl,by simp,by simp,by simp,by simp⟩
 ·split at h
  ·rename_i n v0 v' ty k' l' hn;cases h;cases hx with|c hx=>cases hx with|own hx1=>
   subst hob;rcases hS.ok _ _ hn with⟨rfl,rfl⟩|⟨b,cap,us,rfl,h1,h2,h3,h4,h5,h6,h7⟩
   ·exact⟨none,0,0,0,rfl,by simp,by simp,by simp,by simp⟩
   ·refine⟨_,_,b,0,rfl,fun _=>rfl,h4,h5,fun i x j y e1 e2=>?_⟩;obtain⟨u,hu,hr⟩:=h7 i x j y e1 e2;exact⟨u,by simp[World.cell?,h3,hu],hr⟩
  ·cases h
 ·rename_i n v0 lo hi s;split at h
  ·rename_i v' ty' k' l' hn;cases h;obtain⟨⟨rfl,rfl⟩,ho1,ho2⟩:=hob;cases hx with|c hx=>cases hx with|osl=>
   have hlen:((l'.take hi).drop lo).length=hi-lo:=by simp;omega
   rcases hS.ok _ _ hn with⟨rfl,rfl⟩|⟨b,cap,us,rfl,h1,h2,h3,h4,h5,h6,h7⟩
   ·have e1:hi=0:=by simpa using ho2
    subst e1;have e2:lo=0:=by omega
    subst e2;exact⟨none,0,0,0,rfl,by simp,by simp,by simp,by simp⟩
   ·refine⟨some ⟨b,if cap=lo then 0 else 0+lo*k.sz,none⟩,cap-lo,b,lo*k.sz,by simp only[osV,hlen],fun hne=>?_,by rw[hlen];omega,by omega,fun i x j y e1 e2=>?_⟩
    ·have:lo<hi:=by
      rcases Nat.lt_or_ge lo hi with h|h
      ·exact h
      ·exact absurd (List.length_eq_zero_iff.1 (by rw[hlen];omega)) hne
     rw[if_neg (by omega),Nat.zero_add]
    ·rw[List.getElem?_drop,List.getElem?_take]at e1;split at e1
     ·obtain⟨u,hu,hr⟩:=h7 (lo+i) x j y e1 e2;exact⟨u,by simp only[World.cell?,h3];rw[←hu,Nat.add_mul];simp,hr⟩
     ·cases e1
  ·cases h
 ·cases h
end
section
variable {P : Program} {T : Tb} {w : World} {M : B5} {B : Nat → Prop} {W : World} {H : Nat → Option HB}
theorem A5b {places:Array (Nat×Nat)} {fs:List (Nat×Nat×Bool)} (hpl:∀(i:Nat) x,fs[i]? =some x→places[i]? =some (x.1,x.2.1)):
 ∀(ps:List (Nat×A)) (vs:List (Nat×Value)) (cs cs':List C) (us:Array Value),R8 M cs us.toList→
  (ps.length=vs.length∧∀(i:Nat) p v,ps[i]? =some p→vs[i]? =some v→p.1=v.1∧RA M p.2 v.2)→A2T fs cs ps=some cs'→
  ∃us',Instr.fill (places[·]?) us vs=some us'∧R8 M cs' us'.toList:=by
 intro ps
 induction ps with
 |nil=>
  intro vs cs cs' us hr hv h;obtain⟨hl,_⟩:=hv;cases vs with
  |nil=>simp[A2T]at h;subst h;exact⟨us,rfl,hr⟩
  |cons=>simp at hl
 |cons p ps ih=>
  intro vs cs cs' us hr hv h;obtain⟨hl,hv⟩:=hv;cases vs with
  |nil=>simp at hl
  |cons v vs=>
  obtain⟨i,a⟩:=p;obtain⟨i',av⟩:=v;have h0:=hv 0 _ _ rfl rfl;simp only at h0;obtain⟨rfl,ha⟩:=h0;simp only[A2T]at h;split at h
  ·rename_i off size bb new hf hn;split at h
   ·rename_i hb;simp only[Bool.and_eq_true,Nat.beq_eq,Nat.ble_eq,O9]at hb;rw[G0]at hf;have hp:=hpl _ _ hf;simp only[Instr.fill,hp];have hnew:R8 M new av.cells.toList:=by
     cases ha with
     |c hc=>
      simp[A.cells]at hn;subst hn;have:=hc.one;have hcs:av.cells= #[av]:=by cases av<;> simp[Value.oneCell']at this<;> rfl
      rw[hcs];refine⟨rfl,fun j c u h1 h2=>?_⟩;cases j with
      |zero=>simp at h1 h2;subst h1 h2;exact hc
      |succ j=>simp at h1
     |g hg=>simp[A.cells]at hn;subst hn;exact hg
     |t=>simp[A.cells]at hn
     |u=>simp[A.cells]at hn
    have hsz:av.cells.size=size:=by rw[←Array.length_toList,hnew.1,hb.1]
    have hus:us.size=cs.length:=by rw[←Array.length_toList,hr.1]
    have hcond:(decide (av.cells.size≠size) || decide (off+av.cells.size > us.size))=false:=by
     simp[hsz,hus];omega
    rw[hcond];simp only[Bool.false_eq_true,if_false];have key:∀(l:List Value) (k:Nat) (us:Array Value),off+k+l.length≤us.size→
     ((l.zipIdx k).foldl (fun cs (c,j)=>cs.setIfInBounds (off+j) c) us).toList=us.toList.take (off+k)++l++us.toList.drop (off+k+l.length):=by
     intro l
     induction l with
     |nil=>intro k us hk;simp
     |cons x l ih=>
      intro k us hk;simp only[List.zipIdx_cons,List.foldl_cons];rw[ih (k+1) _ (by simp at hk⊢;omega)];simp only[Array.toList_setIfInBounds];have hlt:off+k<us.toList.length:=by simp at hk⊢;omega
      have:=list_seg_step us.toList (off+k) x l (by simp at hk⊢;omega);simp only[List.length_cons];rw[show off+(k+1)=off+k+1 from by omega,show off+k+(l.length+1)=off+k+(l.length+1)from rfl];exact this
    have hk:=key av.cells.toList 0 us (by simp[hsz,hus];omega);have hz:av.cells.zipIdx.foldl (fun cs (x:Value×Nat)=>cs.setIfInBounds (off+x.2) x.1) us=((av.cells.toList.zipIdx 0).foldl (fun cs (c,j)=>cs.setIfInBounds (off+j) c) us):=by
     rw[←Array.foldl_toList,Array.toList_zipIdx]
    have hfin:=ih vs (tke off cs++new++Q6 (off+size) cs) cs' (av.cells.zipIdx.foldl (fun cs (x:Value×Nat)=>cs.setIfInBounds (off+x.2) x.1) us) (by
     rw[hz];simp only[Nat.add_zero]at hk;refine⟨?_,?_⟩
     ·rw[hk];simp[aC,Q0,hb.1,hus,hsz]
     ·intro j c u h1 h2;rw[hk]at h2;rw[aC,Q0]at h1;rw[List.append_assoc]at h1 h2;by_cases hj:j<off
      ·rw[List.getElem?_append_left (by simp;omega)]at h1 h2;rw[List.getElem?_take,if_pos hj]at h1 h2;exact hr.2 j c u h1 h2
      ·rw[List.getElem?_append_right (by simp;omega)]at h1 h2;have e1:(List.take off cs).length=off:=by simp;omega
       have e2:(List.take off us.toList).length=off:=by simp;omega
       rw[e1]at h1;rw[e2]at h2;by_cases hj2:j-off<size
       ·rw[List.getElem?_append_left (by omega)]at h1;rw[List.getElem?_append_left (by simp[hsz];omega)]at h2;exact hnew.2 _ c u h1 h2
       ·rw[List.getElem?_append_right (by omega)]at h1;rw[List.getElem?_append_right (by simp[hsz];omega)]at h2;rw[List.getElem?_drop]at h1 h2;simp only[Array.length_toList,hsz,hb.1]at h1 h2;exact hr.2 _ c u h1 h2) ⟨by simpa using hl,fun i p v h1 h2=>hv (i+1) p v h1 h2⟩ h
    exact hfin
   ·cases h
  ·cases h
theorem B3q {rd:Operand→Option A} {ρ:Operand→Value} (hr:∀o x,rd o=some x→RA M x (ρ o)):∀(os:List Operand) (xs:List A),aD rd os=some xs→os.length=xs.length∧∀(j:Nat) x,xs[j]? =some x→∃o,os[j]? =some o∧RA M x (ρ o):=by
 intro os
 induction os with
 |nil=>intro xs h;simp[aD]at h;subst h;simp
 |cons o os ih=>
  intro xs h;simp only[aD]at h;split at h
  ·rename_i x xs' h1 h2;simp at h;subst h;obtain⟨e,ih⟩:=ih _ h2;refine⟨by simp[e],fun j y hj=>?_⟩;cases j with
   |zero=>simp at hj;subst hj;exact⟨o,rfl,hr _ _ h1⟩
   |succ j=>simpa using ih j y (by simpa using hj)
  ·cases h
theorem xC {rd:Operand→Option A} {ρ:Operand→Value} (hr:∀o x,rd o=some x→RA M x (ρ o)):∀(os:List (Nat×Operand)) (xs:List (Nat×A)),W0 T rd os=some xs→
 xs.length=(os.map fun(i,x)=>(i,ρ x)).length∧∀(i:Nat) p v,xs[i]? =some p→(os.map fun(i,x)=>(i,ρ x))[i]? =some v→p.1=v.1∧RA M p.2 v.2:=by
 intro os
 induction os with
 |nil=>intro xs h;simp[W0]at h;subst h;simp
 |cons o os ih=>
  obtain⟨i0,o⟩:=o;intro xs h;simp only[W0]at h;split at h
  ·rename_i x xs' h1 h2;simp at h;subst h;obtain⟨e,ih⟩:=ih _ h2;refine⟨by simp at e⊢;exact e,fun i p v h3 h4=>?_⟩;cases i with
   |zero=>simp at h3 h4;subst h3 h4;exact⟨rfl,hr _ _ h1⟩
   |succ i=>exact ih i p v (by simpa using h3) (by simpa using h4)
  ·cases h
theorem A7k:∀(xs:List A) (cs:List C),cellsOf xs=some cs→xs=cs.map .c:=by
 intro xs
 induction xs with
 |nil=>intro cs h;simp[cellsOf]at h;subst h;rfl
 |cons x xs ih=>
  intro cs h;simp only[cellsOf]at h;split at h
  ·rename_i c cs' h1 h2;simp at h;subst h;cases x<;> simp[B3p]at h1;subst h1;rw[ih _ h2];rfl
  ·cases h
theorem C2s (hT:K9 P T) {wm:Bool} {src dst:TypeId} {a:A} {v:Value} (ha:RA M a v) {x:A} {ob:Prop} (h:cnv T wm dst a=some (x,ob)) (hob:ob)
 (hsrc:∃d,P.underlying src=some d):
 ∃u,(Go.convert src dst v).run P w= .ok u w∧RA M x u:=by
 obtain⟨ds,hds⟩:=hsrc;unfold cnv at h;split at h
 ·have:=ha.val_inv;subst this;split at h
  ·rename_i n k s1 s2 z hk;have hu:=(hT _ _ hk).und;simp only at hu;simp only[Option.some.injEq]at h;generalize(wm !=cvw k)=bb at h;cases bb<;> simp only[wrp,Prod.mk.injEq]at h<;> obtain⟨rfl,rfl⟩:=h
   ·exact⟨_,by simp[Go.convert,run_underlying hu,run_underlying hds,Conv.intToInt,bH hob],.c (.pv (.val rfl))⟩
   ·exact⟨_,by simp[Go.convert,run_underlying hu,run_underlying hds,Conv.intToInt],.c (.pv (.val rfl))⟩
  ·cases h
 ·have:=ha.val_inv;subst this;split at h
  ·rename_i s s1 s2 z hk;have hu:=(hT _ _ hk).und;simp only at hu;cases h;exact⟨_,by simp[Go.convert,run_underlying hu,run_underlying hds],.c (.pv (.val rfl))⟩
  ·cases h
 ·cases h
theorem B8t (hT:K9 P T) (hS:E1 B W H M w) {src dst e:TypeId} {a:A} {v:Value} (ha:RA M a v) {x:A} {ob:Prop} (h:B1G T H dst a=some (x,ob)) (hob:ob)
 (he1:P.underlying src=some (.slice e)) (he2:P.underlying e=some (.int .u8)):
 ∃u,(Go.convert src dst v).run P w= .ok u w∧RA M x u:=by
 unfold B1G at h;split at h
 ·rename_i l ob' s1 s2 z hl hk;have hu:=(hT _ _ hk).und;simp only at hu;cases h;obtain⟨ad,c,b,o,rfl,h1,h2,h3,h4⟩:=oF hS ha hl hob;refine⟨.string ⟨l.toArray⟩,?_,.c (.pv (.val rfl))⟩;rw[run_convert_bytes_string w src dst e ad l.length c he1 he2 hu];by_cases hne:l=[]
  ·subst hne;cases ad with
   |none=>simp[Conv.bytesToString];rfl
   |some ad=>
    have:=run_bytesToString (P:=P) w ad 0 c [] (by simp[loadCells,loadCellsFrom]);simp only[List.length_nil];rw[this];rfl
  ·have:=h1 hne;subst this;have hcells:=run_loadCells (P:=P) w ⟨b,o,none⟩ l.length (fun j=> .int .u8 ((l.getD j 0).toNat:Int)) (fun j hj=>by
    obtain⟨u,hu,hr⟩:=h4 j l[j] 0 _ (gE_ hj) rfl;have:=hr.val_eq;subst this;rw[Addr.add_lit];simp only[LK.sz,Nat.mul_one,Nat.add_zero]at hu;rw[hu];simp[List.getD,gE_ hj])
   have hmap:(List.range l.length).map (fun j=>Value.int .u8 ((l.getD j 0).toNat:Int))=(l.map fun x=>((x.toNat:Nat):Int)).map (Value.int .u8):=by
    apply List.ext_getElem?;intro i;by_cases hi:i<l.length
    ·simp[hi,List.getD]
    ·simp[List.getElem?_eq_none (Nat.le_of_not_lt hi)];omega
   rw[hmap]at hcells;rw[run_bytesToString w _ l.length c _ hcells]
   congr 2
   have:∀(l:List UInt8) (s:ByteArray),(l.map fun x=>((x.toNat:Nat):Int)).foldl (fun r n=>r.push (UInt8.ofNat n.toNat)) s=⟨(s.data.toList++l).toArray⟩:=by
    intro l
    induction l with
    |nil=>intro s;simp
    |cons x l ih=>
     intro s;simp only[List.map_cons,List.foldl_cons,ih];simp[ByteArray.push]
   rw[this];simp
 ·cases h
end
section
variable {P : Program} {T : Tb} {w : World} {M : B5} {B : Nat → Prop} {W : World} {H : Nat → Option HB}
theorem RA.ptr_inv {n b o:Nat} {v:Value} (r:RA M (.c (.ptr n b o)) v):v= .pointer (some ⟨b,o,none⟩):=by cases r with|c r=>cases r;rfl
theorem RA.oel_inv {n i sz o:Nat} {u v:Value} (r:RA M (.c (.oel n u i sz o)) v):v= .pointer (some ⟨u.blk,i*sz+o,none⟩):=by cases r with|c r=>cases r;rfl
theorem RA.osl_inv {n lo hi s:Nat} {u v:Value} (r:RA M (.c (.osl n u lo hi s)) v):v=osV u lo hi s:=by
 cases r with|c r=>cases r;rfl
theorem RA.own_inv {n:Nat} {u v:Value} (r:RA M (.c (.own n u)) v):v=u:=by cases r with|c r=>cases r;rfl
theorem RA.cel_inv {cs:List PV} {v:Value} (r:RA M (.c (.cel cs)) v):∃b o,v= .pointer (some ⟨b,o,none⟩)∧∀(j:Nat) y,cs[j]? =some y→∃u,M.cell b (o+j)=some u∧R M y u:=by
 cases r with|c r=>cases r with|cel b o us hc hR=>exact⟨b,o,rfl,fun j y h=>⟨_,hc j y h,hR j y h⟩⟩
theorem RA.cel_mk {cs:List PV} {b o:Nat} (h:∀(j:Nat) y,cs[j]? =some y→∃u,M.cell b (o+j)=some u∧R M y u):RA M (.c (.cel cs)) (.pointer (some ⟨b,o,none⟩)):=
 .c (.cel b o (fun j=>(M.cell b (o+j)).getD undef) (fun j y e=>by obtain⟨u,hu,_⟩:=h j y e;simp[hu]) (fun j y e=>by obtain⟨u,hu,hr⟩:=h j y e;simp[hu,hr]))
theorem F2 {k:IntKind} {i:Int} {y:Nat} {code:BoundsCode} (h0:0≤i) (h1:i≤y):(Instr.sliceBound (.int k i) y code).run P w= .ok i.toNat w:=by
 simp[Instr.sliceBound,asIntOf,h0,h1]
theorem L6 {a:A} {n:Int} {v:Value} (h:U9 a=some n) (r:RA M a v):∃k,v= .int k n:=by
 unfold U9 at h;split at h
 ·cases h;exact⟨_,r.val_inv⟩
 ·cases h
theorem eJ {rd:Operand→Option A} {ρ:Operand→Value} (hr:∀o x,rd o=some x→RA M x (ρ o)) {o:Option Operand} {x:Option A} (h:eC rd o=some x):
 (o=none∧x=none)∨∃p a,o=some p∧x=some a∧RA M a (ρ p):=by
 cases o with
 |none=>simp[eC]at h;exact .inl ⟨rfl,h.symm⟩
 |some p=>
  simp only[eC]at h;split at h
  ·rename_i a ha;cases h;exact .inr ⟨p,a,rfl,rfl,hr _ _ ha⟩
  ·cases h
theorem kY {n:Nat} {rd:Operand→Option A} {ρ:Operand→Value} (hr:∀o x,rd o=some x→RA M x (ρ o)) {olo ohi omx:Option Operand} {lo hi mx:Option A}
 (h1:eC rd olo=some lo) (h2:eC rd ohi=some hi) (h3:eC rd omx=some mx) {l h:Int} {ob:Prop} (hs:A5X n lo hi mx=some (l,h,ob)) (hob:ob) {sl:Bool} {cap:Nat} (hcap:n≤cap):
 0≤l∧l≤h∧h≤n∧∃m,h.toNat≤m∧m≤cap∧(omx=none→m=cap)∧(Instr.sliceBounds sl n cap (olo.map ρ) (ohi.map ρ) (omx.map ρ)).run P w= .ok (l.toNat,h.toNat,m) w:=by
 rcases eJ hr h1 with⟨rfl,rfl⟩|⟨pl,al,rfl,rfl,rl⟩<;> rcases eJ hr h2 with⟨rfl,rfl⟩|⟨ph,ah,rfl,rfl,rh⟩<;> rcases eJ hr h3 with⟨rfl,rfl⟩|⟨pm,am,rfl,rfl,rm⟩<;> simp only[A5X,Option.some.injEq,Prod.mk.injEq,reduceCtorEq]at hs
 ·obtain⟨rfl,rfl,rfl⟩:=hs;exact⟨by omega,by omega,by omega,cap,by omega,by omega,fun _=>rfl,by simp[Instr.sliceBounds]⟩
 ·split at hs
  ·rename_i h' e;simp only[Option.some.injEq,Prod.mk.injEq]at hs;obtain⟨rfl,rfl,rfl⟩:=hs;obtain⟨k,hv⟩:=L6 e rh;refine⟨by omega,by omega,by omega,cap,by omega,by omega,fun _=>rfl,?_⟩;simp only[Instr.sliceBounds,Option.map_none,Option.map_some,hv,Sem.run_bind,Sem.run_pure,Result.andThen_ok];rw[F2 hob.1 (by omega)];simp
  ·cases hs
 ·split at hs
  ·rename_i l' e;simp only[Option.some.injEq,Prod.mk.injEq]at hs;obtain⟨rfl,rfl,rfl⟩:=hs;obtain⟨k,hv⟩:=L6 e rl;refine⟨by omega,by omega,by omega,cap,by omega,by omega,fun _=>rfl,?_⟩;simp only[Instr.sliceBounds,Option.map_none,Option.map_some,hv,Sem.run_bind,Sem.run_pure,Result.andThen_ok];rw[F2 hob.1 (by omega)];simp
  ·cases hs
 ·split at hs
  ·rename_i l' h' e e';simp only[Option.some.injEq,Prod.mk.injEq]at hs;obtain⟨rfl,rfl,rfl⟩:=hs;obtain⟨k,hv⟩:=L6 e rl;obtain⟨k',hv'⟩:=L6 e' rh;refine⟨by omega,by omega,by omega,cap,by omega,by omega,fun _=>rfl,?_⟩;simp only[Instr.sliceBounds,Option.map_none,Option.map_some,hv,hv',Sem.run_bind,Sem.run_pure,Result.andThen_ok];rw[F2 (by omega) (by omega)];simp only[Result.andThen_ok];rw[F2 (by omega) (by omega)];simp
  ·cases hs
 ·split at hs
  ·rename_i l' h' m' e e' e'';simp only[Option.some.injEq,Prod.mk.injEq]at hs;obtain⟨rfl,rfl,rfl⟩:=hs;obtain⟨k,hv⟩:=L6 e rl;obtain⟨k',hv'⟩:=L6 e' rh;obtain⟨k'',hv''⟩:=L6 e'' rm;refine⟨by omega,by omega,by omega,m'.toNat,by omega,by omega,by simp,?_⟩;simp only[Instr.sliceBounds,Option.map_some,hv,hv',hv'',Sem.run_bind,Sem.run_pure,Result.andThen_ok];rw[F2 (by omega) (by omega)];simp only[Result.andThen_ok];rw[F2 (by omega) (by omega)];simp only[Result.andThen_ok];rw[F2 (by omega) (by omega)];simp
  ·cases hs
theorem A9w {n cap:Nat} {rd:Operand→Option A} {ρ:Operand→Value} (hr:∀o x,rd o=some x→RA M x (ρ o)) {olo ohi omx:Option Operand} {lo hi mx:Option A}
 (h1:eC rd olo=some lo) (h2:eC rd ohi=some hi) (h3:eC rd omx=some mx) {l h m:Int} {ob:Prop} (hs:B8s n cap lo hi mx=some (l,h,m,ob)) (hob:ob):
 (Instr.sliceBounds true n cap (olo.map ρ) (ohi.map ρ) (omx.map ρ)).run P w= .ok (l.toNat,h.toNat,m.toNat) w:=by
 rcases eJ hr h1 with⟨rfl,rfl⟩|⟨pl,al,rfl,rfl,rl⟩<;> rcases eJ hr h2 with⟨rfl,rfl⟩|⟨ph,ah,rfl,rfl,rh⟩<;> rcases eJ hr h3 with⟨rfl,rfl⟩|⟨pm,am,rfl,rfl,rm⟩<;> simp only[B8s,Option.some.injEq,Prod.mk.injEq,reduceCtorEq]at hs
 ·obtain⟨rfl,rfl,rfl,rfl⟩:=hs;simp[Instr.sliceBounds]
 ·split at hs
  ·rename_i h' e;simp only[Option.some.injEq,Prod.mk.injEq]at hs;obtain⟨rfl,rfl,rfl,rfl⟩:=hs;obtain⟨k,hv⟩:=L6 e rh;simp only[Instr.sliceBounds,Option.map_none,Option.map_some,hv,Sem.run_bind,Sem.run_pure,Result.andThen_ok,if_true];rw[F2 hob.1 (by omega)];simp
  ·cases hs
 ·split at hs
  ·rename_i l' e;simp only[Option.some.injEq,Prod.mk.injEq]at hs;obtain⟨rfl,rfl,rfl,rfl⟩:=hs;obtain⟨k,hv⟩:=L6 e rl;simp only[Instr.sliceBounds,Option.map_none,Option.map_some,hv,Sem.run_bind,Sem.run_pure,Result.andThen_ok];rw[F2 hob.1.1 (by omega)];simp
  ·cases hs
 ·split at hs
  ·rename_i l' h' e e';simp only[Option.some.injEq,Prod.mk.injEq]at hs;obtain⟨rfl,rfl,rfl,rfl⟩:=hs;obtain⟨k,hv⟩:=L6 e rl;obtain⟨k',hv'⟩:=L6 e' rh;simp only[Instr.sliceBounds,Option.map_none,Option.map_some,hv,hv',Sem.run_bind,Sem.run_pure,Result.andThen_ok];rw[F2 (by omega) (by omega)];simp only[Result.andThen_ok];rw[F2 (by omega) (by omega)];simp
  ·cases hs
 ·split at hs
  ·rename_i l' h' m' e e' e'';simp only[Option.some.injEq,Prod.mk.injEq]at hs;obtain⟨rfl,rfl,rfl,rfl⟩:=hs;obtain⟨k,hv⟩:=L6 e rl;obtain⟨k',hv'⟩:=L6 e' rh;obtain⟨k'',hv''⟩:=L6 e'' rm;simp only[Instr.sliceBounds,Option.map_some,hv,hv',hv'',Sem.run_bind,Sem.run_pure,Result.andThen_ok];rw[F2 (by omega) (by omega)];simp only[Result.andThen_ok];rw[F2 (by omega) (by omega)];simp only[Result.andThen_ok];rw[F2 (by omega) (by omega)];simp
  ·cases hs
theorem eK {fs:List (Nat×Nat×Bool)} (hT:K9 P T) {t s1 s2:Nat} {z} (ht:T t=some ⟨.strct fs,s1,s2,z⟩) {f:Nat} {x} (hf:X0 fs f=some x):
 ∃fields fd inf d,P.underlying t=some (.struct fields)∧fields[f]? =some fd∧fd.offset=x.1∧P.info? fd.type=some inf∧inf.size=x.2.1∧P.underlying fd.type=some d∧(match d with| .struct _| .array _ _=>true|_=>false)=x.2.2:=by
 have hu:=(hT _ _ ht).und;simp only at hu;obtain⟨fields,h1,h2,h3⟩:=hu;rw[G0]at hf;have hlt:f<fields.size:=by rw[h2];exact(gS_.1 hf).1
 have hfd:fields[f]? =some fields[f]:=by simp[hlt]
 obtain⟨e1,inf,d,e2,e3,e4,e5⟩:=h3 f _ _ hfd hf;exact⟨fields,fields[f],inf,d,h1,hfd,e1,e2,e3,e4,e5⟩
theorem cL {ρ:Operand→Value} {b:Builtin} {x:Operand} {ts:Array TypeId} {dst:Option Tmp} {ty:TypeId} {pos:String} {after:Array Edge} {guard:Option (Nat×Bool)} {r:Result Value}
 (hb:b= .len) (h:(Builtin.len_ ts ty #[ρ x]).run P w=r):
 (execOp ρ ⟨dst,.call ⟨.builtin b, #[x],ts⟩,ty,pos,after,guard⟩).run P w=r.andThen fun v w'=> .ok (.value v) w':=by
 subst hb;simp[execOp,resolve,invoke,Go.builtin,h]
theorem vM {ρ:Operand→Value} {x y:Operand} {ts:Array TypeId} {dst:Option Tmp} {ty:TypeId} {pos:String} {after:Array Edge} {guard:Option (Nat×Bool)} {r:Result Value}
 (h:(Builtin.min_ ts ty #[ρ x,ρ y]).run P w=r):
 (execOp ρ ⟨dst,.call ⟨.builtin .min, #[x,y],ts⟩,ty,pos,after,guard⟩).run P w=r.andThen fun v w'=> .ok (.value v) w':=by
 simp[execOp,resolve,invoke,Go.builtin,h]
theorem vN {ρ:Operand→Value} {x y:Operand} {ts:Array TypeId} {dst:Option Tmp} {ty:TypeId} {pos:String} {after:Array Edge} {guard:Option (Nat×Bool)} {r:Result Value}
 (h:(Builtin.max_ ts ty #[ρ x,ρ y]).run P w=r):
 (execOp ρ ⟨dst,.call ⟨.builtin .max, #[x,y],ts⟩,ty,pos,after,guard⟩).run P w=r.andThen fun v w'=> .ok (.value v) w':=by
 simp[execOp,resolve,invoke,Go.builtin,h]
end
section
variable {P : Program} {T : Tb} {w : World} {M : B5} {B : Nat → Prop} {W : World} {H : Nat → Option HB}
theorem wY.some_und {t:TypeId} {i:TI} (h:wY P t i):∃d,P.underlying t=some d:=by
 have hu:=h.und;cases hkk:i.kind<;> rw[hkk]at hu<;> simp only at hu
 case strct=>obtain⟨f,hf,_⟩:=hu;exact⟨_,hf⟩
 case other=>cases hd:P.underlying t with
  |none=>simp[hd]at hu
  |some d=>exact⟨d,rfl⟩
 case slc=>exact⟨_,hu.1⟩
 case arr=>exact⟨_,hu.1⟩
 case map=>obtain⟨kt,et,inf,h1,_⟩:=hu;exact⟨_,h1⟩
 all_goals exact⟨_,hu⟩
theorem xD {t ty:TypeId} (hu:P.underlying t=some .string) (s:ByteArray):(Builtin.len_ #[t] ty #[.string s]).run P w= .ok (.int .i64 s.size) w:=by
 simp[Builtin.len_,run_underlying hu,goInt]
theorem bI (us:Array Value) (i:Nat) (h:i<us.size):∃u,us[i]? =some u:=⟨us[i],Array.getElem?_eq_getElem h⟩
def B8u:TypeDesc→Bool
 | .struct _| .array _ _=>true
 |_=>false
theorem Z1 {e:TypeId} {d:TypeDesc} (hu:P.underlying e=some d) (hd:B8u d=false) {xs:Array Value} {off:Nat} {v:Value} (hx:xs[off]? =some v):(part e xs off).run P w= .ok v w:=by
 have hi:(Go.isAgg e).run P w= .ok false w:=by
  unfold Go.isAgg;simp only[Sem.run_bind,run_underlying hu,Result.andThen_ok];cases d<;> first|rfl|(cases hd)
 simp[part,hi,hx]
theorem R8.cell {M:B5} {xs:List C} {c:C} {us:List Value} (h:R8 M (c::xs) us):∃u us',us=u::us'∧RC M c u∧R8 M xs us':=by
 cases us with
 |nil=>have:=h.1;simp at this
 |cons u us=>exact⟨u,us,rfl,h.2 0 c u rfl rfl,by simpa using h.1,fun j c u' a b=>h.2 (j+1) c u' (by simpa using a) (by simpa using b)⟩
theorem jJ {M:B5} (d:Nat) {us vs:Array Value}:∀{zs xs ys:List C} {j:Nat} {fs:List Field} {r:Bool},iQ P j zs fs=true→qO zs xs ys=some r→R8 M xs (us.toList.drop j)→R8 M ys (vs.toList.drop j)→(Op.eqFields (d+1) us vs fs).run P w= .ok r w:=by
 have arr:∀{us:Array Value} {j:Nat} {u:Value} {l:List Value},us.toList.drop j=u::l→us[j]? =some u∧us.toList.drop (j+1)=l:=by
  intro us j u l h;refine⟨?_,?_⟩
  ·have:=congrArg (fun l=>l[0]?) h;simpa using this
  ·have:=congrArg List.tail h;simpa[List.tail_drop]using this
 have key:∀{f:Field} {fs:List Field} {zs:List C} {a b:Value} {x y:Bool} {xs ys:List C} {ty:TypeDesc} {j:Nat},P.underlying f.type=some ty→B8u ty=false→f.offset=j→f.name≠ "_" →
  R8 M (.pv (.val a)::xs) (us.toList.drop j)→R8 M (.pv (.val b)::ys) (vs.toList.drop j)→(Op.equalIn (d+1) f.type a b).run P w= .ok x w→
  (R8 M xs (us.toList.drop (j+1))→R8 M ys (vs.toList.drop (j+1))→(Op.eqFields (d+1) us vs fs).run P w= .ok y w)→(Op.eqFields (d+1) us vs (f::fs)).run P w= .ok (x && y) w:=by
  intro f fs zs a b x y xs ys ty j e1 e2 e3 e4 h3 h4 e7 ih;obtain⟨u,us',g1,g2,g3⟩:=h3.cell;obtain⟨v,vs',k1,k2,k3⟩:=h4.cell;obtain⟨g4,g5⟩:=arr g1;obtain⟨k4,k5⟩:=arr k1;have hu:u=a:=by cases g2 with|pv r=>exact r.val_eq
  have hv:v=b:=by cases k2 with|pv r=>exact r.val_eq
  subst hu hv;have hi:=ih (by rw[g5];exact g3) (by rw[k5];exact k3);rw[←e3]at g4 k4;have p1:=Z1 (w:=w) e1 e2 g4;have p2:=Z1 (w:=w) e1 e2 k4;simp only[Op.eqFields,if_pos e4,Sem.run_bind,p1,p2,Result.andThen_ok,e7];cases x with
  |true=>simpa using hi
  |false=>simp
 intro zs
 induction zs with
 |nil=>
  intro xs ys j fs r h1 h2 h3 h4;cases fs with
  |cons=>simp[iQ]at h1
  |nil=>
   match xs,ys,h2 with
   |[],[],h2=>cases h2;simp[Op.eqFields]
 |cons z zs ih=>
  intro xs ys j fs r h1 h2 h3 h4;cases fs with
  |nil=>
   exfalso;unfold iQ at h1;split at h1<;> simp_all
  |cons f fs=>
   unfold iQ at h1;split at h1
   ·rename_i h _;cases h
   ·rename_i j' k' n zs' f' fs' hz hf;cases hz;cases hf;simp only[Bool.and_eq_true,Nat.beq_eq,decide_eq_true_eq]at h1;obtain⟨⟨⟨q1,q2⟩,q3⟩,q4⟩:=h1;unfold qO at h2;split at h2
    ·rename_i hq1 hq2 hq3;first|(cases hq1;done)|(cases hq2;done)|(cases hq3;done)
    ·rename_i k a xs' k2 b ys' hz;cases hz;split at h2
     ·rename_i r' hk hr';cases h2;have:=cK hk;subst this;split at q3
      ·rename_i k'' hu;have h7:(Op.equalIn (d+1) f.type (.int k a) (.int k b)).run P w= .ok (decide (a=b)) w:=by
        rw[run_equalIn_int w d f.type k k'' a b hu];congr 1
       exact key (zs:=zs) hu rfl q1 q2 h3 h4 h7 (fun a1 a2=>ih q4 hr' a1 a2)
      ·cases q3
     ·cases h2
    ·rename_i h;cases h
    ·rename_i h;cases h
    ·cases h2
   ·rename_i j' n zs' f' fs' hz hf;cases hz;cases hf;simp only[Bool.and_eq_true,Nat.beq_eq,decide_eq_true_eq]at h1;obtain⟨⟨⟨q1,q2⟩,q3⟩,q4⟩:=h1;unfold qO at h2;split at h2
    ·rename_i hq1 hq2 hq3;first|(cases hq1;done)|(cases hq2;done)|(cases hq3;done)
    ·rename_i h;cases h
    ·rename_i a xs' b ys' hz;cases hz;split at h2
     ·rename_i r' hr';cases h2;split at q3
      ·rename_i hu;have h7:(Op.equalIn (d+1) f.type (.bool a) (.bool b)).run P w= .ok (decide (a=b)) w:=by
        rw[run_equalIn_bool' w d f.type a b hu];congr 1
       exact key (zs:=zs) hu rfl q1 q2 h3 h4 h7 (fun a1 a2=>ih q4 hr' a1 a2)
      ·cases q3
     ·cases h2
    ·rename_i h;cases h
    ·cases h2
   ·rename_i j' n zs' f' fs' hz hf;cases hz;cases hf;simp only[Bool.and_eq_true,Nat.beq_eq,decide_eq_true_eq]at h1;obtain⟨⟨⟨q1,q2⟩,q3⟩,q4⟩:=h1;unfold qO at h2;split at h2
    ·rename_i hq1 hq2 hq3;first|(cases hq1;done)|(cases hq2;done)|(cases hq3;done)
    ·rename_i h;cases h
    ·rename_i h;cases h
    ·rename_i a xs' b ys' hz;cases hz;split at h2
     ·rename_i r' hr';cases h2;split at q3
      ·rename_i hu;have h7:(Op.equalIn (d+1) f.type (.string ⟨⟨a⟩⟩) (.string ⟨⟨b⟩⟩)).run P w= .ok (decide (a=b)) w:=by
        rw[run_equalIn_string w d f.type _ _ hu,ByteArray.toList_eq,ByteArray.toList_eq];congr 1;rw[Bool.eq_iff_iff];simp
       exact key (zs:=zs) hu rfl q1 q2 h3 h4 h7 (fun a1 a2=>ih q4 hr' a1 a2)
      ·cases q3
     ·cases h2
    ·cases h2
   ·cases h1
theorem xE {M:B5} (d:Nat) {e:TypeId} {k':IntKind} (he:P.underlying e=some (.int k')) {us vs:Array Value}:∀{zs xs ys:List C} {j:Nat} {r:Bool},A5W zs=true→qO zs xs ys=some r→R8 M xs (us.toList.drop j)→R8 M ys (vs.toList.drop j)→(Op.eqItems (d+1) e 1 us vs (List.range' j zs.length)).run P w= .ok r w:=by
 have arr:∀{us:Array Value} {j:Nat} {u:Value} {l:List Value},us.toList.drop j=u::l→us[j]? =some u∧us.toList.drop (j+1)=l:=by
  intro us j u l h;refine⟨?_,?_⟩
  ·have:=congrArg (fun l=>l[0]?) h;simpa using this
  ·have:=congrArg List.tail h;simpa[List.tail_drop]using this
 intro zs
 induction zs with
 |nil=>
  intro xs ys j r h1 h2 h3 h4
  match xs,ys,h2 with
  |[],[],h2=>cases h2;simp[Op.eqItems]
 |cons z zs ih=>
  intro xs ys j r h1 h2 h3 h4;unfold A5W at h1;split at h1
  ·rename_i h;cases h
  ·rename_i kz nz zs' hz;cases hz;unfold qO at h2;split at h2
   ·rename_i hq1 hq2 hq3;first|(cases hq1;done)|(cases hq2;done)|(cases hq3;done)
   ·rename_i k a xs' k2 b ys' hz;cases hz;split at h2
    ·rename_i r' hk hr';cases h2;have:=cK hk;subst this;obtain⟨u,us',g1,g2,g3⟩:=h3.cell;obtain⟨v,vs',k1,k2,k3⟩:=h4.cell;obtain⟨g4,g5⟩:=arr g1;obtain⟨k4,k5⟩:=arr k1;have hu:u= .int k a:=by cases g2 with|pv r=>exact r.val_eq
     have hv:v= .int k b:=by cases k2 with|pv r=>exact r.val_eq
     subst hu hv;have hi:=ih (j:=j+1) h1 hr' (by rw[g5];exact g3) (by rw[k5];exact k3);have p1:=Z1 (w:=w) he rfl g4;have p2:=Z1 (w:=w) he rfl k4;have h7:(Op.equalIn (d+1) e (.int k a) (.int k b)).run P w= .ok (decide (a=b)) w:=by
      rw[run_equalIn_int w d e k k' a b he];congr 1
     simp only[List.length_cons,List.range'_succ,Op.eqItems,Nat.mul_one,Sem.run_bind,p1,p2,Result.andThen_ok,h7];by_cases hab:a=b
     ·simp[hab];simpa using hi
     ·simp[hab]
    ·cases h2
   ·rename_i h;cases h
   ·rename_i h;cases h
   ·cases h2
  ·cases h1
theorem B8v (hT:K9 P T) {t:TypeId} {op:BinOp} {M:B5} {xa ya:A} {xv yv:Value} (hx:RA M xa xv) (hy:RA M ya yv) {x:A} {ob:Prop} (h:C2r T t op xa ya=some (x,ob)) (hob:ob) (ox oy:Operand):
 ∃v,x= .c (.pv (.val v))∧v.oneCell'=true∧(do eqGuard op t ox oy xv yv;Go.binOp op t xv yv:Sem Value).run P w= .ok v w:=by
 unfold C2r at h;split at h
 ·rename_i a b;have ex:=hx.val_inv;have ey:=hy.val_inv;subst ex ey;split at h
  ·rename_i hk;have hu:=(hT _ _ hk).und;simp only at hu;have he:(Op.equal t (.bool a) (.bool b)).run P w= .ok (a==b) w:=by
    show(Op.equalIn (9999+1) t (.bool a) (.bool b)).run P w=_;rw[Op.equalIn];simp[run_underlying hu]
   rw[Sem.run_bind,K1 _ _ _ _ _ _ rfl];simp only[Result.andThen_ok];split at h
   ·simp only[Option.some.injEq,Prod.mk.injEq]at h;obtain⟨rfl,rfl⟩:=h;exact⟨_,rfl,rfl,by cases a<;> cases b<;> simp[Go.binOp,he]⟩
   ·simp only[Option.some.injEq,Prod.mk.injEq]at h;obtain⟨rfl,rfl⟩:=h;exact⟨_,rfl,rfl,by cases a<;> cases b<;> simp[Go.binOp,he]⟩
   ·cases h
  ·cases h
 ·have ex:=hx.val_inv;have ey:=hy.val_inv;subst ex ey;split at h
  ·rename_i hk;have hu:=(hT _ _ hk).und;simp only at hu;have he:(Op.equal t (.pointer none) (.pointer none)).run P w= .ok true w:=by
    show(Op.equalIn (9999+1) t (.pointer none) (.pointer none)).run P w=_;rw[Op.equalIn];simp[run_underlying hu]
   rw[Sem.run_bind,K1 _ _ _ _ _ _ rfl];simp only[Result.andThen_ok];split at h
   ·simp only[Option.some.injEq,Prod.mk.injEq]at h;obtain⟨rfl,rfl⟩:=h;exact⟨_,rfl,rfl,by simp[Go.binOp,he]⟩
   ·simp only[Option.some.injEq,Prod.mk.injEq]at h;obtain⟨rfl,rfl⟩:=h;exact⟨_,rfl,rfl,by simp[Go.binOp,he]⟩
   ·cases h
  ·cases h
 ·rename_i n b o;have ex:=hx.ptr_inv;have ey:=hy.val_inv;subst ex ey;split at h
  ·rename_i hk;have hu:=(hT _ _ hk).und;simp only at hu;have he:(Op.equal t (.pointer (some ⟨b,o,none⟩)) (.pointer none)).run P w= .ok false w:=by
    show(Op.equalIn (9999+1) t (.pointer (some ⟨b,o,none⟩)) (.pointer none)).run P w=_;rw[Op.equalIn];simp[run_underlying hu]
   rw[Sem.run_bind,K1 _ _ _ _ _ _ rfl];simp only[Result.andThen_ok];split at h
   ·simp only[Option.some.injEq,Prod.mk.injEq]at h;obtain⟨rfl,rfl⟩:=h;exact⟨_,rfl,rfl,by simp[Go.binOp,he]⟩
   ·simp only[Option.some.injEq,Prod.mk.injEq]at h;obtain⟨rfl,rfl⟩:=h;exact⟨_,rfl,rfl,by simp[Go.binOp,he]⟩
   ·cases h
  ·cases h
 ·rename_i xs ys;split at h
  ·rename_i i hi;split at h
   ·rename_i r hab hr;have heq:=(hT _ _ hi).eq hab;unfold A7j at heq;split at heq
    ·rename_i fields hu;simp only[Bool.and_eq_true,Bool.not_eq_true']at heq;obtain⟨⟨q1,q2⟩,q3⟩:=heq;obtain⟨us,rfl,hus⟩:∃us,xv= .agg us∧R8 M xs us.toList:=by cases hx with|g h=>exact⟨_,rfl,h⟩
     obtain⟨vs,rfl,hvs⟩:∃us,yv= .agg us∧R8 M ys us.toList:=by cases hy with|g h=>exact⟨_,rfl,h⟩
     have hf:P.fieldsOf t=fields:=by unfold Program.fieldsOf;rw[hu]
     have he:(Op.equalIn 10000 t (.agg us) (.agg vs)).run P w= .ok r w:=by
      rw[show(10000:Nat)=9999+1 from rfl,run_equalIn_struct w 9999 t us vs (by rw[hf];exact hu) q2,hf];exact jJ 9998 q1 hr (by simpa using hus) (by simpa using hvs)
     rw[Sem.run_bind,run_eqGuard_agg w op t ox oy us vs q3];simp only[Result.andThen_ok];split at h
     ·simp only[Option.some.injEq,Prod.mk.injEq]at h;obtain⟨rfl,rfl⟩:=h;exact⟨_,rfl,rfl,by rw[run_eql_struct,he];rfl⟩
     ·simp only[Option.some.injEq,Prod.mk.injEq]at h;obtain⟨rfl,rfl⟩:=h;exact⟨_,rfl,rfl,by rw[run_neq_struct,he];rfl⟩
     ·cases h
    ·rename_i n e hu;simp only[Bool.and_eq_true,Bool.not_eq_true',Nat.beq_eq]at heq;obtain⟨⟨⟨⟨q1,q2⟩,q3⟩,q4⟩,q5⟩:=heq;obtain⟨us,rfl,hus⟩:∃us,xv= .agg us∧R8 M xs us.toList:=by cases hx with|g h=>exact⟨_,rfl,h⟩
     obtain⟨vs,rfl,hvs⟩:∃us,yv= .agg us∧R8 M ys us.toList:=by cases hy with|g h=>exact⟨_,rfl,h⟩
     split at q3
     ·rename_i k' hek;split at q4
      ·rename_i ie hie;rw[Nat.beq_eq]at q4;have hc:P.cellsOf e=1:=by simp[Program.cellsOf,hie,q4]
       have he:(Op.equalIn 10000 t (.agg us) (.agg vs)).run P w= .ok r w:=by
        rw[show(10000:Nat)=9999+1 from rfl,run_equalIn_array w 9999 us vs hu hie,hc,List.range_eq_range',q2];exact xE 9998 hek q1 hr (by simpa using hus) (by simpa using hvs)
       rw[Sem.run_bind,run_eqGuard_agg w op t ox oy us vs q5];simp only[Result.andThen_ok];split at h
       ·simp only[Option.some.injEq,Prod.mk.injEq]at h;obtain⟨rfl,rfl⟩:=h;exact⟨_,rfl,rfl,by rw[run_eql_struct,he];rfl⟩
       ·simp only[Option.some.injEq,Prod.mk.injEq]at h;obtain⟨rfl,rfl⟩:=h;exact⟨_,rfl,rfl,by rw[run_neq_struct,he];rfl⟩
       ·cases h
      ·cases q4
     ·cases q3
    ·cases heq
   ·cases h
  ·cases h
 ·cases h
theorem xF {l:List UInt8}:∀{m i j:Nat} {y:PV},(jA l i m)[j]? =some y→j<m∧y= .val (.int .u8 (l.getD (i+j) 0).toNat):=by
 intro m
 induction m with
 |zero=>intro i j y h;simp[jA]at h
 |succ m ih=>
  intro i j y h;cases j with
  |zero=>simp[jA]at h;exact⟨by omega,by simp[←h]⟩
  |succ j=>
   obtain⟨h1,h2⟩:=ih (i:=i+1) (by simpa[jA]using h);exact⟨by omega,by rw[h2,show i+1+j=i+(j+1)from by omega]⟩
set_option maxHeartbeats 1000000 in
theorem A9x (hT:K9 P T) (hS:E1 B W H M w) {rd:Operand→Option A} {ρ:Operand→Value} (hr:∀o x,rd o=some x→RA M x (ρ o)) (hc:∀v,ρ (.const v)=v) {wm:Bool}
 {dst:Option Tmp} {op:Op} {ty:TypeId} {pos:String} {after:Array Edge} {guard:Option (Nat×Bool)} {x:A} {ob:Prop} (h:K2 T H wm rd ty op=some (x,ob)) (hob:ob):
 ∃v,(execOp ρ ⟨dst,op,ty,pos,after,guard⟩).run P w= .ok (.value v) w∧RA M x v:=by
 unfold K2 at h;split at h
 ·
  split at h
  ·rename_i a ha;cases h;exact⟨_,by simp[execOp],dD hr hc ha⟩
  ·cases h
 ·
  split at h
  ·rename_i a ha;cases h;exact⟨_,by simp[execOp],dD hr hc ha⟩
  ·cases h
 ·
  split at h
  ·rename_i a b ha hb;split at h
   ·rename_i r hr';cases h;obtain⟨v,rfl,h1,h2⟩:=C2q (hr _ _ ha) (hr _ _ hb) hr' hob _ _ _;exact⟨v,by simp only[execOp,Sem.run_bind]at h2⊢;rw[h2];rfl,.c (.pv (.val h1))⟩
   ·obtain⟨v,rfl,h1,h2⟩:=B8v hT (hr _ _ ha) (hr _ _ hb) h hob _ _;exact⟨v,by simp only[execOp,Sem.run_bind]at h2⊢;rw[h2];rfl,.c (.pv (.val h1))⟩
  ·cases h
 ·
  split at h
  ·rename_i b hb;cases h;have:=(hr _ _ hb).val_inv;exact⟨.bool (!b),by simp[execOp,this,Op.unary],.c (.pv (.val rfl))⟩
  ·cases h
 ·
  split at h
  ·rename_i e _ s1 s2 z a hk ha;split at h
   ·rename_i s3 s4 z' he;have hu:=(hT _ _ hk).und;simp only at hu;obtain⟨u,h1,h2⟩:=B8t hT hS (hr _ _ ha) h hob hu.1 ((hT _ _ he).und);exact⟨u,by simp[execOp,h1],h2⟩
   ·cases h
  ·rename_i i a _ hk ha;have hd:=(hT _ _ hk).some_und;obtain⟨u,h1,h2⟩:=C2s hT (hr _ _ ha) h hob hd;exact⟨u,by simp only[execOp,Sem.run_bind];rw[h1];rfl,h2⟩
  ·cases h
 ·
  split at h
  ·rename_i xs hx;split at h
   ·rename_i a ha;cases h;rw[G0]at ha;have h1:=hr _ _ hx;generalize hρ:ρ _=v at h1;cases h1 with
    |t hs hh=>
     rename_i us;have hlt:=(gS_.1 ha).1;obtain⟨u,hu⟩:=bI us _ (by rw[hs];exact hlt);exact⟨u,by simp[execOp,hρ,Instr.extract,hu],hh _ _ _ ha hu⟩
   ·cases h
  ·rename_i y hx;split at h
   ·rename_i hi;cases h;rw[Nat.beq_eq]at hi;subst hi;have h1:=hr _ _ hx;generalize hρ:ρ _=v at h1;cases h1 with
    |u h0 hh=>exact⟨_,by simp[execOp,hρ,Instr.extract,h0],hh⟩
   ·cases h
  ·cases h
 ·
  split at h
  ·rename_i fs s1 s2 z cs hk hx;have h1:=hr _ _ hx;generalize hρ:ρ _=v at h1;cases h1 with
   |g hg=>
    rename_i us;split at h
    ·rename_i off size hf;cases h;obtain⟨fields,fd,inf,d,e1,e2,e3,e4,e5,e6,e7⟩:=eK hT hk hf;simp only at e3 e5 e7;refine⟨.agg (us.extract off (off+size)),?_,.g ?_⟩
     ·simp only[execOp,hρ,Instr.field,Sem.run_bind,run_underlying e1,Result.andThen_ok,e2];simp only[asAgg,part,Go.isAgg,Sem.run_bind,Sem.run_pure,Result.andThen_ok,run_underlying e6];cases d<;> simp at e7<;> simp[Go.sizeOf,D7 e4,e3,e5]
     ·refine⟨?_,fun j c u h1 h2=>?_⟩
      ·have:=hg.1;simp[aC,Q0]at this⊢;omega
      ·rw[aC,Q0,List.getElem?_take]at h1;split at h1
       ·rename_i hj;rw[List.getElem?_drop]at h1;refine hg.2 _ c u h1 ?_;simp only[Array.toList_extract,List.extract_eq_take_drop]at h2;rw[List.getElem?_take,if_pos (by omega),List.getElem?_drop]at h2;exact h2
       ·cases h1
    ·rename_i off size hf;split at h
     ·rename_i c rest hd;cases h;obtain⟨fields,fd,inf,d,e1,e2,e3,e4,e5,e6,e7⟩:=eK hT hk hf;simp only at e3 e5 e7;rw[Q0]at hd;have hc0:cs[off]? =some c:=by
       have:(cs.drop off)[0]? =some c:=by rw[hd];rfl
       simpa[List.getElem?_drop]using this
      have hlt:=(gS_.1 hc0).1;obtain⟨u,hu⟩:=bI us off (by have:=hg.1;simp at this;omega);refine⟨u,?_,.c (hg.2 off c _ hc0 (by simpa using hu))⟩;simp only[execOp,hρ,Instr.field,Sem.run_bind,run_underlying e1,Result.andThen_ok,e2];simp only[asAgg,part,Go.isAgg,Sem.run_bind,Sem.run_pure,Result.andThen_ok,run_underlying e6];cases d<;> simp at e7<;> simp[e3,hu]
     ·cases h
    ·cases h
  ·cases h
 ·
  rename_i sT xo fi;split at h
  ·rename_i fs s1 s2 z hk;split at h
   ·rename_i off size bb hf;obtain⟨fields,fd,inf,d,e1,e2,e3,e4,e5,e6,e7⟩:=eK hT hk hf;simp only at e3 e5 e7;have main:Nat.ble 1 size=true→∀b o,ρ xo= .pointer (some ⟨b,o,none⟩)→(execOp ρ ⟨dst,.fieldAddr sT xo fi,ty,pos,after,guard⟩).run P w= .ok (.value (.pointer (some ⟨b,o+off,none⟩))) w:=by
     intro hb b o hv;rw[Nat.ble_eq]at hb;have hs:inf.size≠0:=by omega
     simp[execOp,Instr.fieldAt,run_underlying e1,e2,hv,Instr.sureAddr,fieldPlace,Go.sizeOf,D7 e4,hs,Addr.add_lit,e3]
    split at h
    ·rename_i n b o hb hx;cases h;exact⟨_,main hb _ _ (hr _ _ hx).ptr_inv,.c .ptr⟩
    ·rename_i cs hb hx;cases h;obtain⟨b,o,hv,hcell⟩:=(hr _ _ hx).cel_inv;refine⟨_,main hb _ _ hv,RA.cel_mk fun j y hj=>?_⟩;rw[Q0,List.getElem?_drop]at hj;have:=hcell _ _ hj
     rwa [←Nat.add_assoc]at this
    ·rename_i n u i sz o hb hx;cases h;refine⟨_,main hb _ _ (hr _ _ hx).oel_inv,?_⟩;rw[Nat.add_assoc];exact .c .oel
    ·cases h
   ·cases h
  ·cases h
 ·
  split at h
  ·rename_i e k' s1 s2 z k l kk i hk hx hi;split at h
   ·rename_i hb;cases h;rw[Nat.beq_eq]at hb;have hu:=(hT _ _ hk).und;simp only at hu;obtain⟨hu,inf,hinf,hsz⟩:=hu;have hiv:=(hr _ _ hi).val_inv;have h1:=hr _ _ hx;generalize hρ:ρ _=v at h1;cases h1 with|c h1=>cases h1 with|pv h1=>
    obtain⟨a,c,b,o,rfl,g1,g2,g3,g4,g5⟩:=h1.lst_inv;have hlt:i.toNat<l.length:=by omega
    have:=g3 (by intro e;subst e;simp at hlt);subst this;refine⟨.pointer (some ⟨b,o+i.toNat*k.sz,none⟩),?_,RA.cel_mk fun j y hj=>?_⟩
    ·simp[execOp,Instr.indexAt,hρ,hiv,asIntOf,run_underlying hu,hob.1,hob.2,Go.sizeOf,D7 hinf,hsz,hb,Addr.add_lit]
    ·rw[List.getD,gE_ hlt]at hj;exact g5 _ _ _ _ (gE_ hlt) hj
   ·cases h
  ·rename_i e k' s1 s2 z n u kk i hk hx hi;split at h
   ·rename_i v' ty' k l hn;split at h
    ·rename_i hb;cases h;rw[Nat.beq_eq]at hb;obtain⟨rfl,ho1,ho2⟩:=hob;have hu:=(hT _ _ hk).und;simp only at hu;obtain⟨hu,inf,hinf,hsz⟩:=hu;have hiv:=(hr _ _ hi).val_inv;have hxv:=(hr _ _ hx).own_inv;rcases hS.ok _ _ hn with⟨rfl,rfl⟩|⟨b,cap,us,rfl,h1,h2,h3,h4,h5,h6,h7⟩
     ·simp at ho2;omega
     ·refine⟨.pointer (some ⟨b,i.toNat*k.sz,none⟩),?_,?_⟩
      ·simp[execOp,Instr.indexAt,hxv,hiv,asIntOf,run_underlying hu,ho1,ho2,Go.sizeOf,D7 hinf,hsz,hb,Addr.add_lit]
      ·exact .c (.oel (M:=M) (v:= .slice (some ⟨b,0,none⟩) l.length cap) (o:=0))
    ·cases h
   ·cases h
  ·rename_i e k' s1 s2 z n u lo hi ss kk i hk hx hi';split at h
   ·rename_i v' ty' k l hn;split at h
    ·rename_i hb;cases h;rw[Nat.beq_eq]at hb;obtain⟨⟨rfl,rfl⟩,⟨ho1,ho2⟩,ho3⟩:=hob;have hu:=(hT _ _ hk).und;simp only at hu;obtain⟨hu,inf,hinf,hsz⟩:=hu;have hiv:=(hr _ _ hi').val_inv;have hxv:=(hr _ _ hx).osl_inv;rcases hS.ok _ _ hn with⟨rfl,rfl⟩|⟨b,cap,us,rfl,h1,h2,h3,h4,h5,h6,h7⟩
     ·simp at ho3;omega
     ·refine⟨.pointer (some ⟨b,(lo+i.toNat)*k.sz,none⟩),?_,?_⟩
      ·have hcl:¬cap=lo:=by omega
       have hil:i<((hi-lo:Nat):Int):=by omega
       simp only[osV,hcl,if_false,Nat.zero_add]at hxv;simp[execOp,Instr.indexAt,hxv,hiv,asIntOf,run_underlying hu,ho1,hil,Go.sizeOf,D7 hinf,hsz,hb,Addr.add_lit,Nat.add_mul]
      ·exact .c (.oel (M:=M) (v:= .slice (some ⟨b,0,none⟩) l.length cap) (o:=0))
    ·cases h
   ·cases h
  ·rename_i N e s1 s2 z n b kk i hk hx hi;split at h
   ·rename_i ie v' ty' k l hie hn;split at h
    ·rename_i hb;cases h;rw[Nat.beq_eq]at hb;obtain⟨rfl,⟨ho1,ho2⟩,ho3⟩:=hob;have hu:=(hT _ _ hk).und;simp only at hu;obtain⟨hu,_⟩:=hu;obtain⟨inf,_,hinf,hsz,_⟩:=(hT _ _ hie).info;have hiv:=(hr _ _ hi).val_inv;refine⟨.pointer (some ⟨v'.blk,i.toNat*k.sz,none⟩),?_,.c (.oel (M:=M) (v:=v') (o:=0))⟩;simp[execOp,Instr.indexAt,(hr _ _ hx).ptr_inv,Instr.sureAddr,hiv,asIntOf,run_underlying hu,ho1,ho2,Go.sizeOf,D7 hinf,hsz,hb,Addr.add_lit]
    ·rename_i hb;cases h;obtain⟨rfl,ho1,ho2⟩:=hob;have hu:=(hT _ _ hk).und;simp only at hu;obtain⟨hu,_⟩:=hu;obtain⟨inf,_,hinf,hsz,_⟩:=(hT _ _ hie).info;have hiv:=(hr _ _ hi).val_inv;refine⟨.pointer (some ⟨v'.blk,i.toNat*ie.size,none⟩),?_,.c (.oel (M:=M) (v:=v') (o:=0))⟩;simp[execOp,Instr.indexAt,(hr _ _ hx).ptr_inv,Instr.sureAddr,hiv,asIntOf,run_underlying hu,ho1,ho2,Go.sizeOf,D7 hinf,hsz,Addr.add_lit]
   ·rename_i ie b' ty' cs' hie hn;cases h;obtain⟨ho1,ho2⟩:=hob;have hu:=(hT _ _ hk).und;simp only at hu;obtain⟨hu,_⟩:=hu;obtain⟨inf,_,hinf,hsz,_⟩:=(hT _ _ hie).info;have hiv:=(hr _ _ hi).val_inv;refine⟨.pointer (some ⟨b,i.toNat*ie.size,none⟩),?_,.c .ptr⟩;simp[execOp,Instr.indexAt,(hr _ _ hx).ptr_inv,Instr.sureAddr,hiv,asIntOf,run_underlying hu,ho1,ho2,Go.sizeOf,D7 hinf,hsz,Addr.add_lit]
   ·cases h
  ·rename_i N e s1 s2 z n v q sz o kk i hk hx hi;split at h
   ·rename_i ie v' ty' k l hie hn;split at h
    ·rename_i hb;cases h;simp only[Bool.and_eq_true,Nat.beq_eq]at hb;obtain⟨ho1,ho2⟩:=hob;have hu:=(hT _ _ hk).und;simp only at hu;obtain⟨hu,_⟩:=hu;obtain⟨inf,_,hinf,hsz,_⟩:=(hT _ _ hie).info;have hiv:=(hr _ _ hi).val_inv;have hrc:RC M (.oel n v (q*sz+o+i.toNat) 1 0) (.pointer (some ⟨v.blk,(q*sz+o+i.toNat)*1+0,none⟩)):= .oel;refine⟨.pointer (some ⟨v.blk,q*sz+o+i.toNat*1,none⟩),?_,.c (by simpa using hrc)⟩;simp[execOp,Instr.indexAt,(hr _ _ hx).oel_inv,Instr.sureAddr,hiv,asIntOf,run_underlying hu,ho1,ho2,Go.sizeOf,D7 hinf,hsz,hb.1,Addr.add_lit]
    ·cases h
   ·cases h
  ·rename_i N e s1 s2 z n b o kk i hno hk hx hi;split at h
   ·rename_i ie b' ty' cs' hie hn;cases h;obtain⟨ho1,ho2⟩:=hob;have hu:=(hT _ _ hk).und;simp only at hu;obtain⟨hu,_⟩:=hu;obtain⟨inf,_,hinf,hsz,_⟩:=(hT _ _ hie).info;have hiv:=(hr _ _ hi).val_inv;refine⟨.pointer (some ⟨b,o+i.toNat*ie.size,none⟩),?_,.c .ptr⟩;simp[execOp,Instr.indexAt,(hr _ _ hx).ptr_inv,Instr.sureAddr,hiv,asIntOf,run_underlying hu,ho1,ho2,Go.sizeOf,D7 hinf,hsz,Addr.add_lit]
   ·cases h
  ·cases h
 ·
  split at h
  ·rename_i n b o hx;split at h
   ·rename_i b' ty' cs hn;split at h
    ·rename_i a ha;cases h;subst hob;obtain⟨h1,h2,us,h3,h4⟩:=hS.ok _ _ hn;obtain⟨v,g1,g2⟩:=mK (w:=w) (M:=M) (b:=b) (o:=o) hT ha (fun j c hj=>by
      rw[Q0,List.getElem?_drop]at hj;have hlt:=(gS_.1 hj).1;obtain⟨u,hu⟩:=bI us (o+j) (by have:=h4.1;simp at this;omega);exact⟨u,by simp[World.cell?,h3,hu],h4.2 _ c _ hj (by simpa using hu)⟩)
     exact⟨v,by simp[execOp,Instr.loadAt,(hr _ _ hx).ptr_inv,Instr.sureAddr,g1],g2⟩
    ·cases h
   ·rename_i v' ty' l hn;split at h
    ·rename_i N e s1 s2 z hk;split at h
     ·rename_i a hN ha;cases h;obtain⟨rfl,hlen⟩:=hob;simp only[Bool.and_eq_true,Nat.beq_eq,Nat.ble_eq]at hN;obtain⟨rfl,hN⟩:=hN;rcases hS.ok _ _ hn with⟨rfl,rfl⟩|⟨b,cap,us,rfl,h1,h2,h3,h4,h5,h6,h7⟩
      ·simp at hlen;omega
      ·obtain⟨v,g1,g2⟩:=mK (w:=w) (M:=M) (b:=b) (o:=0) hT ha (fun j c hj=>by
        rw[List.getElem?_map]at hj;cases hy:(jA l 0 N)[j]? with
        |none=>rw[hy]at hj;cases hj
        |some y=>
         rw[hy]at hj;cases hj;obtain⟨hjN,rfl⟩:=xF hy;have hjl:j<l.length:=by omega
         obtain⟨u,hu,hru⟩:=h7 j l[j] 0 (.val (.int .u8 (l[j]).toNat)) (gE_ hjl) rfl;simp only[LK.sz,Nat.mul_one,Nat.add_zero]at hu;refine⟨u,by simp[World.cell?,h3,hu],.pv ?_⟩;simpa[List.getD,gE_ hjl]using hru)
       exact⟨v,by simp[execOp,Instr.loadAt,(hr _ _ hx).ptr_inv,Instr.sureAddr,Value.blk,Value.ownBlock,g1],g2⟩
     ·cases h
    ·cases h
   ·cases h
  ·rename_i cs hx;split at h
   ·rename_i a ha;cases h;obtain⟨b,o,hv,hcell⟩:=(hr _ _ hx).cel_inv;obtain⟨v,g1,g2⟩:=mK (w:=w) (M:=M) (b:=b) (o:=o) hT ha (fun j c hj=>by
     rw[List.getElem?_map]at hj;cases hy:cs[j]? with
     |none=>simp[hy]at hj
     |some y=>
      simp[hy]at hj;subst hj;obtain⟨u,hu,hru⟩:=hcell j y hy;exact⟨u,B5.cell_on hS.mem hu,.pv hru⟩)
    exact⟨v,by simp[execOp,Instr.loadAt,hv,Instr.sureAddr,g1],g2⟩
   ·cases h
  ·rename_i n u i sz o hx;split at h
   ·rename_i v' ty' k l hn;split at h
    ·rename_i a ha;cases h;obtain⟨⟨rfl,rfl⟩,hlt⟩:=hob;rcases hS.ok _ _ hn with⟨rfl,rfl⟩|⟨b,cap,us,rfl,h1,h2,h3,h4,h5,h6,h7⟩
     ·simp at hlt
     ·obtain⟨v,g1,g2⟩:=mK (w:=w) (M:=M) (b:=b) (o:=i*k.sz+o) hT ha (fun j c hj=>by
       rw[Q0,List.getElem?_map,List.getElem?_drop]at hj;cases hy:(k.enc (l.getD i k.dft))[o+j]? with
       |none=>rw[hy]at hj;cases hj
       |some y=>
        rw[hy]at hj;simp at hj;subst hj;rw[List.getD,gE_ hlt]at hy;obtain⟨u,hu,hru⟩:=h7 i l[i] (o+j) y (gE_ hlt) hy;exact⟨u,by simp[World.cell?,h3,Nat.add_assoc,hu],.pv hru⟩)
      exact⟨v,by simp[execOp,Instr.loadAt,(hr _ _ hx).oel_inv,Instr.sureAddr,Value.blk,Value.ownBlock,g1],g2⟩
    ·cases h
   ·cases h
  ·cases h
 ·
  split at h
  ·rename_i k l lo hi mx hx hlo hhi hmx;split at h
   ·rename_i e k' s1 s2 z hk;split at h
    ·rename_i lo' hi' ob' hb hs;cases h;rw[Nat.beq_eq]at hb;have hu:=(hT _ _ hk).und;simp only at hu;obtain⟨hu,inf,hinf,hsz⟩:=hu;have h1:=hr _ _ hx;generalize hρ:ρ _=v at h1;cases h1 with|c h1=>cases h1 with|pv h1=>
     obtain⟨a,c,b,o,rfl,g1,g2,g3,g4,g5⟩:=h1.lst_inv;obtain⟨q1,q2,q3,m,q4,q5,_,q6⟩:=kY (P:=P) (w:=w) hr hlo hhi hmx hs hob (sl:=true) g1;have hlen:(((l.take hi'.toNat).drop lo'.toNat)).length=hi'.toNat-lo'.toNat:=by simp;omega
     refine⟨.slice (if m=lo'.toNat then a else a.map (·.add (lo'.toNat*inf.size))) (hi'.toNat-lo'.toNat) (m-lo'.toNat),?_,?_⟩
     ·simp[execOp,Instr.sliceAt,hρ,run_underlying hu,Instr.slice,q6,Go.sizeOf,D7 hinf]
     ·refine .c (.pv (R.lst_mk (b:=b) (o:=o+lo'.toNat*k.sz) hlen (by omega) (by omega) ?_ ?_ ?_))
      ·intro hne;have hne':l≠[]:=by intro e;subst e;simp at hne
       have hlt:lo'.toNat<hi'.toNat:=by
        rcases Nat.lt_or_ge lo'.toNat hi'.toNat with h|h
        ·exact h
        ·exact absurd (List.length_eq_zero_iff.1 (by rw[hlen];omega)) hne
       rw[if_neg (by omega),g3 hne'];simp[Addr.add_lit,hsz,hb]
      ·intro hnone;split at hnone
       ·rename_i e;omega
       ·cases a with
        |none=>have:=g4 rfl;omega
        |some a=>simp at hnone
      ·intro i x j y e1 e2;rw[List.getElem?_drop,List.getElem?_take]at e1;split at e1
       ·obtain⟨u,hu,hru⟩:=g5 _ x j y e1 e2;refine⟨u,?_,hru⟩;rw[←hu];congr 1;rw[Nat.add_mul];omega
       ·cases e1
    ·cases h
   ·cases h
  ·rename_i n u lo hi hx hlo hhi hmx;split at h
   ·rename_i e k' s1 s2 z v' ty' k l hk hn;split at h
    ·rename_i lo' hi' ob' hb hs;cases h;rw[Nat.beq_eq]at hb;obtain⟨rfl,hob⟩:=hob;have hu:=(hT _ _ hk).und;simp only at hu;obtain⟨hu,inf,hinf,hsz⟩:=hu;have hxv:=(hr _ _ hx).own_inv;rcases eJ hr hmx with⟨hmx0,_⟩|⟨_,_,_,e,_⟩
     ·subst hmx0;rcases hS.ok _ _ hn with⟨rfl,rfl⟩|⟨b,cap,us,rfl,h1,h2,h3,h4,h5,h6,h7⟩
      ·obtain⟨q1,q2,q3,m,q4,q5,q7,q6⟩:=kY (P:=P) (w:=w) hr hlo hhi (omx:=none) rfl hs hob (sl:=true) (cap:=0) (Nat.zero_le _);simp only[Option.map_none,List.length_nil]at q6;refine⟨osV (.slice none 0 0) lo'.toNat hi'.toNat k.sz,?_,.c .osl⟩;have hm:m=0:=by omega
       subst hm;simp[execOp,Instr.sliceAt,hxv,run_underlying hu,Instr.slice,q6,Go.sizeOf,D7 hinf,osV]
      ·obtain⟨q1,q2,q3,m,q4,q5,q7,q6⟩:=kY (P:=P) (w:=w) hr hlo hhi (omx:=none) rfl hs hob (sl:=true) h4;simp only[Option.map_none]at q6;have hm:=q7 rfl;subst hm;refine⟨osV (.slice (some ⟨b,0,none⟩) l.length m) lo'.toNat hi'.toNat k.sz,?_,.c .osl⟩;have e:osV (.slice (some ⟨b,0,none⟩) l.length m) lo'.toNat hi'.toNat k.sz= .slice (if m=lo'.toNat then some ⟨b,0,none⟩else some ((⟨b,0,none⟩:Addr).add (lo'.toNat*inf.size))) (hi'.toNat-lo'.toNat) (m-lo'.toNat):=by
        unfold osV;simp only;split<;> simp[Addr.add_lit,hsz,hb]
       rw[e];simp[execOp,Instr.sliceAt,hxv,run_underlying hu,Instr.slice,q6,Go.sizeOf,D7 hinf]
     ·cases e
    ·cases h
   ·cases h
  ·rename_i l lo hi hx hlo hhi hmx;split at h
   ·rename_i s1 s2 z hk;split at h
    ·rename_i lo' hi' ob' hs;cases h;have hu:=(hT _ _ hk).und;simp only at hu;have hv:=(hr _ _ hx).val_inv;rename_i mx0 _ _ _ _ _;rcases eJ hr hmx with⟨rfl,_⟩|⟨_,_,_,e,_⟩
     ·obtain⟨q1,q2,q3,m,q4,q5,q7,q6⟩:=kY (P:=P) (w:=w) hr hlo hhi (omx:=none) rfl hs hob (sl:=false) (Nat.le_refl _);refine⟨.string ⟨((l.take hi'.toNat).drop lo'.toNat).toArray⟩,?_,.c (.pv (.val rfl))⟩;have hsize:(ByteArray.mk ⟨l⟩).size=l.length:=rfl;have hext:(ByteArray.mk ⟨l⟩).extract lo'.toNat hi'.toNat=⟨((l.take hi'.toNat).drop lo'.toNat).toArray⟩:=by
       apply ByteArray.ext;rw[ByteArray.data_extract];apply Array.ext';simp[List.extract_eq_take_drop,List.drop_take]
      simp only[Option.map_none]at q6;simp[execOp,Instr.sliceAt,hv,run_underlying hu,Instr.slice,hsize,q6,hext]
     ·cases e
    ·cases h
   ·cases h
  ·rename_i b o n c lo hi mx hx hlo hhi hmx;split at h
   ·rename_i e k' s1 s2 z hk;split at h
    ·rename_i l' h' m' ob' hs;cases h;have hu:=(hT _ _ hk).und;simp only at hu;obtain⟨hu,inf,hinf,hsz⟩:=hu;have hv:=(hr _ _ hx).val_inv;have q6:=A9w (P:=P) (w:=w) hr hlo hhi hmx hs hob;refine⟨sli b o l'.toNat h'.toNat m'.toNat k'.sz,?_,.c (.pv (.val rfl))⟩;simp only[execOp,Instr.sliceAt,hv,run_underlying hu,Instr.slice,Sem.run_bind,q6,Go.sizeOf,D7 hinf,Result.andThen_ok,Sem.run_pure,sli,hsz];by_cases e:m'.toNat=l'.toNat
     ·simp[e,Result.andThen_ok]
     ·simp[e,Result.andThen_ok,Addr.add_lit]
    ·cases h
   ·cases h
  ·rename_i n c lo hi mx hx hlo hhi hmx;split at h
   ·rename_i e k' s1 s2 z hk;split at h
    ·rename_i l' h' m' ob' hs;cases h;have hu:=(hT _ _ hk).und;simp only at hu;obtain⟨hu,inf,hinf,hsz⟩:=hu;have hv:=(hr _ _ hx).val_inv;have q6:=A9w (P:=P) (w:=w) hr hlo hhi hmx hs hob;refine⟨.slice none (h'.toNat-l'.toNat) (m'.toNat-l'.toNat),?_,.c (.pv (.val rfl))⟩;simp only[execOp,Instr.sliceAt,hv,run_underlying hu,Instr.slice,Sem.run_bind,q6,Go.sizeOf,D7 hinf,Result.andThen_ok,Sem.run_pure,hsz];by_cases e:m'.toNat=l'.toNat
     ·simp[e,Result.andThen_ok]
     ·simp[e,Result.andThen_ok,Addr.add_lit]
    ·cases h
   ·cases h
  ·cases h
 ·
  rename_i bt bps;split at h
  ·rename_i fs s1 s2 z hk;split at h
   ·rename_i ps hps;split at h
    ·rename_i cs hno hf;cases h;obtain⟨inf,zv,i1,i2,i3,i4,i5,i6⟩:=(hT _ _ hk).info;have hu:=(hT _ _ hk).und;simp only at hu;obtain⟨fields,u1,u2,u3⟩:=hu
     let places:Array (Nat×Nat):=(fs.map fun x=>(x.1,x.2.1)).toArray
     have hpl:∀(i:Nat) x,fs[i]? =some x→places[i]? =some (x.1,x.2.1):=by
      intro i x hx;simp[places,hx]
     have hmap:(fields.mapM fun f=>do pure (f.offset,←Go.sizeOf f.type):Sem (Array (Nat×Nat))).run P w= .ok places w:=by
      have gen:∀(fl:List Field) (xl:List (Nat×Nat×Bool)),fl.length=xl.length→(∀(j:Nat) f x,fl[j]? =some f→xl[j]? =some x→f.offset=x.1∧∃inf,P.info? f.type=some inf∧inf.size=x.2.1)→
       (fl.mapM fun f=>do pure (f.offset,←Go.sizeOf f.type):Sem (List (Nat×Nat))).run P w= .ok (xl.map fun x=>(x.1,x.2.1)) w:=by
       intro fl
       induction fl with
       |nil=>intro xl hl _;cases xl<;> simp at hl;simp
       |cons f fl ih=>
        intro xl hl hh;cases xl with
        |nil=>simp at hl
        |cons x xl=>
         obtain⟨e1,inf,e2,e3⟩:=hh 0 f x rfl rfl;have:=ih xl (by simpa using hl) (fun j f x a b=>hh (j+1) f x (by simpa using a) (by simpa using b));have hs:(Go.sizeOf f.type).run P w= .ok inf.size w:=by simp[Go.sizeOf,D7 e2]
         rw[List.mapM_cons];simp only[Sem.run_bind];rw[hs];simp only[Result.andThen_ok,Sem.run_pure];rw[this];simp[e1,e3]
      have:=gen fields.toList fs (by simpa using u2) (fun j f x a b=>by
       obtain⟨e1,inf,d,e2,e3,_⟩:=u3 j f x (by simpa using a) b;exact⟨e1,inf,e2,e3⟩)
      rw[Array.mapM_eq_mapM_toList,Sem.run_map,this];rfl
     obtain⟨hp1,hp2⟩:=xC (T:=T) hr _ _ hps;obtain⟨us',k1,k2⟩:=A5b hpl _ _ z cs zv.cells (i6 M) ⟨hp1,hp2⟩ hf;refine⟨.agg us',?_,.g k2⟩;have hzero:(zeroValue bt).run P w= .ok zv w:=by simp[zeroValue,D7 i1,i4]
     simp only[execOp,Instr.build,Sem.run_bind,hzero,Result.andThen_ok,run_underlying u1,hmap];simp only[List.map_toArray];rw[k1];rfl
    ·cases h
   ·cases h
  ·cases h
 ·
  split at h
  ·rename_i l hx;split at h
   ·rename_i s1 s2 z hk;cases h;have hu:=(hT _ _ hk).und;simp only at hu;have hv:=(hr _ _ hx).val_inv;refine⟨.int .i64 l.length,?_,.c (.pv (.val rfl))⟩;rw[cL rfl (r:= .ok (.int .i64 l.length) w)]
    ·rfl
    ·rw[hv];exact xD hu _
   ·cases h
  ·rename_i ad n cc hx;split at h
   ·rename_i e k' s1 s2 z hk;cases h;have hu:=(hT _ _ hk).und;simp only at hu;have hv:=(hr _ _ hx).val_inv;refine⟨.int .i64 n,?_,.c (.pv (.val rfl))⟩;rw[cL rfl (r:= .ok (.int .i64 n) w)]
    ·rfl
    ·simp[Builtin.len_,hv,run_underlying hu.1,goInt]
   ·cases h
  ·rename_i n b hx;split at h
   ·rename_i kk vk s1 s2 z b' kk' vk' l hk hn;cases h;have h2:b=b':=hob;subst h2;obtain⟨g1,g2,es,clock,g3,g4⟩:=hS.ok _ _ hn;obtain⟨kt,et,inf,u1,u2,u3,u4⟩:=(hT _ _ hk).und;have q3:=gK (hr _ _ hx);have hget:(getObj b).run P w= .ok (.map es clock) w:=by simp[getObj,Sem.run,g3]
    have hlen:es.size=l.length:=by have:=congrArg List.length g4.all;simpa using this
    refine⟨.int .i64 l.length,?_,.c (.pv (.val rfl))⟩;rw[cL rfl (r:= .ok (.int .i64 l.length) w)]
    ·rfl
    ·simp[Builtin.len_,run_underlying u1,q3,hget,goInt,hlen]
   ·cases h
  ·rename_i a _ hx;split at h
   ·rename_i k l ob' e k' s1 s2 z hl hk;cases h;have hu:=(hT _ _ hk).und;simp only at hu;obtain⟨ad,c,b,o,hv,_⟩:=oF hS (hr _ _ hx) hl hob;refine⟨.int .i64 l.length,?_,.c (.pv (.val rfl))⟩;rw[cL rfl (r:= .ok (.int .i64 l.length) w)]
    ·rfl
    ·simp[Builtin.len_,hv,run_underlying hu.1,goInt]
   ·cases h
  ·cases h
 ·
  split at h
  ·rename_i k a k' b ha hb;split at h
   ·rename_i hk;cases h;have e1:=(hr _ _ ha).val_inv;have e2:=(hr _ _ hb).val_inv;refine⟨.int k (min a b),?_,.c (.pv (.val rfl))⟩;rw[vM (r:= .ok (.int k (min a b)) w)]
    ·rfl
    ·have:(if b<a then b else a)=min a b:=by omega
     simp[Builtin.min_,e1,e2,Builtin.min2,this]
   ·cases h
  ·cases h
 ·
  split at h
  ·rename_i k a k' b ha hb;split at h
   ·rename_i hk;cases h;have e1:=(hr _ _ ha).val_inv;have e2:=(hr _ _ hb).val_inv;refine⟨.int k (max a b),?_,.c (.pv (.val rfl))⟩;rw[vN (r:= .ok (.int k (max a b)) w)]
    ·rfl
    ·have:(if a<b then b else a)=max a b:=by omega
     simp[Builtin.max_,e1,e2,Builtin.max2,this]
   ·cases h
  ·cases h
 ·
  split at h
  ·rename_i n b o hx;cases h;have:=(hr _ _ hx).ptr_inv;exact⟨.pointer (some ⟨b,o,none⟩),by simp[execOp,this],.c .ptr⟩
  ·rename_i cs hx;cases h;obtain⟨b,o,hv,_⟩:=(hr _ _ hx).cel_inv;have h1:=hr _ _ hx;rw[hv]at h1;exact⟨.pointer (some ⟨b,o,none⟩),by simp[execOp,hv],h1⟩
  ·rename_i n u i sz o hx;cases h;have:=(hr _ _ hx).oel_inv;exact⟨_,by simp[execOp,this],.c .oel⟩
  ·cases h
 ·
  split at h
  ·rename_i f caps _ l hl;split at h
   ·rename_i cs hcs;cases h;obtain⟨g1,g2⟩:=B3q hr _ _ hl;have:=A7k _ _ hcs;subst this;refine⟨.func (.func f) #[] (caps.map ρ).toArray,by simp[execOp,Instr.makeFunc],.c (.clo (by simpa using g1) ?_)⟩;intro j c u h1 h2;obtain⟨o,e1,e2⟩:=g2 j (.c c) (by simp[h1]);simp[e1]at h2;subst h2;cases e2 with|c e2=>exact e2
   ·cases h
  ·cases h
 ·
  split at h
  ·rename_i s1 s2 z l kk i hk hx hi;cases h;have hu:=(hT _ _ hk).und;simp only at hu;have e1:=(hr _ _ hx).val_inv;have e2:=(hr _ _ hi).val_inv;have hlt:i.toNat<l.length:=by omega
   refine⟨.int .u8 (l.getD i.toNat 0).toNat,?_,.c (.pv (.val rfl))⟩;have hget:(ByteArray.mk ⟨l⟩)[i.toNat]? =some (l.getD i.toNat 0):=by
    have:i.toNat<(ByteArray.mk ⟨l⟩).size:=hlt;rw[getElem?_pos (ByteArray.mk ⟨l⟩) i.toNat this];simp[List.getD,gE_ hlt];rfl
   simp[execOp,Instr.index,e1,e2,asIntOf,run_underlying hu,hob.1,hget]
  ·cases h
 ·
  split at h
  ·rename_i N e s1 s2 z l hk hx;split at h
   ·rename_i hN;cases h;rw[Nat.ble_eq]at hN;have hu:=(hT _ _ hk).und;simp only at hu;obtain⟨a,c,b,o,hv,g1,g2,g3,g4,g5⟩:=R.lst_inv (by have:=hr _ _ hx;cases this with|c h=>cases h with|pv h=>exact h);have hne:l≠[]:=by intro e;subst e;simp at hob;omega
    have ha:=g3 hne;subst ha;refine⟨.pointer (some ⟨b,o,none⟩),?_,.c (.cel b o (fun j=> .int .u8 (l.getD j 0).toNat) (fun j y hj=>?_) (fun j y hj=>?_))⟩
    ·simp only[execOp,hv,Sem.run_bind];rw[run_arrayAt _ _ _ _ _ _ _ hu.1 hob];rfl
    ·obtain⟨hjN,rfl⟩:=xF hj;have hjl:j<l.length:=by omega
     obtain⟨u,hu,hru⟩:=g5 j l[j] 0 (.val (.int .u8 (l[j]).toNat)) (gE_ hjl) rfl;have:=hru.val_eq;subst this;simp only[LK.sz,Nat.mul_one,Nat.add_zero]at hu;rw[hu];simp[List.getD,gE_ hjl]
    ·obtain⟨hjN,rfl⟩:=xF hj;simp only[Nat.zero_add];exact .val rfl
   ·cases h
  ·cases h
 ·
  rename_i tt xx ii okb;split at h
  ·rename_i kk vk s1 s2 z n b ia ht hx hi;split at h
   ·rename_i b' kk' vk' l hn;split at h
    ·rename_i k ob' hkv hko;cases h;simp only[Bool.and_eq_true]at hkv;obtain⟨e1,e2⟩:=hkv;have:=A3N e1;subst this;have:=A3O e2;subst this;obtain⟨rfl,hob⟩:=hob;refine⟨A5a okb (vk.enc (O8 vk.dft (H9 l k))) (A5V (H9 l k)),?_,?_⟩
     ·simp[execOp,xB hT hS ht hn hko hob (hr _ _ hi) (hr _ _ hx)]
     ·cases okb with
      |false=>exact xA vk _
      |true=>
       refine .t rfl (fun j c u a1 a2=>?_)
       match j,a1,a2 with
       |0,a1,a2=>simp at a1 a2;subst a1 a2;exact xA vk _
       |1,a1,a2=>simp at a1 a2;subst a1 a2;exact .c (.pv (.val rfl))
    ·cases h
   ·cases h
  ·cases h
 ·cases h
end
section
variable {P : Program} {T : Tb} {w w' : World} {M F : B5} {B : Nat → Prop} {W : World} {H H' : Nat → Option HB}
def B5.or (M F:B5):B5:=fun k=>match F k with
 |some o=>some o
 |none=>M k
def jK (F:B5) (n:Nat) (w':World):Prop:=∀k o,F k=some o→n≤k∧w'.heap[k]? =some o
def B5.all (w:World):B5:=fun k=>w.heap[k]?
theorem B5.all_on (w:World):(B5.all w).on w:=fun _ _ h=>h
theorem B5.le_all {M:B5} {w:World} (h:M.on w):M.le (B5.all w):=h
theorem B5.none_of_size {M:B5} {w:World} (h:M.on w) {k:Nat} (hk:w.heap.size≤k):M k=none:=by
 cases e:M k with
 |none=>rfl
 |some o=>have:=h k o e;rw[Array.getElem?_eq_none hk]at this;cases this
theorem B5.le_or {M F:B5} {w w':World} (h:M.on w) (hF:jK F w.heap.size w'):M.le (M.or F):=by
 intro k o e;unfold B5.or;cases hf:F k with
 |none=>exact e
 |some o'=>
  have:=(hF k o' hf).1;rw[B5.none_of_size h this]at e;cases e
def B5.ext (B:Nat→Prop) (M M':B5):Prop:=M.le M'∧∀k o,M' k=some o→B k→M k=some o
theorem B5.ext_refl (B:Nat→Prop) (M:B5):B5.ext B M M:=⟨B5.le_refl _,fun _ _ h _=>h⟩
theorem B5.ext_or {B:Nat→Prop} {M F:B5} {w w':World} (h:M.on w) (hB:∀k,B k→k<w.heap.size) (hF:jK F w.heap.size w'):B5.ext B M (M.or F):=by
 refine⟨B5.le_or h hF,fun k o e hk=>?_⟩;unfold B5.or at e;cases hf:F k with
 |none=>simpa[hf]using e
 |some o'=>have:=(hF k o' hf).1;have:=hB k hk;omega
theorem B5.or_le {M F:B5}:F.le (M.or F):=by intro k o e;simp[B5.or,e]
theorem B5.le_cle {M M':B5} (h:M.le M'):B5.cle M M':=fun _ _ _ e=>B5.cell_le h e
theorem B5.cle_trans {A B C:B5} (h:B5.cle A B) (k:B5.cle B C):B5.cle A C:=fun b o v e=>k b o v (h b o v e)
theorem HB.block_lt {x:HB} (h:X2 M B w x) {b:Nat} (hb:x.has b):¬B b∧b<w.heap.size∧M b=none:=by
 cases x with
 |blk b' ty cs=>
  cases hb;obtain⟨h1,h2,us,h3,_⟩:=h;exact⟨h1,(Array.getElem?_eq_some_iff.1 h3).1,h2⟩
 |own v ty k l=>
  rcases h with⟨rfl,rfl⟩|⟨b',cap,us,rfl,h1,h2,h3,_⟩
  ·cases hb
  ·cases hb;exact⟨h1,(Array.getElem?_eq_some_iff.1 h3).1,h2⟩
 |obj S P=>exact⟨(h.1 b hb).1,(h.1 b hb).2.2,(h.1 b hb).2.1⟩
 |mp b' kk vk l=>
  cases hb;obtain⟨h1,h2,es,c,h3,_⟩:=h;exact⟨h1,(Array.getElem?_eq_some_iff.1 h3).1,h2⟩
 |mpr b' kk vk l bi vs=>
  obtain⟨h1,h2,_,es,c,sn,h3,_,h4,_⟩:=h;rcases hb with rfl|rfl
  ·exact⟨h1.1,(Array.getElem?_eq_some_iff.1 h3).1,h1.2⟩
  ·exact⟨h2.1,(Array.getElem?_eq_some_iff.1 h4).1,h2.2⟩
theorem X2.keep {M':B5} {x:HB} (h:X2 M B w x) (hM:M.le M') (hMn:∀b,x.has b→M' b=none) (hb:∀b,x.has b→w'.heap[b]? =w.heap[b]?):X2 M' B w' x:=by
 cases x with
 |blk b ty cs=>
  obtain⟨h1,h2,us,h3,h4⟩:=h;exact⟨h1,hMn b rfl,us,(hb b rfl).trans h3,h4.mono hM⟩
 |own v ty k l=>
  rcases h with⟨rfl,rfl⟩|⟨b,cap,us,rfl,h1,h2,h3,h4,h5,h6,h7⟩
  ·exact .inl ⟨rfl,rfl⟩
  ·exact .inr ⟨b,cap,us,rfl,h1,hMn b rfl,(hb b rfl).trans h3,h4,h5,h6,fun i x j y e1 e2=>let⟨u,hu,hr⟩:=h7 i x j y e1 e2;⟨u,hu,hr.mono hM⟩⟩
 |obj S P=>
  refine⟨fun k hk=>⟨(h.1 k hk).1,hMn k hk,?_⟩,fun M2 w2 g1 g2 g3=>h.2 M2 w2 (B5.cle_trans (B5.le_cle hM) g1) g2 (fun k hk=>(g3 k hk).trans (hb k hk))⟩;have h1:=(h.1 k hk).2.2;have h2:=hb k hk;rw[Array.getElem?_eq_getElem h1]at h2;exact(Array.getElem?_eq_some_iff.1 h2).1
 |mp b kk vk l=>
  obtain⟨h1,h2,es,c,h3,h4⟩:=h;exact⟨h1,hMn b rfl,es,c,(hb b rfl).trans h3,h4⟩
 |mpr b kk vk l bi vs=>
  obtain⟨h1,h2,h0,es,c,sn,h3,h4,h5,h6⟩:=h;exact⟨⟨h1.1,hMn b (.inl rfl)⟩,⟨h2.1,hMn bi (.inr rfl)⟩,h0,es,c,sn,(hb b (.inl rfl)).trans h3,h4,(hb bi (.inr rfl)).trans h5,h6⟩
theorem X2.reB {B':Nat→Prop} {x:HB} (h:X2 M B w x) (hb:∀b,x.has b→¬B' b):X2 M B' w x:=by
 cases x with
 |blk b ty cs=>obtain⟨h1,h2,us,h3,h4⟩:=h;exact⟨hb b rfl,h2,us,h3,h4⟩
 |own v ty k l=>
  rcases h with⟨rfl,rfl⟩|⟨b,cap,us,rfl,h1,h2⟩
  ·exact .inl ⟨rfl,rfl⟩
  ·exact .inr ⟨b,cap,us,rfl,hb b rfl,h2⟩
 |obj S P=>exact⟨fun k hk=>⟨hb k hk,(h.1 k hk).2⟩,h.2⟩
 |mp b kk vk l=>exact⟨hb b rfl,h.2⟩
 |mpr b kk vk l bi vs=>exact⟨⟨hb b (.inl rfl),h.1.2⟩,⟨hb bi (.inr rfl),h.2.1.2⟩,h.2.2⟩
theorem E1.step (hS:E1 B W H M w) {row:Option Nat} (hg:w.grownBy w' row) (hrow:∀b,row=some b→¬B b∧M b=none) {nn:Nat} {xx:HB}
 (hH:∀n x,n≠nn→H' n=some x→H n=some x∧∀b,row=some b→¬x.has b) (hnn:H' nn=some xx) (hx:X2 M B w' xx) (hf:∀b,xx.has b→w.heap.size≤b∨row=some b):E1 B W H' M w':=by
 have hne:∀n x b,n≠nn→H' n=some x→x.has b→¬xx.has b:=by
  intro n x b hn hx' hb hb';obtain⟨h1,h2⟩:=hH n x hn hx';rcases hf b hb' with h|h
  ·have:=(HB.block_lt (hS.ok n x h1) hb).2.1;omega
  ·exact h2 b h hb
 refine⟨?_,fun k hk=>Nat.lt_of_lt_of_le (hS.base k hk) hg.size,?_,?_,?_⟩
 ·exact hS.below.grown hg hS.base (fun k hk=>(hrow k hk).1)
 ·intro k o e;have hlt:k<w.heap.size:=(Array.getElem?_eq_some_iff.1 (hS.mem k o e)).1;rw[hg.block k hlt (fun h=>by have:=(hrow k h.symm).2;rw[e]at this;cases this)];exact hS.mem k o e
 ·intro n x hx';by_cases hn:n=nn
  ·subst hn;rw[hnn]at hx';cases hx';exact hx
  ·obtain⟨h1,h2⟩:=hH n x hn hx';have hok:=hS.ok n x h1;refine hok.keep (B5.le_refl _) (fun b hb=>(HB.block_lt hok hb).2.2) (fun b hb=>hg.block b (HB.block_lt hok hb).2.1 (fun h=>h2 b h.symm hb))
 ·intro n n' x x' b hnn' h1 h2 hb;by_cases hn:n=nn
  ·subst hn;rw[hnn]at h1;cases h1;exact fun h=>hne n' x' b (fun e=>hnn' e.symm) h2 h hb
  ·by_cases hn':n'=nn
   ·subst hn';rw[hnn]at h2;cases h2;exact hne n x b hn h1 hb
   ·exact hS.inj n n' x x' b hnn' (hH n x hn h1).1 (hH n' x' hn' h2).1 hb
theorem E1.offM (hS:E1 B W H M w) {l:Nat} {o:Obj} (h:M l=some o):∀n x,H n=some x→¬x.has l:=fun n x hx hh=>by
 have:=(HB.block_lt (hS.ok n x hx) hh).2.2;rw[h]at this;cases this
theorem E1.offS (hS:E1 B W H M w) {l:Nat} (h:w.heap.size≤l):∀n x,H n=some x→¬x.has l:=fun n x hx hh=>by
 have:=(HB.block_lt (hS.ok n x hx) hh).2.1;omega
theorem E1.less (hS:E1 B W H M w) (hH:∀n x,H' n=some x→H n=some x):E1 B W H' M w:=
 ⟨hS.below,hS.base,hS.mem,fun n x h=>hS.ok n x (hH n x h),fun n n' x x' b hn h1 h2=>hS.inj n n' x x' b hn (hH n x h1) (hH n' x' h2)⟩
theorem E1.call (hS:E1 B W H M w) (hb:Below w.heap.size w w') (hF:jK F w.heap.size w'):E1 B W H (M.or F) w':=by
 have hle:=B5.le_or hS.mem hF;refine⟨hS.below.trans (.of hb hS.base),fun k hk=>Nat.lt_of_lt_of_le (hS.base k hk) hb.size,?_,?_,hS.inj⟩
 ·intro k o e;unfold B5.or at e;cases hf:F k with
  |none=>
   simp only[hf]at e;have hlt:k<w.heap.size:=(Array.getElem?_eq_some_iff.1 (hS.mem k o e)).1;rw[hb.block k hlt];exact hS.mem k o e
  |some o'=>simp only[hf]at e;cases e;exact(hF k _ hf).2
 ·intro n x hx;have hok:=hS.ok n x hx;refine hok.keep hle (fun b hb'=>?_) (fun b hb'=>hb.block b (HB.block_lt hok hb').2.1);obtain⟨_,h2,h3⟩:=HB.block_lt hok hb';unfold B5.or;cases hf:F b with
  |none=>exact h3
  |some o=>have:=(hF b o hf).1;omega
theorem E1.freeze (hS:E1 B W H M w) {n:Nat} {v:Value} {ty:TypeId} {k:LK} {l:List k.T} (hn:H n=some (.own v ty k l)) (hH:∀m x,H' m=some x→m≠n∧H m=some x):
 ∃M',B5.ext B M M'∧E1 B W H' M' w∧R M' (.lst k l) v:=by
 rcases hS.ok n _ hn with⟨rfl,rfl⟩|⟨b,cap,us,rfl,h1,h2,h3,h4,h5,h6,h7⟩
 ·exact⟨M,B5.ext_refl _ _,hS.less (fun m x h=>(hH m x h).2),R.lst_nil _ _⟩
 ·refine⟨fun j=>if j=b then w.heap[b]? else M j,?_,?_,?_⟩
  ·refine⟨fun j o e=>?_,fun j o e hj=>?_⟩
   ·by_cases hj:j=b
    ·subst hj;rw[h2]at e;cases e
    ·simp[hj,e]
   ·have hjb:j≠b:=fun e=>h1 (e▸hj)
    simpa[hjb]using e
  ·have hle:M.le (fun j=>if j=b then w.heap[b]? else M j):=by
    intro j o e;by_cases hj:j=b
    ·subst hj;rw[h2]at e;cases e
    ·simp[hj,e]
   refine⟨hS.below,hS.base,?_,?_,fun m m' x x' c hm a1 a2=>hS.inj m m' x x' c hm (hH m x a1).2 (hH m' x' a2).2⟩
   ·intro j o e;by_cases hj:j=b
    ·subst hj;simpa using e
    ·simp only[hj,if_false]at e;exact hS.mem j o e
   ·intro m x hx;obtain⟨e1,e2⟩:=hH m x hx;have hok:=hS.ok m x e2;refine hok.keep hle (fun c hc=>?_) (fun c hc=>rfl);have hcb:c≠b:=fun e=>hS.inj n m _ x b (fun h=>e1 h.symm) hn e2 rfl (e▸hc)
    simp only[hcb,if_false];exact(HB.block_lt hok hc).2.2
  ·refine R.lst_mk (b:=b) (o:=0) rfl h4 h5 (fun _=>rfl) (by simp) (fun i x j y e1 e2=>?_);obtain⟨u,hu,hr⟩:=h7 i x j y e1 e2;refine⟨u,by simp[B5.cell,h3,hu],hr.mono ?_⟩;intro j o e;by_cases hj:j=b
   ·subst hj;rw[h2]at e;cases e
   ·simp[hj,e]
theorem aE (w:World) (row:Option Nat):w.grownBy w row:=⟨rfl,rfl,rfl,Nat.le_refl _,fun _ _ _=>rfl⟩
theorem I8 (w:World) (g:Nat) (cs:Array Value):w.grownBy (w.setRow g cs) (some g):=by
 refine⟨rfl,rfl,rfl,by simp,fun k hk hne=>?_⟩;simp only[World.setRow,Array.getElem?_modify];rw[if_neg (fun e=>hne (by rw[e]))]
end
section
variable {P : Program} {T : Tb} {w w' : World} {M F : B5} {B : Nat → Prop} {W : World} {H H' : Nat → Option HB}
def qP (M:B5) (k:LK) (l:List k.T) (us:List Value):Prop:=
 us.length=l.length*k.sz∧∀i x j y,l[i]? =some x→(k.enc x)[j]? =some y→∃u,us[i*k.sz+j]? =some u∧R M y u
theorem N9 {k:LK} {x:k.T} {j:Nat} {y:PV} (h:(k.enc x)[j]? =some y):j<k.sz:=by
 have:=(gS_.1 h).1
 rwa [LK.enc_len]at this
theorem qP.one {k:LK} {l:List k.T} {us:List Value} (h:qP M k l us):∀u∈us,u.oneCell'=true:=by
 intro u hu;obtain⟨n,hn,rfl⟩:=List.getElem_of_mem hu;have hsz:=LK.sz_pos k;have hn':n<l.length*k.sz:=by rw[←h.1];exact hn
 have hi:n / k.sz<l.length:=Nat.div_lt_of_lt_mul (by rw[Nat.mul_comm];exact hn');have hj:n%k.sz<(k.enc l[n / k.sz]).length:=by rw[LK.enc_len];exact Nat.mod_lt _ hsz
 obtain⟨u,h1,h2⟩:=h.2 (n / k.sz) _ (n%k.sz) _ (gE_ hi) (gE_ hj);rw[Nat.div_add_mod']at h1;rw[gE_ hn]at h1;cases h1;exact h2.one
theorem qP.append {k:LK} {l m:List k.T} {us vs:List Value} (h:qP M k l us) (h':qP M k m vs):qP M k (l++m) (us++vs):=by
 refine⟨by rw[List.length_append,List.length_append,h.1,h'.1,Nat.add_mul],fun i x j y e1 e2=>?_⟩;have hj:=N9 e2;by_cases hi:i<l.length
 ·rw[List.getElem?_append_left hi]at e1;obtain⟨u,h1,h2⟩:=h.2 i x j y e1 e2;refine⟨u,?_,h2⟩;rw[List.getElem?_append_left]
  ·exact h1
  ·exact(gS_.1 h1).1
 ·rw[List.getElem?_append_right (by omega)]at e1;obtain⟨u,h1,h2⟩:=h'.2 _ x j y e1 e2;refine⟨u,?_,h2⟩;have hle:l.length*k.sz≤i*k.sz:=Nat.mul_le_mul_right _ (by omega);rw[List.getElem?_append_right (by rw[h.1];omega),h.1,←h1]
  congr 1
  rw[Nat.sub_mul];omega
theorem F6.nil (M:B5) (B:Nat→Prop) (w:World) (ty:TypeId) (k:LK):F6 M B w (.slice none 0 0) ty k []:= .inl ⟨rfl,rfl⟩
theorem F6.mk {k:LK} {l:List k.T} {b cap:Nat} {us:Array Value} {ty:TypeId} (hB:¬B b) (hM:M b=none) (hb:w.heap[b]? =some (.cells us ty (0,0))) (h1:l.length≤cap) (h2:cap≤maxLen) (h3:us.size=cap*k.sz)
 (h:qP M k l (us.toList.take (l.length*k.sz))):F6 M B w (.slice (some ⟨b,0,none⟩) l.length cap) ty k l:=by
 refine .inr ⟨b,cap,us,rfl,hB,hM,hb,h1,h2,h3,fun i x j y e1 e2=>?_⟩;obtain⟨u,hu,hr⟩:=h.2 i x j y e1 e2;refine⟨u,?_,hr⟩;rw[List.getElem?_take]at hu;split at hu
 ·simpa using hu
 ·cases hu
theorem F6.lies {k:LK} {l:List k.T} {b cap:Nat} {us:Array Value} (h1:l.length≤cap) (h3:us.size=cap*k.sz)
 (h7:∀i x j y,l[i]? =some x→(k.enc x)[j]? =some y→∃u,us[i*k.sz+j]? =some u∧R M y u):qP M k l (us.toList.take (l.length*k.sz)):=by
 have hle:l.length*k.sz≤us.size:=by rw[h3];exact Nat.mul_le_mul_right _ h1
 refine⟨by simp;omega,fun i x j y e1 e2=>?_⟩;obtain⟨u,hu,hr⟩:=h7 i x j y e1 e2;refine⟨u,?_,hr⟩;have hi:=(gS_.1 e1).1;have hj:=N9 e2;have:i*k.sz+j<l.length*k.sz:=by
  have:(i+1)*k.sz≤l.length*k.sz:=Nat.mul_le_mul_right _ hi;rw[Nat.add_mul]at this;omega
 rw[List.getElem?_take,if_pos this];simpa using hu
structure B3r (P:Program) (tx:TypeId) (x:Value) (n:Nat) (news:List Value) (z:Value):Prop where
 und:∃kd,P.underlying tx=some (.int kd)
 val:∃ki,x= .int ki n
 le:n≤1099511627776
 news:news=List.replicate n (.int .u8 0)
 zc:z.cells= #[.int .u8 0]
theorem B3s {n:Nat} (h:n≤1099511627776):IntKind.i64.wrap (n:Int)=n:=by
 simp[IntKind.wrap,IntKind.bits,IntKind.signed];omega
theorem zcZ {z:Value} (h:z.cells= #[.int .u8 0]) (n:Nat):Builtin.zeroCells z.cells n=(List.replicate n (Value.int .u8 0)).toArray:=by
 rw[h];apply Array.ext
 ·simp[Builtin.zeroCells]
 ·intro i h1 h2;have:i%1=0:=Nat.mod_one i;simp[Builtin.zeroCells,this]
theorem B3t {t tx ty e:TypeId} {i:TypeInfo} {z x:Value} {news:List Value} (ht:P.underlying t=some (.slice e)) (hi:P.info? e=some i) (hz:i.zero=some z) (h:B3r P tx x 0 news z):
 (Builtin.append_ #[t,tx] ty #[.slice none 0 0,x]).run P w= .ok (.slice none 0 0) w:=by
 obtain⟨kd,hk⟩:=h.und;obtain⟨ki,rfl⟩:=h.val;have hw:=B3s (n:=0) (by omega);simp[Builtin.append_,run_underlying ht,run_underlying hk,Go.sizeOf,typeInfo,hi,asInt,asIntOf];simp[IntKind.wrap,IntKind.bits,IntKind.signed]
theorem B1H {t tx ty e:TypeId} {i:TypeInfo} {z x:Value} {n:Nat} {news:List Value} (ht:P.underlying t=some (.slice e)) (hi:P.info? e=some i) (hz:i.zero=some z) (hsz:i.size=1) (hby:i.bytes≤128) (h:B3r P tx x n news z)
 {b sLen sCap:Nat} (hroom:sLen+n≤sCap) (hst:(storeCells ⟨b,sLen*1,none⟩ news).run P w= .ok () w'):
 (Builtin.append_ #[t,tx] ty #[.slice (some ⟨b,0,none⟩) sLen sCap,x]).run P w= .ok (.slice (some ⟨b,0,none⟩) (sLen+n) sCap) w':=by
 obtain⟨kd,hk⟩:=h.und;obtain⟨ki,rfl⟩:=h.val;have hw:=B3s h.le;have hle:=h.le;have h0:¬((n:Int)<0):=by omega
 have h48:¬((281474976710656:Int)<n*i.bytes):=by
  have:(n:Int)*i.bytes≤1099511627776*128:=Int.mul_le_mul (by omega) (by omega) (by omega) (by omega);omega
 have hnews:=h.news;by_cases hn0:n=0
 ·subst hn0;simp at hnews;subst hnews;simp[Builtin.append_,run_underlying ht,run_underlying hk,Go.sizeOf,typeInfo,hi,hz,asInt,asIntOf,hw,h0,h48,hroom,hsz,Addr.add_lit,IntKind.wrap_i64];simp at hst hroom;simp[hroom,hst]
 ·have hnz:¬(n*1=0):=by omega
  subst hnews;simp[Builtin.append_,run_underlying ht,run_underlying hk,Go.sizeOf,typeInfo,zeroValue,hi,hz,asInt,asIntOf,hw,h0,h48,hroom,hsz,hn0,zcZ h.zc,Addr.add_lit];simp at hst;simp[hst]
theorem A2W {t tx ty e:TypeId} {i:TypeInfo} {z x:Value} {n:Nat} {news:List Value} (ht:P.underlying t=some (.slice e)) (hi:P.info? e=some i) (hz:i.zero=some z) (hsz:i.size=1) (hby:i.bytes≤128) (h:B3r P tx x n news z)
 (base:Option Addr) (sLen sCap:Nat) (olds:List Value)
 (hold:(Builtin.firstCells i.size sLen (.slice base sLen sCap)).run P w.drew= .ok olds.toArray w.drew)
 (hg:sCap<sLen+n) (h63:((sLen+n:Nat):Int)≤9223372036854775807) (hfit:Builtin.nextslicecap (sLen+n) sCap*i.bytes≤281474976710656):
 (Builtin.append_ #[t,tx] ty #[.slice base sLen sCap,x]).run P w=
  .ok (.slice (some ⟨w.heap.size,0,none⟩) (sLen+n) (grownCap w (sLen+n) sCap e))
   (w.drew.alloc (.cells ((olds++news).toArray++Builtin.zeroCells z.cells (grownCap w (sLen+n) sCap e-(sLen+n))) e)):=by
 obtain⟨kd,hk⟩:=h.und;obtain⟨ki,rfl⟩:=h.val;have hw:=B3s h.le;have hle:=h.le;have h0:¬((n:Int)<0):=by omega
 have h48:¬((281474976710656:Int)<n*i.bytes):=by
  have:(n:Int)*i.bytes≤1099511627776*128:=Int.mul_le_mul (by omega) (by omega) (by omega) (by omega);omega
 have hnews:=h.news;have hn:¬(sLen+n≤sCap):=by omega
 have h63':¬(9223372036854775807<((sLen:Int)+(n:Int))):=by omega
 have h48':¬(281474976710656<Builtin.nextslicecap (sLen+n) sCap*i.bytes):=by omega
 rw[hsz]at hold;by_cases hn0:n=0
 ·subst hn0;simp at hnews;subst hnews;simp[Builtin.append_,run_underlying ht,run_underlying hk,Go.sizeOf,typeInfo,zeroValue,hi,hz,asInt,asIntOf,hw,h0,h48,hn,h63',h48',hsz,Question.forced,hold,newRow,grownCap,IntKind.wrap_i64];have q1:¬(9223372036854775807<(sLen:Int)):=by omega
  have q2:¬(sLen≤sCap):=by omega
  have q3:¬(281474976710656<Builtin.nextslicecap sLen sCap*i.bytes):=by simpa using h48'
  simp[q1,q2,q3,hold]
 ·subst hnews;simp[Builtin.append_,run_underlying ht,run_underlying hk,Go.sizeOf,typeInfo,zeroValue,hi,hz,asInt,asIntOf,hw,h0,h48,hn,h63',h48',hsz,Question.forced,hold,newRow,grownCap,hn0]
  congr 2
  apply Array.ext';simp[zcZ h.zc]
def C2t (P:Program) (sz:Nat) (tx:TypeId) (x:Value) (n:Nat) (news:List Value) (w:World) (z:Value):Prop:=Src P sz tx x n news w∨B3r P tx x n news z
theorem A7l (hb:∀k,B k→k<w.heap.size) (hm:M.on w) {v:Value} {ty:TypeId} {k:LK} {l:List k.T} (ho:F6 M B w v ty k l) {t tx tr:TypeId} {inf:TypeInfo} {z:Value} (ht:P.underlying t=some (.slice ty)) (hi:P.info? ty=some inf) (hz:inf.zero=some z)
 (hsz:inf.size=k.sz) (hzs:z.cells.size=k.sz) (hby:inf.bytes≤128) {x:Value} {ys:List k.T} {news:List Value} (hs:C2t P k.sz tx x ys.length news w z) (hl:qP M k ys news) (hle:l.length+ys.length≤1099511627776):
 ∃v' w',(Builtin.append_ #[t,tx] tr #[v,x]).run P w= .ok v' w'∧w.grownBy w' v.ownBlock∧F6 M B w' v' ty k (l++ys)∧∀b,v'.ownBlock=some b→w.heap.size≤b∨v.ownBlock=some b:=by
 have hs2:C2t P inf.size tx x ys.length news w z:=by rw[hsz];exact hs
 have hz1:B3r P tx x ys.length news z→inf.size=1:=fun h=>by rw[hsz,←hzs,h.zc];rfl
 have h48:∀c,c<l.length+ys.length→Builtin.nextslicecap (l.length+ys.length) c*inf.bytes≤281474976710656:=by
  intro c hc;refine growslice_fits hc ?_
  calc(l.length+ys.length)*inf.bytes≤1099511627776*128:=Nat.mul_le_mul hle hby
   _≤_:=by decide
 have grown:∀(old:Nat) (row:Option Nat) (olds:List Value),qP M k l olds→
  F6 M B (w.drew.alloc (.cells ((olds++news).toArray++Builtin.zeroCells z.cells (grownCap w (l.length+ys.length) old ty-(l.length+ys.length))) ty)) (.slice (some ⟨w.heap.size,0,none⟩) (l.length+ys.length) (grownCap w (l.length+ys.length) old ty)) ty k (l++ys)∧
  w.grownBy (w.drew.alloc (.cells ((olds++news).toArray++Builtin.zeroCells z.cells (grownCap w (l.length+ys.length) old ty-(l.length+ys.length))) ty)) row:=by
  intro old row olds hold;have hge:=grownCap_ge w (l.length+ys.length) old ty;have hcm:grownCap w (l.length+ys.length) old ty≤maxLen:=grownCap_le_maxLen w _ old ty (by simp only[maxLen];omega);have hL:=hold.append hl;rw[show l.length+ys.length=(l++ys).length from by simp]at *;refine⟨F6.mk (fun h=>Nat.lt_irrefl _ (hb _ h)) (B5.none_of_size hm (Nat.le_refl _)) (heap_alloc_new w.drew _) hge hcm ?_ ?_,⟨rfl,rfl,rfl,by simp,fun kk hk _=>heap_alloc_old w.drew _ hk⟩⟩
  ·rw[Array.size_append,List.size_toArray,hL.1,size_zeroCells,hzs,←Nat.add_mul]
   congr 1;omega
  ·rw[Array.toList_append];rw[List.take_append_of_le_length (by simp only[List.toList_toArray];rw[hL.1];exact Nat.le_refl _)];rw[List.take_of_length_le (by simp only[List.toList_toArray];rw[hL.1];exact Nat.le_refl _)];exact hL
 rcases ho with⟨rfl,rfl⟩|⟨b,cap,us,rfl,h1,h2,h3,h4,h5,h6,h7⟩
 ·by_cases hn:ys.length=0
  ·have:ys=[]:=List.eq_nil_of_length_eq_zero hn;subst this;have hnews:news=[]:=List.eq_nil_of_length_eq_zero (by simpa using hl.1);subst hnews;refine⟨.slice none 0 0,w,?_,aE _ _,F6.nil _ _ _ _ _,by simp[Value.ownBlock]⟩;rcases hs2 with hs'|hs'
   case inr=>exact B3t ht hi hz hs'
   have hc:(Builtin.firstCells inf.size 0 x).run P w= .ok #[] w:=by simpa using hs'.cells
   have hll:∀w',(Builtin.lenOf x).run P w'= .ok 0 w':=by simpa using hs'.len
   rcases hs'.kind with⟨e',hk⟩|hk<;> simp[Builtin.append_,run_underlying ht,run_underlying hk,Go.sizeOf,typeInfo,hi,hll,hc]
  ·have hr:(Builtin.append_ #[t,tx] tr #[.slice none 0 0,x]).run P w= .ok (.slice (some ⟨w.heap.size,0,none⟩) (0+ys.length) (grownCap w (0+ys.length) 0 ty))
    (w.drew.alloc (.cells (([]++news).toArray++Builtin.zeroCells z.cells (grownCap w (0+ys.length) 0 ty-(0+ys.length))) ty)):=by
    rcases hs2 with hs'|hs'
    ·exact run_append_grow_src (P:=P) w t tx tr ty inf z ht hi hz none 0 0 [] (by simp[Builtin.firstCells]) x ys.length news hs' (by omega) (by simp at hle⊢;omega) (by have:=h48 0 (by simp;omega);simpa using this)
    ·exact A2W ht hi hz (hz1 hs') hby hs' none 0 0 [] (by simp[Builtin.firstCells]) (by omega) (by simp at hle⊢;omega) (by have:=h48 0 (by simp;omega);simpa using this)
   obtain⟨g1,g2⟩:=grown 0 (Value.ownBlock (.slice none 0 0)) [] ⟨by simp,by simp⟩;simp only[List.length_nil,Nat.zero_add,List.nil_append]at g1 g2 hr;exact⟨_,_,hr,g2,g1,fun b hb'=> .inl (by simp[Value.ownBlock]at hb';omega)⟩
 ·by_cases hroom:l.length+ys.length≤cap
  ·have hfit:l.length*k.sz+news.length≤us.size:=by rw[hl.1,h6,←Nat.add_mul];exact Nat.mul_le_mul_right _ hroom
   have hst:(storeCells ⟨b,l.length*k.sz,none⟩ news).run P w= .ok () (w.setRow b (us.toList.take (l.length*k.sz)++news++us.toList.drop (l.length*k.sz+news.length)).toArray):=by
    have:=run_storeCells_at P b (l.length*k.sz) ty news 0 us w h3 (by simpa using hfit) hl.one;simpa using this
   have hr:(Builtin.append_ #[t,tx] tr #[.slice (some ⟨b,0,none⟩) l.length cap,x]).run P w= .ok (.slice (some ⟨b,0,none⟩) (l.length+ys.length) cap) (w.setRow b (us.toList.take (l.length*k.sz)++news++us.toList.drop (l.length*k.sz+news.length)).toArray):=by
    rcases hs with hs|hs
    ·rcases hs.kind with⟨e',hk⟩|hk<;> simp[Builtin.append_,run_underlying ht,run_underlying hk,Go.sizeOf,typeInfo,hi,hs.len,hroom,hs.cells,Addr.add_lit,hsz,hst]
    ·have h1:=hz1 hs;have h2:k.sz=1:=by rw[←hsz];exact h1
     exact B1H ht hi hz h1 hby hs hroom (by rw[h2]at hst;rw[h2];exact hst)
   have hold:=F6.lies h4 h6 h7 (b:=b);have hL:=hold.append hl;refine⟨_,_,hr,I8 _ _ _,?_,fun b' hb'=> .inr hb'⟩;have hlen:l.length+ys.length=(l++ys).length:=by simp
   rw[hlen];refine F6.mk h1 h2 (setRow_heap w b us _ ty _ h3) (by rw[←hlen];exact hroom) h5 ?_ ?_
   ·simp only[List.size_toArray,List.length_append,List.length_take,List.length_drop,Array.length_toList];omega
   ·rw[List.toList_toArray,List.take_append_of_le_length (by rw[hL.1];exact Nat.le_refl _),List.take_of_length_le (by rw[hL.1];exact Nat.le_refl _)];exact hL
  ·have hold:=F6.lies h4 h6 h7 (b:=b);have hfc:(Builtin.firstCells inf.size l.length (.slice (some ⟨b,0,none⟩) l.length cap)).run P w.drew= .ok (us.toList.take (l.length*k.sz)).toArray w.drew:=by
    have hc:=run_firstCells_some (P:=P) w.drew k.sz l.length ⟨b,0,none⟩ l.length cap (us.toList.take (l.length*k.sz)) hold.1 (fun j u hu=>by
     rw[List.getElem?_take]at hu;split at hu
     ·rw[Addr.add_lit];exact(cell_of_row w.drew b (0+j) us ty (0,0) h3).trans (by simpa using hu)
     ·cases hu)
    rw[hsz];exact hc
   have hr:(Builtin.append_ #[t,tx] tr #[.slice (some ⟨b,0,none⟩) l.length cap,x]).run P w= .ok (.slice (some ⟨w.heap.size,0,none⟩) (l.length+ys.length) (grownCap w (l.length+ys.length) cap ty))
    (w.drew.alloc (.cells ((us.toList.take (l.length*k.sz)++news).toArray++Builtin.zeroCells z.cells (grownCap w (l.length+ys.length) cap ty-(l.length+ys.length))) ty)):=by
    rcases hs2 with hs'|hs'
    ·exact run_append_grow_src (P:=P) w t tx tr ty inf z ht hi hz (some ⟨b,0,none⟩) l.length cap (us.toList.take (l.length*k.sz)) hfc x ys.length news hs' (by omega) (by omega) (h48 cap (by omega))
    ·exact A2W ht hi hz (hz1 hs') hby hs' (some ⟨b,0,none⟩) l.length cap (us.toList.take (l.length*k.sz)) hfc (by omega) (by omega) (h48 cap (by omega))
   obtain⟨g1,g2⟩:=grown cap (Value.ownBlock (.slice (some ⟨b,0,none⟩) l.length cap)) _ hold;exact⟨_,_,hr,g2,g1,fun b' hb'=> .inl (by simp[Value.ownBlock]at hb';omega)⟩
end
end
end Go.Mt
namespace Go
def Value.bn:Value→Nat
 | .pointer (some a)=>a.block
 |_=>0
def Value.comp:Value→Nat→Value
 | .tuple vs,i=>vs.getD i undef
 |_,_=>undef
end Go
namespace Go.Mt
open Go.RowKit
def TS.of:PV→TS
 | .lst .spn q=> .l q
 | .val q=> .v q
 | .nil _=> .v (.slice none 0 0)
 |_=> .l []
def TS.ok (x:PV):Prop:=x=(TS.of x).pv∨∃k,x= .nil k
def B3u:List C→Option (List Nat)
 |[]=>some []
 | .ptr _ b 0::l=>match B3u l with
  |some bs=>some (b::bs)
  |none=>none
 |_=>none
def lsT:C→Option (List (List B0))
 | .pv (.lst .tbl l)=>some l
 | .pv (.nil .tbl)=>some []
 |_=>none
def lsS:C→Option (List A7h)
 | .pv (.lst .sht l)=>some l
 | .pv (.nil .sht)=>some []
 |_=>none
def lsB:C→Option (List gJ)
 | .pv (.lst .bms l)=>some l
 | .pv (.nil .bms)=>some []
 |_=>none
def lsI:C→Option (List Int)
 | .pv (.lst (.ints .i64) l)=>some l
 | .pv (.nil (.ints .i64))=>some []
 |_=>none
def LK.dec:(k:LK)→List C→Option (k.T×Prop)
 | .byt,[.pv (.val (.int .u8 n))]=>some (UInt8.ofNat n.toNat,0≤n∧n≤255)
 | .ints k,[.pv (.val (.int k' n))]=>match qN k k' with|true=>some (n,True)|false=>none
 | .spn,[.pv (.val (.int .i64 a)),.pv (.val (.int .i64 b))]=>some (⟨a,b⟩,True)
 | .pcs,[.pv (.val (.int .i64 a)),.pv (.val (.int .i64 b)),.pv (.val (.int .i64 c))]=>some (⟨a,b,c⟩,True)
 | .ent,[.pv (.val (.int .i64 a)),.pv (.val (.int .i64 b)),.pv (.val (.int .i64 c)),.pv (.val (.int .i64 d)),.pv (.val (.int .u32 e))]=>some (⟨a,b,c,d,e⟩,True)
 | .slt,[.pv (.val (.int .i64 a)),.pv (.val (.int .i64 b)),.pv (.val (.int .i64 c)),.pv (.val (.int .u32 e))]=>some (⟨a,b,c,e⟩,True)
 | .rcd,[.pv (.val (.int .i64 a)),.pv (.lst .byt l)]=>some (⟨a,l⟩,True)
 | .rcd,[.pv (.val (.int .i64 a)),.pv (.nil .byt)]=>some (⟨a,[]⟩,True)
 | .tbl,[.pv (.lst .ent l)]=>some (l,True)
 | .tbl,[.pv (.nil .ent)]=>some ([],True)
 | .bms,[.pv (.val (.string ⟨⟨s⟩⟩)),.pv (.val (.bool b)),.pv (.lst .spn l)]=>some (⟨s,b,l⟩,True)
 | .bms,[.pv (.val (.string ⟨⟨s⟩⟩)),.pv (.val (.bool b)),.pv (.nil .spn)]=>some (⟨s,b,[]⟩,True)
 | .sht,[.pv (.val (.string ⟨⟨s⟩⟩)),.pv (.val (.int .i64 n)),.pv (.lst .tbl l)]=>some (⟨s,n,l⟩,True)
 | .sht,[.pv (.val (.string ⟨⟨s⟩⟩)),.pv (.val (.int .i64 n)),.pv (.nil .tbl)]=>some (⟨s,n,[]⟩,True)
 | .knw,[.pv (.val (.int .u64 f)),.pv (.val (.int .i64 a)),.pv (.val (.int .i64 b)),.pv (.val (.int .i64 c)),.pv (.val (.int .i64 d)),.pv (.val (.int .u32 e))]=>some (⟨f,a,b,c,d,e⟩,True)
 | .bls,[.pv (.val (.bool b))]=>some (b,True)
 | .tbh,[.pv (.lst .ent l)]=>some (.l l,True)
 | .tbh,[.pv (.nil .ent)]=>some (.l [],True)
 | .tbh,[.own _ v]=>some (.v v,True)
 | .stp,[.pv (.val (.int .i64 a)),.pv (.val (.bool b)),.pv (.val (.int .u8 c)),.pv (.val (.int .u8 d))]=>some (⟨a,b,c,d⟩,True)
 | .act,[.pv (.val (.int .i64 f)),.pv (.lst .byt l),.pv (.val (.int .i64 a)),.pv (.val (.int .i64 b)),.pv (.val (.int .i64 c)),.pv (.val (.int .i64 d)),.pv (.val (.int .u32 e))]=>some (⟨f,l,a,b,c,d,e⟩,True)
 | .bmh,[.pv (.val (.string ⟨⟨s⟩⟩)),.pv (.val (.bool b)),.pv x]=>some (⟨s,b,TS.of x⟩,TS.ok x)
 | .bmh,[.pv (.val (.string ⟨⟨s⟩⟩)),.pv (.val (.bool b)),.own _ v]=>some (⟨s,b,.v v⟩,True)
 | .sec,cs=>match wZ cs with
  |some (l,p)=>some (l,p∧l.length=16)
  |none=>none
 | .log,.pv (.val (.string ⟨⟨s⟩⟩)):: .pv (.val (.int .i64 n))::cs=>match wZ cs with
  |some (l,p)=>some (⟨s,n,l⟩,p∧l.length=16)
  |none=>none
 | .ptr,[.ptr _ b 0]=>some (b,True)
 | .lnk,[.pv (.val (.string ⟨⟨s⟩⟩)),.pv (.val (.string ⟨⟨t⟩⟩))]=>some (⟨s,t⟩,True)
 | .lin,[.pv (.val (.int .i64 x)),.pv (.val (.int .i64 y)),.pv (.val (.int .i64 a)),.pv (.val (.int .i64 b)),.pv (.val (.int .i64 c)),.pv (.val (.int .i64 d)),.pv (.val (.int .u32 e))]=>some (⟨x,y,a,b,c,d,e⟩,True)
 | .mta,[.pv (.val (.int .i64 x)),.pv (.val (.int .i64 y)),.pv (.val (.string ⟨⟨s⟩⟩)),a,b,c,d]=>match lsT a,lsS b,lsB c,lsI d with
  |some a,some b,some c,some d=>some (⟨x,y,s,a,b,c,d⟩,True)
  |_,_,_,_=>none
 | .str,[.pv (.val (.string ⟨⟨s⟩⟩))]=>some (s,True)
 | .fn,[.clo f cs]=>match B3u cs with
  |some bs=>some ((f,bs),True)
  |none=>none
 |_,_=>none
section
variable {P : Program} {T : Tb} {w w' : World} {M F : B5} {B : Nat → Prop} {W : World} {H H' : Nat → Option HB}
theorem R8.at {xs:List C} {us:List Value} (h:R8 M xs us) {j:Nat} {x:PV} (hj:xs[j]? =some (.pv x)):∃u,us[j]? =some u∧R M x u:=by
 have hlt:=(gS_.1 hj).1;have hlt':j<us.length:=by rw[h.1];exact hlt
 refine⟨us[j],gE_ hlt',?_⟩;have:=h.2 j _ _ hj (gE_ hlt');cases this with|pv r=>exact r
theorem R.nil_lst {k:LK} {v:Value} (h:R M (.nil k) v):R M (.lst k []) v:=by cases h;exact R.lst_nil _ _
theorem aV {k:LK} {x:k.T} {cs:List C} {us:List Value} (hr:R8 M cs us) (ys:List PV) (e:cs=ys.map .pv) (hl:ys.length=k.sz)
 (hh:∀(j:Nat) (y y':PV) (v:Value),ys[j]? =some y→(k.enc x)[j]? =some y'→R M y v→R M y' v):us.length=k.sz∧∀(j:Nat) (y:PV),(k.enc x)[j]? =some y→∃u,us[j]? =some u∧R M y u:=by
 subst e;refine⟨by rw[hr.1];simpa using hl,fun j y hj=>?_⟩;have hlt:j<ys.length:=by rw[hl];exact N9 hj
 obtain⟨u,hu,hru⟩:=hr.at (j:=j) (x:=ys[j]) (by simp[gE_ hlt]);exact⟨u,hu,hh j _ _ _ (gE_ hlt) hj hru⟩
theorem J5 {k:LK} {x:k.T} {cs:List C} {us:List Value} (hr:R8 M cs us) (e:cs=(k.enc x).map .pv):us.length=k.sz∧∀(j:Nat) (y:PV),(k.enc x)[j]? =some y→∃u,us[j]? =some u∧R M y u:=
 aV hr _ e (LK.enc_len _ _) (fun j y y' v h1 h2 h3=>by rw[h1]at h2;cases h2;exact h3)
theorem A5c (l:List UInt8):∀(m i:Nat),i+m≤l.length→jA l i m=((l.drop i).take m).map fun x=>PV.val (.int .u8 (x.toNat:Int)):=by
 intro m
 induction m with
 |zero=>intro i _;simp[jA]
 |succ m ih=>
  intro i h;rw[jA,ih (i+1) (by omega),List.drop_eq_getElem_cons (show i<l.length by omega),List.take_succ_cons,List.map_cons];simp[List.getD,gE_ (show i<l.length by omega)]
theorem A9y:∀(cs:List C) (bs:List Nat) (us:List Value),B3u cs=some bs→R8 M cs us→us=bs.map fun b=>vL (some b):=by
 intro cs
 induction cs with
 |nil=>intro bs us h hr;cases h;have:=hr.1;simpa using this
 |cons c cs ih=>
  intro bs us h hr;unfold B3u at h;split at h
  ·rename_i e;cases e
  ·rename_i n b l' e;cases e;split at h
   ·rename_i bs' hb;cases h;cases us with
    |nil=>have:=hr.1;simp at this
    |cons u us=>
     have h0:=hr.2 0 _ _ rfl rfl;cases h0;rw[ih bs' us hb ⟨by have:=hr.1;simpa using this,fun j c u e1 e2=>hr.2 (j+1) c u (by simpa using e1) (by simpa using e2)⟩];rfl
   ·cases h
  ·cases h
theorem C2u {c:C} {l:List (List B0)} {v:Value} (h:lsT c=some l) (r:RC M c v):R M (.lst .tbl l) v:=by
 unfold lsT at h;split at h
 ·cases h;cases r with|pv r=>exact r
 ·cases h;cases r with|pv r=>exact r.nil_lst
 ·cases h
theorem C2v {c:C} {l:List A7h} {v:Value} (h:lsS c=some l) (r:RC M c v):R M (.lst .sht l) v:=by
 unfold lsS at h;split at h
 ·cases h;cases r with|pv r=>exact r
 ·cases h;cases r with|pv r=>exact r.nil_lst
 ·cases h
theorem C2w {c:C} {l:List gJ} {v:Value} (h:lsB c=some l) (r:RC M c v):R M (.lst .bms l) v:=by
 unfold lsB at h;split at h
 ·cases h;cases r with|pv r=>exact r
 ·cases h;cases r with|pv r=>exact r.nil_lst
 ·cases h
theorem C2x {c:C} {l:List Int} {v:Value} (h:lsI c=some l) (r:RC M c v):R M (.lst (.ints .i64) l) v:=by
 unfold lsI at h;split at h
 ·cases h;cases r with|pv r=>exact r
 ·cases h;cases r with|pv r=>exact r.nil_lst
 ·cases h
theorem B3v {k:LK} {cs:List C} {x:k.T} {ob:Prop} (h:k.dec cs=some (x,ob)) (hob:ob) {us:List Value} (hr:R8 M cs us):
 us.length=k.sz∧∀(j:Nat) (y:PV),(k.enc x)[j]? =some y→∃u,us[j]? =some u∧R M y u:=by
 unfold LK.dec at h;split at h
 ·rename_i n;cases h;refine J5 hr ?_;have:((UInt8.ofNat n.toNat).toNat:Int)=n:=by
   rw[UInt8.toNat_ofNat'];omega
  simp[LK.enc];omega
 ·split at h
  ·rename_i k' n k'' hk;cases h;have:=cK hk;subst this;exact J5 hr rfl
  ·cases h
 ·cases h;exact J5 hr rfl
 ·cases h;exact J5 hr rfl
 ·cases h;exact J5 hr rfl
 ·cases h;exact J5 hr rfl
 ·cases h;exact J5 hr rfl
 ·rename_i a;cases h;refine aV hr [i64 a,.nil .byt] rfl rfl (fun j y y' v h1 h2 h3=>?_)
  match j,h1,h2 with
  |0,h1,h2=>simp[LK.enc]at h1 h2;subst h1 h2;exact h3
  |1,h1,h2=>simp[LK.enc]at h1 h2;subst h1 h2;exact h3.nil_lst
 ·cases h;exact J5 hr rfl
 ·cases h;refine aV hr [.nil .ent] rfl rfl (fun j y y' v h1 h2 h3=>?_)
  match j,h1,h2 with
  |0,h1,h2=>simp[LK.enc]at h1 h2;subst h1 h2;exact h3.nil_lst
 ·cases h;exact J5 hr rfl
 ·rename_i s b;cases h;refine aV hr [sv s,bv b,.nil .spn] rfl rfl (fun j y y' v h1 h2 h3=>?_)
  match j,h1,h2 with
  |0,h1,h2=>simp[LK.enc]at h1 h2;subst h1 h2;exact h3
  |1,h1,h2=>simp[LK.enc]at h1 h2;subst h1 h2;exact h3
  |2,h1,h2=>simp[LK.enc]at h1 h2;subst h1 h2;exact h3.nil_lst
 ·cases h;exact J5 hr rfl
 ·rename_i s n;cases h;refine aV hr [sv s,i64 n,.nil .tbl] rfl rfl (fun j y y' v h1 h2 h3=>?_)
  match j,h1,h2 with
  |0,h1,h2=>simp[LK.enc]at h1 h2;subst h1 h2;exact h3
  |1,h1,h2=>simp[LK.enc]at h1 h2;subst h1 h2;exact h3
  |2,h1,h2=>simp[LK.enc]at h1 h2;subst h1 h2;exact h3.nil_lst
 ·cases h;exact J5 hr rfl
 ·cases h;exact J5 hr rfl
 ·cases h;exact J5 hr rfl
 ·cases h;refine aV hr [.nil .ent] rfl rfl (fun j y y' v h1 h2 h3=>?_)
  match j,h1,h2 with
  |0,h1,h2=>simp[LK.enc,TE.pv]at h1 h2;subst h1 h2;exact h3.nil_lst
 ·cases h;have hl:us.length=1:=hr.1;refine⟨hl,fun j y hj=>?_⟩;have hj0:j=0:=by have:=N9 hj;simp only[LK.sz]at this;omega
  subst hj0;have hu:us[0]? =some us[0]:=gE_ (by omega);have hc:=hr.2 0 _ _ rfl hu;cases hc with
  |own ho=>simp[LK.enc,TE.pv]at hj;subst hj;exact⟨_,hu,.val ho⟩
 ·cases h;exact J5 hr rfl
 ·cases h;exact J5 hr rfl
 ·rename_i s b x;cases h;refine aV hr [sv s,bv b,x] rfl rfl (fun j y y' v h1 h2 h3=>?_)
  match j,h1,h2 with
  |0,h1,h2=>simp[LK.enc]at h1 h2;subst h1 h2;exact h3
  |1,h1,h2=>simp[LK.enc]at h1 h2;subst h1 h2;exact h3
  |2,h1,h2=>
   simp[LK.enc]at h1 h2;subst h1 h2;rcases hob with e|⟨k,rfl⟩
   ·rw[←e];exact h3
   ·cases h3;exact .val rfl
 ·rename_i s b n v;cases h;have hl:us.length=3:=hr.1;refine⟨hl,fun j y hj=>?_⟩;have hj3:j<3:=N9 hj;have hu:us[j]? =some us[j]:=gE_ (by omega);refine⟨_,hu,?_⟩
  match j,hj3,hj,hu with
  |0,_,hj,hu=>have hc:=hr.2 0 _ _ rfl hu;simp[LK.enc]at hj;subst hj;cases hc with|pv r=>exact r
  |1,_,hj,hu=>have hc:=hr.2 1 _ _ rfl hu;simp[LK.enc]at hj;subst hj;cases hc with|pv r=>exact r
  |2,_,hj,hu=>
   have hc:=hr.2 2 _ _ rfl hu;generalize us[2]=q at hc⊢;cases hc with
   |own ho=>simp[LK.enc,TS.pv]at hj;subst hj;exact .val ho
 ·split at h
  ·rename_i l p hd;cases h;obtain⟨hp,hl⟩:=hob;refine J5 hr ((A3Q hd hp).trans ?_);simp only[LK.enc];rw[A5c _ 16 0 (by omega),List.drop_zero,List.take_of_length_le (by omega)]
  ·cases h
 ·rename_i s n cs;cases hd:wZ cs with
  |none=>rw[hd]at h;cases h
  |some lp=>
   obtain⟨l,p⟩:=lp;rw[hd]at h;cases h;obtain⟨hp,hl⟩:=hob;refine J5 hr ?_;simp only[LK.enc,List.map_cons,sv,i64];rw[A5c l 16 0 (by omega),List.drop_zero,List.take_of_length_le (by omega)];exact congrArg _ (congrArg _ (A3Q hd hp))
 ·rename_i n b;cases h;have hl:us.length=1:=hr.1;refine⟨hl,fun j y hj=>?_⟩;have hj0:j=0:=by have:=N9 hj;simp only[LK.sz]at this;omega
  subst hj0;have hu:us[0]? =some us[0]:=gE_ (by omega);have hc:=hr.2 0 _ _ rfl hu;refine⟨_,hu,?_⟩;generalize us[0]=q at hc⊢;cases hc;simp[LK.enc]at hj;subst hj;exact .val rfl
 ·cases h;exact J5 hr rfl
 ·cases h;exact J5 hr rfl
 ·rename_i x y s a b c d;split at h
  ·rename_i ta sb bc id h1 h2 h3 h4;cases h;have hl:us.length=7:=hr.1;refine⟨hl,fun j z hj=>?_⟩;have hj7:j<7:=N9 hj;have hu:us[j]? =some us[j]:=gE_ (by omega);refine⟨_,hu,?_⟩
   match j,hj7,hj,hu with
   |0,_,hj,hu=>have hc:=hr.2 0 _ _ rfl hu;simp[LK.enc]at hj;subst hj;cases hc with|pv r=>exact r
   |1,_,hj,hu=>have hc:=hr.2 1 _ _ rfl hu;simp[LK.enc]at hj;subst hj;cases hc with|pv r=>exact r
   |2,_,hj,hu=>have hc:=hr.2 2 _ _ rfl hu;simp[LK.enc]at hj;subst hj;cases hc with|pv r=>exact r
   |3,_,hj,hu=>have hc:=hr.2 3 _ _ rfl hu;simp[LK.enc]at hj;subst hj;exact C2u h1 hc
   |4,_,hj,hu=>have hc:=hr.2 4 _ _ rfl hu;simp[LK.enc]at hj;subst hj;exact C2v h2 hc
   |5,_,hj,hu=>have hc:=hr.2 5 _ _ rfl hu;simp[LK.enc]at hj;subst hj;exact C2w h3 hc
   |6,_,hj,hu=>have hc:=hr.2 6 _ _ rfl hu;simp[LK.enc]at hj;subst hj;exact C2x h4 hc
  ·cases h
 ·cases h;exact J5 hr rfl
 ·rename_i f cs;split at h
  ·rename_i bs hb;cases h;have hl:us.length=1:=hr.1;refine⟨hl,fun j y hj=>?_⟩;have hj0:j=0:=by have:=N9 hj;simp only[LK.sz]at this;omega
   subst hj0;have hu:us[0]? =some us[0]:=gE_ (by omega);have hc:=hr.2 0 _ _ rfl hu;refine⟨_,hu,?_⟩;generalize us[0]=q at hc⊢;cases hc with
   |clo hs hk=>
    rename_i ws;have:=A9y cs bs ws.toList hb ⟨by simpa using hs,fun j c u e1 e2=>hk j c u e1 (by simpa using e2)⟩;have e:ws=(bs.map fun b=>vL (some b)).toArray:=by rw[←this]
    subst e;simp[LK.enc]at hj;subst hj;exact .val rfl
  ·cases h
 ·cases h
end
inductive RX where
 |c (x:PV)
 |g (xs:List PV)
 |cl (f:Nat) (cs:List PV)
inductive RV where
 |x (r:RX)
 |o (e:TypeId) (k:LK) (l:List k.T)
 |ot (e:TypeId) (k:LK) (l:List k.T) (rest:List RX)
 |t (rest:List RX)
def A7m (M:B5):RX→Value→Prop
 | .c x,v=>R M x v
 | .g xs,v=>∃us:Array Value,v= .agg us∧us.size=xs.length∧∀(j:Nat) (x:PV) (u:Value),xs[j]? =some x→us[j]? =some u→R M x u
 | .cl f cs,v=>RC M (.clo f [.cel cs]) v
def A5d (M:B5) (B:Nat→Prop) (w:World):RV→Value→Prop
 | .x r,v=>A7m M r v
 | .o e k l,v=>F6 M B w v e k l
 | .ot e k l rest,v=>∃us:Array Value,v= .tuple us∧us.size=rest.length+1∧(∃u,us[0]? =some u∧F6 M B w u e k l)∧∀(j:Nat) (r:RX) (u:Value),rest[j]? =some r→us[j+1]? =some u→A7m M r u
 | .t rest,v=>∃us:Array Value,v= .tuple us∧us.size=rest.length∧∀(j:Nat) (r:RX) (u:Value),rest[j]? =some r→us[j]? =some u→A7m M r u
def cY (M:B5) (args:List A) (vs:Array Value):Prop:=vs.size=args.length∧∀(j:Nat) (a:A) (v:Value),args[j]? =some a→vs[j]? =some v→RA M a v
def qQ (P:Program) (f:FuncId):Prop:=∃fn,P.funcs[f]? =some fn∧fn.body.isNone=false∧(fn.name== "runtime.NumGoroutine")=false
def shM (sh:Bool) (M F:B5):B5:=match sh with|true=>M.or F|false=>F
def aA (P:Program) (f:FuncId) (sh:Bool) (args:List A) (rv:RV):Prop:=
 qQ P f∧∀(M:B5) (w:World) (vs:Array Value),M.on w→cY M args vs→
  Calls P f vs w fun e w'=>∃v F,e= .returned v∧Below w.heap.size w w'∧jK F w.heap.size w'∧A5d (shM sh M F) (low w.heap.size) w' rv v
def C2y (P:Program) (f:FuncId) (ty:TypeId) (cs:List PV) (args:List A) (r:PV) (cs':List PV):Prop:=
 qQ P f∧∀(M:B5) (w:World) (b:Nat) (us:Array Value) (vs:List Value),w.heap[b]? =some (.cells us ty (0,0))→R8 M (cs.map .pv) us.toList→cY M args vs.toArray→
  Calls P f (.pointer (some ⟨b,0,none⟩)::vs).toArray w fun e w'=>∃v us',e= .returned v∧(∀M',R M' r v)∧(∀M',R8 M' (cs'.map .pv) us'.toList)∧w'=w.setRow b us'
abbrev iR:=List PV→List A→Option (Prop×PV×List PV)
def oG (P:Program) (f:FuncId) (ty:TypeId) (s:iR):Prop:=∀cs args pre r cs',s cs args=some (pre,r,cs')→pre→C2y P f ty cs args r cs'
abbrev C3:=List A→Option (Prop×Bool×RV)
def E9 (P:Program) (f:FuncId) (s:C3):Prop:=∀args pre sh rv,s args=some (pre,sh,rv)→pre→aA P f sh args rv
def A2B (σ:Nat→Nat):C→C
 | .ptr n b o=> .ptr (σ n) b o
 | .own n v=> .own (σ n) v
 | .oel n v i sz o=> .oel (σ n) v i sz o
 | .mpt n b=> .mpt (σ n) b
 | .osl n v lo hi s=> .osl (σ n) v lo hi s
 |c=>c
def C2K (σ:Nat→Nat):A→A
 | .c x=> .c (A2B σ x)
 | .g xs=> .g (xs.map (A2B σ))
 |x=>x
def A2C (σ:Nat→Nat):A→A
 | .c x=> .c (A2B σ x)
 | .g xs=> .g (xs.map (A2B σ))
 | .t xs=> .t (xs.map (C2K σ))
 | .u x=> .u x
def qR (σ:Nat→Nat):HB→HB
 | .blk b ty cs=> .blk b ty (cs.map (A2B σ))
 |h=>h
def fH (w:World) (hs:List HB):Nat→Prop:=fun k=>k<w.heap.size∧∀(j:Nat) (h:HB),hs[j]? =some h→¬h.has k
def C5 (P:Program) (f:FuncId) {X:Type} (az:List A) (hs:List HB) (ok:X→Prop) (rx:X→A) (hs':X→List HB):Prop:=
 qQ P f∧∀(M:B5) (w:World) (vs:Array Value),E1 (fH w hs) w (X0 hs) M w→cY M az vs→Calls P f vs w fun e w'=>∃v M' x,e= .returned v∧B5.ext (fH w hs) M M'∧ok x∧RA M' (rx x) v∧E1 (fH w hs) w (X0 (hs' x)) M' w'
abbrev A9z:=((k:LK)×List k.T)→List A→Option (Prop×((k:LK)×List k.T))
def B0A (P:Program) (f:FuncId) (e:TypeId) (s:A9z):Prop:=∀(k:LK) (l:List k.T) (az:List A) (pre:Prop) (k':LK) (l':List k'.T),s ⟨k,l⟩ az=some (pre,⟨k',l'⟩)→pre→
 ∀v,C5 P f (.c (.own 0 v)::az) [.own v e k l] (fun _:Value=>True) (fun v'=> .c (.own 0 v')) (fun v'=>[.own v' e k' l'])
inductive Ent where
 |u (x:A)
 |gd (j:Nat) (b:Bool) (x:A)
structure St where
 f:Nat→Option Ent
 H:Nat→Option HB
 nx:Nat
inductive MK where
 |t|f
 |d (D:List Deferred)
def MK.dl:MK→List Deferred
 | .d D=>D
 |_=>[]
structure D9 where
 T:Tb
 Ψ:FuncId→Option C3
 Ψp:FuncId→Option (TypeId×iR)
 Ψc:FuncId→Option (TypeId×A9z)
 N:Nat
 ws:List Nat
 ro:Option Nat
 mrk:MK
structure B1 (P:Program) (E:D9):Prop where
 fn:∀f s,E.Ψ f=some s→E9 P f s
 pt:∀f ty s,E.Ψp f=some (ty,s)→oG P f ty s
 co:∀f e s,E.Ψc f=some (e,s)→B0A P f e s
def A2X:List C→Option (List PV)
 |[]=>some []
 | .pv x::l=>match A2X l with
  |some xs=>some (x::xs)
  |none=>none
 |_=>none
def bX (f:Nat→Option Ent) (d:Nat) (e:Option Ent):Nat→Option Ent:=fun i=>match Nat.beq i d with
 |true=>e
 |false=>f i
def D4 (H:Nat→Option HB) (d:Nat) (e:Option HB):Nat→Option HB:=fun i=>match Nat.beq i d with
 |true=>e
 |false=>H i
theorem B4 (H:Nat→Option HB) (d:Nat) (e:Option HB):D4 H d e d=e:=by simp[D4]
theorem B9 (H:Nat→Option HB) {d i:Nat} (e:Option HB) (h:i≠d):D4 H d e i=H i:=by
 unfold D4;cases hb:Nat.beq i d with
 |true=>exact absurd (Nat.eq_of_beq_eq_true hb) h
 |false=>rfl
def A7n:(k:LK)→List k.T→(k':LK)→List k'.T→Option (List k.T)
 | .byt,l,.byt,m=>some (l++m)
 | .ints a,l,.ints b,m=>match qN a b with|true=>some (l++m)|false=>none
 | .spn,l,.spn,m=>some (l++m)
 | .pcs,l,.pcs,m=>some (l++m)
 | .ent,l,.ent,m=>some (l++m)
 | .slt,l,.slt,m=>some (l++m)
 | .rcd,l,.rcd,m=>some (l++m)
 | .tbl,l,.tbl,m=>some (l++m)
 | .bms,l,.bms,m=>some (l++m)
 | .sht,l,.sht,m=>some (l++m)
 | .knw,l,.knw,m=>some (l++m)
 | .bls,l,.bls,m=>some (l++m)
 | .tbh,l,.tbh,m=>some (l++m)
 | .stp,l,.stp,m=>some (l++m)
 | .act,l,.act,m=>some (l++m)
 | .bmh,l,.bmh,m=>some (l++m)
 | .sec,l,.sec,m=>some (l++m)
 | .log,l,.log,m=>some (l++m)
 | .ptr,l,.ptr,m=>some (l++m)
 | .lnk,l,.lnk,m=>some (l++m)
 | .lin,l,.lin,m=>some (l++m)
 | .mta,l,.mta,m=>some (l++m)
 | .str,l,.str,m=>some (l++m)
 | .fn,l,.fn,m=>some (l++m)
 |_,_,_,_=>none
def PV.nrm:PV→PV
 | .nil k=> .lst k []
 |x=>x
def C.nrm:C→C
 | .pv x=> .pv x.nrm
 |c=>c
def A7o (H:Nat→Option HB):C→Option (A×Bool×Prop)
 | .own n v=>match H n with
  |some (.own v' _ k l)=>some (lst k l,true,v=v')
  |_=>none
 | .pv x=>some (pv x.nrm,false,True)
 | .ptr n b 0=>match H n with
  |some (.blk b' _ cs)=>match A2X cs with
   |some ps=>some (.c (.cel ps),true,b=b')
   |none=>none
  |_=>none
 | .cel cs=>some (.c (.cel cs),false,True)
 | .clo f []=>some (.c (.clo f []),false,True)
 | .clo f [.cel cs]=>some (.c (.clo f [.cel cs]),false,True)
 | .clo f [.ptr n b 0]=>match H n with
  |some (.blk b' _ cs)=>match A2X cs with
   |some ps=>some (.c (.clo f [.cel ps]),true,b=b')
   |none=>none
  |_=>none
 |_=>none
def uI (H:Nat→Option HB):List C→Option (List A×Bool×Prop)
 |[]=>some ([],false,True)
 |c::cs=>match A7o H c,uI H cs with
  |some (a,b,p),some (az,b',p')=>some (a::az,b || b',p∧p')
  |_,_=>none
def B1I (H:Nat→Option HB):A→Option (A×Bool×Prop)
 | .c c=>A7o H c
 | .g xs=>some (.g (xs.map C.nrm),false,True)
 |_=>none
def iS (T:Tb) (H:Nat→Option HB) (rd:Operand→Option A):List Operand→List TypeId→Option (List A×Bool×Prop)
 |[],_=>some ([],false,True)
 |o::os,t::ts=>match rdT T t rd o with
  |some a=>match B1I H a,iS T H rd os ts with
   |some (a,b,p),some (az,b',p')=>some (a::az,b || b',p∧p')
   |_,_=>none
  |none=>none
 |_::_,[]=>none
def instX:RX→A
 | .c x=>pv x
 | .g xs=> .g (xs.map .pv)
 | .cl f cs=> .c (.clo f [.cel cs])
def inst (nx:Nat) (u:Value):RV→A×Option HB
 | .x r=>(instX r,none)
 | .o e k l=>(.c (.own nx u),some (.own u e k l))
 | .ot e k l rest=>(.t (.c (.own nx (u.comp 0))::rest.map instX),some (.own (u.comp 0) e k l))
 | .t rest=>(.t (rest.map instX),none)
structure HR where
 x:A
 ob:Prop
 H:Nat→Option HB
 nx:Nat
def jL (k:LK) (T:Tb) (e:TypeId) (rd:Operand→Option A):Nat→List (Nat×Operand)→Option (List k.T×Prop)
 |_,[]=>some ([],True)
 |i,(j,o)::l=>match Nat.beq i j,rdT T e rd o with
  |true,some a=>match a.cells with
   |some cs=>match k.dec cs,jL k T e rd (i+1) l with
    |some (x,ob),some (xs,ob')=>some (x::xs,ob∧ob')
    |_,_=>none
   |none=>none
  |_,_=>none
def C2z:LK→LK→Bool
 | .byt,.byt| .spn,.spn| .pcs,.pcs| .ent,.ent| .slt,.slt| .rcd,.rcd| .tbl,.tbl| .bms,.bms| .sht,.sht| .knw,.knw| .bls,.bls| .tbh,.tbh| .stp,.stp| .act,.act| .bmh,.bmh| .sec,.sec| .log,.log| .ptr,.ptr| .lnk,.lnk| .lin,.lin| .mta,.mta| .str,.str| .fn,.fn=>true
 | .ints a,.ints b=>qN a b
 |_,_=>false
def uJ (H:Nat→Option HB) (z:List C):TK→A→Option ((k:LK)×List k.T×Prop)
 | .int _,.c (.pv (.val (.int _ n)))=>some ⟨.byt,List.replicate n.toNat 0,z=[.pv (.val (.int .u8 0))]∧(0≤n∧n≤1099511627776)⟩
 | .str,.c (.pv (.val (.string ⟨⟨l⟩⟩)))=>some ⟨.byt,l,True⟩
 | .slc _ _,a=>oE H a
 |_,_=>none
def B8w {α:Type} (u:Value):List α→Bool
 |[]=>match u with
  | .bool b=>b
  |_=>false
 |_::_=>false
theorem jM {α:Type} {u:Value} {l:List α} (h:B8w u l=true):l=[]:=by
 cases l with
 |nil=>rfl
 |cons x t=>cases h
def B8x:(vk:VK)→A→Option vk.T
 | .ptr,.c (.ptr _ b 0)=>some (some b)
 | .ptr,.c (.opt v)=>some v
 | .ptr,.c (.pv (.val (.pointer none)))=>some none
 | .str,.c (.pv (.val (.string ⟨⟨s⟩⟩)))=>some s
 | .int,.c (.pv (.val (.int .i64 n)))=>some n
 |_,_=>none
def E5 (E:D9) (H:Nat→Option HB) (nx:Nat) (rd:Operand→Option A) (u:Value):Op→Option HR
 | .box t x=>match rdT E.T t rd x with
  |some a=>match a.cells with
   |some cs=>some ⟨.c (.ptr nx u.bn 0),True,D4 H nx (some (.blk u.bn t cs)),nx+1⟩
   |none=>none
  |none=>none
 | .alloc t=>match E.T t with
  |some i=>some ⟨.c (.ptr nx u.bn 0),True,D4 H nx (some (.blk u.bn t i.zero)),nx+1⟩
  |none=>none
 | .store t p x=>match rd p,rdT E.T t rd x,E.T t with
  |some (.c (.ptr n b o)),some a,some i=>match H n,a.cells with
   |some (.blk b' ty cs),some new=>match Nat.beq (len new) i.size && Nat.ble (o+len new) (len cs)with
    |true=>some ⟨.t [],b=b',D4 H n (some (.blk b' ty (tke o cs++new++Q6 (o+len new) cs))),nx⟩
    |false=>none
   |_,_=>none
  |some (.c (.oel n v j sz o)),some a,some i=>match H n,a.cells with
   |some (.own v' ty k l),some new=>match Nat.beq (len new) i.size && Nat.ble (o+len new) k.sz with
    |true=>match k.dec (tke o ((k.enc (l.getD j k.dft)).map .pv)++new++Q6 (o+len new) ((k.enc (l.getD j k.dft)).map .pv))with
     |some (x,ob)=>some ⟨.t [],((v=v'∧sz=k.sz)∧j<l.length)∧ob,D4 H n (some (.own v' ty k (l.set j x))),nx⟩
     |none=>none
    |false=>none
   |_,_=>none
  |_,_,_=>none
 | .binOp op t x (.const (.slice none 0 0)) _=>match E.T t,rd x with
  |some ⟨.slc _ _,_,_,_⟩,some (.c (.pv (.lst _ l)))=>match op with
   | .eql=>some ⟨bool (B8w u l),True,H,nx⟩
   | .neq=>some ⟨bool (!B8w u l),True,H,nx⟩
   |_=>none
  |_,_=>none
 | .slice t x none none none=>match E.T t,rd x with
  |some ⟨.arr N e,_,_,_⟩,some (.c (.ptr n b 0))=>match E.T e,H n with
   |some ⟨.int .u8,_,_,_⟩,some (.blk b' ty cs)=>match Nat.beq N (len cs) && Nat.ble N 1000,wZ cs with
    |true,some (l,ob)=>some ⟨.c (.own n (.slice (some ⟨b,0,none⟩) N N)),b=b'∧ob,D4 H n (some (.own (.slice (some ⟨b,0,none⟩) N N) ty .byt l)),nx⟩
    |_,_=>none
   |_,_=>none
  |_,_=>none
 | .call ⟨.builtin .copy,⟨[d,s]⟩,⟨[td,_]⟩⟩=>match E.T td,rd d,rd s with
  |some ⟨.slc e .byt,_,_,_⟩,some (.c (.own n v)),some sa=>match H n,oE H sa,E.T e with
   |some (.own v' ty .byt l),some ⟨.byt,m,ob⟩,some ⟨.int .u8,_,_,_⟩=>some ⟨int .i64 (min m.length l.length:Nat),ob∧v=v',D4 H n (some (.own v' ty .byt (m.take l.length++l.drop m.length))),nx⟩
   |_,_,_=>none
  |_,_,_=>none
 | .mapUpdate t x i v=>match E.T t,rd x,rd i,rd v with
  |some ⟨.map kk vk,_,_,_⟩,some (.c (.mpt n b)),some ia,some va=>match H n with
   |some (.mp b' kk' vk' l)=>match B8q kk kk' && B8r vk vk',A5Y kk' ia,B8x vk' va with
    |true,some (k,ob),some v=>some ⟨.t [],b=b'∧ob,D4 H n (some (.mp b' kk' vk' (C1 l k v))),nx⟩
    |_,_,_=>none
   |_=>none
  |_,_,_,_=>none
 | .makeMap t none=>match E.T t with
  |some ⟨.map kk vk,_,_,_⟩=>some ⟨.c (.mpt nx u.bn),True,D4 H nx (some (.mp u.bn kk vk [])),nx+1⟩
  |_=>none
 | .range t x=>match E.T t,rd x with
  |some ⟨.map _ _,_,_,_⟩,some (.c (.mpt n b))=>match H n with
   |some (.mp b' kk vk l)=>some ⟨.c (.ptr n u.bn 0),b=b',D4 H n (some (.mpr b' kk vk l u.bn [])),nx⟩
   |_=>none
  |_,_=>none
 | .entry x=>match rd x with
  |some (.c (.ptr n b 0))=>match H n with
   |some (.mpr _ kk vk l bi (i::vs))=>some ⟨.t [kkA kk (l.getD i (kk.dft,vk.dft)).1,vkA vk (l.getD i (kk.dft,vk.dft)).2],b=bi,H,nx⟩
   |_=>none
  |_=>none
 | .call ⟨.builtin .delete,⟨[x,i]⟩,⟨[t,_]⟩⟩=>match E.T t,rd x,rd i with
  |some ⟨.map kk vk,_,_,_⟩,some (.c (.mpt n b)),some ia=>match H n with
   |some (.mp b' kk' vk' l)=>match B8q kk kk' && B8r vk vk',A5Y kk' ia with
    |true,some (k,ob)=>some ⟨.t [],b=b'∧ob,D4 H n (some (.mp b' kk' vk' (Y3 l k))),nx⟩
    |_,_=>none
   |_=>none
  |_,_,_=>none
 | .convert src dst x=>match Nat.beq src dst,E.T src,rd x with
  |true,some ⟨.slc e _,_,_,_⟩,some (.c (.own n v))=>match H n,E.T e with
   |some (.own v' _ k l),some ⟨.int .u8,_,_,_⟩=>some ⟨lst k l,v=v'∧0<l.length,D4 H n none,nx⟩
   |_,_=>none
  |_,_,_=>none
 | .buildSlice t n ⟨ps⟩=>match E.T t with
  |some ⟨.slc e k,_,_,_⟩=>match Nat.beq n (len ps),jL k E.T e rd 0 ps,E.T e with
   |true,some (l,ob),some ie=>match Nat.beq ie.size k.sz && Nat.ble n 1000 with
    |true=>some ⟨.c (.own nx u),ob,D4 H nx (some (.own u e k l)),nx+1⟩
    |false=>none
   |_,_,_=>none
  |_=>none
 | .makeSlice t l c=>match E.T t,rd l,rd c with
  |some ⟨.slc e k,_,_,_⟩,some (.c (.pv (.val (.int _ l)))),some (.c (.pv (.val (.int _ c))))=>match E.T e with
   |some ie=>match Nat.ble ie.bytes 128 with
    |true=>some ⟨.c (.own nx u),((0≤l∧l≤c)∧c≤1099511627776)∧ie.zero=(k.enc k.dft).map .pv,D4 H nx (some (.own u e k (List.replicate l.toNat k.dft))),nx+1⟩
    |false=>none
   |none=>none
  |_,_,_=>none
 | .call ⟨.builtin .append,⟨[s,x]⟩,⟨[t,tx]⟩⟩=>match E.T t,rdT E.T t rd s,rdT E.T tx rd x,E.T tx with
  |some ⟨.slc e k,_,_,_⟩,some a,some xa,some itx=>match E.T e,uJ H ((E.T e).elim [] TI.zero) itx.kind xa with
   |some ie,some ⟨k',m,ob⟩=>match Nat.ble ie.bytes 128,a with
    |true,.c (.own n v)=>match H n with
     |some (.own v' ty k0 l)=>match Nat.beq ty e && Nat.beq k0.sz k.sz,A7n k0 l k' m with
      |true,some lm=>some ⟨.c (.own nx u),(ob∧v=v')∧l.length+m.length≤1099511627776,D4 (D4 H n none) nx (some (.own u e k0 lm)),nx+1⟩
      |_,_=>none
     |_=>none
    |true,.c (.pv (.nil k0))=>match Nat.beq k0.sz k.sz,A7n k0 [] k' m with
     |true,some lm=>some ⟨.c (.own nx u),ob∧m.length≤1099511627776,D4 H nx (some (.own u e k0 lm)),nx+1⟩
     |_,_=>none
    |_,_=>none
   |_,_=>none
  |_,_,_,_=>none
 | .call ⟨.value fo,⟨args⟩,⟨tys⟩⟩=>match rd fo with
  |some (.c (.clo f caps))=>match E.Ψ f with
   |some s=>match iS E.T H rd args tys,uI H caps with
    |some (az,lent,ob),some (cs,lent',ob')=>match s (az++cs)with
     |some (pre,sh,rv)=>match(lent || lent') && sh,inst nx u rv with
      |false,(x,none)=>some ⟨x,(ob∧ob')∧pre,H,nx⟩
      |false,(x,some hb)=>some ⟨x,(ob∧ob')∧pre,D4 H nx (some hb),nx+1⟩
      |true,_=>none
     |none=>none
    |_,_=>none
   |none=>match E.Ψc f with
    |some (e,s)=>match caps,args,tys with
     |[],p::os,_::ts=>match rd p,iS E.T H rd os ts with
      |some (.c (.own n v)),some (az,false,ob)=>match H n with
       |some (.own v' ty k l)=>match Nat.beq ty e,s ⟨k,l⟩ az with
        |true,some (pre,⟨k',l'⟩)=>some ⟨.c (.own nx u),(ob∧v=v')∧pre,D4 (D4 H n none) nx (some (.own u e k' l')),nx+1⟩
        |_,_=>none
       |_=>none
      |_,_=>none
     |_,_,_=>none
    |none=>match caps,E.Ψp f,args,tys with
     |[],some (ty,s),p::os,_::ts=>match rd p,iS E.T H rd os ts with
      |some (.c (.ptr n b 0)),some (az,_,ob)=>match H n with
       |some (.blk b' ty' cs)=>match A2X cs with
        |some ps=>match Nat.beq ty ty',s ps az with
         |true,some (pre,r,ps')=>some ⟨pv r,(ob∧b=b')∧pre,D4 H n (some (.blk b' ty' (ps'.map .pv))),nx⟩
         |_,_=>none
        |none=>none
       |_=>none
      |_,_=>none
     |_,_,_,_=>none
  |_=>none
 |_=>none
end Go.Mt
namespace Go.Mt
open Go.RowKit
noncomputable section
section
variable {P : Program} {T : Tb} {w w' : World} {M F : B5} {B : Nat → Prop} {W : World} {H H' : Nat → Option HB}
theorem oH {a:A} {v:Value} {cs:List C} (hv:RA M a v) (h:a.cells=some cs):R8 M cs v.cells.toList:=by
 cases hv with
 |c hc=>
  simp[A.cells]at h;subst h;have:=hc.one;have hcs:v.cells= #[v]:=by cases v<;> simp[Value.oneCell']at this<;> rfl
  rw[hcs];refine⟨rfl,fun j c u h1 h2=>?_⟩;cases j with
  |zero=>simp at h1 h2;subst h1 h2;exact hc
  |succ j=>simp at h1
 |g hg=>simp[A.cells]at h;subst h;exact hg
 |t=>simp[A.cells]at h
 |u=>simp[A.cells]at h
theorem R8.one {xs:List C} {us:List Value} (h:R8 M xs us):∀u∈us,u.oneCell'=true:=by
 intro u hu;obtain⟨n,hn,rfl⟩:=List.getElem_of_mem hu;have hn':n<xs.length:=by rw[←h.1];exact hn
 exact(h.2 n _ _ (gE_ hn') (gE_ hn)).one
theorem E1.new (hS:E1 B W H M w) {us:Array Value} {ty:TypeId} {cs:List C} (hc:R8 M cs us.toList) (nx:Nat):
 E1 B W (D4 H nx (some (.blk w.heap.size ty cs))) M (w.alloc (.cells us ty)):=
 hS.step (row:=none) (nn:=nx) (xx:= .blk w.heap.size ty cs) (World.grownBy_alloc w _ none) (by simp)
  (fun n x hn hx=>by rw[B9 _ _ hn]at hx;exact⟨hx,by simp⟩) (B4 _ _ _)
  ⟨fun h=>Nat.lt_irrefl _ (hS.base _ h),B5.none_of_size hS.mem (Nat.le_refl _),us,heap_alloc_new w _,hc⟩ (fun b hb=> .inl (by cases hb;exact Nat.le_refl _))
theorem E1.newOwn (hS:E1 B W H M w) {row:Option Nat} (hg:w.grownBy w' row) (hrow:∀b,row=some b→¬B b∧M b=none) {v:Value} {ty:TypeId} {k:LK} {l:List k.T} (ho:F6 M B w' v ty k l)
 (hf:∀b,v.ownBlock=some b→w.heap.size≤b∨row=some b) (nx:Nat) (hH:∀n x,n≠nx→H' n=some x→H n=some x∧∀b,row=some b→¬x.has b):
 E1 B W (D4 H' nx (some (.own v ty k l))) M w':=
 hS.step (nn:=nx) (xx:= .own v ty k l) hg hrow (fun n x hn hx=>by rw[B9 _ _ hn]at hx;exact hH n x hn hx) (B4 _ _ _) ho hf
theorem B8y {k k':LK} {l lm:List k.T} {m:List k'.T} (h:A7n k l k' m=some lm):∃e:k'=k,lm=l++(e▸m):=by
 unfold A7n at h;split at h<;> first|(cases h;done)|(cases h;exact⟨rfl,rfl⟩)|skip
 ·split at h
  ·rename_i hk;cases h;have:=cK hk;subst this;exact⟨rfl,rfl⟩
  ·cases h
theorem F9 {o:Oper} {a:Act} {K:Act→World→Prop} {Q:Exit→Act→World→Prop} {v:Value} (h:(execOp a.eval o).run P w= .ok (.value v) w') (hk:K (a.put o.dst v) w'):o.wp P a w K Q:=by
 unfold Oper.wp;rw[h];exact hk
theorem jN {o:Oper} {a:Act} {K:Act→World→Prop} {Q:Exit→Act→World→Prop} (h:(execOp a.eval o).run P w= .ok .skip w') (hk:K (a.put o.dst undef) w'):o.wp P a w K Q:=by
 unfold Oper.wp;rw[h];exact hk
theorem C3A (hS:E1 B W H M w) {a:A} {v:Value} (hv:RA M a v) {tx:TypeId} {itx:TI} (hx:wY P tx itx) {k:LK} {l:List k.T} {ob:Prop} {zs:List C} {z:Value} (hz:R8 M zs z.cells.toList) (h:uJ H zs itx.kind a=some ⟨k,l,ob⟩) (hob:ob):
 ∃news,C2t P k.sz tx v l.length news w z∧qP M k l news:=by
 have hund:=hx.und;unfold uJ at h;split at h
 ·rename_i kd ki n hkind;rw[hkind]at hund;cases h;have:=hv.val_inv;subst this;obtain⟨rfl,h0,h1⟩:=hob;have hzc:z.cells= #[.int .u8 0]:=by
   have e1:z.cells.toList.length=1:=by simpa using hz.1
   obtain⟨u,hu⟩:∃u,z.cells.toList[0]? =some u:=⟨_,gE_ (by omega)⟩
   have hv:=hz.2 0 _ u rfl hu;cases hv with
   |pv hv=>
    cases hv with
    |val hv=>
     apply Array.ext';rw[gE_ (by omega)]at hu;cases hcs:z.cells.toList with
     |nil=>rw[hcs]at e1;cases e1
     |cons y r=>
      cases r with
      |nil=>simp[hcs]at hu;simp[hu]
      |cons _ _=>rw[hcs]at e1;simp at e1
  refine⟨List.replicate n.toNat (.int .u8 0),.inr ⟨⟨kd,hund⟩,⟨ki,?_⟩,?_,?_,hzc⟩,⟨by simp[LK.sz],fun i x j y e1 e2=>?_⟩⟩
  ·rw[List.length_replicate];congr 1;omega
  ·rw[List.length_replicate];omega
  ·rw[List.length_replicate]
  have hj:=N9 e2;have hj0:j=0:=by simp[LK.sz]at hj;exact hj
  subst hj0;rw[List.getElem?_replicate]at e1;split at e1
  ·rename_i hi;cases e1;simp[LK.enc]at e2;subst e2;refine⟨.int .u8 0,?_,.val rfl⟩;simp[LK.sz,hi]
  ·cases e1
 ·rename_i s hkind;rw[hkind]at hund;cases h;have:=hv.val_inv;subst this;refine⟨byteCells ⟨⟨s⟩⟩,.inl (Src.ofString w hund ⟨⟨s⟩⟩),?_⟩;refine⟨by rw[byteCells_length];simp[LK.sz];rfl,fun i x j y e1 e2=>?_⟩;have hj:=N9 e2;have hj0:j=0:=by simp[LK.sz]at hj;exact hj
  subst hj0;simp[LK.enc]at e2;subst e2;refine⟨.int .u8 x.toNat,?_,.val rfl⟩;simp[byteCells,LK.sz,e1]
 ·rename_i e k'' hkind;rw[hkind]at hund;have he:=hund.1;obtain⟨ad,c,b,o,rfl,h1,h2,h3,h4⟩:=oF hS hv h hob;by_cases hne:l=[]
  ·subst hne;refine⟨[],?_,⟨by simp,by simp⟩⟩;refine .inl ⟨.inl ⟨e,he⟩,fun _=>rfl,?_,?_,by simp,by simp⟩
   ·cases ad with
    |none=>simp[Builtin.firstCells]
    |some ad=>simp[Builtin.firstCells,loadCells,loadCellsFrom]
   ·cases ad with
    |none=>simp[Builtin.firstCells]
    |some ad=>simp[Builtin.firstCells,loadCells,loadCellsFrom]
  ·have:=h1 hne;subst this;have hsz:=LK.sz_pos k
   let news:List Value:=(List.range (l.length*k.sz)).map fun j=>(w.cell? ⟨b,o+j,none⟩).getD undef
   have hnl:news.length=l.length*k.sz:=by simp[news]
   have hcell:∀(j:Nat),j<l.length*k.sz→∃u,w.cell? ⟨b,o+j,none⟩=some u:=by
    intro j hj;have hi:j / k.sz<l.length:=Nat.div_lt_of_lt_mul (by rw[Nat.mul_comm];exact hj);have hjj:j%k.sz<(k.enc l[j / k.sz]).length:=by rw[LK.enc_len];exact Nat.mod_lt _ hsz
    obtain⟨u,e1,e2⟩:=h4 (j / k.sz) _ (j%k.sz) _ (gE_ hi) (gE_ hjj);rw[Nat.add_assoc,Nat.div_add_mod']at e1;exact⟨u,e1⟩
   have hnews:∀(j:Nat) u,news[j]? =some u→w.cell? ((⟨b,o,none⟩:Addr).add j)=some u:=by
    intro j u hu;have hj:j<l.length*k.sz:=by rw[←hnl];exact(gS_.1 hu).1
    obtain⟨u',hu'⟩:=hcell j hj;rw[Addr.add_lit,hu'];simp[news,hj,hu']at hu;rw[hu]
   have hlies:qP M k l news:=by
    refine⟨hnl,fun i x j y e1 e2=>?_⟩;obtain⟨u,g1,g2⟩:=h4 i x j y e1 e2;refine⟨u,?_,g2⟩;have hi:=(gS_.1 e1).1;have hj:=N9 e2;have hlt:i*k.sz+j<l.length*k.sz:=by
     have:(i+1)*k.sz≤l.length*k.sz:=Nat.mul_le_mul_right _ hi;rw[Nat.add_mul]at this;omega
    simp[news,hlt,←Nat.add_assoc,g1]
   exact⟨news,.inl (Src.ofSlice w he _ _ _ news hnl hnews hlies.one),hlies⟩
 ·cases h
theorem B1J {k:LK} {e:TypeId} {rd:Operand→Option A} {ρ:Operand→Value} (hr:∀o x,rd o=some x→RA M x (ρ o)) (hcn:∀v,ρ (.const v)=v):∀(ps:List (Nat×Operand)) (i:Nat) (l:List k.T) (ob:Prop),jL k T e rd i ps=some (l,ob)→ob→
 l.length=ps.length∧∀(j:Nat) p,ps[j]? =some p→p.1=i+j∧∃x,l[j]? =some x∧(ρ p.2).cells.size=k.sz∧(∀(q:Nat) (y:PV),(k.enc x)[q]? =some y→∃u,(ρ p.2).cells[q]? =some u∧R M y u):=by
 intro ps
 induction ps with
 |nil=>intro i l ob h hob;cases h;simp
 |cons p ps ih=>
  obtain⟨j0,o⟩:=p;intro i l ob h hob;simp only[jL]at h;split at h
  ·rename_i a hb ha;split at h
   ·rename_i cs hcs;split at h
    ·rename_i x obx xs obxs hd hrest;cases h;rw[Nat.beq_eq]at hb;subst hb;obtain⟨g1,g2⟩:=ih _ _ _ hrest hob.2;obtain⟨d1,d2⟩:=B3v hd hob.1 (oH (dD (T:=T) hr hcn ha) hcs);refine⟨by simp[g1],fun j p hj=>?_⟩;cases j with
     |zero=>
      simp at hj;subst hj;exact⟨rfl,x,rfl,by simpa using d1,fun q y hq=>let⟨u,e1,e2⟩:=d2 q y hq;⟨u,by simpa using e1,e2⟩⟩
     |succ j=>
      obtain⟨e1,x',e2,e3⟩:=g2 j p (by simpa using hj);exact⟨by omega,x',by simpa using e2,e3⟩
    ·cases h
   ·cases h
  ·cases h
theorem B3w (sz:Nat):∀(vs:List (Nat×Value)) (i:Nat) (us:Array Value),(∀(j:Nat) p,vs[j]? =some p→p.1=i+j∧p.2.cells.size=sz)→(i+vs.length)*sz≤us.size→
 ∃us',Instr.fill (fun i=>some (i*sz,sz)) us vs=some us'∧us'.size=us.size∧(∀q,q<i*sz→us'[q]? =us[q]?)∧∀(j q:Nat) p,vs[j]? =some p→q<sz→us'[(i+j)*sz+q]? =p.2.cells[q]? :=by
 intro vs
 induction vs with
 |nil=>intro i us _ _;exact⟨us,rfl,rfl,fun _ _=>rfl,by simp⟩
 |cons p vs ih=>
  intro i us h hs;obtain⟨j0,v⟩:=p;obtain⟨e1,e2⟩:=h 0 _ rfl;simp only[Nat.add_zero]at e1 e2;subst e1;simp only[List.length_cons]at hs;have hs1:j0*sz+sz≤us.size:=by
   have:(j0+1)*sz≤(j0+(vs.length+1))*sz:=Nat.mul_le_mul_right _ (by omega);rw[Nat.add_mul,Nat.one_mul]at this;omega
  have hcond:(decide (v.cells.size≠sz) || decide (j0*sz+v.cells.size > us.size))=false:=by simp[e2];omega
  let us1:=v.cells.zipIdx.foldl (fun cs (x:Value×Nat)=>cs.setIfInBounds (j0*sz+x.2) x.1) us
  have key:∀(l:List Value) (k:Nat) (us:Array Value),j0*sz+k+l.length≤us.size→
   ((l.zipIdx k).foldl (fun cs (c,j)=>cs.setIfInBounds (j0*sz+j) c) us).toList=us.toList.take (j0*sz+k)++l++us.toList.drop (j0*sz+k+l.length):=by
   intro l
   induction l with
   |nil=>intro k us hk;simp
   |cons x l ih=>
    intro k us hk;simp only[List.zipIdx_cons,List.foldl_cons];rw[ih (k+1) _ (by simp at hk⊢;omega)];simp only[Array.toList_setIfInBounds];have:=list_seg_step us.toList (j0*sz+k) x l (by simp at hk⊢;omega)
    try simp only[List.length_cons]
    rw[show j0*sz+(k+1)=j0*sz+k+1 from by omega];exact this
  have hk:=key v.cells.toList 0 us (by simp[e2];omega);have hz:us1.toList=us.toList.take (j0*sz)++v.cells.toList++us.toList.drop (j0*sz+sz):=by
   simp only[us1];rw[←Array.foldl_toList,Array.toList_zipIdx,hk];simp[e2]
  have hsz1:us1.size=us.size:=by
   rw[←Array.length_toList,hz];simp[e2];omega
  obtain⟨us',g1,g2,g3,g4⟩:=ih (j0+1) us1 (fun j p hj=>by
   have:=h (j+1) p (by simpa using hj);exact⟨by omega,this.2⟩) (by rw[hsz1,show j0+1+vs.length=j0+(vs.length+1)from by omega];exact hs)
  have hget:∀(q:Nat),us1[q]? =us1.toList[q]? :=fun q=>Array.getElem?_toList.symm
  refine⟨us',?_,g2.trans hsz1,fun q hq=>?_,fun j q p hj hq=>?_⟩
  ·simp only[Instr.fill];rw[hcond];simp only[Bool.false_eq_true,if_false];exact g1
  ·rw[g3 q (by rw[Nat.add_mul];omega),hget,hz,List.append_assoc,List.getElem?_append_left (by simp;omega),List.getElem?_take,if_pos hq];simp
  ·cases j with
   |zero=>
    simp at hj;subst hj;rw[Nat.add_zero,g3 _ (by rw[Nat.add_mul];omega),hget,hz,List.append_assoc,List.getElem?_append_right (by simp;omega),List.getElem?_append_left (by simp[e2];omega)];have l1:(List.take (j0*sz) us.toList).length=j0*sz:=by simp;omega
    rw[l1,show j0*sz+q-j0*sz=q from by omega];simp
   |succ j=>
    have:=g4 j q p (by simpa using hj) hq;rw[show j0+1+j=j0+(j+1)from by omega]at this;exact this
theorem A3R {σ:Nat→Nat} {x:C} {v:Value} (h:RC M x v):RC M (A2B σ x) v:=by
 cases h with
 |pv h=>exact .pv h
 |ptr=>exact .ptr
 |own h=>exact .own h
 |cel b o us hc hR=>exact .cel b o us hc hR
 |oel=>exact .oel
 |clo hs h=>exact .clo hs h
 |mpt=>exact .mpt
 |opt=>exact .opt
 |osl=>exact .osl
 |bx b o hc h=>exact .bx b o hc h
theorem xG {σ:Nat→Nat} {xs:List C} {us:List Value} (h:R8 M xs us):R8 M (xs.map (A2B σ)) us:=by
 refine⟨by rw[List.length_map];exact h.1,fun j c u e1 e2=>?_⟩;rw[List.getElem?_map]at e1;cases hx:xs[j]? with
 |none=>rw[hx]at e1;cases e1
 |some x=>rw[hx]at e1;cases e1;exact A3R (h.2 j x u hx e2)
theorem B3x {σ:Nat→Nat} {x:A} {v:Value} (h:RA M x v):RA M (C2K σ x) v:=by
 cases h with
 |c h=>exact .c (A3R h)
 |g h=>exact .g (xG h)
 |t hs h=>exact .t hs h
 |u h0 h=>exact .u h0 h
theorem vY {σ:Nat→Nat} {x:A} {v:Value} (h:RA M x v):RA M (A2C σ x) v:=by
 cases h with
 |c h=>exact .c (A3R h)
 |g h=>exact .g (xG h)
 | @t xs us hs h=>
  refine .t (by rw[List.length_map];exact hs) (fun j c u e1 e2=>?_);rw[List.getElem?_map]at e1;cases hx:xs[j]? with
  |none=>rw[hx]at e1;cases e1
  |some y=>rw[hx]at e1;cases e1;exact B3x (h j y u hx e2)
 |u h0 h=>exact .u h0 h
theorem V0 {σ:Nat→Nat} {x:HB}:(qR σ x).has=x.has:=by cases x<;> rfl
theorem vZ {σ:Nat→Nat} {x:HB} (h:X2 M B w x):X2 M B w (qR σ x):=by
 cases x with
 |blk b ty cs=>obtain⟨h1,h2,us,h3,h4⟩:=h;exact⟨h1,h2,us,h3,xG h4⟩
 |own v ty k l=>exact h
 |obj S P=>exact h
 |mp b kk vk l=>exact h
 |mpr b kk vk l bi vs=>exact h
def C4p {α:Type} (p:α→Bool):List α→Bool
 |[]=>true
 |x::l=>p x && C4p p l
def U1 (H:Nat→Option HB) (τ:Nat→Nat):List HB→Nat→(Nat→Option HB)
 |[],_=>H
 |h::l,j=>U1 (D4 H (τ j) (some (qR τ h))) τ l (j+1)
def J9 (H:Nat→Option HB):List Nat→(Nat→Option HB)
 |[]=>H
 |n::l=>J9 (D4 H n none) l
def aF (ns:List Nat) (nx:Nat) (j:Nat):Nat:=match X0 ns j with
 |some n=>n
 |none=>nx+(j-len ns)
theorem Z2 {τ:Nat→Nat} {n:Nat} {y:HB}:∀(L:List HB) (H:Nat→Option HB) (j0:Nat),U1 H τ L j0 n=some y→(∃j h,L[j]? =some h∧n=τ (j0+j)∧y=qR τ h)∨H n=some y:=by
 intro L
 induction L with
 |nil=>intro H j0 h;exact .inr h
 |cons x L ih=>
  intro H j0 h;rcases ih _ _ h with⟨j,h',e1,e2,e3⟩|h
  ·exact .inl ⟨j+1,h',by simpa using e1,by rw[e2];congr 1;omega,e3⟩
  ·by_cases e:n=τ j0
   ·subst e;rw[B4]at h;cases h;exact .inl ⟨0,x,rfl,rfl,rfl⟩
   ·rw[B9 _ _ e]at h;exact .inr h
theorem fO {n:Nat} {y:HB}:∀(L:List Nat) (H:Nat→Option HB),J9 H L n=some y→n∉L∧H n=some y:=by
 intro L
 induction L with
 |nil=>intro H h;exact⟨by simp,h⟩
 |cons m L ih=>
  intro H h;obtain⟨h1,h2⟩:=ih _ h;by_cases e:n=m
  ·subst e;rw[B4]at h2;cases h2
  ·rw[B9 _ _ e]at h2;exact⟨by simp[e,h1],h2⟩
theorem qS {l:List Nat} (hn:l.Nodup) {i j n:Nat} (h1:l[i]? =some n) (h2:l[j]? =some n):i=j:=by
 have hlt:=(gS_.1 h1).1;exact(List.getElem?_inj hlt hn).1 (h1.trans h2.symm)
theorem B3y (hS:E1 B W H M w) {hs:List HB} {ns:List Nat} {σ:Nat→Nat} (hn:ns.Nodup) (hl:ns.map (fun n=>(H n).map (qR σ))=hs.map some):
 E1 (fH w hs) w (X0 hs) M w∧∀(M':B5) (w':World) (L:List HB) (τ:Nat→Nat),B5.ext (fH w hs) M M'→E1 (fH w hs) w (X0 L) M' w'→E1 B W (U1 (J9 H ns) τ L 0) M' w'∧B5.ext B M M':=by
 have hlen:ns.length=hs.length:=by have:=congrArg List.length hl;simpa using this
 have hget:∀(j:Nat) (y:HB),hs[j]? =some y→∃n x,ns[j]? =some n∧H n=some x∧y=qR σ x:=by
  intro j y e;have hlt:=(gS_.1 e).1;have hn':ns[j]? =some ns[j]:=gE_ (by omega);have:=congrArg (fun l=>l[j]?) hl;simp only[List.getElem?_map,hn',e,Option.map_some,Option.some.injEq]at this;cases hx:H ns[j]with
  |none=>rw[hx]at this;cases this
  |some x=>rw[hx]at this;cases this;exact⟨_,x,hn',hx,rfl⟩
 have hlent:∀(j:Nat) (y:HB) (b:Nat),hs[j]? =some y→y.has b→¬B b:=by
  intro j y b e hb;obtain⟨n,x,_,hx,rfl⟩:=hget j y e;rw[V0]at hb;exact(HB.block_lt (hS.ok n x hx) hb).1
 have hsub:∀k,B k→fH w hs k:=fun k hk=>⟨hS.base k hk,fun j y e hb=>hlent j y k e hb hk⟩
 have hfar:∀n,n∉ns→∀y,H n=some y→∀b,y.has b→fH w hs b:=by
  intro n hnn y hy b hb;refine⟨(HB.block_lt (hS.ok n y hy) hb).2.1,fun j z e hz=>?_⟩;obtain⟨m,x,hm,hx,rfl⟩:=hget j z e;rw[V0]at hz;exact hS.inj n m y x b (fun e=>hnn (by rw[e];exact List.mem_of_getElem? hm)) hy hx hb hz
 refine⟨⟨K0.refl _ _,fun k hk=>hk.1,hS.mem,fun j y hy=>?_,fun j j' y y' b hj h1 h2 hb=>?_⟩,fun M' w' L τ hM' hS'=>⟨⟨hS.below.trans (hS'.below.mono hsub),fun k hk=>Nat.lt_of_lt_of_le (hS.base k hk) hS'.below.size,hS'.mem,fun n y hy=>?_,fun n n' y y' b hnn h1 h2 hb=>?_⟩,hM'.1,fun k o e hk=>hM'.2 k o e (hsub k hk)⟩⟩
 ·rw[G0]at hy;obtain⟨n,x,hm,hx,rfl⟩:=hget j y hy;exact vZ ((hS.ok n x hx).reB (fun b hb h=>h.2 j _ hy (by rw[V0];exact hb)))
 ·rw[G0]at h1 h2;obtain⟨n,x,hm,hx,rfl⟩:=hget j y h1;obtain⟨n',x',hm',hx',rfl⟩:=hget j' y' h2;rw[V0]at hb⊢;refine hS.inj n n' x x' b (fun e=>?_) hx hx' hb;subst e;exact hj (qS hn hm hm')
 ·rcases Z2 _ _ _ hy with⟨j,h,e1,e2,rfl⟩|hy
  ·have hok:=hS'.ok j h (by rw[G0];exact e1);exact vZ (hok.reB (fun b hb hB=>(HB.block_lt hok hb).1 (hsub b hB)))
  ·obtain⟨g1,g2⟩:=fO _ _ hy;have hok:=hS.ok n y g2;refine hok.keep hM'.1 (fun b hb=>?_) (fun b hb=>hS'.below.block b (hfar n g1 y g2 b hb));cases hq:M' b with
   |none=>rfl
   |some o=>have:=hM'.2 b o hq (hfar n g1 y g2 b hb);rw[(HB.block_lt hok hb).2.2]at this;cases this
 ·have hold:∀(m:Nat) (z:HB) (j:Nat) (h:HB),J9 H ns m=some z→L[j]? =some h→z.has b→¬h.has b:=by
   intro m z j h hz e hzb hhb;obtain⟨g1,g2⟩:=fO _ _ hz;exact(HB.block_lt (hS'.ok j h (by rw[G0];exact e)) hhb).1 (hfar m g1 z g2 b hzb)
  rcases Z2 _ _ _ h1 with⟨j,h,e1,e2,rfl⟩|h1
  ·rw[V0]at hb;rcases Z2 _ _ _ h2 with⟨j',h',e1',e2',rfl⟩|h2
   ·rw[V0];exact hS'.inj j j' h h' b (fun e=>hnn (by rw[e2,e2',e])) (by rw[G0];exact e1) (by rw[G0];exact e1') hb
   ·exact fun hb'=>hold n' y' j h h2 e1 hb' hb
  ·rcases Z2 _ _ _ h2 with⟨j',h',e1',e2',rfl⟩|h2
   ·rw[V0];exact hold n y j' h' h1 e1' hb
   ·exact hS.inj n n' y y' b hnn (fO _ _ h1).2 (fO _ _ h2).2 hb
end
section
variable {P : Program} {T : Tb} {w w' : World} {M F : B5} {B : Nat → Prop} {W : World} {H H' : Nat → Option HB}
def Kok (B:Nat→Prop) (W:World) (M:B5) (o:Oper) (a:Act) (K:Act→World→Prop) (r:HR):Prop:=
 r.ob∧∀v w' M',B5.ext B M M'→E1 B W r.H M' w'→RA M' r.x v→K (a.put o.dst v) w'
variable {E : D9} {a : Act} {rd : Operand → Option A} {nx : Nat} {K : Act → World → Prop} {Q : Exit → Act → World → Prop}
 {dst:Option Tmp} {ty:TypeId} {pos:String} {after:Array Edge} {guard:Option (Nat×Bool)}
theorem C3B (hS:E1 B W H M w) (hr:∀o x,rd o=some x→RA M x (a.eval o)) {t:TypeId} {x:Operand}
 (h:∀u,∃r,E5 E H nx rd u (.box t x)=some r∧Kok B W M ⟨dst,.box t x,ty,pos,after,guard⟩ a K r):Oper.wp P ⟨dst,.box t x,ty,pos,after,guard⟩ a w K Q:=by
 obtain⟨r,h1,h2,h3⟩:=h (.pointer (some ⟨w.heap.size,0,none⟩));simp only[E5]at h1;split at h1
 ·rename_i av ha;split at h1
  ·rename_i cs hcs;cases h1;have hrx:=dD (T:=E.T) hr (fun _=>rfl) ha;have hc:=oH hrx hcs;refine F9 (w':=w.alloc (.cells (a.eval x).cells t)) (v:= .pointer (some ⟨w.heap.size,0,none⟩)) ?_ (h3 _ _ M (B5.ext_refl _ _) (hS.new hc nx) (.c .ptr));simp[execOp,Instr.box,newVar,newRow]
  ·cases h1
 ·cases h1
theorem B3z (hT:K9 P E.T) (hS:E1 B W H M w) {t:TypeId}
 (h:∀u,∃r,E5 E H nx rd u (.alloc t)=some r∧Kok B W M ⟨dst,.alloc t,ty,pos,after,guard⟩ a K r):Oper.wp P ⟨dst,.alloc t,ty,pos,after,guard⟩ a w K Q:=by
 obtain⟨r,h1,h2,h3⟩:=h (.pointer (some ⟨w.heap.size,0,none⟩));simp only[E5]at h1;split at h1
 ·rename_i i hi;cases h1;obtain⟨inf,z,i1,i2,i3,i4,i5,i6⟩:=(hT _ _ hi).info;refine F9 (w':=w.alloc (.cells z.cells t)) (v:= .pointer (some ⟨w.heap.size,0,none⟩)) ?_ (h3 _ _ M (B5.ext_refl _ _) (hS.new (i6 M) nx) (.c .ptr));simp[execOp,Instr.alloc,newVar,newRow,zeroValue,D7 i1,i4]
 ·cases h1
theorem R8.splice {cs new:List C} {us vs:List Value} (h:R8 M cs us) (h':R8 M new vs) {o:Nat} (hle:o+new.length≤cs.length):
 R8 M (tke o cs++new++Q6 (o+len new) cs) (us.take o++vs++us.drop (o+vs.length)):=by
 have hul:=h.1;have hvl:=h'.1;refine⟨?_,fun j c u e1 e2=>?_⟩
 ·simp[aC,Q0,O9];omega
 ·rw[aC,Q0,O9,List.append_assoc]at e1;rw[List.append_assoc]at e2;by_cases hj:j<o
  ·rw[List.getElem?_append_left (by simp;omega),List.getElem?_take,if_pos hj]at e1 e2;exact h.2 j c u e1 e2
  ·rw[List.getElem?_append_right (by simp;omega)]at e1 e2;have l1:(List.take o cs).length=o:=by simp;omega
   have l2:(List.take o us).length=o:=by simp;omega
   rw[l1]at e1;rw[l2]at e2;by_cases hj2:j-o<new.length
   ·rw[List.getElem?_append_left hj2]at e1;rw[List.getElem?_append_left (by omega)]at e2;exact h'.2 _ c u e1 e2
   ·rw[List.getElem?_append_right (by omega),List.getElem?_drop]at e1;rw[List.getElem?_append_right (by omega),List.getElem?_drop,hvl]at e2;exact h.2 _ c u e1 e2
theorem mL (l vs:List Value) (o i:Nat) (h:o+vs.length≤l.length):
 (l.take o++vs++l.drop (o+vs.length))[i]? =if i<o then l[i]? else if i<o+vs.length then vs[i-o]? else l[i]? :=by
 rw[List.append_assoc];have l1:(List.take o l).length=o:=by simp;omega
 split
 ·rename_i hi;rw[List.getElem?_append_left (by omega),List.getElem?_take,if_pos hi]
 ·rw[List.getElem?_append_right (by omega),l1];split
  ·rw[List.getElem?_append_left (by omega)]
  ·rw[List.getElem?_append_right (by omega),List.getElem?_drop]
   congr 1;omega
theorem dE (M:B5):RA M (.t []) undef:= .t (by rfl) (by simp)
theorem B4A (hT:K9 P E.T) (hS:E1 B W H M w) (hr:∀o x,rd o=some x→RA M x (a.eval o)) {t:TypeId} {p x:Operand}
 (h:∀u,∃r,E5 E H nx rd u (.store t p x)=some r∧Kok B W M ⟨dst,.store t p x,ty,pos,after,guard⟩ a K r):Oper.wp P ⟨dst,.store t p x,ty,pos,after,guard⟩ a w K Q:=by
 obtain⟨r,h1,h2,h3⟩:=h undef;simp only[E5]at h1;split at h1
 ·rename_i n b o av i hp hx hi;split at h1
  ·rename_i b' ty' cs new hn hcs;split at h1
   ·rename_i hb;cases h1;simp only[Bool.and_eq_true,Nat.beq_eq,Nat.ble_eq,O9]at hb;subst h2;have hrx:=dD (T:=E.T) hr (fun _=>rfl) hx;have hc:=oH hrx hcs;obtain⟨g1,g2,us,g3,g4⟩:=hS.ok _ _ hn;have hul:us.size=cs.length:=by rw[←Array.length_toList,g4.1]
    have hst:=run_storeCells_at P b o ty' (a.eval x).cells.toList 0 us w g3 (by rw[hc.1];omega) hc.one;simp only[Nat.add_zero]at hst;refine jN (w':=w.setRow b (us.toList.take o++(a.eval x).cells.toList++us.toList.drop (o+(a.eval x).cells.toList.length)).toArray) ?_ (h3 _ _ M (B5.ext_refl _ _) ?_ (dE M))
    ·have hsz:(a.eval x).cells.size=i.size:=by rw[←Array.length_toList,hc.1,hb.1]
     simp only[execOp,Instr.storeAt,(hr _ _ hp).ptr_inv,Instr.sureAddr,storeVar,Sem.run_bind,Sem.run_pure,Result.andThen_ok,(hT _ _ hi).sizeOf];rw[if_neg (by simp[hsz])];rw[hst];rfl
    ·refine hS.step (nn:=n) (xx:= .blk b ty' _) (I8 w b _) (fun c hc=>by cases hc;exact⟨g1,g2⟩) (fun m y hm hy=>?_) (B4 _ _ _) ⟨g1,g2,_,setRow_heap w b us _ ty' _ g3,?_⟩ (fun c hc=> .inr hc)
     ·have hy':D4 H n _ m=some y:=hy;rw[B9 _ _ hm]at hy'
      replace hy:=hy'
      exact⟨hy,fun c hc=>by cases hc;exact hS.inj n m _ y b (fun e=>hm e.symm) hn hy rfl⟩
     ·rw[List.toList_toArray];exact g4.splice hc hb.2
   ·cases h1
  ·cases h1
 ·rename_i n v j sz o av i hp hx hi;split at h1
  ·rename_i v' ty' k l new hn hcs;split at h1
   ·rename_i hb;simp only[Bool.and_eq_true,Nat.beq_eq,Nat.ble_eq,O9]at hb;split at h1
    ·rename_i x' ob hd';cases h1;obtain⟨⟨⟨rfl,rfl⟩,hlt⟩,hob⟩:=h2;have hrx:=dD (T:=E.T) hr (fun _=>rfl) hx;have hc:=oH hrx hcs;rcases hS.ok _ _ hn with⟨rfl,rfl⟩|⟨b,cap,us,rfl,g1,g2,g3,g4,g5,g6,g7⟩
     ·simp at hlt
     ·have hj1:j*k.sz+k.sz≤cap*k.sz:=by
       have:(j+1)*k.sz≤cap*k.sz:=Nat.mul_le_mul_right _ (by omega);rw[Nat.add_mul,Nat.one_mul]at this;exact this
      have hfit:j*k.sz+o+new.length≤us.size:=by rw[g6];omega
      have hul:us.toList.length=us.size:=by simp
      have hst:=run_storeCells_at P b (j*k.sz+o) ty' (a.eval x).cells.toList 0 us w g3 (by rw[hc.1];omega) hc.one;simp only[Nat.add_zero]at hst;have hcl:=hc.1;refine jN (w':=w.setRow b (us.toList.take (j*k.sz+o)++(a.eval x).cells.toList++us.toList.drop (j*k.sz+o+(a.eval x).cells.toList.length)).toArray) ?_ (h3 _ _ M (B5.ext_refl _ _) ?_ (dE M))
      ·have hsz:(a.eval x).cells.size=i.size:=by rw[←Array.length_toList,hc.1,hb.1]
       simp only[execOp,Instr.storeAt,(hr _ _ hp).oel_inv,Value.blk,Value.ownBlock,Option.getD_some,Instr.sureAddr,storeVar,Sem.run_bind,Sem.run_pure,Result.andThen_ok,(hT _ _ hi).sizeOf];rw[if_neg (by simp[hsz])];rw[hst];rfl
      ·refine hS.step (nn:=n) (xx:= .own _ ty' k _) (I8 w b _) (fun c hc=>by cases hc;exact⟨g1,g2⟩) (fun m y hm hy=>?_) (B4 _ _ _) ?_ (fun c hc=> .inr hc)
       ·have hy':D4 H n _ m=some y:=hy;rw[B9 _ _ hm]at hy'
        replace hy:=hy'
        exact⟨hy,fun c hc=>by cases hc;exact hS.inj n m _ y b (fun e=>hm e.symm) hn hy rfl⟩
       ·
        let old:List C:=(k.enc (l.getD j k.dft)).map .pv
        have hol:old.length=k.sz:=by simp[old,LK.enc_len]
        let ucell:List Value:=((us.toList.drop (j*k.sz)).take k.sz)
        have hucl:ucell.length=k.sz:=by simp[ucell];omega
        have hold:R8 M old ucell:=by
         refine⟨by rw[hucl,hol],fun q c u e1 e2=>?_⟩;simp only[old,List.getElem?_map]at e1;cases hy:(k.enc (l.getD j k.dft))[q]? with
         |none=>rw[hy]at e1;cases e1
         |some y=>
          rw[hy]at e1;simp at e1;subst e1;rw[List.getD,gE_ hlt]at hy;obtain⟨u',f1,f2⟩:=g7 j l[j] q y (gE_ hlt) hy;have hq:=N9 hy;simp only[ucell,List.getElem?_take,if_pos hq,List.getElem?_drop]at e2;rw[Array.getElem?_toList,f1]at e2;cases e2;exact .pv f2
        have hnewc:=hold.splice hc (o:=o) (by rw[hol];exact hb.2);obtain⟨d1,d2⟩:=B3v hd' hob hnewc;refine .inr ⟨b,cap,_,by rw[List.length_set],g1,g2,setRow_heap w b us _ ty' _ g3,by rw[List.length_set];exact g4,g5,?_,fun q y r z e1 e2=>?_⟩
        ·rw[List.size_toArray,←g6];simp only[List.length_append,List.length_take,List.length_drop];omega
        ·have hr':=N9 e2;by_cases hqj:q=j
         ·subst hqj;rw[List.getElem?_set_self (by exact hlt)]at e1;cases e1;obtain⟨u,f1,f2⟩:=d2 r z e2;refine⟨u,?_,f2⟩;rw[←f1,List.getElem?_toArray,mL _ _ _ _ (by omega),mL _ _ _ _ (by omega)];simp only[ucell,List.getElem?_take,List.getElem?_drop,if_pos hr'];by_cases hro:r<o
          ·rw[if_pos (by omega),if_pos hro]
          ·rw[if_neg (by omega),if_neg hro];by_cases hr2:r<o+(a.eval x).cells.toList.length
           ·rw[if_pos (by omega),if_pos hr2];congr 1;omega
           ·rw[if_neg (by omega),if_neg hr2]
         ·rw[List.getElem?_set_ne (fun e=>hqj e.symm)]at e1;obtain⟨u,f1,f2⟩:=g7 q y r z e1 e2;refine⟨u,?_,f2⟩;rw[←f1,List.getElem?_toArray,mL _ _ _ _ (by omega),←Array.getElem?_toList];rcases Nat.lt_or_ge q j with hlt'|hge'
          ·have:(q+1)*k.sz≤j*k.sz:=Nat.mul_le_mul_right _ hlt';rw[Nat.add_mul,Nat.one_mul]at this;rw[if_pos (by omega)]
          ·have:(j+1)*k.sz≤q*k.sz:=Nat.mul_le_mul_right _ (by omega);rw[Nat.add_mul,Nat.one_mul]at this;rw[if_neg (by omega),if_neg (by omega)]
    ·cases h1
   ·cases h1
  ·cases h1
 ·cases h1
end
section
variable {P : Program} {T : Tb} {w w' : World} {M F : B5} {B : Nat → Prop} {W : World} {H H' : Nat → Option HB}
variable {E : D9} {a : Act} {rd : Operand → Option A} {nx : Nat} {K : Act → World → Prop} {Q : Exit → Act → World → Prop}
 {dst:Option Tmp} {ty:TypeId} {pos:String} {after:Array Edge} {guard:Option (Nat×Bool)}
theorem cO (hT:K9 P T) {t e s1 s2:Nat} {k:LK} {z} (h:T t=some ⟨.slc e k,s1,s2,z⟩):P.underlying t=some (.slice e)∧∃inf,P.info? e=some inf∧inf.size=k.sz:=by
 have:=(hT _ _ h).und;exact this
theorem A2D (hT:K9 P E.T) (hS:E1 B W H M w) (hr:∀o x,rd o=some x→RA M x (a.eval o)) {t n:Nat} {ps:Array (Nat×Operand)}
 (h:∀u,∃r,E5 E H nx rd u (.buildSlice t n ps)=some r∧Kok B W M ⟨dst,.buildSlice t n ps,ty,pos,after,guard⟩ a K r):Oper.wp P ⟨dst,.buildSlice t n ps,ty,pos,after,guard⟩ a w K Q:=by
 obtain⟨ps⟩:=ps;obtain⟨r,h1,h2,h3⟩:=h (.slice (some ⟨w.heap.size,0,none⟩) n n);simp only[E5]at h1;split at h1
 ·rename_i e k s1 s2 z hk;split at h1
  ·rename_i l ob ie hn hd hie;split at h1
   ·rename_i hb;cases h1;simp only[Bool.and_eq_true,Nat.beq_eq,Nat.ble_eq,O9]at hb hn;obtain⟨hu,_⟩:=cO hT hk;obtain⟨inf,zv,i1,i2,i3,i4,i5,i6⟩:=(hT _ _ hie).info;obtain⟨g1,g2⟩:=B1J hr (fun _=>rfl) _ _ _ _ hd h2;have hsz:=LK.sz_pos k;have hsz2:k.sz≤18:=by cases k<;> simp[LK.sz]
    have hisz:inf.size=k.sz:=by rw[i2,hb.1]
    let zs:Array Value:=(Array.range (n*k.sz)).map ((if n*k.sz=0 then #[]else zv.cells)[·%(if n*k.sz=0 then #[]else zv.cells).size]!)
    obtain⟨us',f1,f2,f3,f4⟩:=B3w k.sz (ps.map fun(i,x)=>(i,a.eval x)) 0 zs (fun j p hj=>by
     rw[List.getElem?_map]at hj;cases hp:ps[j]? with
     |none=>rw[hp]at hj;cases hj
     |some p0=>
      rw[hp]at hj;simp at hj;subst hj;obtain⟨q1,x,q2,q3,q4⟩:=g2 j p0 hp;exact⟨q1,q3⟩) (by simp[zs,hn])
    have hlen:l.length=n:=by rw[g1,hn]
    have hlies:qP M k l us'.toList:=by
     refine⟨by simp[f2,zs,hlen],fun i x j y e1 e2=>?_⟩;have hi:i<ps.length:=by rw[←g1];exact(gS_.1 e1).1
     obtain⟨q1,x',q2,q3,q4⟩:=g2 i ps[i] (gE_ hi);rw[e1]at q2;cases q2;obtain⟨u,v1,v2⟩:=q4 j y e2;have:=f4 i j (ps[i].1,a.eval ps[i].2) (by simp[hi]) (N9 e2);rw[Nat.zero_add]at this;exact⟨u,by rw[Array.getElem?_toList,this];exact v1,v2⟩
    have hown:F6 M B (w.alloc (.cells us' e)) (.slice (some ⟨w.heap.size,0,none⟩) n n) e k l:=by
     rw[←hlen];refine F6.mk (fun h=>Nat.lt_irrefl _ (hS.base _ h)) (B5.none_of_size hS.mem (Nat.le_refl _)) (heap_alloc_new w _) (Nat.le_refl _) (by have:=hb.2;simp only[maxLen];omega) (by simp[f2,zs,hlen]) ?_;rw[List.take_of_length_le (by rw[hlies.1];exact Nat.le_refl _)];exact hlies
    refine F9 (w':=w.alloc (.cells us' e)) (v:= .slice (some ⟨w.heap.size,0,none⟩) n n) ?_ (h3 _ _ M (B5.ext_refl _ _) (hS.newOwn (row:=none) (World.grownBy_alloc w _ none) (by simp) hown (fun b hb=> .inl (by cases hb;exact Nat.le_refl _)) nx (fun m x hm hx=>⟨hx,by simp⟩)) (.c (.own rfl)));have hsmall:¬(n*k.sz > 2 ^ 24):=by
     have:n*k.sz≤1000*18:=Nat.mul_le_mul hb.2 hsz2;omega
    simp only[execOp,Instr.buildSlice,Sem.run_bind,run_underlying hu,Result.andThen_ok,Go.sizeOf,D7 i1,Sem.run_map,hisz];by_cases hz:n*k.sz=0
    ·simp[hz,zs]at f1⊢;rw[f1];simp[newRow]
    ·simp only[if_neg hsmall,if_neg hz,Sem.run_bind,zeroValue,D7 i1,Result.andThen_ok,i4,Sem.run_pure,List.map_toArray];simp only[zs,if_neg hz]at f1;rw[f1];simp[newRow]
   ·cases h1
  ·cases h1
 ·cases h1
theorem A3S (hT:K9 P E.T) (hS:E1 B W H M w) (hr:∀o x,rd o=some x→RA M x (a.eval o)) {t:Nat} {ol oc:Operand}
 (h:∀u,∃r,E5 E H nx rd u (.makeSlice t ol oc)=some r∧Kok B W M ⟨dst,.makeSlice t ol oc,ty,pos,after,guard⟩ a K r):Oper.wp P ⟨dst,.makeSlice t ol oc,ty,pos,after,guard⟩ a w K Q:=by
 have hfind:∀u r,E5 E H nx rd u (.makeSlice t ol oc)=some r→∃e k s1 s2 z kl l kc c ie,E.T t=some ⟨.slc e k,s1,s2,z⟩∧rd ol=some (.c (.pv (.val (.int kl l))))∧rd oc=some (.c (.pv (.val (.int kc c))))∧E.T e=some ie∧ie.bytes≤128∧
  r=⟨.c (.own nx u),((0≤l∧l≤c)∧c≤1099511627776)∧ie.zero=(k.enc k.dft).map .pv,D4 H nx (some (.own u e k (List.replicate l.toNat k.dft))),nx+1⟩:=by
  intro u r h1;simp only[E5]at h1;split at h1
  ·rename_i e k s1 s2 z kl l kc c hk hl hc;split at h1
   ·rename_i ie hie;split at h1
    ·rename_i hb;cases h1;rw[Nat.ble_eq]at hb;exact⟨e,k,s1,s2,z,kl,l,kc,c,ie,hk,hl,hc,hie,hb,rfl⟩
    ·cases h1
   ·cases h1
  ·cases h1
 obtain⟨r0,h0,h02,_⟩:=h undef;obtain⟨e,k,s1,s2,z,kl,l,kc,c,ie,hk,hl,hc,hie,hb,rfl⟩:=hfind _ _ h0;obtain⟨⟨⟨h0l,hlc⟩,hcm⟩,hzero⟩:=h02;obtain⟨hu,_⟩:=cO hT hk;obtain⟨inf,zv,i1,i2,i3,i4,i5,i6⟩:=(hT _ _ hie).info;obtain⟨r,h1,h2,h3⟩:=h (.slice (some ⟨w.heap.size,0,none⟩) l.toNat c.toNat);obtain⟨e',k',s1',s2',z',kl',l',kc',c',ie',hk',hl',hc',hie',hb',rfl⟩:=hfind _ _ h1;rw[hk]at hk';cases hk';rw[hl]at hl';cases hl';rw[hc]at hc';cases hc';rw[hie]at hie';cases hie';have hbytes:(inf.bytes:Int)*c≤281474976710656:=by
  have h1:(inf.bytes:Int)≤128:=by rw[i3];omega
  calc(inf.bytes:Int)*c≤128*1099511627776:=Int.mul_le_mul h1 hcm (by omega) (by omega)
   _≤_:=by decide
 have hrun:=run_make (P:=P) w t e inf zv hu i1 i4 kl kc l c h0l hlc hbytes (by omega);have hzr:=i6 M;rw[hzero]at hzr;have hzsz:zv.cells.size=k.sz:=by rw[←Array.length_toList,hzr.1];simp[LK.enc_len]
 have hisz:inf.size=k.sz:=by rw[i2,←i5,hzsz]
 have hown:F6 M B (w.alloc (.cells (madeCells zv.cells (c.toNat*inf.size)) e)) (.slice (some ⟨w.heap.size,0,none⟩) l.toNat c.toNat) e k (List.replicate l.toNat k.dft):=by
  refine .inr ⟨w.heap.size,c.toNat,_,by rw[List.length_replicate],fun h=>Nat.lt_irrefl _ (hS.base _ h),B5.none_of_size hS.mem (Nat.le_refl _),heap_alloc_new w _,by rw[List.length_replicate];omega,by simp only[maxLen];omega,by rw[size_madeCells,hisz],fun i x j y e1 e2=>?_⟩;rw[List.getElem?_replicate]at e1;split at e1
  ·rename_i hi;cases e1;have hj:=N9 e2;obtain⟨u,f1,f2⟩:=hzr.at (j:=j) (x:=y) (by rw[List.getElem?_map,e2];rfl);refine⟨u,?_,f2⟩;have hlt:i*k.sz+j<c.toNat*k.sz:=by
    have:(i+1)*k.sz≤c.toNat*k.sz:=Nat.mul_le_mul_right _ (by omega);rw[Nat.add_mul,Nat.one_mul]at this;omega
   have hmod:(i*k.sz+j)%k.sz=j:=by rw[Nat.mul_comm,Nat.mul_add_mod,Nat.mod_eq_of_lt hj]
   rw[Array.getElem?_toList]at f1;have hj':j<zv.cells.size:=by omega
   rw[Array.getElem?_eq_getElem hj']at f1;have hnz:zv.cells.size≠0:=by omega
   simp only[madeCells,hisz];rw[Array.getElem?_map,Array.getElem?_range,if_pos hlt,Option.map_some,hzsz,hmod];rw[getElem!_pos zv.cells j hj'];exact f1
  ·cases e1
 refine F9 (w':=w.alloc (.cells (madeCells zv.cells (c.toNat*inf.size)) e)) (v:= .slice (some ⟨w.heap.size,0,none⟩) l.toNat c.toNat) ?_ (h3 _ _ M (B5.ext_refl _ _) (hS.newOwn (row:=none) (World.grownBy_alloc w _ none) (by simp) hown (fun b hb=> .inl (by cases hb;exact Nat.le_refl _)) nx (fun m x hm hx=>⟨hx,by simp⟩)) (.c (.own rfl)));have el:=(hr _ _ hl).val_inv;have ec:=(hr _ _ hc).val_inv;simp only[execOp,el,ec,Sem.run_bind];rw[hrun];rfl
end
section
variable {P : Program} {w : World}
theorem B4B (a b:List UInt8):((⟨a.toArray⟩:ByteArray)==⟨b.toArray⟩)=decide (a=b):=by
 rw[show((⟨a.toArray⟩:ByteArray)==⟨b.toArray⟩)=(a.toArray==b.toArray)from rfl,Bool.eq_iff_iff];simp
theorem xH {d:TypeDesc} {kk:KK} (h:∀x y:kk.T,Instr.sameNow d (kk.enc x) (kk.enc y)=some (kk.eqb x y)) (x:kk.T):∀(l:List kk.T) (es:List MapEntry) (i:Nat),es.map (·.key)=l.map kk.enc→Instr.findNow d (kk.enc x) es i=some (eI x l es i):=by
 intro l
 induction l with
 |nil=>intro es i he;cases es with
  |nil=>rfl
  |cons=>simp at he
 |cons y l ih=>
  intro es i he;cases es with
  |nil=>simp at he
  |cons e es=>
   simp only[List.map_cons,List.cons.injEq]at he;simp only[Instr.findNow,he.1,h x y,eI];cases kk.eqb x y with
   |true=>rfl
   |false=>exact ih es (i+1) he.2
theorem lW {kt:TypeId} {kk:KK} (h:∀(x y:kk.T),kk.wf x→kk.wf y→∀w,(Op.equal kt (kk.enc x) (kk.enc y)).run P w= .ok (kk.eqb x y) w) (x:kk.T) (hx:kk.wf x):∀(l:List kk.T) (es:List MapEntry) (i:Nat),(∀y∈l,kk.wf y)→es.map (·.key)=l.map kk.enc→(Instr.findAsking kt (kk.enc x) es i).run P w= .ok (eI x l es i) w:=by
 intro l
 induction l with
 |nil=>intro es i _ he;cases es with
  |nil=>rfl
  |cons=>simp at he
 |cons y l ih=>
  intro es i hw he;cases es with
  |nil=>simp at he
  |cons e es=>
   simp only[List.map_cons,List.cons.injEq]at he;simp only[Instr.findAsking,he.1,Sem.run_bind,h x y hx (hw y (by simp)),Result.andThen_ok,eI];cases hb:kk.eqb x y with
   |true=>simp
   |false=>simp only[Bool.false_eq_true,if_false];exact ih es (i+1) (fun z hz=>hw z (by simp[hz])) he.2
theorem oI {k:TypeId} {kd:TypeDesc} (hu:P.underlying k=some kd) (hwide:B8u kd=true) (x:Value) (es:List MapEntry):(Instr.findKey k x es).run P w=(Instr.findAsking k x es).run P w:=by
 cases es with
 |nil=>simp[Instr.findKey,run_underlying hu,Instr.findNow,Instr.findAsking]
 |cons e es=>cases kd<;> simp[B8u]at hwide<;> simp[Instr.findKey,run_underlying hu,Instr.findNow,Instr.sameNow]
def cs5 (e:B0):List C:=[.pv (.val (.int .i64 e.kind)),.pv (.val (.int .i64 e.start)),.pv (.val (.int .i64 e.count)),.pv (.val (.int .i64 e.size)),.pv (.val (.int .u32 e.sum))]
def z5:List C:=cs5 ⟨0,0,0,0,0⟩
def csB (l:List UInt8):List C:=l.map fun x=> .pv (.val (.int .u8 (x.toNat:Int)))
def zB:List C:=[.pv (.val (.int .u8 0)),.pv (.val (.int .u8 0)),.pv (.val (.int .u8 0)),.pv (.val (.int .u8 0))]
theorem B0B {M:B5} (vs:List Value) (h:∀v∈vs,v.oneCell'=true):R8 M (vs.map fun v=> .pv (.val v)) vs:=by
 refine⟨by simp,fun j c u e1 e2=>?_⟩;rw[List.getElem?_map,e2]at e1;cases e1;exact .pv (.val (h u (List.mem_of_getElem? e2)))
def A2Y (P:Program) (kt:TypeId):KK→Bool
 | .str=>match P.underlying kt with|some .string=>true|_=>false
 | .int=>match P.underlying kt with|some (.int .i64)=>true|_=>false
 | .ent=>match P.underlying kt with|some (.struct _)=>A7j P kt z5|_=>false
 | .byt=>match P.underlying kt with|some (.array _ _)=>A7j P kt zB|_=>false
theorem A5e {em:Bool} (n:Nat) {us:Array Value}:∀{zs:List C} {j:Nat} {fs:List Field},iQ P j zs fs=true→A5W zs=true→(∀i,i<zs.length→∃k m,us[j+i]? =some (.int k m))→
 (forIn fs PUnit.unit fun(f:Field) (_:PUnit)=>(if f.name≠ "_" then(do Instr.checkKey em (n+1) f.type (←part f.type us f.offset);pure (ForInStep.yield PUnit.unit))else pure (ForInStep.yield PUnit.unit):Sem (ForInStep PUnit))).run P w= .ok PUnit.unit w:=by
 intro zs
 induction zs with
 |nil=>intro j fs h _ _;cases fs with
  |nil=>rfl
  |cons=>simp[iQ]at h
 |cons z zs ih=>
  intro j fs h hz hu;unfold iQ at h;split at h
  ·rename_i e;cases e
  ·rename_i k v zs' f fs' e;cases e;simp only[Bool.and_eq_true,Nat.beq_eq,decide_eq_true_eq]at h;obtain⟨⟨⟨h1,h2⟩,h3⟩,h4⟩:=h;split at h3
   ·rename_i k' hk;obtain⟨k2,m2,hm⟩:=hu 0 (by simp);have hp:=Z1 (P:=P) (w:=w) (e:=f.type) hk rfl (xs:=us) (off:=f.offset) (by rw[h1];exact hm);simp only[List.forIn_cons,if_pos h2,Sem.run_bind,hp,Result.andThen_ok];have hck:(Instr.checkKey em (n+1) f.type (.int k2 m2)).run P w= .ok () w:=by
     simp[Instr.checkKey,run_underlying hk]
    simp only[hck,Result.andThen_ok,Sem.run_pure];exact ih h4 hz (fun i hi=>by
     obtain⟨a,b,c⟩:=hu (i+1) (by simp;omega);exact⟨a,b,by rw[Nat.add_assoc,Nat.add_comm 1];exact c⟩)
   ·cases h3
  ·rename_i e;cases e;simp[A5W]at hz
  ·rename_i e;cases e;simp[A5W]at hz
  ·cases h
theorem B8z {kt:TypeId} {kk:KK} (h:A2Y P kt kk=true):C4n P kt kk:=by
 cases kk with
 |str=>
  simp only[A2Y]at h;split at h
  ·rename_i hu;refine⟨fun x em w _=>?_,fun x l es w _ _ he=>?_⟩
   ·suffices h:∀n,(Instr.checkKey em (n+1) kt _).run P w=_ from h 9999
    intro n;simp[Instr.checkKey,run_underlying hu,KK.enc]
   ·have:=xH (d:= .string) (kk:= .str) (fun x y=>by simp[Instr.sameNow,KK.enc,KK.eqb,B4B]) x l es 0 he;simp[Instr.findKey,run_underlying hu,this]
  ·cases h
 |int=>
  simp only[A2Y]at h;split at h
  ·rename_i hu;refine⟨fun x em w _=>?_,fun x l es w _ _ he=>?_⟩
   ·suffices h:∀n,(Instr.checkKey em (n+1) kt _).run P w=_ from h 9999
    intro n;simp[Instr.checkKey,run_underlying hu,KK.enc]
   ·have:=xH (d:= .int .i64) (kk:= .int) (fun x y=>by simp only[Instr.sameNow,KK.enc,KK.eqb,if_true];rw[show(x==y)=decide (x=y)from rfl]) x l es 0 he;simp[Instr.findKey,run_underlying hu,this]
  ·cases h
 |ent=>
  simp only[A2Y]at h;split at h
  ·rename_i fields hu;unfold A7j at h;rw[hu]at h;simp only[Bool.and_eq_true,Bool.not_eq_true']at h;obtain⟨⟨q1,q2⟩,q3⟩:=h;have hf:P.fieldsOf kt=fields:=by unfold Program.fieldsOf;rw[hu]
   refine⟨fun x em w _=>?_,fun x l es w hx hl he=>?_⟩
   ·suffices h:∀n,(Instr.checkKey em (n+1+1) kt _).run P w=_ from h 9998
    intro n;generalize hm:n+1=m;simp only[Instr.checkKey,Sem.run_bind,run_underlying hu,Result.andThen_ok,KK.enc];rw[←Array.forIn_toList];subst hm;have hc:=A5e (P:=P) (w:=w) (em:=em) n (us:= #[.int .i64 x.kind,.int .i64 x.start,.int .i64 x.count,.int .i64 x.size,.int .u32 x.sum]) q1 rfl (fun i hi=>by
     have:i<5:=hi
     match i,this with
     |0,_=>exact⟨_,_,rfl⟩
     |1,_=>exact⟨_,_,rfl⟩
     |2,_=>exact⟨_,_,rfl⟩
     |3,_=>exact⟨_,_,rfl⟩
     |4,_=>exact⟨_,_,rfl⟩)
    exact(congrArg (fun r:Result PUnit=>r.andThen fun a w'=>Sem.run P (pure ()) w') hc).trans rfl
   ·rw[oI hu rfl];refine lW (kk:= .ent) (fun x y _ _ w=>?_) x hx l es 0 hl he;show(Op.equalIn (9999+1) kt (KK.ent.enc x) (KK.ent.enc y)).run P w=_;simp only[KK.enc];rw[run_equalIn_struct w 9999 kt _ _ (by rw[hf];exact hu) q2,hf];have hr:∀e:B0,R8 (fun _=>none) (cs5 e) [.int .i64 e.kind,.int .i64 e.start,.int .i64 e.count,.int .i64 e.size,.int .u32 e.sum]:=fun e=>B0B [.int .i64 e.kind,.int .i64 e.start,.int .i64 e.count,.int .i64 e.size,.int .u32 e.sum] (by simp[Value.oneCell'])
    refine jJ (M:=fun _=>none) 9998 (r:=KK.ent.eqb x y) q1 (xs:=cs5 x) (ys:=cs5 y) ?_ (hr x) (hr y);simp only[z5,cs5,qO,qN,KK.eqb,Option.some.injEq];obtain⟨a1,a2,a3,a4,a5⟩:=x;obtain⟨b1,b2,b3,b4,b5⟩:=y;rw[Bool.eq_iff_iff];simp
  ·cases h
 |byt=>
  simp only[A2Y]at h;split at h
  ·rename_i n e hu;unfold A7j at h;rw[hu]at h;simp only[Bool.and_eq_true,Bool.not_eq_true',Nat.beq_eq]at h;obtain⟨⟨⟨⟨q1,q2⟩,q3⟩,q4⟩,q5⟩:=h;have hn:n=4:=q2;subst hn;split at q3
   ·rename_i k' hek;split at q4
    ·rename_i ie hie;rw[Nat.beq_eq]at q4;have hc:P.cellsOf e=1:=by simp[Program.cellsOf,hie,q4]
     have four:∀x:List UInt8,x.length=4→∃a b c d,x=[a,b,c,d]:=fun x hx=>by
      match x,hx with
      |[a,b,c,d],_=>exact⟨a,b,c,d,rfl⟩
     refine⟨fun x em w hx=>?_,fun x l es w hx hl he=>?_⟩
     ·obtain⟨a,b,c,d,rfl⟩:=four x hx
      suffices h:∀n,(Instr.checkKey em (n+1+1) kt _).run P w=_ from h 9998
      intro n;generalize hm:n+1=m;have hck:∀(q:Int) (w:World),(Instr.checkKey em m e (.int .u8 q)).run P w= .ok () w:=fun q w=>by
       subst hm;simp[Instr.checkKey,run_underlying hek]
      have hp:∀(i:Nat) v, #[Value.int .u8 (a.toNat:Int),.int .u8 (b.toNat:Int),.int .u8 (c.toNat:Int),.int .u8 (d.toNat:Int)][i]? =some v→∀w,(part e #[Value.int .u8 (a.toNat:Int),.int .u8 (b.toNat:Int),.int .u8 (c.toNat:Int),.int .u8 (d.toNat:Int)] i).run P w= .ok v w:=fun i v h w=>Z1 hek rfl h
      simp only[Instr.checkKey,Sem.run_bind,run_underlying hu,Result.andThen_ok,KK.enc,List.map_cons,List.map_nil];simp only[Std.Legacy.Range.forIn_eq_forIn_range',Std.Legacy.Range.size,Nat.sub_zero,Nat.add_one_sub_one,Nat.div_one];have hs:∀w,(sizeOf e).run P w= .ok 1 w:=fun w=>by rw[run_sizeOf w hie,hc]
      simp[List.range',Sem.run_bind,hs,hp 0 _ rfl,hp 1 _ rfl,hp 2 _ rfl,hp 3 _ rfl,hck]
     ·rw[oI hu rfl];refine lW (kk:= .byt) (fun x y hx hy w=>?_) x hx l es 0 hl he;show(Op.equalIn (9999+1) kt (KK.byt.enc x) (KK.byt.enc y)).run P w=_;simp only[KK.enc];rw[run_equalIn_array w 9999 _ _ hu hie,hc,List.range_eq_range'];obtain⟨a,b,c,d,rfl⟩:=four x hx;obtain⟨a',b',c',d',rfl⟩:=four y hy;have hr:∀a b c d:UInt8,R8 (fun _=>none) (csB [a,b,c,d]) [.int .u8 (a.toNat:Int),.int .u8 (b.toNat:Int),.int .u8 (c.toNat:Int),.int .u8 (d.toNat:Int)]:=fun a b c d=>B0B [.int .u8 (a.toNat:Int),.int .u8 (b.toNat:Int),.int .u8 (c.toNat:Int),.int .u8 (d.toNat:Int)] (by simp[Value.oneCell'])
      refine xE (M:=fun _=>none) 9998 hek (r:=KK.byt.eqb [a,b,c,d] [a',b',c',d']) (zs:=zB) (j:=0) q1 (xs:=csB [a,b,c,d]) (ys:=csB [a',b',c',d']) ?_ (hr a b c d) (hr a' b' c' d');simp only[zB,csB,List.map_cons,List.map_nil,qO,qN,KK.eqb,Option.some.injEq];have hb:∀a b:UInt8,((a.toNat:Int)=(b.toNat:Int))↔a=b:=fun a b=>⟨fun h=>UInt8.toNat_inj.1 (by omega),fun h=>by rw[h]⟩
      rw[Bool.eq_iff_iff];simp[hb]
    ·cases q4
   ·cases q3
  ·cases h
end
section
variable {P : Program} {T : Tb} {w w' : World} {M F : B5} {B : Nat → Prop} {W : World} {H H' : Nat → Option HB}
variable {E : D9} {a : Act} {rd : Operand → Option A} {nx : Nat} {K : Act → World → Prop} {Q : Exit → Act → World → Prop}
 {dst:Option Tmp} {ty:TypeId} {pos:String} {after:Array Edge} {guard:Option (Nat×Bool)}
theorem B0C {vk:VK} {x:A} {v:Value} {k:vk.T} (h:B8x vk x=some k) (r:RA M x v):v=vk.enc k:=by
 unfold B8x at h;split at h
 ·cases h;cases r with|c r=>cases r;rfl
 ·cases h;cases r with|c r=>cases r;rfl
 ·cases h;exact r.val_inv
 ·cases h;exact r.val_inv
 ·cases h;exact r.val_inv
 ·cases h
theorem xI {kk:KK} {vk:VK} {x:kk.T}:∀{l:List (kk.T×vk.T)} {es:List MapEntry} {i:Nat},es.map (fun e=>(e.key,e.val))=l.map (fun p=>(kk.enc p.1,vk.enc p.2))→
 (∃(j:Nat) (e:MapEntry) (p:kk.T×vk.T),eI x (l.map (·.1)) es i=some (i+j,e.val)∧es[j]? =some e∧l[j]? =some p∧p.1=x∧(∀v,C1 l x v=l.set j (p.1,v))∧Y3 l x=l.eraseIdx j)∨
  (eI x (l.map (·.1)) es i=none∧(∀v:vk.T,C1 l x v=l++[(x,v)])∧Y3 l x=l):=by
 intro l
 induction l with
 |nil=>intro es i h;cases es with
  |nil=>exact .inr ⟨rfl,fun v=>rfl,rfl⟩
  |cons=>simp at h
 |cons p l ih=>
  intro es i h;cases es with
  |nil=>simp at h
  |cons e es=>
   simp only[List.map_cons,List.cons.injEq,Prod.mk.injEq]at h;cases hb:kk.eqb x p.1 with
   |true=>
    refine .inl ⟨0,e,p,by simp[eI,hb],rfl,rfl,(KK.eqb_iff.1 hb).symm,fun v=>by simp[C1,hb],by simp[Y3,hb]⟩
   |false=>
    rcases ih (i:=i+1) h.2 with⟨j,e',p',h1,h2,h3,h4,h5,h6⟩|⟨h1,h2,h3⟩
    ·exact .inl ⟨j+1,e',p',by simp only[List.map_cons,eI,hb];rw[h1];congr 2;omega,by simpa using h2,by simpa using h3,h4,fun v=>by simp[C1,hb,h5 v],by simp[Y3,hb,h6]⟩
    ·exact .inr ⟨by simp only[List.map_cons,eI,hb];exact h1,fun v=>by simp[C1,hb,h2 v],by simp[Y3,hb,h3]⟩
theorem dF (w:World) (b:Nat) (o:Obj):w.grownBy (w.putObj b o) (some b):=
 ⟨rfl,rfl,rfl,by simp,fun k hk hne=>World.putObj_heap_other (fun e=>hne (by rw[e]))⟩
theorem lX {kk:KK} (k:kk.T) (h:kk.wf k):Instr.sameBits 10000 (kk.enc k) (kk.enc k)=true:=by
 suffices hh:∀n,Instr.sameBits (n+1) (kk.enc k) (kk.enc k)=true from hh 9999
 intro n;cases kk with
 |str=>simp only[KK.enc,Instr.sameBits];rw[B4B];simp
 |int=>simp[KK.enc,Instr.sameBits]
 |ent=>
  have:∀(k:IntKind) (m:Int),Instr.sameBits n (.int k m) (.int k m)=true:=fun k m=>by cases n<;> simp[Instr.sameBits]
  simp[KK.enc,Instr.sameBits,this]
 |byt=>
  have:∀(k:IntKind) (m:Int),Instr.sameBits n (.int k m) (.int k m)=true:=fun k m=>by cases n<;> simp[Instr.sameBits]
  simp only[KK.enc,Instr.sameBits,beq_self_eq_true,Bool.true_and,List.all_eq_true];intro p hp;obtain⟨j,hj⟩:=List.getElem?_of_mem hp;rw[List.getElem?_zip_eq_some]at hj;obtain⟨e1,e2⟩:=hj;obtain⟨p1,p2⟩:=p;simp only at e1 e2;rw[e1]at e2;cases e2;simp only[List.getElem?_map]at e1;cases hq:k[j]? with
  |none=>rw[hq]at e1;cases e1
  |some x=>rw[hq]at e1;cases e1;exact this _ _
theorem aB.set {kk:KK} {vk:VK} {l:List (kk.T×vk.T)} {es:Array MapEntry} {c j:Nat} {e:MapEntry} {p:kk.T×vk.T} (h:aB kk vk l es c) (he:es[j]? =some e) (hp:l[j]? =some p) (v:vk.T):aB kk vk (l.set j (p.1,v)) (es.modify j fun f=>{f with key:=kk.enc p.1,val:=vk.enc v}) c:=by
 have hkey:e.key=kk.enc p.1:=by
  have:=congrArg (fun m=>m[j]?) h.all;simp only[List.getElem?_map,hp,Array.getElem?_toList,he,Option.map_some,Option.some.injEq,Prod.mk.injEq]at this;exact this.1
 have hb:∀(i:Nat) f,(es.modify j fun f=>{f with key:=kk.enc p.1,val:=vk.enc v})[i]? =some f→∃g,es[i]? =some g∧f.born=g.born:=fun i f hf=>by
  rw[Array.getElem?_modify]at hf;split at hf
  ·cases hg:es[i]? with
   |none=>rw[hg]at hf;cases hf
   |some g=>rw[hg]at hf;cases hf;exact⟨g,rfl,rfl⟩
  ·exact⟨f,hf,rfl⟩
 refine⟨?_,fun i f hf=>?_,fun i i' f f' hi hf hf'=>?_,fun q hq=>?_⟩
 ·refine List.ext_getElem? fun i=>?_
  have hi:=congrArg (fun m=>m[i]?) h.all;simp only[List.getElem?_map,Array.getElem?_toList]at hi⊢;rw[Array.getElem?_modify,List.getElem?_set];by_cases hij:j=i
  ·subst hij;have hlt:=(gS_.1 hp).1;simp[he,hlt]
  ·simp only[hij,if_false];exact hi
 ·obtain⟨g,g1,g2⟩:=hb i f hf;rw[g2];exact h.lt i g g1
 ·obtain⟨g,g1,g2⟩:=hb i f hf;obtain⟨g',g1',g2'⟩:=hb i' f' hf';rw[g2,g2'];exact h.up i i' g g' hi g1 g1'
 ·rcases List.mem_or_eq_of_mem_set hq with hq|rfl
  ·exact h.wf q hq
  ·exact h.wf p (List.mem_of_getElem? hp)
theorem aB.push {kk:KK} {vk:VK} {l:List (kk.T×vk.T)} {es:Array MapEntry} {c:Nat} (h:aB kk vk l es c) {k:kk.T} (hk:kk.wf k) (v:vk.T):aB kk vk (l++[(k,v)]) (es.push {key:=kk.enc k,val:=vk.enc v,born:=c}) (c+1):=by
 refine⟨by simp[h.all],fun i f hf=>?_,fun i i' f f' hi hf hf'=>?_,fun q hq=>?_⟩
 ·rw[Array.getElem?_push]at hf;split at hf
  ·cases hf;exact Nat.lt_succ_self c
  ·have:=h.lt i f hf;omega
 ·rw[Array.getElem?_push]at hf hf';split at hf'
  ·rename_i e';cases hf';split at hf
   ·omega
   ·exact h.lt i f hf
  ·have h':=(Array.getElem?_eq_some_iff.1 hf').1;split at hf
   ·omega
   ·exact h.up i i' f f' hi hf hf'
 ·rcases List.mem_append.1 hq with hq|hq
  ·exact h.wf q hq
  ·simp at hq;subst hq;exact hk
theorem aB.del {kk:KK} {vk:VK} {l:List (kk.T×vk.T)} {es:Array MapEntry} {c:Nat} (h:aB kk vk l es c) (j:Nat):aB kk vk (l.eraseIdx j) (es.eraseIdxIfInBounds j) c:=by
 have ht:(es.eraseIdxIfInBounds j).toList=es.toList.eraseIdx j:=by simp
 have hb:∀(i:Nat) f,(es.eraseIdxIfInBounds j)[i]? =some f→es[if i<j then i else i+1]? =some f:=fun i f hf=>by
  rw[←Array.getElem?_toList,ht,List.getElem?_eraseIdx]at hf;split at hf
  ·rename_i hi;rw[if_pos hi,←Array.getElem?_toList];exact hf
  ·rename_i hi;rw[if_neg hi,←Array.getElem?_toList];exact hf
 refine⟨?_,fun i f hf=>h.lt _ f (hb i f hf),fun i i' f f' hi hf hf'=>h.up _ _ f f' ?_ (hb i f hf) (hb i' f' hf'),fun q hq=>h.wf q (List.mem_of_mem_eraseIdx hq)⟩
 ·rw[ht];have hm:∀{α β:Type} (f:α→β) (l:List α) (i:Nat),(l.eraseIdx i).map f=(l.map f).eraseIdx i:=fun f l=>by
   induction l with
   |nil=>intro i;rfl
   |cons x l ih=>intro i;cases i with
    |zero=>rfl
    |succ i=>simp[ih i]
  rw[hm,hm,h.all]
 ·split<;> split<;> omega
theorem oJ (hS:E1 B W H M w) {n b:Nat} {kk:KK} {vk:VK} {l l':List (kk.T×vk.T)} {es':Array MapEntry} {c':Nat} (hn:H n=some (.mp b kk vk l)) (h:aB kk vk l' es' c'):E1 B W (D4 H n (some (.mp b kk vk l'))) M (w.putObj b (.map es' c')):=by
 obtain⟨g1,g2,es,clock,g3,g4⟩:=hS.ok _ _ hn;refine hS.step (nn:=n) (xx:= .mp b kk vk l') (dF w b _) (fun c hc=>by cases hc;exact⟨g1,g2⟩) (fun m y hm hy=>?_) (B4 _ _ _) ⟨g1,g2,es',c',World.putObj_heap_same (Array.getElem?_eq_some_iff.1 g3).1,h⟩ (fun c hc=> .inr (by rw[show b=c from hc]));have hy':D4 H n _ m=some y:=hy;rw[B9 _ _ hm]at hy';exact⟨hy',fun c hc hh=>by cases hc;exact hS.inj n m _ y b (fun e=>hm e.symm) hn hy' rfl hh⟩
theorem oK (hT:K9 P E.T) (hS:E1 B W H M w) (hr:∀o x,rd o=some x→RA M x (a.eval o)) {t:TypeId} {x i v:Operand}
 (h:∀u,∃r,E5 E H nx rd u (.mapUpdate t x i v)=some r∧Kok B W M ⟨dst,.mapUpdate t x i v,ty,pos,after,guard⟩ a K r):Oper.wp P ⟨dst,.mapUpdate t x i v,ty,pos,after,guard⟩ a w K Q:=by
 obtain⟨r,h1,h2,h3⟩:=h undef;simp only[E5]at h1;split at h1
 ·rename_i kk vk s1 s2 z n b ia va ht hx hi hv;split at h1
  ·rename_i b' kk' vk' l hn;split at h1
   ·rename_i k ob val hkv hko hvo;cases h1;simp only[Bool.and_eq_true]at hkv;obtain⟨e1,e2⟩:=hkv;have:=A3N e1;subst this;have:=A3O e2;subst this;obtain⟨rfl,hob⟩:=h2;obtain⟨g1,g2,es,clock,g3,g4⟩:=hS.ok _ _ hn;obtain⟨kt,et,inf,u1,u2,u3,u4⟩:=(hT _ _ ht).und;obtain⟨q1,q2⟩:=vW hko hob (hr _ _ hi);have q3:=gK (hr _ _ hx);have q4:=B0C hvo (hr _ _ hv);have hfind:=u2.find k (l.map (·.1)) es.toList w q2 (fun y hy=>by
     obtain⟨p,hp,rfl⟩:=List.mem_map.1 hy;exact g4.wf p hp) (vX g4.all)
    have hget:(getObj b).run P w= .ok (.map es clock) w:=by simp[getObj,Sem.run,g3]
    have hset:∀o,(setObj b o).run P w= .ok () (w.putObj b o):=fun o=>by simp[setObj,Sem.run,g3,World.putObj]
    rcases xI (i:=0) (x:=k) g4.all with⟨j,e,p,f1,f2,f3,f4,f5,_⟩|⟨f1,f2,_⟩
    ·have f2':es[j]? =some e:=by rw[←Array.getElem?_toList];exact f2
     subst f4;have hkey:e.key=kk.enc p.1:=by
      have:=congrArg (fun m=>m[j]?) g4.all;simp only[List.getElem?_map,f3,f2,Option.map_some,Option.some.injEq,Prod.mk.injEq]at this;exact this.1
     have hrun:(Instr.mapUpdate t (a.eval x) (a.eval i) (a.eval v)).run P w= .ok () (w.putObj b (.map (es.modify j fun f=>{f with key:=kk.enc p.1,val:=vk.enc val}) clock)):=by
      unfold Instr.mapUpdate;simp only[Sem.run_bind,run_underlying u1,Result.andThen_ok,q1,q3,q4,hget,u2.chk p.1 _ w q2,hfind,f1,Nat.zero_add];have hk2:(Instr.keyThatStays (((es[j]?).map (·.key)).getD (kk.enc p.1)) (kk.enc p.1)).run P w= .ok (kk.enc p.1) w:=by
       simp[Instr.keyThatStays,f2',hkey,lX p.1 q2]
      simp only[hk2,Result.andThen_ok,hset]
     refine jN (w':=w.putObj b (.map (es.modify j fun f=>{f with key:=kk.enc p.1,val:=vk.enc val}) clock)) (by simp[execOp,hrun]) (h3 _ _ M (B5.ext_refl _ _) ?_ (dE M));exact oJ hS hn (by rw[f5];exact g4.set f2' f3 val)
    ·have hrun:(Instr.mapUpdate t (a.eval x) (a.eval i) (a.eval v)).run P w= .ok () (w.putObj b (.map (es.push {key:=kk.enc k,val:=vk.enc val,born:=clock}) (clock+1))):=by
      unfold Instr.mapUpdate;simp only[Sem.run_bind,run_underlying u1,Result.andThen_ok,q1,q3,q4,hget,u2.chk k _ w q2,hfind,f1,hset]
     refine jN (w':=w.putObj b (.map (es.push {key:=kk.enc k,val:=vk.enc val,born:=clock}) (clock+1))) (by simp[execOp,hrun]) (h3 _ _ M (B5.ext_refl _ _) ?_ (dE M));exact oJ hS hn (by rw[f2];exact g4.push q2 val)
   ·cases h1
  ·cases h1
 ·cases h1
theorem A7p (hT:K9 P E.T) (hS:E1 B W H M w) {t:TypeId}
 (h:∀u,∃r,E5 E H nx rd u (.makeMap t none)=some r∧Kok B W M ⟨dst,.makeMap t none,ty,pos,after,guard⟩ a K r):Oper.wp P ⟨dst,.makeMap t none,ty,pos,after,guard⟩ a w K Q:=by
 obtain⟨r,h1,h2,h3⟩:=h (.pointer (some ⟨w.heap.size,0,none⟩));simp only[E5]at h1;split at h1
 ·rename_i kk vk s1 s2 z ht;cases h1;refine F9 (w':=w.alloc (.map #[] 0)) (v:= .map (some w.heap.size)) (by simp[execOp,Instr.makeMap,run_newObj_alloc]) (h3 _ _ M (B5.ext_refl _ _) ?_ (.c .mpt));refine hS.step (nn:=nx) (xx:= .mp w.heap.size kk vk []) (row:=none) (World.grownBy_alloc w _ none) (by simp) (fun m y hm hy=>?_) (B4 _ _ _) ⟨fun hb=>Nat.lt_irrefl _ (hS.base _ hb),B5.none_of_size hS.mem (Nat.le_refl _), #[],0,World.alloc_heap_new w _,⟨rfl,by simp,by simp,by simp⟩⟩ (fun c hc=> .inl (by rw[←show w.heap.size=c from hc];exact Nat.le_refl _));have hy':D4 H nx _ m=some y:=hy;rw[B9 _ _ hm]at hy'
  exact⟨hy',by simp⟩
 ·cases h1
theorem B1K (hT:K9 P E.T) (hS:E1 B W H M w) (hr:∀o x,rd o=some x→RA M x (a.eval o)) {t t2:TypeId} {x i:Operand}
 (h:∀u,∃r,E5 E H nx rd u (.call ⟨.builtin .delete,⟨[x,i]⟩,⟨[t,t2]⟩⟩)=some r∧Kok B W M ⟨dst,.call ⟨.builtin .delete,⟨[x,i]⟩,⟨[t,t2]⟩⟩,ty,pos,after,guard⟩ a K r):Oper.wp P ⟨dst,.call ⟨.builtin .delete,⟨[x,i]⟩,⟨[t,t2]⟩⟩,ty,pos,after,guard⟩ a w K Q:=by
 obtain⟨r,h1,h2,h3⟩:=h undef;simp only[E5]at h1;split at h1
 ·rename_i kk vk s1 s2 z n b ia ht hx hi;split at h1
  ·rename_i b' kk' vk' l hn;split at h1
   ·rename_i k ob hkv hko;cases h1;simp only[Bool.and_eq_true]at hkv;obtain⟨e1,e2⟩:=hkv;have:=A3N e1;subst this;have:=A3O e2;subst this;obtain⟨rfl,hob⟩:=h2;obtain⟨g1,g2,es,clock,g3,g4⟩:=hS.ok _ _ hn;obtain⟨kt,et,inf,u1,u2,u3,u4⟩:=(hT _ _ ht).und;obtain⟨q1,q2⟩:=vW hko hob (hr _ _ hi);have q3:=gK (hr _ _ hx);have hfind:=u2.find k (l.map (·.1)) es.toList w q2 (fun y hy=>by
     obtain⟨p,hp,rfl⟩:=List.mem_map.1 hy;exact g4.wf p hp) (vX g4.all)
    have hget:(getObj b).run P w= .ok (.map es clock) w:=by simp[getObj,Sem.run,g3]
    have hset:∀o,(setObj b o).run P w= .ok () (w.putObj b o):=fun o=>by simp[setObj,Sem.run,g3,World.putObj]
    have hrun:∃es',(Builtin.delete_ #[t,t2] ty #[a.eval x,a.eval i]).run P w= .ok (.tuple #[]) (w.putObj b (.map es' clock))∧aB kk vk (Y3 l k) es' clock:=by
     rcases xI (i:=0) (x:=k) g4.all with⟨j,e,p,f1,f2,f3,f4,f5,f6⟩|⟨f1,f2,f3⟩
     ·refine⟨es.eraseIdxIfInBounds j,?_,by rw[f6];exact g4.del j⟩;simp only[Builtin.delete_,List.getElem?_toArray,List.getElem?_cons_zero,List.getElem?_cons_succ,Sem.run_bind,run_underlying u1,Result.andThen_ok,q1,q3,hget,u2.chk k _ w q2,hfind,f1,Nat.zero_add,hset,Sem.run_pure]
     ·refine⟨es,?_,by rw[f3];exact g4⟩;simp only[Builtin.delete_,List.getElem?_toArray,List.getElem?_cons_zero,List.getElem?_cons_succ,Sem.run_bind,run_underlying u1,Result.andThen_ok,q1,q3,hget,u2.chk k _ w q2,hfind,f1,hset,Sem.run_pure]
    obtain⟨es',hrun,hok⟩:=hrun;refine F9 (w':=w.putObj b (.map es' clock)) (v:= .tuple #[]) ?_ (h3 _ _ M (B5.ext_refl _ _) (oJ hS hn hok) (.t rfl (by simp)));simp[execOp,resolve,invoke,Go.builtin,hrun]
   ·cases h1
  ·cases h1
 ·cases h1
theorem C3C (kk:KK) (x:kk.T):RA M (kkA kk x) (kk.enc x):=by
 cases kk with
 |str=>exact .c (.pv (.val rfl))
 |int=>exact .c (.pv (.val rfl))
 |ent=>
  refine .g ⟨rfl,fun j c u e1 e2=>?_⟩
  match j,e1,e2 with
  |0,e1,e2=>simp at e1 e2;subst e1 e2;exact .pv (.val rfl)
  |1,e1,e2=>simp at e1 e2;subst e1 e2;exact .pv (.val rfl)
  |2,e1,e2=>simp at e1 e2;subst e1 e2;exact .pv (.val rfl)
  |3,e1,e2=>simp at e1 e2;subst e1 e2;exact .pv (.val rfl)
  |4,e1,e2=>simp at e1 e2;subst e1 e2;exact .pv (.val rfl)
 |byt=>
  refine .g ⟨by simp,fun j c u e1 e2=>?_⟩;simp only[List.getElem?_map]at e1 e2;cases hq:x[j]? with
  |none=>rw[hq]at e1;cases e1
  |some y=>rw[hq]at e1 e2;cases e1;cases e2;exact .pv (.val rfl)
theorem B4C (hT:K9 P E.T) (hS:E1 B W H M w) (hr:∀o x,rd o=some x→RA M x (a.eval o)) {t:TypeId} {x:Operand}
 (h:∀u,∃r,E5 E H nx rd u (.range t x)=some r∧Kok B W M ⟨dst,.range t x,ty,pos,after,guard⟩ a K r):Oper.wp P ⟨dst,.range t x,ty,pos,after,guard⟩ a w K Q:=by
 obtain⟨r,h1,h2,h3⟩:=h (.pointer (some ⟨w.heap.size,0,none⟩));simp only[E5]at h1;split at h1
 ·rename_i kk0 vk0 s1 s2 z n b ht hx;split at h1
  ·rename_i b' kk vk l hn;cases h1;have h2:b=b':=h2;subst h2;obtain⟨g1,g2,es,clock,g3,g4⟩:=hS.ok _ _ hn;obtain⟨kt,et,inf,u1,u2,u3,u4⟩:=(hT _ _ ht).und;have q3:=gK (hr _ _ hx);have hget:(getObj b).run P w= .ok (.map es clock) w:=by simp[getObj,Sem.run,g3]
   have hlt:=(Array.getElem?_eq_some_iff.1 g3).1;refine F9 (w':=w.alloc (.mapIter (some b) clock #[] clock)) (v:= .pointer (some ⟨w.heap.size,0,none⟩)) ?_ (h3 _ _ M (B5.ext_refl _ _) ?_ (.c .ptr))
   ·simp[execOp,Instr.range,run_underlying u1,q3,hget,run_newObj_alloc]
   ·refine hS.step (nn:=n) (xx:= .mpr b kk vk l w.heap.size []) (row:=some b) (World.grownBy_alloc w _ _) (fun c hc=>by cases hc;exact⟨g1,g2⟩) (fun m y hm hy=>?_) (B4 _ _ _) ⟨⟨g1,g2⟩,⟨fun hb=>Nat.lt_irrefl _ (hS.base _ hb),B5.none_of_size hS.mem (Nat.le_refl _)⟩,by omega,es,clock, #[],(Below.heap_alloc _ _ _ hlt).trans g3,g4,World.alloc_heap_new w _,rfl,List.nodup_nil,by simp⟩ (fun c hc=>by
     rcases hc with hc|hc
     ·exact .inr (by rw[hc])
     ·exact .inl (by rw[←hc];exact Nat.le_refl _))
    have hy':D4 H n _ m=some y:=hy;rw[B9 _ _ hm]at hy';exact⟨hy',fun c hc hh=>by cases hc;exact hS.inj n m _ y b (fun e=>hm e.symm) hn hy' rfl hh⟩
  ·cases h1
 ·cases h1
theorem B4D (hS:E1 B W H M w) (hr:∀o x,rd o=some x→RA M x (a.eval o)) {x:Operand}
 (h:∀u,∃r,E5 E H nx rd u (.entry x)=some r∧Kok B W M ⟨dst,.entry x,ty,pos,after,guard⟩ a K r):Oper.wp P ⟨dst,.entry x,ty,pos,after,guard⟩ a w K Q:=by
 obtain⟨r,h1,h2,h3⟩:=h undef;simp only[E5]at h1;split at h1
 ·rename_i n b hx;split at h1
  ·rename_i bm kk vk l bi i vs hn;cases h1;have h2:b=bi:=h2;subst h2;obtain⟨g1,g2,g0,es,clock,seen,g3,g4,g5,g6,g7,g8⟩:=hS.ok _ _ hn;have q3:=(hr _ _ hx).ptr_inv;have hi:i<l.length:=g8 i (by simp);have hlen:es.size=l.length:=by have:=congrArg List.length g4.all;simpa using this
   have hei:es[i]? =some es[i]:=Array.getElem?_eq_getElem (by omega);have hki:=congrArg (fun m=>m[i]?) g4.all;simp only[List.getElem?_map,Array.getElem?_toList,hei,gE_ hi,Option.map_some,Option.some.injEq,Prod.mk.injEq]at hki;have hb:seen.back? =some es[i].born:=by
    rw[Array.back?_eq_getElem?,←Array.getElem?_toList,g6];have:seen.size=vs.length+1:=by have:=congrArg List.length g6;simpa using this
    simp only[this,List.reverse_cons,List.map_append,List.map_cons,List.map_nil,hei,Option.map_some,Option.getD_some,Nat.add_sub_cancel];rw[List.getElem?_append_right (by simp)];simp
   have hfind:es.find? (·.born==es[i].born)=some es[i]:=by
    rw[←Array.find?_toList,List.find?_eq_some_iff_getElem];refine⟨by simp,i,by simpa using(by omega:i<es.size),by simp,fun j hj=>?_⟩;have:=g4.up j i es[j] es[i] hj (Array.getElem?_eq_getElem (by omega)) hei;simp;omega
   have hg1:(getObj b).run P w= .ok (.mapIter (some bm) clock seen clock) w:=by simp[getObj,Sem.run,g5]
   have hg2:(getObj bm).run P w= .ok (.map es clock) w:=by simp[getObj,Sem.run,g3]
   refine F9 (w':=w) (v:= .tuple #[es[i].key,es[i].val]) ?_ (h3 _ _ M (B5.ext_refl _ _) hS ?_)
   ·simp[execOp,Instr.entry,q3,hg1,hb,hg2,hfind]
   ·refine .t rfl (fun j c u a1 a2=>?_);have hgd:l.getD i (kk.dft,vk.dft)=l[i]:=by simp[List.getD,gE_ hi]
    match j,a1,a2 with
    |0,a1,a2=>simp at a1 a2;subst a1 a2;rw[hki.1];simp only[gE_ hi,Option.getD_some];exact C3C kk _
    |1,a1,a2=>simp at a1 a2;subst a1 a2;rw[hki.2];simp only[gE_ hi,Option.getD_some];exact xA vk _
  ·cases h1
 ·cases h1
end
section
variable {P : Program} {T : Tb} {w w' : World} {M F : B5} {B : Nat → Prop} {W : World} {H H' : Nat → Option HB}
variable {E : D9} {a : Act} {rd : Operand → Option A} {nx : Nat} {K : Act → World → Prop} {Q : Exit → Act → World → Prop}
 {dst:Option Tmp} {ty:TypeId} {pos:String} {after:Array Edge} {guard:Option (Nat×Bool)}
theorem mM {ρ:Operand→Value} {x y:Operand} {ts:Array TypeId} {r:Result Value}
 (h:(Builtin.append_ ts ty #[ρ x,ρ y]).run P w=r):
 (execOp ρ ⟨dst,.call ⟨.builtin .append, #[x,y],ts⟩,ty,pos,after,guard⟩).run P w=r.andThen fun v w'=> .ok (.value v) w':=by
 simp[execOp,resolve,invoke,Go.builtin,h]
theorem F6.row {v:Value} {e:TypeId} {k:LK} {l:List k.T} (h:F6 M B w v e k l):∀b,v.ownBlock=some b→¬B b∧M b=none:=by
 intro b hb;rcases h with⟨rfl,rfl⟩|⟨b',cap,us,rfl,h1,h2,_⟩
 ·cases hb
 ·cases hb;exact⟨h1,h2⟩
theorem F6.one {v:Value} {e:TypeId} {k:LK} {l:List k.T} (h:F6 M B w v e k l):v.oneCell'=true:=by
 rcases h with⟨rfl,rfl⟩|⟨b',cap,us,rfl,_⟩<;> rfl
theorem RA.nil_inv {k:LK} {v:Value} (r:RA M (pv (.nil k)) v):v= .slice none 0 0:=by
 cases r with|c r=>cases r with|pv r=>cases r;rfl
theorem B1L (hT:K9 P E.T) (hS:E1 B W H M w) (hr:∀o x,rd o=some x→RA M x (a.eval o)) {s x:Operand} {t tx:TypeId}
 (h:∀u,∃r,E5 E H nx rd u (.call ⟨.builtin .append, #[s,x], #[t,tx]⟩)=some r∧Kok B W M ⟨dst,.call ⟨.builtin .append, #[s,x], #[t,tx]⟩,ty,pos,after,guard⟩ a K r):
 Oper.wp P ⟨dst,.call ⟨.builtin .append, #[s,x], #[t,tx]⟩,ty,pos,after,guard⟩ a w K Q:=by
 have main:∀{e:TypeId} {k0:LK} {l lm:List k0.T} {k':LK} {m:List k'.T} {s1 s2:Nat} {z} {kk:LK} {xa:A} {ie itx:TI} {v:Value} {ob:Prop} (hk:E.T t=some ⟨.slc e kk,s1,s2,z⟩) (hie:E.T e=some ie) (hb:ie.bytes≤128) (hsz:k0.sz=kk.sz)
  (hxa:rdT E.T tx rd x=some xa) (htx:E.T tx=some itx) (hsrc:uJ H ie.zero itx.kind xa=some ⟨k',m,ob⟩) (hob:ob)
  (hap:A7n k0 l k' m=some lm) (hle:l.length+m.length≤1099511627776) (hv:a.eval s=v) (ho:F6 M B w v e k0 l),
  ∃v' w',(execOp a.eval ⟨dst,.call ⟨.builtin .append, #[s,x], #[t,tx]⟩,ty,pos,after,guard⟩).run P w= .ok (.value v') w'∧w.grownBy w' v.ownBlock∧F6 M B w' v' e k0 lm∧∀b,v'.ownBlock=some b→w.heap.size≤b∨v.ownBlock=some b:=by
  intro e k0 l lm k' m s1 s2 z kk xa ie itx v ob hk hie hb hsz hxa htx hsrc hob hap hle hv ho;obtain⟨ek,rfl⟩:=B8y hap;subst ek;obtain⟨hu,inf',hi',hs'⟩:=cO hT hk;obtain⟨inf,zv,i1,i2,i3,i4,i5,i6⟩:=(hT _ _ hie).info;rw[i1]at hi';cases hi';have hrx:=dD (T:=E.T) hr (fun _=>rfl) hxa;obtain⟨news,n1,n2⟩:=C3A (P:=P) hS hrx (hT _ _ htx) (i6 M) hsrc hob;subst hv;obtain⟨v',w',r1,r2,r3,r4⟩:=A7l hS.base hS.mem ho (tr:=ty) hu i1 i4 (by rw[hs',hsz]) (by rw[i5,←i2,hs',hsz]) (by rw[i3];exact hb) n1 n2 hle;refine⟨v',w',?_,r2,r3,r4⟩;rw[mM r1];rfl
 have hu0:=h undef;obtain⟨r0,h0,h02,_⟩:=hu0;have e0:=h0;simp only[E5]at e0;split at e0
 ·rename_i e k s1 s2 z av xa itx hk hsa hxa htx;split at e0
  ·rename_i ie k' m ob hie hsrc;rw[hie]at hsrc;simp only[Option.elim]at hsrc;split at e0
   ·rename_i n v hb;split at e0
    ·rename_i v' ty' k0 l hn;split at e0
     ·rename_i lm hc hap;cases e0;simp only[Bool.and_eq_true,Nat.beq_eq]at hc;rw[Nat.ble_eq]at hb;obtain⟨⟨hob,rfl⟩,hle⟩:=h02;obtain⟨rfl,hsz⟩:=hc;have hsv:=(dD (T:=E.T) hr (fun _=>rfl) hsa).own_inv;obtain⟨v',w',f1,f2,f3,f4⟩:=main hk hie hb hsz hxa htx hsrc hob hap hle hsv (hS.ok _ _ hn);obtain⟨r,g1,g2,g3⟩:=h v';have e1:=g1;simp only[E5,hk,hsa,hxa,htx,hie,Option.elim,hsrc,(Nat.ble_eq▸hb:Nat.ble ie.bytes 128=true),hn,hap,Nat.beq_refl,(by rw[hsz];exact Nat.beq_refl _:Nat.beq k0.sz k.sz=true),Bool.and_self,Option.some.injEq]at e1;subst e1;refine F9 f1 (g3 _ _ M (B5.ext_refl _ _) (hS.newOwn f2 (F6.row (hS.ok _ _ hn)) f3 f4 nx (fun m x hm hx=>?_)) (.c (.own f3.one)))
      by_cases hmn:m=n
      ·subst hmn;rw[B4]at hx;cases hx
      ·rw[B9 _ _ hmn]at hx;exact⟨hx,fun b hb=>hS.inj n m _ x b (fun e=>hmn e.symm) hn hx hb⟩
     ·cases e0
    ·cases e0
   ·rename_i k0 hb;split at e0
    ·rename_i lm hc hap;cases e0;rw[Nat.beq_eq]at hc;rw[Nat.ble_eq]at hb;obtain⟨hob,hle⟩:=h02;have hsv:a.eval s= .slice none 0 0:=by
      exact RA.nil_inv (dD (T:=E.T) hr (fun _=>rfl) hsa)
     obtain⟨v',w',f1,f2,f3,f4⟩:=main hk hie hb hc hxa htx hsrc hob hap (by simpa using hle) hsv (F6.nil _ _ _ _ _);obtain⟨r,g1,g2,g3⟩:=h v';have e1:=g1;simp only[E5,hk,hsa,hxa,htx,hie,Option.elim,hsrc,(Nat.ble_eq▸hb:Nat.ble ie.bytes 128=true),hap,(by rw[hc];exact Nat.beq_refl _:Nat.beq k0.sz k.sz=true),Option.some.injEq]at e1;subst e1;exact F9 f1 (g3 _ _ M (B5.ext_refl _ _) (hS.newOwn f2 (by simp[Value.ownBlock]) f3 f4 nx (fun m x hm hx=>⟨hx,by simp[Value.ownBlock]⟩)) (.c (.own f3.one)))
    ·cases e0
   ·cases e0
  ·cases e0
 ·cases e0
theorem B9A {v:Value} {e:TypeId} {k:LK} {l:List k.T} (h:F6 M B w v e k l) (hM:M.on w):R (B5.all w) (.lst k l) v:=by
 rcases h with⟨rfl,rfl⟩|⟨b,cap,us,rfl,h1,h2,h3,h4,h5,h6,h7⟩
 ·exact R.lst_nil _ _
 ·refine R.lst_mk (b:=b) (o:=0) rfl h4 h5 (fun _=>rfl) (by simp) (fun i x j y e1 e2=>?_);obtain⟨u,hu,hr⟩:=h7 i x j y e1 e2;exact⟨u,by simp[B5.cell,B5.all,h3,hu],hr.mono (B5.le_all hM)⟩
theorem PV.nrm_ok {x:PV} {v:Value} (h:R M x v):R M x.nrm v:=by
 cases x with
 |nil k=>exact h.nil_lst
 |val _=>exact h
 |lst _ _=>exact h
theorem C.nrm_ok {x:C} {v:Value} (h:RC M x v):RC M x.nrm v:=by
 cases h with
 |pv r=>exact .pv (PV.nrm_ok r)
 |ptr=>exact .ptr
 |own h=>exact .own h
 |cel b o us hc hR=>exact .cel b o us hc hR
 |oel=>exact .oel
 |clo h1 h2=>exact .clo h1 h2
 |mpt=>exact .mpt
 |opt=>exact .opt
 |osl=>exact .osl
 |bx b o hc h=>exact .bx b o hc h
theorem B9B {x:PV} {v:Value} (h:RA M (pv x) v):RA M (pv x.nrm) v:=by
 cases h with|c h=>exact .c (C.nrm_ok h)
theorem B9C {xs:List C} {v:Value} (h:RA M (.g xs) v):RA M (.g (xs.map C.nrm)) v:=by
 cases h with
 |g r=>
  refine .g ⟨by simpa using r.1,fun j c u e1 e2=>?_⟩;rw[List.getElem?_map]at e1;cases hx:xs[j]? with
  |none=>rw[hx]at e1;cases e1
  |some x=>rw[hx]at e1;cases e1;exact C.nrm_ok (r.2 j x u hx e2)
theorem oL:∀(cs:List C) (ps:List PV),A2X cs=some ps→cs=ps.map .pv
 |[],ps,h=>by cases h;rfl
 | .pv x::l,ps,h=>by
  simp only[A2X]at h;split at h
  ·rename_i xs hxs;cases h;rw[oL l xs hxs];rfl
  ·cases h
 | .ptr .. ::_,_,h=>by cases h
 | .own .. ::_,_,h=>by cases h
 | .cel .. ::_,_,h=>by cases h
 | .oel .. ::_,_,h=>by cases h
 | .clo .. ::_,_,h=>by cases h
theorem B0D (hS:E1 B W H M w) {x:C} {y:A} {v:Value} {b:Bool} {ob:Prop} (h:A7o H x=some (y,b,ob)) (hob:ob) (hx:RC M x v):RA (B5.all w) y v∧(b=false→RA M y v):=by
 unfold A7o at h;split at h
 ·split at h
  ·rename_i hn;cases h;have:v=_:=(RA.c hx).own_inv;subst this;subst hob;exact⟨.c (.pv (B9A (hS.ok _ _ hn) hS.mem)),by simp⟩
  ·cases h
 ·cases h;have hx':RA M _ v:=B9B (.c hx);exact⟨hx'.mono (B5.le_all hS.mem),fun _=>hx'⟩
 ·split at h
  ·rename_i hn;split at h
   ·rename_i ps hps;cases h;subst hob;have:=oL _ _ hps;subst this;obtain⟨g1,g2,us,g3,g4⟩:=hS.ok _ _ hn;cases hx;refine⟨.c (.cel _ 0 (fun j=>(us[j]?).getD undef) (fun j y hj=>?_) (fun j y hj=>?_)),by simp⟩
    all_goals
     have hlt:j<us.size:=by
      have h1:=g4.1;have h2:=(gS_.1 hj).1;simp at h1;omega
    ·simp[B5.cell,B5.all,g3,hlt]
    ·have:=g4.2 j (.pv y) us[j] (by rw[List.getElem?_map,hj];rfl) (by simp[hlt]);cases this with|pv r=>simpa[hlt]using r.mono (B5.le_all hS.mem)
   ·cases h
  ·cases h
 ·cases h;exact⟨.c (hx.mono (B5.le_all hS.mem)),fun _=> .c hx⟩
 ·cases h;exact⟨.c (hx.mono (B5.le_all hS.mem)),fun _=> .c hx⟩
 ·cases h;exact⟨.c (hx.mono (B5.le_all hS.mem)),fun _=> .c hx⟩
 ·split at h
  ·rename_i hn;split at h
   ·rename_i ps hps;cases h;subst hob;have:=oL _ _ hps;subst this;obtain⟨g1,g2,us,g3,g4⟩:=hS.ok _ _ hn;cases hx with
    |clo hs hc=>
     rename_i vs;refine⟨.c (.clo hs fun j c u e1 e2=>?_),by simp⟩
     match j,e1 with
     |0,e1=>
      cases e1;have hp:=hc 0 _ u rfl e2;cases hp;refine .cel _ 0 (fun j=>(us[j]?).getD undef) (fun j y hj=>?_) (fun j y hj=>?_)
      all_goals
       have hlt:j<us.size:=by
        have h1:=g4.1;have h2:=(gS_.1 hj).1;simp at h1;omega
      ·simp[B5.cell,B5.all,g3,hlt]
      ·have:=g4.2 j (.pv y) us[j] (by rw[List.getElem?_map,hj];rfl) (by simp[hlt]);cases this with|pv r=>simpa[hlt]using r.mono (B5.le_all hS.mem)
   ·cases h
  ·cases h
 ·cases h
theorem B9D (hS:E1 B W H M w) {x y:A} {v:Value} {b:Bool} {ob:Prop} (h:B1I H x=some (y,b,ob)) (hob:ob) (hx:RA M x v):RA (B5.all w) y v∧(b=false→RA M y v):=by
 unfold B1I at h;split at h
 ·cases hx with|c hx=>exact B0D hS h hob hx
 ·cases h;have hx:=B9C hx;exact⟨hx.mono (B5.le_all hS.mem),fun _=>hx⟩
 ·cases h
theorem B4E (hS:E1 B W H M w):∀(cs:List C) (us:List Value) (az:List A) (b:Bool) (ob:Prop),uI H cs=some (az,b,ob)→ob→R8 M cs us→cY (B5.all w) az us.toArray∧(b=false→cY M az us.toArray):=by
 intro cs
 induction cs with
 |nil=>
  intro us az b ob h hob hr;cases h;have:us=[]:=List.eq_nil_of_length_eq_zero (by simpa using hr.1);subst this;exact⟨⟨rfl,by simp⟩,fun _=>⟨rfl,by simp⟩⟩
 |cons c cs ih=>
  intro us az b ob h hob hr;obtain⟨u,us',rfl,h1,h2⟩:=hr.cell;simp only[uI]at h;split at h
  ·rename_i a b1 p az' b2 p' e1 e2;cases h;obtain⟨g1,g2⟩:=B0D hS e1 hob.1 h1;obtain⟨k1,k2⟩:=ih us' az' b2 p' e2 hob.2 h2;have key:∀(MM:B5),RA MM a u→cY MM az' us'.toArray→cY MM (a::az') (u::us').toArray:=by
    intro MM r1 r2;refine⟨by have:=r2.1;simp at this⊢;exact this,fun j c v e1 e2=>?_⟩;cases j with
    |zero=>simp at e1 e2;subst e1 e2;exact r1
    |succ j=>exact r2.2 j c v (by simpa using e1) (by simpa using e2)
   refine⟨key _ g1 k1,fun hb=>?_⟩;simp only[Bool.or_eq_false_iff]at hb;exact key _ (g2 hb.1) (k2 hb.2)
  ·cases h
theorem cY.app {M:B5} {az bs:List A} {us vs:Array Value} (h:cY M az us) (h':cY M bs vs):cY M (az++bs) (us++vs):=by
 refine⟨by simp[h.1,h'.1],fun j a v e1 e2=>?_⟩;by_cases hj:j<az.length
 ·rw[List.getElem?_append_left hj]at e1;rw[Array.getElem?_append_left (by rw[h.1];exact hj)]at e2;exact h.2 j a v e1 e2
 ·rw[List.getElem?_append_right (by omega)]at e1;rw[Array.getElem?_append_right (by rw[h.1];omega),h.1]at e2;exact h'.2 _ a v e1 e2
theorem oM (hS:E1 B W H M w) (hr:∀o x,rd o=some x→RA M x (a.eval o)):∀(os:List Operand) (ts:List TypeId) (az:List A) (b:Bool) (ob:Prop),iS T H rd os ts=some (az,b,ob)→ob→
 cY (B5.all w) az (os.map a.eval).toArray∧(b=false→cY M az (os.map a.eval).toArray):=by
 intro os
 induction os with
 |nil=>
  intro ts az b ob h hob;cases ts<;> cases h<;> exact⟨⟨rfl,by simp⟩,fun _=>⟨rfl,by simp⟩⟩
 |cons o os ih=>
  intro ts az b ob h hob;cases ts with
  |nil=>cases h
  |cons t ts=>
   simp only[iS]at h;split at h
   ·rename_i x hx;split at h
    ·rename_i y b1 p az' b2 p' h1 h2;cases h;obtain⟨g1,g2⟩:=B9D hS h1 hob.1 (dD (T:=T) hr (fun _=>rfl) hx);obtain⟨k1,k2⟩:=ih ts az' b2 p' h2 hob.2;have key:∀(MM:B5),RA MM y (a.eval o)→cY MM az' (os.map a.eval).toArray→cY MM (y::az') ((o::os).map a.eval).toArray:=by
      intro MM r1 r2;refine⟨by have:=r2.1;simp at this⊢;exact this,fun j c v e1 e2=>?_⟩;cases j with
      |zero=>simp at e1 e2;subst e1 e2;exact r1
      |succ j=>exact r2.2 j c v (by simpa using e1) (by simpa using e2)
     refine⟨key _ g1 k1,fun hb=>?_⟩;simp only[Bool.or_eq_false_iff]at hb;exact key _ (g2 hb.1) (k2 hb.2)
    ·cases h
   ·cases h
theorem instX_ok {r:RX} {v:Value} (h:A7m M r v):RA M (instX r) v:=by
 cases r with
 |c x=>exact .c (.pv h)
 |g xs=>
  obtain⟨us,rfl,h1,h2⟩:=h;refine .g ⟨by simpa using h1,fun j c u e1 e2=>?_⟩;rw[List.getElem?_map]at e1;cases hx:xs[j]? with
  |none=>rw[hx]at e1;cases e1
  |some x=>rw[hx]at e1;cases e1;exact .pv (h2 j x u hx (by simpa using e2))
 |cl f cs=>exact .c h
theorem B9E (hT:K9 P E.T) (hΨ:B1 P E) (hS:E1 B W H M w) (hr:∀o x,rd o=some x→RA M x (a.eval o)) {fo:Operand} {args:List Operand} {tys:List TypeId}
 (h:∀u,∃r,E5 E H nx rd u (.call ⟨.value fo,⟨args⟩,⟨tys⟩⟩)=some r∧Kok B W M ⟨dst,.call ⟨.value fo,⟨args⟩,⟨tys⟩⟩,ty,pos,after,guard⟩ a K r):
 Oper.wp P ⟨dst,.call ⟨.value fo,⟨args⟩,⟨tys⟩⟩,ty,pos,after,guard⟩ a w K Q:=by
 obtain⟨r0,h0,h02,h03⟩:=h undef;have e0:=h0;simp only[E5]at e0;split at e0
 ·rename_i f caps hf;obtain⟨us,hfv,hus⟩:∃us:List Value,a.eval fo= .func (.func f) #[] us.toArray∧R8 M caps us:=by
   have:=hr _ _ hf;cases this with|c h=>
   generalize a.eval fo=v at h;cases h with
   | @clo _ _ us hs hh=>exact⟨us.toList,by simp,by simpa using hs,fun j c u e1 e2=>hh j c u e1 (by simpa using e2)⟩
  have hrun:qQ P f→(execOp a.eval ⟨dst,.call ⟨.value fo,⟨args⟩,⟨tys⟩⟩,ty,pos,after,guard⟩).run P w= .ok (.enter f ((args.map a.eval).toArray++us.toArray)) w:=by
   intro⟨fn,e1,e2,e3⟩;have e3':fn.name≠ "runtime.NumGoroutine" :=by simpa using e3
   have e2':fn.body≠none:=by intro e;rw[e]at e2;cases e2
   simp[execOp,resolve,invoke,hfv,Deferred.ofValue,callFunc,e1,e2',e3']
  split at e0
  ·rename_i s hs;split at e0
   ·rename_i az lent ob cs lent' ob' has hcs;split at e0
    ·rename_i pre sh rv hsp;have fin:((lent || lent') && sh)=false→(ob∧ob')∧pre→Oper.wp P ⟨dst,.call ⟨.value fo,⟨args⟩,⟨tys⟩⟩,ty,pos,after,guard⟩ a w K Q:=by
      intro hls hobp;obtain⟨ok1,ok2⟩:=oM hS hr _ _ _ _ _ has hobp.1.1;obtain⟨kk1,kk2⟩:=B4E hS _ _ _ _ _ hcs hobp.1.2 hus;obtain⟨hent,hfn⟩:=hΨ.fn f s hs (az++cs) pre sh rv hsp hobp.2;have hcall:∀(M0:B5),M0.on w→cY M0 (az++cs) ((args.map a.eval).toArray++us.toArray)→(∀v w' F,Below w.heap.size w w'→jK F w.heap.size w'→A5d (shM sh M0 F) (low w.heap.size) w' rv v→K (a.put dst v) w')→
       Oper.wp P ⟨dst,.call ⟨.value fo,⟨args⟩,⟨tys⟩⟩,ty,pos,after,guard⟩ a w K Q:=by
       intro M0 hM0 hra hk;unfold Oper.wp;rw[hrun hent,Oper.upon_enter];refine(hfn M0 w _ hM0 hra).mono fun e w' ⟨v,F,he,hb,hF,hv⟩=>?_
       subst he;exact hk v w' F hb hF hv
      have res:∀v w' F (M0:B5),(sh=true→M0=M)→Below w.heap.size w w'→jK F w.heap.size w'→A5d (shM sh M0 F) (low w.heap.size) w' rv v→K (a.put dst v) w':=by
       intro v w' F M0 hM0 hb hF hv;have hS':=hS.call hb hF;have hMle:=B5.ext_or hS.mem hS.base hF;have hle:(shM sh M0 F).le (M.or F):=by
        cases sh with
        |true=>rw[hM0 rfl];exact B5.le_refl _
        |false=>exact B5.or_le
       have rx:∀(r:RX) (u:Value),A7m (shM sh M0 F) r u→RA (M.or F) (instX r) u:=fun r u hr=>(instX_ok hr).mono hle
       have ow:∀(u:Value) (e:TypeId) (k:LK) (l:List k.T),F6 (shM sh M0 F) (low w.heap.size) w' u e k l→F6 (M.or F) B w' u e k l∧∀b,u.ownBlock=some b→w.heap.size≤b:=by
        intro u e k l ho;rcases ho with⟨rfl,rfl⟩|⟨b,cap,us,rfl,q1,q2,q3,q4,q5,q6,q7⟩
        ·exact⟨.inl ⟨rfl,rfl⟩,by simp[Value.ownBlock]⟩
        ·refine⟨.inr ⟨b,cap,us,rfl,fun h=>q1 (hS.base _ h),?_,q3,q4,q5,q6,fun i x j y a1 a2=>let⟨u,b1,b2⟩:=q7 i x j y a1 a2;⟨u,b1,b2.mono hle⟩⟩,fun b' hb'=>by cases hb';exact Nat.le_of_not_lt q1⟩;unfold B5.or;have hMb:=B5.none_of_size hS.mem (Nat.le_of_not_lt q1);cases hFb:F b with
         |none=>exact hMb
         |some o=>
          exfalso;cases sh with
          |true=>simp[shM,B5.or,hFb]at q2
          |false=>simp[shM,hFb]at q2
       have newo:∀(u:Value) (e:TypeId) (k:LK) (l:List k.T),F6 (shM sh M0 F) (low w.heap.size) w' u e k l→E1 B W (D4 H nx (some (.own u e k l))) (M.or F) w':=by
        intro u e k l ho;obtain⟨o1,o2⟩:=ow u e k l ho;refine⟨hS'.below,hS'.base,hS'.mem,fun n x hx=>?_,fun n n' x x' b hnn h1 h2 hb=>?_⟩
        ·by_cases hn:n=nx
         ·subst hn;rw[B4]at hx;cases hx;exact o1
         ·rw[B9 _ _ hn]at hx;exact hS'.ok n x hx
        ·have old:∀m y,m≠nx→D4 H nx (some (.own u e k l)) m=some y→∀c,y.has c→c<w.heap.size:=by
          intro m y hm hy c hc;rw[B9 _ _ hm]at hy;exact(HB.block_lt (hS.ok m y hy) hc).2.1
         by_cases hn:n=nx
         ·subst hn;rw[B4]at h1;cases h1;intro hc;have:=old n' x' (fun e=>hnn e.symm) h2 b hc;have:=o2 b hb;omega
         ·by_cases hn':n'=nx
          ·subst hn';rw[B4]at h2;cases h2;intro hc;have:=old n x hn h1 b hb;have:=o2 b hc;omega
          ·rw[B9 _ _ hn]at h1;rw[B9 _ _ hn']at h2;exact hS'.inj n n' x x' b hnn h1 h2 hb
       obtain⟨r,g1,g2,g3⟩:=h v;have e1:=g1;simp only[E5,hf,has,hcs,hs,hsp,hls]at e1;cases rv with
       |x r=>simp only[inst,Option.some.injEq]at e1;subst e1;exact g3 v w' _ hMle hS' (rx r v hv)
       |o e k l=>simp only[inst,Option.some.injEq]at e1;subst e1;exact g3 v w' _ hMle (newo v e k l hv) (.c (.own (F6.one (ow v e k l hv).1)))
       |ot e k l rest=>
        obtain⟨us,rfl,q1,⟨u0,q2,q3⟩,q4⟩:=hv;simp only[inst,Option.some.injEq]at e1;subst e1;have hc0:(Value.tuple us).comp 0=u0:=by
         have hlt:=(Array.getElem?_eq_some_iff.1 q2).1;simp[Value.comp,Array.getD,hlt,(Array.getElem?_eq_some_iff.1 q2).2]
        refine g3 _ w' _ hMle (by rw[hc0];exact newo u0 e k l q3) (.t (by simp[q1]) fun j c u e1 e2=>?_);cases j with
        |zero=>
         simp at e1;subst e1;rw[q2]at e2;cases e2;rw[hc0];exact .c (.own (F6.one (ow u0 e k l q3).1))
        |succ j=>
         simp at e1;obtain⟨r,hr1,rfl⟩:=e1;exact rx r u (q4 j r u hr1 e2)
       |t rest=>
        obtain⟨us,rfl,q1,q4⟩:=hv;simp only[inst,Option.some.injEq]at e1;subst e1;refine g3 _ w' _ hMle hS' (.t (by simp[q1]) fun j c u e1 e2=>?_);simp at e1;obtain⟨r,hr1,rfl⟩:=e1;exact rx r u (q4 j r u hr1 e2)
      cases hsh:sh with
      |false=>exact hcall (B5.all w) (B5.all_on w) (ok1.app kk1) (fun v w' F hb hF hv=>res v w' F (B5.all w) (fun e=>by rw[hsh]at e;cases e) hb hF hv)
      |true=>
       have hl:lent=false∧lent'=false:=by rw[hsh]at hls;simpa using hls
       exact hcall M hS.mem ((ok2 hl.1).app (kk2 hl.2)) (fun v w' F hb hF hv=>res v w' F M (fun _=>rfl) hb hF hv)
     split at e0
     ·rename_i hls _;cases e0;exact fin hls h02
     ·rename_i hls _;cases e0;exact fin hls h02
     ·cases e0
    ·cases e0
   ·cases e0
  ·rename_i hpsi;split at e0
   ·rename_i ec s hco;split at e0
    ·rename_i p os t0 ts;have hu0:us=[]:=List.eq_nil_of_length_eq_zero (by simpa using hus.1);subst hu0;split at e0
     ·rename_i n v az ob hp has;split at e0
      ·rename_i v' ty' k l hn;split at e0
       ·rename_i pre k' l' hty hsp;cases e0;obtain⟨⟨hob,rfl⟩,hpre⟩:=h02;have hty':=hty;rw[Nat.beq_eq]at hty;subst hty;obtain⟨hent,hfn⟩:=hΨ.co f _ s hco k l az pre k' l' hsp hpre v;obtain⟨ok1,ok2⟩:=oM hS hr _ _ _ _ _ has hob;have hra:=ok2 rfl;obtain⟨hl1,hl2⟩:=B3y hS (hs:=[.own v ty' k l]) (ns:=[n]) (σ:=id) (by simp) (by simp[hn,qR]);have hpv:=(hr _ _ hp).own_inv;have hv1:=F6.one (hS.ok _ _ hn);unfold Oper.wp;rw[hrun hent,Oper.upon_enter,show((List.map a.eval (p::os)).toArray++([]:List Value).toArray)=(v::os.map a.eval).toArray by simp[hpv]];refine(hfn M w _ hl1 ?ras).mono fun e w' ⟨q,M',x,he,hM',_,hx,hS'⟩=>?_
        case ras=>
         refine⟨by simpa using hra.1,fun j c u e1 e2=>?_⟩;cases j with
         |zero=>simp at e1 e2;subst e1 e2;exact .c (.own hv1)
         |succ j=>simp at e1 e2;exact hra.2 j c u e1 (by simpa using e2)
        subst he;have hq:=hx.own_inv;subst hq;obtain⟨r,g1,g2,g3⟩:=h q;have e1:=g1;simp only[E5,hf,hpsi,hco,hp,has,hn,hty',hsp,Option.some.injEq]at e1;subst e1;obtain⟨hH,hE⟩:=hl2 M' w' _ (fun _=>nx) hM' hS';exact g3 q w' M' hE hH (.c (.own (F6.one (hS'.ok 0 _ rfl))))
       ·cases e0
      ·cases e0
     ·cases e0
    ·cases e0
   ·split at e0
    ·rename_i tyq s p os t0 ts hs;have hu0:us=[]:=List.eq_nil_of_length_eq_zero (by simpa using hus.1);subst hu0;split at e0
     ·rename_i n b az lent ob hp has;split at e0
      ·rename_i b' ty' cs hn;split at e0
       ·rename_i ps hps;split at e0
        ·rename_i pre r ps' hty hsp;cases e0;obtain⟨⟨hob,rfl⟩,hpre⟩:=h02;rw[Nat.beq_eq]at hty;subst hty;obtain⟨hent,hfn⟩:=hΨ.pt f _ s hs ps az pre r ps' hsp hpre;obtain⟨ok1,ok2⟩:=oM hS hr _ _ _ _ _ has hob;obtain⟨g1,g2,us,g3,g4⟩:=hS.ok _ _ hn;have hpc:=oL _ _ hps;subst hpc;unfold Oper.wp;rw[hrun hent,Oper.upon_enter,show((List.map a.eval (p::os)).toArray++([]:List Value).toArray)=(List.map a.eval (p::os)).toArray by simp];have hpv:=(hr _ _ hp).ptr_inv;have:=hfn (B5.all w) w b us (os.map a.eval) g3 (g4.mono (B5.le_all hS.mem)) ok1;rw[show(List.map a.eval (p::os)).toArray=(.pointer (some ⟨b,0,none⟩)::os.map a.eval).toArray from by rw[List.map_cons,hpv]]
         refine this.mono fun e w' ⟨v,us',he,h1,h2,h3⟩=>?_
         subst he;subst h3;refine h03 v _ M (B5.ext_refl _ _) ?_ (.c (.pv (h1 M)));refine hS.step (nn:=n) (xx:= .blk b _ _) (I8 w b _) (fun c hc=>by cases hc;exact⟨g1,g2⟩) (fun m y hm hy=>?_) (B4 _ _ _) ⟨g1,g2,_,setRow_heap w b us _ _ _ g3,h2 M⟩ (fun c hc=> .inr hc);have hy':D4 H n _ m=some y:=hy;rw[B9 _ _ hm]at hy';exact⟨hy',fun c hc=>by cases hc;exact hS.inj n m _ y b (fun e=>hm e.symm) hn hy' rfl⟩
        ·cases e0
       ·cases e0
      ·cases e0
     ·cases e0
    ·cases e0
 ·cases e0
theorem B9F:∀{cs:List C} {l:List UInt8} {ob:Prop} {us:List Value},wZ cs=some (l,ob)→ob→R8 M cs us→l.length=cs.length∧us=l.map (fun x=> .int .u8 (x.toNat:Int)):=by
 intro cs
 induction cs with
 |nil=>
  intro l ob us h hob hr;cases h;exact⟨rfl,List.eq_nil_of_length_eq_zero (by simpa using hr.1)⟩
 |cons c cs ih=>
  intro l ob us h hob hr;unfold wZ at h;split at h
  ·rename_i hc;cases hc
  ·rename_i n l' hc;cases hc;split at h
   ·rename_i xs p hp;cases h;obtain⟨u,us',rfl,h1,h2⟩:=hr.cell;obtain⟨g1,g2⟩:=ih hp hob.2 h2;have hu:u= .int .u8 n:=by cases h1 with|pv r=>exact r.val_eq
    subst hu;have:((UInt8.ofNat n.toNat).toNat:Int)=n:=by rw[UInt8.toNat_ofNat'];omega
    exact⟨by simp[g1],by rw[List.map_cons,this,g2]⟩
   ·cases h
  ·cases h
theorem B1M (hT:K9 P E.T) (hS:E1 B W H M w) (hr:∀o x,rd o=some x→RA M x (a.eval o)) {t:TypeId} {x:Operand}
 (h:∀u,∃r,E5 E H nx rd u (.slice t x none none none)=some r∧Kok B W M ⟨dst,.slice t x none none none,ty,pos,after,guard⟩ a K r):Oper.wp P ⟨dst,.slice t x none none none,ty,pos,after,guard⟩ a w K Q:=by
 obtain⟨r,h1,h2,h3⟩:=h undef;simp only[E5]at h1;split at h1
 ·rename_i N e s1 s2 z n b hk hx;split at h1
  ·rename_i s3 s4 z' b' ty' cs he hn;split at h1
   ·rename_i l ob hN hd;cases h1;obtain⟨rfl,hob⟩:=h2;simp only[Bool.and_eq_true,Nat.beq_eq,Nat.ble_eq,O9]at hN;obtain⟨hN1,hN2⟩:=hN;have hu:=(hT _ _ hk).und;simp only at hu;have hue:=(hT _ _ he).und;simp only at hue;obtain⟨inf,zv,i1,i2,i3,i4,i5,i6⟩:=(hT _ _ he).info;have hv:=(hr _ _ hx).ptr_inv;obtain⟨g1,g2,us,g3,g4⟩:=hS.ok _ _ hn;obtain⟨d1,d2⟩:=B9F hd hob g4;have hul:us.size=N:=by rw[←Array.length_toList,g4.1,hN1]
    have hl:l.length=N:=by rw[d1,hN1]
    have hun:P.arrayLen t=N∧P.elem t=e:=by
     unfold Program.arrayLen Program.elem;rw[hu.1];exact⟨rfl,rfl⟩
    have hrun:(Instr.sliceAt t (.pointer (some ⟨b,0,none⟩)) none none none).run P w= .ok (.slice (some ⟨b,0,none⟩) N N) w:=by
     rw[run_sliceAt_array_all w t ⟨b,0,none⟩ (by rw[hun.1,hun.2];exact hu.1),hun.1,hun.2];have hsz:(Go.sizeOf e).run P w= .ok inf.size w:=by simp[Go.sizeOf,D7 i1]
     rw[hsz];simp only[Result.andThen_ok,slicedAt,Nat.zero_mul,Nat.sub_zero];split
     ·rfl
     ·simp[Addr.add]
    refine F9 (w':=w) (v:= .slice (some ⟨b,0,none⟩) N N) ?_ (h3 _ _ M (B5.ext_refl _ _) ?_ (.c (.own rfl)))
    ·simp only[execOp,hv,Option.map_none,Sem.run_bind];rw[hrun];rfl
    ·refine hS.step (row:=some b) (nn:=n) (xx:= .own (.slice (some ⟨b,0,none⟩) N N) ty' .byt l) (aE w _) (fun c hc=>by cases hc;exact⟨g1,g2⟩) (fun m y hm hy=>?_) (B4 _ _ _) ?_ (fun c hc=> .inr hc)
     ·have hy':D4 H n _ m=some y:=hy;rw[B9 _ _ hm]at hy';exact⟨hy',fun c hc=>by cases hc;exact hS.inj n m _ y b (fun e=>hm e.symm) hn hy' rfl⟩
     ·refine .inr ⟨b,N,us,by rw[hl],g1,g2,g3,by rw[hl];exact Nat.le_refl _,by simp only[maxLen];omega,by simp[LK.sz,hul],fun i x j y e1 e2=>?_⟩;have hj:=N9 e2;have hj0:j=0:=by simp[LK.sz]at hj;exact hj
      subst hj0;simp[LK.enc]at e2;subst e2;refine⟨.int .u8 (x.toNat:Int),?_,.val rfl⟩;rw[←Array.getElem?_toList,d2];simp[LK.sz,e1]
   ·cases h1
  ·cases h1
 ·cases h1
theorem B9G (hT:K9 P E.T) (hS:E1 B W H M w) (hr:∀o x,rd o=some x→RA M x (a.eval o)) {d s:Operand} {td ts:TypeId}
 (h:∀u,∃r,E5 E H nx rd u (.call ⟨.builtin .copy,⟨[d,s]⟩,⟨[td,ts]⟩⟩)=some r∧Kok B W M ⟨dst,.call ⟨.builtin .copy,⟨[d,s]⟩,⟨[td,ts]⟩⟩,ty,pos,after,guard⟩ a K r):
 Oper.wp P ⟨dst,.call ⟨.builtin .copy,⟨[d,s]⟩,⟨[td,ts]⟩⟩,ty,pos,after,guard⟩ a w K Q:=by
 obtain⟨r,h1,h2,h3⟩:=h undef;simp only[E5]at h1;split at h1
 ·rename_i e s1 s2 z n v sa hk hd hs;split at h1
  ·rename_i v' ty' l m ob s3 s4 z' hn hm he;cases h1;obtain⟨hob,rfl⟩:=h2;obtain⟨hu,_⟩:=cO hT hk;obtain⟨inf,zv,i1,i2,i3,i4,i5,i6⟩:=(hT _ _ he).info;obtain⟨hu2,inf2,i1',hsz⟩:=cO hT hk;rw[i1]at i1';cases i1';have h1sz:(P.info? e).map (·.size)=some 1:=by rw[i1];simp[hsz,LK.sz]
   have hv:=(hr _ _ hd).own_inv;obtain⟨ad,c,b',o,hsv,q1,q2,q3,q4⟩:=oF hS (hr _ _ hs) hm hob;have hexec:∀v w',(Builtin.copy_ #[td,ts] ty #[a.eval d,a.eval s]).run P w= .ok v w'→(execOp a.eval ⟨dst,.call ⟨.builtin .copy,⟨[d,s]⟩,⟨[td,ts]⟩⟩,ty,pos,after,guard⟩).run P w= .ok (.value v) w':=by
    intro v w' hh;simp[execOp,resolve,invoke,Go.builtin,hh]
   have hnone:Nat.min m.length l.length=0→∀(dd:Option Addr) (cap:Nat),a.eval d= .slice dd l.length cap→m.take l.length++l.drop m.length=l→Oper.wp P ⟨dst,.call ⟨.builtin .copy,⟨[d,s]⟩,⟨[td,ts]⟩⟩,ty,pos,after,guard⟩ a w K Q:=by
    intro h0 dd cap hdd hll;refine F9 (hexec _ _ (by rw[hdd,hsv];exact run_copy_none w td ts ty e dd ad l.length cap m.length c hu h1sz h0)) (h3 _ _ M (B5.ext_refl _ _) ?_ ?_)
    ·rw[hll];refine hS.less fun n' x hx=>?_
     have hx':D4 H n _ n'=some x:=hx;by_cases e:n'=n
     ·subst e;rw[B4]at hx';cases hx';exact hn
     ·rwa [B9 _ _ e]at hx'
    ·have h0':min m.length l.length=0:=h0;rw[h0'];exact .c (.pv (.val rfl))
   by_cases h0:Nat.min m.length l.length=0
   ·have hll:m.take l.length++l.drop m.length=l:=by
     have h0':min m.length l.length=0:=h0;by_cases hm0:m.length=0
     ·have:m=[]:=List.eq_nil_of_length_eq_zero hm0;subst this;simp
     ·have:l.length=0:=by omega
      have:l=[]:=List.eq_nil_of_length_eq_zero this;subst this;simp
    rcases hS.ok _ _ hn with⟨hv0,rfl⟩|⟨b,cap,us,hv0,g1,g2,g3,g4,g5,g6,g7⟩
    ·exact hnone h0 none 0 (by rw[hv,hv0];rfl) hll
    ·exact hnone h0 _ cap (by rw[hv,hv0]) hll
   ·have h0':¬min m.length l.length=0:=h0;have hmne:m≠[]:=by intro e;subst e;simp at h0'
    have:=q1 hmne;subst this;rcases hS.ok _ _ hn with⟨hv0,rfl⟩|⟨b,cap,us,rfl,g1,g2,g3,g4,g5,g6,g7⟩
    ·simp at h0'
    ·let cs:List Value:=(m.take l.length).map (fun x=> .int .u8 (x.toNat:Int))
     have hcl:cs.length=min l.length m.length:=by simp[cs,List.length_take]
     simp only[LK.sz,Nat.mul_one]at g6;have hrun:=run_copy_row (P:=P) w td ts ty e b 0 l.length cap ⟨b',o,none⟩ m.length c us ty' cs hu h1sz g3 (by rw[hcl,Nat.min_comm]) (fun j u hj=>by
      have hjl:j<(m.take l.length).length:=by have:=(gS_.1 hj).1;simpa[cs]using this
      have hjm:j<m.length:=by rw[List.length_take]at hjl;omega
      have hjl':j<l.length:=by rw[List.length_take]at hjl;omega
      obtain⟨u',hu',hru⟩:=q4 j m[j] 0 (.val (.int .u8 (m[j]).toNat)) (gE_ hjm) rfl;have:=hru.val_eq;subst this;simp[cs,List.getElem?_take,hjl',hjm]at hj;rw[←hj,Addr.add_lit];simpa[LK.sz]using hu') (by rw[hcl];simp;omega) (fun u hu=>by obtain⟨x,_,rfl⟩:=List.mem_map.1 hu;rfl)
     refine F9 (hexec _ _ (by rw[hv,hsv];exact hrun)) (h3 _ _ M (B5.ext_refl _ _) ?_ ?_)
     ·have hlen2:(m.take l.length++l.drop m.length).length=l.length:=by simp;omega
      refine hS.step (nn:=n) (xx:= .own (.slice (some ⟨b,0,none⟩) l.length cap) ty' .byt (m.take l.length++l.drop m.length)) (I8 w b _) (fun q hq=>by cases hq;exact⟨g1,g2⟩) (fun m' y hm' hy=>?_) (B4 _ _ _) ?_ (fun q hq=> .inr hq)
      ·have hy':D4 H n _ m'=some y:=hy;rw[B9 _ _ hm']at hy';exact⟨hy',fun q hq=>by cases hq;exact hS.inj n m' _ y b (fun e=>hm' e.symm) hn hy' rfl⟩
      ·refine .inr ⟨b,cap,_,by rw[hlen2],g1,g2,setRow_heap w b us _ ty' _ g3,by rw[hlen2];exact g4,g5,?_,fun i x j y e1 e2=>?_⟩
       ·simp[LK.sz,hcl];omega
       ·have hj:=N9 e2;have hj0:j=0:=by simp[LK.sz]at hj;exact hj
        subst hj0;simp[LK.enc]at e2;subst e2;refine⟨.int .u8 (x.toNat:Int),?_,.val rfl⟩;simp only[LK.sz,Nat.mul_one,Nat.add_zero,List.take_zero,List.nil_append,Nat.zero_add,List.getElem?_toArray];by_cases hi:i<cs.length
        ·rw[List.getElem?_append_left hi];rw[List.getElem?_append_left (by rw[List.length_take];omega)]at e1;simp only[cs,List.getElem?_map,e1,Option.map_some]
        ·rw[List.getElem?_append_right (by omega),List.getElem?_drop];rw[List.getElem?_append_right (by rw[List.length_take];omega),List.getElem?_drop,List.length_take]at e1;have hidx:cs.length+(i-cs.length)=i:=by omega
         have hi2:i<l.length:=by
          have:=(gS_.1 e1).1;omega
         have hml:m.length≤l.length:=by omega
         rw[show m.length+(i-min l.length m.length)=i by omega]at e1;obtain⟨u,hu,hru⟩:=g7 i x 0 (.val (.int .u8 x.toNat)) e1 rfl;have:=hru.val_eq;subst this;simp only[LK.sz,Nat.mul_one,Nat.add_zero]at hu;rw[hidx,Array.getElem?_toList];exact hu
     ·rw[hcl];simp only[goInt];rw[Nat.min_comm];exact .c (.pv (.val rfl))
  ·cases h1
 ·cases h1
theorem A5f (w:World) (b n:Nat) {us:Array Value} {ty:TypeId} (hb:w.heap[b]? =some (.cells us ty (0,0))):∀c,(w.freeze ⟨b,n,none⟩ 1).heap[c]? =if c=b then some (.cells us ty (n,n+1))else w.heap[c]? :=by
 intro c;unfold World.freeze;rw[if_neg (by decide)];simp only[Array.getElem?_modify];by_cases h:c=b
 ·subst h;simp[hb]
 ·rw[if_neg (fun e=>h e.symm),if_neg h]
theorem B9H (hT:K9 P E.T) (hS:E1 B W H M w) (hr:∀o x,rd o=some x→RA M x (a.eval o)) {src dt:TypeId} {x:Operand}
 (h:∀u,∃r,E5 E H nx rd u (.convert src dt x)=some r∧Kok B W M ⟨dst,.convert src dt x,ty,pos,after,guard⟩ a K r):Oper.wp P ⟨dst,.convert src dt x,ty,pos,after,guard⟩ a w K Q:=by
 obtain⟨r,h1,h2,h3⟩:=h undef;simp only[E5]at h1;split at h1
 ·rename_i e kk s1 s2 z n v hb0 hk hx;rw[Nat.beq_eq]at hb0;subst hb0;split at h1
  ·rename_i v' ty' k l s3 s4 z' hn he;cases h1;obtain⟨rfl,hpos⟩:=h2;obtain⟨hu,_⟩:=cO hT hk;have hue:=(hT _ _ he).und;simp only at hue;have hv:=(hr _ _ hx).own_inv;rcases hS.ok _ _ hn with⟨rfl,rfl⟩|⟨b,cap,us,rfl,g1,g2,g3,g4,g5,g6,g7⟩
   ·simp at hpos
   ·have hfz:=A5f w b us.size g3;have hsh:w.shape? b=some (ty',us.size):=by unfold World.shape?;rw[g3]
    have hrun:(Go.convert src src (.slice (some ⟨b,0,none⟩) l.length cap)).run P w= .ok (.slice (some ⟨b,0,none⟩) l.length cap) (w.freeze ⟨b,us.size,none⟩ 1):=by
     simp[Go.convert,run_underlying hu,run_underlying hue,markStringish,hsh]
    have hsize:(w.freeze ⟨b,us.size,none⟩ 1).heap.size=w.heap.size:=by
     unfold World.freeze;rw[if_neg (by decide)];simp
    have hle:M.le (fun j=>if j=b then(w.freeze ⟨b,us.size,none⟩ 1).heap[b]? else M j):=by
     intro j o e;by_cases hj:j=b
     ·subst hj;rw[g2]at e;cases e
     ·simp[hj,e]
    have hrest:(w.freeze ⟨b,us.size,none⟩ 1).os=w.os∧(w.freeze ⟨b,us.size,none⟩ 1).tape=w.tape∧(w.freeze ⟨b,us.size,none⟩ 1).output=w.output:=by
     unfold World.freeze;rw[if_neg (by decide)];exact⟨rfl,rfl,rfl⟩
    refine F9 (w':=w.freeze ⟨b,us.size,none⟩ 1) (v:= .slice (some ⟨b,0,none⟩) l.length cap) ?_ (h3 _ _ (fun j=>if j=b then(w.freeze ⟨b,us.size,none⟩ 1).heap[b]? else M j) ⟨hle,fun j o e hj=>?_⟩ ?_ ?_)
    ·simp only[execOp,hv,Sem.run_bind];rw[hrun];rfl
    ·have hjb:j≠b:=fun e=>g1 (e▸hj)
     simpa[hjb]using e
    ·refine⟨⟨hrest.1.trans hS.below.os,hrest.2.1.trans hS.below.tape,hrest.2.2.trans hS.below.output,by rw[hsize];exact hS.below.size,fun k hk=>?_⟩,by rw[hsize];exact hS.base,?_,?_,?_⟩
     ·rw[hfz k,if_neg (show k≠b from fun e=>g1 (e▸hk))];exact hS.below.block k hk
     ·intro j o e;by_cases hj:j=b
      ·subst hj;simpa using e
      ·simp only[hj,if_false]at e;rw[hfz j,if_neg hj];exact hS.mem j o e
     ·intro m x hm;have hm':m≠n:=fun e=>by subst e;simp only[B4]at hm;cases hm
      have e2:H m=some x:=by simpa only[B9 _ _ hm']using hm
      have hok:=hS.ok m x e2;have hcb:∀c,x.has c→c≠b:=fun c hc e=>hS.inj n m _ x b (fun h=>hm' h.symm) hn e2 rfl (e▸hc)
      refine hok.keep hle (fun c hc=>?_) (fun c hc=>?_)
      ·simp only[hcb c hc,if_false];exact(HB.block_lt hok hc).2.2
      ·rw[hfz c,if_neg (hcb c hc)]
     ·intro m m' x x' c hm a1 a2;have hne:∀q y,D4 H n none q=some y→H q=some y:=by
       intro q y hq;by_cases e:q=n
       ·subst e;rw[B4]at hq;cases hq
       ·rwa [B9 _ _ e]at hq
      exact hS.inj m m' x x' c hm (hne _ _ a1) (hne _ _ a2)
    ·refine .c (.pv (R.lst_mk (b:=b) (o:=0) rfl g4 g5 (fun _=>rfl) (by simp) (fun i x j y e1 e2=>?_)));obtain⟨u,hu,hr⟩:=g7 i x j y e1 e2;exact⟨u,by simp[B5.cell,hfz,hu],hr.mono hle⟩
  ·cases h1
 ·cases h1
theorem B1N (hT:K9 P E.T) (hS:E1 B W H M w) (hr:∀o x,rd o=some x→RA M x (a.eval o)) {op:BinOp} {t t2:TypeId} {x:Operand}
 (h:∀u,∃r,E5 E H nx rd u (.binOp op t x (.const (.slice none 0 0)) t2)=some r∧Kok B W M ⟨dst,.binOp op t x (.const (.slice none 0 0)) t2,ty,pos,after,guard⟩ a K r):Oper.wp P ⟨dst,.binOp op t x (.const (.slice none 0 0)) t2,ty,pos,after,guard⟩ a w K Q:=by
 obtain⟨r0,h0,_⟩:=h undef;simp only[E5]at h0;split at h0
 rotate_left
 ·cases h0
 rename_i e k s1 s2 z k2 l hk hx;obtain⟨hu,_⟩:=cO hT hk;have hv:=hr _ _ hx;obtain⟨ad,c,b,o,hvv,q1,q2,q3,q4,q5⟩:∃ad c b o,a.eval x= .slice ad l.length c∧l.length≤c∧c≤maxLen∧(l≠[]→ad=some ⟨b,o,none⟩)∧(ad=none→c=0)∧True:=by
  cases hv with
  |c hv=>cases hv with
   |pv hv=>obtain⟨ad,c,b,o,e1,e2,e3,e4,e5,_⟩:=hv.lst_inv;exact⟨ad,c,b,o,e1,e2,e3,e4,e5,trivial⟩
 obtain⟨d,hd,he⟩:∃d,B8w (.bool d) l=d∧(Op.equal t (.slice ad l.length c) (.slice none 0 0)).run P w= .ok d w:=by
  cases ad with
  |none=>
   have hl:l=[]:=by
    cases l with
    |nil=>rfl
    |cons y m=>exact absurd (q3 (by simp)) (by simp)
   subst hl;refine⟨true,rfl,?_⟩;show(Op.equalIn (9999+1) t _ _).run P w=_;rw[Op.equalIn];simp[run_underlying hu]
  |some ad=>
   refine⟨false,by cases l<;> rfl,?_⟩;show(Op.equalIn (9999+1) t _ _).run P w=_;rw[Op.equalIn];simp[run_underlying hu]
 obtain⟨r,h1,h2,h3⟩:=h (.bool d);simp only[E5,hk,hx]at h1;have hy:a.eval (.const (.slice none 0 0))= .slice none 0 0:=rfl;split at h1
 ·cases h1;refine F9 (w':=w) (v:= .bool d) ?_ (h3 _ _ M (B5.ext_refl _ _) hS (by rw[hd];exact .c (.pv (.val rfl))));simp only[execOp,hvv,hy];rw[Sem.run_bind,Sem.run_bind,K1 _ _ _ _ _ _ rfl];simp[Go.binOp,he]
 ·cases h1;refine F9 (w':=w) (v:= .bool (!d)) ?_ (h3 _ _ M (B5.ext_refl _ _) hS (by rw[hd];exact .c (.pv (.val rfl))));simp only[execOp,hvv,hy];rw[Sem.run_bind,Sem.run_bind,K1 _ _ _ _ _ _ rfl];simp[Go.binOp,he]
 ·cases h1
theorem B9I (hT:K9 P E.T) (hΨ:B1 P E) (hS:E1 B W H M w) (hr:∀o x,rd o=some x→RA M x (a.eval o)) {o:Oper}
 (h:∀u,∃r,E5 E H nx rd u o.op=some r∧Kok B W M o a K r):o.wp P a w K Q:=by
 obtain⟨dst,op,ty,pos,after,guard⟩:=o;obtain⟨r0,h0,_⟩:=h undef;have e0:=h0;simp only at e0 h;cases op with
 |box t x=>exact C3B hS hr h
 |alloc t=>exact B3z hT hS h
 |store t p x=>exact B4A hT hS hr h
 |convert src dt x=>exact B9H hT hS hr h
 |binOp op t x y t2=>
  cases y with
  |const v=>
   cases v with
   |slice p n c=>
    match p,n,c,h,e0 with
    |none,0,0,h,e0=>exact B1N hT hS hr h
    |some _,_,_,_,e0=>simp[E5]at e0
    |none,n+1,_,_,e0=>simp[E5]at e0
    |none,0,c+1,_,e0=>simp[E5]at e0
   |_=>simp[E5]at e0
  |_=>simp[E5]at e0
 |mapUpdate t x i v=>exact oK hT hS hr h
 |makeMap t r=>
  cases r with
  |none=>exact A7p hT hS h
  |some _=>simp[E5]at e0
 |range t x=>exact B4C hT hS hr h
 |entry x=>exact B4D hS hr h
 |buildSlice t n ps=>exact A2D hT hS hr h
 |makeSlice t l c=>exact A3S hT hS hr h
 |call c=>
  obtain⟨callee,args,tys⟩:=c;obtain⟨args⟩:=args;obtain⟨tys⟩:=tys;cases callee with
  |value fo=>exact B9E hT hΨ hS hr h
  |invoke=>simp[E5]at e0
  |builtin b=>
   cases b<;> (try (simp[E5]at e0;done))
   ·match args,tys,h,e0 with
    |[s,x],[t,tx],h,e0=>exact B1L hT hS hr h
   ·match args,tys,h,e0 with
    |[s,x],[t,tx],h,e0=>exact B9G hT hS hr h
   ·match args,tys,h,e0 with
    |[x,i],[t,t2],h,e0=>exact B1K hT hS hr h
 |slice t x lo hi mx=>
  match lo,hi,mx,h,e0 with
  |none,none,none,h,e0=>exact B1M hT hS hr h
  |some _,_,_,_,e0=>simp[E5]at e0
  |none,some _,_,_,e0=>simp[E5]at e0
  |none,none,some _,_,e0=>simp[E5]at e0
 |_=>simp[E5]at e0
end
def eN (ops:List Oper) (j:Nat):Option Nat:=match X0 ops j with
 |some o=>o.dst
 |none=>none
def A5g:Bool→Bool→Bool
 |true,true|false,false=>true
 |_,_=>false
theorem oN {a b:Bool} (h:A5g a b=true):a=b:=by cases a<;> cases b<;> first|rfl|cases h
def B4F (j:Nat) (b:Bool):List (Nat×Bool)→Bool
 |[]=>false
 |(j',b')::l=>(Nat.beq j j' && A5g b b') || B4F j b l
theorem A5h {j:Nat} {b:Bool}:∀{l:List (Nat×Bool)},B4F j b l=true→(j,b)∈l:=by
 intro l
 induction l with
 |nil=>intro h;cases h
 |cons x l ih=>
  intro h;obtain⟨j',b'⟩:=x;simp only[B4F,Bool.or_eq_true,Bool.and_eq_true]at h;rcases h with⟨h1,h2⟩|h
  ·rw[Nat.beq_eq]at h1;have:=oN h2;subst h1 this;exact List.mem_cons_self
  ·exact List.mem_cons_of_mem _ (ih h)
def dG (ops:List Oper) (f:Nat→Option Ent):Nat→Nat→Bool→List (Nat×Bool)
 |0,_,_=>[]
 |n+1,j,b=>(j,b)::match eN ops j with
  |some d=>match f d with
   |some (.gd j' b' _)=>dG ops f n j' b'
   |_=>[]
  |none=>[]
def B4G:Ent→Option Bool
 | .u (.c (.pv (.val (.bool g))))=>some g
 | .gd _ _ (.c (.pv (.val (.bool g))))=>some g
 |_=>none
def A2E (ops:List Oper) (f:Nat→Option Ent):List (Nat×Bool)→Prop→Option Prop
 |[],p=>some p
 |(j,b)::l,p=>match eN ops j with
  |some d=>match f d with
   |some e=>match B4G e with
    |some g=>A2E ops f l (g=b→p)
    |none=>none
   |none=>none
  |none=>none
def U7 (f:Nat→Option Ent) (Γ:List (Nat×Bool)):Operand→Option A
 | .tmp t=>match f t with
  |some (.u x)=>some x
  |some (.gd j b x)=>match B4F j b Γ with
   |true=>some x
   |false=>none
  |none=>none
 | .const v=>A3P v
 | .func f=>some (.c (.clo f []))
 | .global _=>none
def oeq:Option Nat→Nat→Bool
 |some a,b=>Nat.beq a b
 |none,_=>false
def rdP (ops:List Oper) (f:Nat→Option Ent) (Γ:List (Nat×Bool)) (tc:Nat) (want:Bool):Operand→Option A
 | .tmp t=>match f t with
  |some (.u x)=>some x
  |some (.gd j b x)=>match B4F j b Γ || (A5g b want && oeq (eN ops j) tc)with
   |true=>some x
   |false=>none
  |none=>none
 | .const v=>A3P v
 |_=>none
def aG:A→Option Bool
 | .c (.pv (.val (.bool g)))=>some g
 |_=>none
def A2Z (t:Bool) (oa ob:Operand) (p q:Bool):Bool:=match oa,ob with
 | .const (.bool true),_=>t || q
 |_,.const (.bool false)=>t && p
 |_,_=>match t with|true=>p|false=>q
def B4H (t:Bool) (oa ob:Operand) (p q:Bool):Option A:=match oa,ob with
 | .const (.bool true),_=>some (bool (t || q))
 |_,.const (.bool false)=>some (bool (t && p))
 |_,_=>some (bool (match t with|true=>p|false=>q))
def jO (ops:List Oper) (f:Nat→Option Ent) (Γ:List (Nat×Bool)):Operand→Operand→Operand→Option A
 | .tmp tc,oa,ob=>match U7 f Γ (.tmp tc)with
  |some c=>match aG c,rdP ops f Γ tc true oa,rdP ops f Γ tc false ob with
   |some t,some xa,some xb=>match aG xa,aG xb with
    |some p,some q=>B4H t oa ob p q
    |_,_=>none
   |_,_,_=>none
  |none=>none
 |_,_,_=>none
def F8 (d:Nat):List Nat→Bool
 |[]=>false
 |x::l=>Nat.beq d x || F8 d l
def A5i (i d:Nat):List (Nat×Nat)→Bool
 |[]=>true
 |(j,dj)::l=>(!Nat.beq dj d || Nat.beq j i) && A5i i d l
def C7 (ops:List Oper):List Oper→List (Nat×Nat)
 |[]=>[]
 |o::l=>match o.guard with
  |some (j,_)=>match eN ops j with
   |some d=>(j,d)::C7 ops l
   |none=>C7 ops l
  |none=>C7 ops l
def B4I (j d:Nat):List (Nat×Nat)→Bool
 |[]=>false
 |(j',d')::l=>(Nat.beq j j' && Nat.beq d d') || B4I j d l
def O5 (N i:Nat) (rs:List (Nat×Nat)) (f:Nat→Option Ent) (d:Option Nat) (e:Option Ent):Option (Nat→Option Ent):=match d with
 |none=>some f
 |some d=>match Nat.blt d N && A5i i d rs with
  |true=>some (bX f d e)
  |false=>none
def P9 (E:D9) (ops:List Oper) (Γ:List (Nat×Bool)) (f:Nat→Option Ent) (H:Nat→Option HB) (o:Oper):Option (A×Prop):=match o.op with
 | .pick c a b=>match jO ops f Γ c a b with
  |some x=>some (x,True)
  |none=>none
 |op=>K2 E.T H (match o.dst with|some d=>F8 d E.ws|none=>false) (U7 f Γ) o.type op
def xJ:Option A→Option Bool
 |some a=>aG a
 |none=>none
theorem mN {x:Option A} {b:Bool} (h:xJ x=some b):∃a,x=some a∧aG a=some b:=by
 cases x with
 |none=>cases h
 |some a=>exact⟨a,rfl,h⟩
abbrev B9J:A:= .t []
def jP:A→Bool
 | .t []=>true
 |_=>false
def uK (ops:List Oper) (f:Nat→Option Ent):Op→Option (A×Prop)
 | .pick (.tmp tc) oa ob=>match U7 f [] (.tmp tc)with
  |some c=>match aG c with
   |some t=>match xJ (rdP ops f [] tc true oa),xJ (rdP ops f [] tc false ob)with
    |none,some q=>some (bool q,t=false)
    |some p,none=>some (bool p,t=true)
    |_,_=>none
   |none=>none
  |none=>none
 |_=>none
def lY (E:D9) (ops:List Oper) (rs:List (Nat×Nat)) (i:Nat) (f:Nat→Option Ent) (H:Nat→Option HB) (nx:Nat) (o:Oper) (u:Value):Option (St×Prop):=
 match P9 E ops [] f H o with
 |some (x,ob)=>match O5 E.N i rs f o.dst (some (.u x))with
  |some f=>some (⟨f,H,nx⟩,ob)
  |none=>none
 |none=>match uK ops f o.op with
  |some (x,ob)=>match O5 E.N i rs f o.dst (some (.u x))with
   |some f=>some (⟨f,H,nx⟩,ob)
   |none=>none
  |none=>match E5 E H nx (U7 f []) u o.op with
   |some ⟨x,ob,H,nx⟩=>match O5 E.N i rs f o.dst (some (.u x))with
    |some f=>some (⟨f,H,nx⟩,ob)
    |none=>none
   |none=>none
def O0 (E:D9) (kn:Nat→Option Bool) (ops:List Oper) (rs:List (Nat×Nat)) (i:Nat) (f:Nat→Option Ent) (H:Nat→Option HB) (nx:Nat) (o:Oper) (u:Value):Option (St×Prop):=
 match o.guard with
 |none=>lY E ops rs i f H nx o u
 |some (j,b)=>match eN ops j with
  |none=>none
  |some dj=>match Nat.blt j i && B4I j dj rs,kn j with
   |true,some k=>match f dj with
    |some (.u c)=>match aG c with
     |some g=>match A5g b k with
      |true=>match lY E ops rs i f H nx o u with
       |some (st',ob)=>some (st',g=k∧ob)
       |none=>none
      |false=>match O5 E.N i rs f o.dst (some (.u B9J))with
       |some f=>some (⟨f,H,nx⟩,g=k)
       |none=>none
     |none=>match jP c with
      |true=>match O5 E.N i rs f o.dst (some (.u B9J))with
       |some f=>some (⟨f,H,nx⟩,True)
       |none=>none
      |false=>none
    |_=>none
   |true,none=>match P9 E ops (dG ops f 5 j b) f H o with
    |some (x,ob)=>match A2E ops f (dG ops f 5 j b) ob,O5 E.N i rs f o.dst (some (.gd j b x))with
     |some ob',some f=>some (⟨f,H,nx⟩,ob')
     |_,_=>none
    |none=>none
   |false,_=>none
inductive ER where
 |mk (rest:List Oper) (i:Nat) (st:St) (ob:Prop)
 |bad
def ER.rest:ER→List Oper| .mk r _ _ _=>r| .bad=>[]
def ER.i:ER→Nat| .mk _ i _ _=>i| .bad=>0
def ER.st:ER→St| .mk _ _ st _=>st| .bad=>⟨fun _=>none,fun _=>none,0⟩
def ER.ob:ER→Prop| .mk _ _ _ ob=>ob| .bad=>False
def K8 (E:D9) (kn:Nat→Option Bool) (ops:List Oper) (rs:List (Nat×Nat)):List Oper→Nat→St→(Nat→Value)→ER
 |[],i,st,_=> .mk [] i st True
 |o::l,i,⟨f,H,nx⟩,bs=>match O0 E kn ops rs i f H nx o (bs 0)with
  |some (st',ob)=>match K8 E kn ops rs l (i+1) st' (fun n=>bs (n+1))with
   | .mk r i' st'' ob'=> .mk r i' st'' (ob∧ob')
   | .bad=> .bad
  |none=> .mk (o::l) i ⟨f,H,nx⟩ True
def A5j (ops:Array Oper) (M:B5) (tmps:Array Value):Ent→Value→Prop
 | .u x,v=>RA M x v
 | .gd j b x,v=>(yielded ops tmps j=some b→RA M x v)∧(yielded ops tmps j≠some b→v=undef)
abbrev A2F (D:Nat):Deferred:={target:= .collected D,args:= #[]}
structure DK (mrk:MK) (B:Nat→Prop) (M0 M:B5) (a:Act):Prop where
 df:∃Ds:List Nat,(mrk≠ .t→Ds=[])∧Ds.Nodup∧a.defers=Ds.map A2F++mrk.dl∧∀D,D∈Ds→¬B D∧M D=some (.deferred (some []))
 kp:M0.le M
theorem DK.nil {mrk:MK} {B:Nat→Prop} {M0 M:B5} {a:Act} (h:a.defers=mrk.dl) (hk:M0.le M):DK mrk B M0 M a:=⟨⟨[],fun _=>rfl,List.nodup_nil,h,fun _ h=>by cases h⟩,hk⟩
theorem DK.mono {mrk:MK} {B:Nat→Prop} {M0 M M':B5} {a a':Act} (h:DK mrk B M0 M a) (hM:M.le M') (ha:a'.defers=a.defers):DK mrk B M0 M' a':=by
 refine⟨?_,B5.le_trans h.kp hM⟩;obtain⟨Ds,h0,h1,h2,h3⟩:=h.df;exact⟨Ds,h0,h1,by rw[ha];exact h2,fun D hD=>⟨(h3 D hD).1,hM _ _ (h3 D hD).2⟩⟩
structure I7 (N:Nat) (mrk:MK) (B:Nat→Prop) (W:World) (M0:B5) (ops:List Oper) (rs:List (Nat×Nat)) (S:Nat→Prop) (st:St) (M:B5) (a:Act) (w:World):Prop where
 h:E1 B W st.H M w
 old:∀k o,M k=some o→B k→M0 k=some o
 d:DK mrk B M0 M a
 n:a.tmps.size=N
 f:∀s e,st.f s=some e→∃v,a.tmps[s]? =some v∧A5j ops.toArray M a.tmps e v
 g:∀s j b x,st.f s=some (.gd j b x)→S j∧∃d,eN ops j=some d∧(j,d)∈rs
abbrev V1 (N:Nat) (mrk:MK) (B:Nat→Prop) (W:World) (M0:B5) (ops:List Oper) (rs:List (Nat×Nat)) (i:Nat) (st:St) (M:B5) (a:Act) (w:World):Prop:=I7 N mrk B W M0 ops rs (fun j=>j<i) st M a w
section
variable {S S' : Nat → Prop} {P : Program} {w w' : World} {M M0 : B5} {B : Nat → Prop} {W : World} {N : Nat} {mrk : MK} {ops : List Oper} {rs : List (Nat × Nat)} {i : Nat} {st : St} {a : Act}
theorem P0 {tmps:Array Value} {j d:Nat} (h:eN ops j=some d):yielded ops.toArray tmps j=match tmps[d]? with|some (.bool b)=>some b|_=>none:=by
 unfold eN at h;rw[G0]at h;cases ho:ops[j]? with
 |none=>simp[ho]at h
 |some o=>simp only[ho]at h;simp[yielded,ho,h];rfl
theorem A5j.mono {M':B5} (hM:M.le M') {tmps:Array Value} {e:Ent} {v:Value} (h:A5j ops.toArray M tmps e v):A5j ops.toArray M' tmps e v:=by
 cases e with
 |u x=>exact RA.mono hM h
 |gd j b x=>exact⟨fun hy=>(h.1 hy).mono hM,h.2⟩
theorem B4J (hS:I7 N mrk B W M0 ops rs S st M a w):∀(n j:Nat) (b:Bool),yielded ops.toArray a.tmps j=some b→∀p∈dG ops st.f n j b,yielded ops.toArray a.tmps p.1=some p.2:=by
 intro n
 induction n with
 |zero=>intro j b _ p hp;cases hp
 |succ n ih=>
  intro j b hy p hp;simp only[dG,List.mem_cons]at hp;rcases hp with rfl|hp
  ·exact hy
  ·split at hp
   ·rename_i d hd;split at hp
    ·rename_i j' b' x hf;refine ih j' b' ?_ p hp;obtain⟨v,hv,h1,h2⟩:=hS.f _ _ hf;rw[P0 hd,hv]at hy;cases hyy:decide (yielded ops.toArray a.tmps j'=some b')with
     |true=>exact of_decide_eq_true hyy
     |false=>rw[h2 (of_decide_eq_false hyy)]at hy;cases hy
    ·cases hp
   ·cases hp
theorem I9 (hS:I7 N mrk B W M0 ops rs S st M a w) {Γ:List (Nat×Bool)} (hΓ:∀p∈Γ,yielded ops.toArray a.tmps p.1=some p.2):∀o x,U7 st.f Γ o=some x→RA M x (a.eval o):=by
 intro o x h;cases o with
 |tmp t=>
  simp only[U7]at h;split at h
  ·rename_i y hf;cases h;obtain⟨v,hv,hr⟩:=hS.f _ _ hf;have:a.eval (.tmp t)=v:=by simp[Act.eval,Array.getD_eq_getD_getElem?,hv]
   rw[this];exact hr
  ·rename_i j b y hf;split at h
   ·rename_i hm;cases h;obtain⟨v,hv,h1,h2⟩:=hS.f _ _ hf;have:a.eval (.tmp t)=v:=by simp[Act.eval,Array.getD_eq_getD_getElem?,hv]
    rw[this];exact h1 (hΓ _ (A5h hm))
   ·cases h
  ·cases h
 |const v=>exact A2V h
 |func f=>cases h;exact .c (.clo (by rfl) (by simp))
 |global g=>cases h
theorem B9K (hS:I7 N mrk B W M0 ops rs S st M a w):∀(Γ:List (Nat×Bool)) (p q:Prop),A2E ops st.f Γ p=some q→q→(∀x∈Γ,yielded ops.toArray a.tmps x.1=some x.2)→p:=by
 intro Γ
 induction Γ with
 |nil=>intro p q h hq _;cases h;exact hq
 |cons x Γ ih=>
  intro p q h hq hy;obtain⟨j,b⟩:=x;simp only[A2E]at h;split at h
  ·rename_i d hd;split at h
   ·rename_i e he;split at h
    ·rename_i g hg;refine ih _ q h hq (fun x hx=>hy x (List.mem_cons_of_mem _ hx)) ?_;have hyj:=hy (j,b) List.mem_cons_self;simp only at hyj;obtain⟨v,hv,hr⟩:=hS.f _ _ he;rw[P0 hd,hv]at hyj;unfold B4G at hg;split at hg
     ·cases hg;have:=RA.val_inv hr;subst this;simpa using hyj
     ·rename_i j' b' g';cases hg;obtain⟨h1,h2⟩:=hr;by_cases hyy:yielded ops.toArray a.tmps j'=some b'
      ·have:=(h1 hyy).val_inv;subst this;simpa using hyj
      ·rw[h2 hyy]at hyj;cases hyj
     ·cases hg
    ·cases h
   ·cases h
  ·cases h
theorem xK {j d:Nat}:∀{l:List (Nat×Nat)},B4I j d l=true→(j,d)∈l:=by
 intro l
 induction l with
 |nil=>intro h;cases h
 |cons x l ih=>
  intro h;obtain⟨j',d'⟩:=x;simp only[B4I,Bool.or_eq_true,Bool.and_eq_true,Nat.beq_eq]at h;rcases h with⟨rfl,rfl⟩|h
  ·exact List.mem_cons_self
  ·exact List.mem_cons_of_mem _ (ih h)
theorem A5k {i d:Nat}:∀{l:List (Nat×Nat)},A5i i d l=true→∀j dj,(j,dj)∈l→dj=d→j=i:=by
 intro l
 induction l with
 |nil=>intro _ j dj h;cases h
 |cons x l ih=>
  intro h j dj hm e;obtain⟨j',d'⟩:=x;simp only[A5i,Bool.and_eq_true,Bool.or_eq_true,Bool.not_eq_true',Nat.beq_eq]at h;rcases List.mem_cons.1 hm with h1|h1
  ·cases h1;rcases h.1 with h2|h2
   ·subst e;simp at h2
   ·exact h2
  ·exact ih h.2 j dj h1 e
theorem get_put {a:Act} {d s:Nat} {v:Value}:(a.put (some d) v).tmps[s]? =if s=d then(if d<a.tmps.size then some v else none)else a.tmps[s]? :=by
 simp only[Act.put,Array.getElem?_setIfInBounds];by_cases h:d=s
 ·subst h;simp
 ·rw[if_neg h,if_neg (fun e=>h e.symm)]
theorem I7.put (hS:I7 N mrk B W M0 ops rs S st M a w) (hi:¬S i) (hSS:∀j,S j→S' j) {M':B5} {H':Nat→Option HB} {nx':Nat} {f':Nat→Option Ent} {w':World} {dst:Option Nat} {e:Option Ent} {v:Value} (hM:B5.ext B M M') (hH:E1 B W H' M' w')
 (hp:O5 N i rs st.f dst e=some f') (hdef:(a.put dst v).defers=a.defers)
 (he:∀e',e=some e'→A5j ops.toArray M' (a.put dst v).tmps e' v) (hg:∀j b x,e=some (.gd j b x)→S j∧∃d,eN ops j=some d∧(j,d)∈rs):
 I7 N mrk B W M0 ops rs S' ⟨f',H',nx'⟩ M' (a.put dst v) w':=by
 unfold O5 at hp;split at hp
 ·cases hp;exact⟨hH,fun k o e hk=>hS.old k o (hM.2 k o e hk) hk,hS.d.mono hM.1 hdef,hS.n,fun s e h=>let⟨v,h1,h2⟩:=hS.f s e h;⟨v,h1,h2.mono hM.1⟩,fun s j b x h=>let⟨h1,h2⟩:=hS.g s j b x h;⟨hSS _ h1,h2⟩⟩
 ·rename_i d;split at hp
  ·rename_i hc;cases hp;simp only[Bool.and_eq_true,Nat.blt_eq]at hc;obtain⟨hlt,hgf⟩:=hc;have hyield:∀j dj,eN ops j=some dj→(j,dj)∈rs→S j→yielded ops.toArray (a.put (some d) v).tmps j=yielded ops.toArray a.tmps j:=by
    intro j dj h1 h2 h3;rw[P0 h1,P0 h1,get_put,if_neg];intro e;have:=A5k hgf j dj h2 e;subst this;exact hi h3
   refine⟨hH,fun k o e hk=>hS.old k o (hM.2 k o e hk) hk,hS.d.mono hM.1 hdef,by simp[Act.put,hS.n],fun s e0 h=>?_,fun s j b x h=>?_⟩
   ·simp only[bX]at h;split at h
    ·rename_i hb;rw[Nat.beq_eq]at hb;subst hb;refine⟨v,by rw[get_put,if_pos rfl,if_pos (by rw[hS.n];exact hlt)],he _ h⟩
    ·rename_i hb;have hne:s≠d:=fun e=>by subst e;simp at hb
     obtain⟨u,h1,h2⟩:=hS.f s e0 h;refine⟨u,by rw[get_put,if_neg hne];exact h1,?_⟩;cases e0 with
     |u x=>exact RA.mono hM.1 h2
     |gd j b x=>
      obtain⟨g1,dj,g2,g3⟩:=hS.g s j b x h;refine⟨fun hy=>?_,fun hy=>?_⟩
      ·rw[hyield j dj g2 g3 g1]at hy;exact(h2.1 hy).mono hM.1
      ·rw[hyield j dj g2 g3 g1]at hy;exact h2.2 hy
   ·simp only[bX]at h;split at h
    ·obtain⟨h1,h2⟩:=hg j b x h;exact⟨hSS _ h1,h2⟩
    ·obtain⟨h1,h2⟩:=hS.g s j b x h;exact⟨hSS _ h1,h2⟩
  ·cases hp
theorem E6 {a:Act} (d:Option Nat) (v:Value):(a.put d v).defers=a.defers:=by cases d<;> rfl
end
section
variable {S S' : Nat → Prop} {P : Program} {w w' : World} {M M0 : B5} {B : Nat → Prop} {W : World} {N : Nat} {mrk : MK} {ops : List Oper} {rs : List (Nat × Nat)} {i : Nat} {st : St} {a : Act} {E : D9}
theorem dH {x:A} {g:Bool} {v:Value} (h:aG x=some g) (r:RA M x v):v= .bool g:=by
 unfold aG at h;split at h
 ·cases h;exact r.val_inv
 ·cases h
theorem A3T (hS:I7 N mrk B W M0 ops rs S st M a w) {Γ:List (Nat×Bool)} (hΓ:∀p∈Γ,yielded ops.toArray a.tmps p.1=some p.2) {tc:Nat} {want:Bool} (htc:a.eval (.tmp tc)= .bool want):
 ∀o x,rdP ops st.f Γ tc want o=some x→RA M x (a.eval o):=by
 intro o x h;cases o with
 |tmp t=>
  simp only[rdP]at h;split at h
  ·rename_i y hf;cases h;obtain⟨v,hv,hr⟩:=hS.f _ _ hf;have:a.eval (.tmp t)=v:=by simp[Act.eval,Array.getD_eq_getD_getElem?,hv]
   rw[this];exact hr
  ·rename_i j b y hf;split at h
   ·rename_i hm;cases h;obtain⟨v,hv,h1,h2⟩:=hS.f _ _ hf;have:a.eval (.tmp t)=v:=by simp[Act.eval,Array.getD_eq_getD_getElem?,hv]
    rw[this];refine h1 ?_;rw[Bool.or_eq_true,Bool.and_eq_true]at hm;rcases hm with hm|⟨hb,hd⟩
    ·exact hΓ _ (A5h hm)
    ·have:=oN hb;subst this;cases hdj:eN ops j with
     |none=>rw[hdj]at hd;cases hd
     |some d=>
      rw[hdj]at hd;simp only[oeq,Nat.beq_eq]at hd;subst hd;rw[P0 hdj];simp only[Act.eval,Array.getD_eq_getD_getElem?]at htc;cases ht:a.tmps[d]? with
      |none=>rw[ht]at htc;simp[undef]at htc
      |some u=>rw[ht]at htc;simp at htc;subst htc;rfl
   ·cases h
  ·cases h
 |const v=>exact A2V h
 |func f=>cases h
 |global g=>cases h
theorem B4K (t:Bool) (oa ob:Operand) (p q:Bool):B4H t oa ob p q=some (bool (A2Z t oa ob p q)):=by
 unfold B4H A2Z;split<;> rfl
theorem B1O (hS:I7 N mrk B W M0 ops rs S st M a w) {Γ:List (Nat×Bool)} (hΓ:∀p∈Γ,yielded ops.toArray a.tmps p.1=some p.2) {c oa ob:Operand} {x:A} (h:jO ops st.f Γ c oa ob=some x)
 {dst:Option Nat} {ty:TypeId} {pos:String} {after:Array Edge} {guard:Option (Nat×Bool)}:
 ∃v,(execOp a.eval ⟨dst,.pick c oa ob,ty,pos,after,guard⟩).run P w= .ok (.value v) w∧RA M x v:=by
 unfold jO at h;split at h
 ·rename_i tc oa' ob';split at h
  ·rename_i cx hc;split at h
   ·rename_i t xa xb ht ha hb;split at h
    ·rename_i p q hp hq;rw[B4K]at h;cases h;have htc:=dH ht (I9 hS hΓ _ _ hc);refine⟨if t then a.eval oa else a.eval ob,by simp[execOp,htc,asBool],?_⟩;cases t with
     |true=>
      have:=dH hp (A3T hS hΓ htc _ _ ha);have e:A2Z true oa ob p q=p:=by
       unfold A2Z;split
       ·have hh:a.eval (.const (.bool true))= .bool p:=this;cases hh;rfl
       ·simp
       ·rfl
      rw[e,if_pos rfl,this];exact .c (.pv (.val rfl))
     |false=>
      have:=dH hq (A3T hS hΓ htc _ _ hb);have e:A2Z false oa ob p q=q:=by
       unfold A2Z;split
       ·simp
       ·have hh:a.eval (.const (.bool false))= .bool q:=this;cases hh;rfl
       ·rfl
      rw[e,if_neg (by simp),this];exact .c (.pv (.val rfl))
    ·cases h
   ·cases h
  ·cases h
 ·cases h
theorem A5l (hT:K9 P E.T) (hS:I7 N mrk B W M0 ops rs S st M a w) {Γ:List (Nat×Bool)} (hΓ:∀p∈Γ,yielded ops.toArray a.tmps p.1=some p.2) {o:Oper} {x:A} {ob:Prop} (h:P9 E ops Γ st.f st.H o=some (x,ob)) (hob:ob):
 ∃v,(execOp a.eval o).run P w= .ok (.value v) w∧RA M x v:=by
 obtain⟨dst,op,ty,pos,after,guard⟩:=o;unfold P9 at h;split at h
 ·rename_i c oa ob' hop;simp only at hop;subst hop;split at h
  ·rename_i y hy;cases h;exact B1O hS hΓ hy
  ·cases h
 ·exact A9x hT hS.h (I9 hS hΓ) (fun _=>rfl) h hob
theorem B4L (hS:I7 N mrk B W M0 ops rs S st M a w) {op:Op} {x:A} {ob:Prop} (h:uK ops st.f op=some (x,ob)) (hob:ob) {dst:Option Nat} {ty:TypeId} {pos:String} {after:Array Edge} {guard:Option (Nat×Bool)}:
 ∃v,(execOp a.eval ⟨dst,op,ty,pos,after,guard⟩).run P w= .ok (.value v) w∧RA M x v:=by
 unfold uK at h;split at h
 ·rename_i tc oa ob';split at h
  ·rename_i cx hc;split at h
   ·rename_i t ht;have htc:=dH ht (I9 hS (Γ:=[]) (by simp) _ _ hc);split at h
    ·rename_i q ha hb;cases h;subst hob;obtain⟨xb,hb,hq⟩:=mN hb;have:=dH hq (A3T hS (Γ:=[]) (by simp) htc _ _ hb);exact⟨.bool q,by simp[execOp,htc,asBool,this],.c (.pv (.val rfl))⟩
    ·rename_i q ha hb;cases h;subst hob;obtain⟨xa,ha,hq⟩:=mN ha;have:=dH hq (A3T hS (Γ:=[]) (by simp) htc _ _ ha);exact⟨.bool q,by simp[execOp,htc,asBool,this],.c (.pv (.val rfl))⟩
    ·cases h
   ·cases h
  ·cases h
 ·cases h
theorem A2a (hT:K9 P E.T) (hΨ:B1 P E) (hS:I7 E.N E.mrk B W M0 ops rs S st M a w) (hi:¬S i) (hSS:∀j,S j→S' j) {o:Oper} {K:Act→World→Prop} {Q:Exit→Act→World→Prop}
 (h:∀u,∃st' ob,lY E ops rs i st.f st.H st.nx o u=some (st',ob)∧ob∧∀a' w' M',I7 E.N E.mrk B W M0 ops rs S' st' M' a' w'→K a' w'):o.wp P a w K Q:=by
 cases hp:P9 E ops [] st.f st.H o with
 |some r=>
  obtain⟨x,ob⟩:=r;obtain⟨st',ob',h1,h2,h3⟩:=h undef;simp only[lY,hp]at h1;split at h1
  ·rename_i f hf;cases h1;obtain⟨v,g1,g2⟩:=A5l hT hS (by simp) hp h2;exact F9 g1 (h3 _ _ _ (hS.put hi hSS (B5.ext_refl _ _) hS.h hf (E6 _ _) (fun e' he=>by cases he;exact g2) (by simp)))
  ·cases h1
 |none=>
  cases hpf:uK ops st.f o.op with
  |some r=>
   obtain⟨x,ob⟩:=r;obtain⟨st',ob',h1,h2,h3⟩:=h undef;simp only[lY,hp,hpf]at h1;split at h1
   ·rename_i f hf;cases h1;obtain⟨dst,op,ty,pos,after,guard⟩:=o;obtain⟨v,g1,g2⟩:=B4L hS hpf h2;exact F9 g1 (h3 _ _ _ (hS.put hi hSS (B5.ext_refl _ _) hS.h hf (E6 _ _) (fun e' he=>by cases he;exact g2) (by simp)))
   ·cases h1
  |none=>
   refine B9I hT hΨ hS.h (I9 hS (Γ:=[]) (by simp)) (nx:=st.nx) (fun u=>?_);obtain⟨st',ob',h1,h2,h3⟩:=h u;simp only[lY,hp,hpf]at h1;split at h1
   ·rename_i x ob H nx hh;split at h1
    ·rename_i f hf;cases h1;exact⟨_,hh,h2,fun v w' M' hM hH hx=>h3 _ _ _ (hS.put hi hSS hM hH hf (E6 _ _) (fun e' he=>by cases he;exact hx) (by simp))⟩
    ·cases h1
   ·cases h1
theorem gL (hT:K9 P E.T) (hΨ:B1 P E) {kn:Nat→Option Bool} (hS:I7 E.N E.mrk B W M0 ops rs S st M a w) (hi:¬S i) (hSS:∀j,S j→S' j) {o:Oper} (hgS:∀j b,o.guard=some (j,b)→S j) {K:Act→World→Prop} {Q:Exit→Act→World→Prop}
 (h:∀u,∃st' ob,O0 E kn ops rs i st.f st.H st.nx o u=some (st',ob)∧ob∧∀a' w' M',I7 E.N E.mrk B W M0 ops rs S' st' M' a' w'→K a' w'):
 if Region.wanted o (yielded ops.toArray a.tmps)then o.wp P a w K Q else K (a.put o.dst undef) w:=by
 cases hg:o.guard with
 |none=>
  rw[if_pos (by simp[Region.wanted,hg])];exact A2a hT hΨ hS hi hSS (fun u=>by
   obtain⟨st',ob,h1,h2⟩:=h u;simp only[O0,hg]at h1;exact⟨st',ob,h1,h2⟩)
 |some jb=>
  obtain⟨j,b⟩:=jb;have hwant:Region.wanted o (yielded ops.toArray a.tmps)=(yielded ops.toArray a.tmps j==some b):=by simp[Region.wanted,hg]
  obtain⟨st0,ob0,h10,h20,h30⟩:=h undef;have e0:=h10;simp only[O0,hg]at e0;split at e0
  ·cases e0
  ·rename_i dj hdj;split at e0
   ·rename_i k hjb hk;have hjb0:=hjb;simp only[Bool.and_eq_true,Nat.blt_eq]at hjb;split at e0
    ·rename_i c hc;split at e0
     ·rename_i g hgb;obtain⟨v,hv,hr⟩:=hS.f _ _ hc;have hvb:=dH hgb hr;have hy:yielded ops.toArray a.tmps j=some g:=by rw[P0 hdj,hv,hvb]
      split at e0
      ·rename_i hbk;have:=oN hbk;subst this;split at e0
       ·rename_i st' ob' hst;cases e0;obtain⟨rfl,_⟩:=h20;rw[hwant,hy,if_pos (by simp)];exact A2a hT hΨ hS hi hSS (fun u=>by
         obtain⟨st',ob,h1,h2,h3⟩:=h u;simp only[O0,hg,hdj,hjb0,hk,hc,hgb,hbk]at h1;split at h1
         ·rename_i st'' ob'' hst';cases h1;exact⟨_,_,hst',h2.2,h3⟩
         ·cases h1)
       ·cases e0
      ·rename_i hbk;split at e0
       ·rename_i f hf;cases e0;subst h20;have hne:g≠b:=by intro e;subst e;cases g<;> simp[A5g]at hbk
        rw[hwant,hy,if_neg (by simpa using hne)];exact h30 _ _ _ (hS.put hi hSS (B5.ext_refl _ _) hS.h hf (E6 _ _) (fun e' he=>by cases he;exact dE _) (by simp))
       ·cases e0
     ·split at e0
      ·rename_i hund;split at e0
       ·rename_i f hf;cases e0;obtain⟨v,hv,hr⟩:=hS.f _ _ hc;have hvu:∃us:Array Value,v= .tuple us:=by
         unfold jP at hund;split at hund
         ·have hr':RA _ (.t []) v:=hr;cases hr' with|t=>exact⟨_,rfl⟩
         ·cases hund
        obtain⟨us,rfl⟩:=hvu;have hy:yielded ops.toArray a.tmps j=none:=by rw[P0 hdj,hv]
        rw[hwant,hy,if_neg (by simp)];exact h30 _ _ _ (hS.put hi hSS (B5.ext_refl _ _) hS.h hf (E6 _ _) (fun e' he=>by cases he;exact dE _) (by simp))
       ·cases e0
      ·cases e0
    ·cases e0
   ·rename_i hjb hk;simp only[Bool.and_eq_true,Nat.blt_eq]at hjb;split at e0
    ·rename_i x ob hp;split at e0
     ·rename_i ob' f hob hf;cases e0;have hne:∀(d:Nat) v,o.dst=some d→yielded ops.toArray (a.put (some d) v).tmps j=yielded ops.toArray a.tmps j:=by
       intro d v hd;rw[P0 hdj,P0 hdj,get_put,if_neg];intro e;rw[hd]at hf;simp only[O5]at hf;split at hf
       ·rename_i hc;simp only[Bool.and_eq_true]at hc;have:=A5k hc.2 j dj (xK hjb.2) e;omega
       ·cases hf
      have hne':∀v,yielded ops.toArray (a.put o.dst v).tmps j=yielded ops.toArray a.tmps j:=by
       intro v;cases hd:o.dst with
       |none=>rfl
       |some d=>exact hne d v hd
      by_cases hy:yielded ops.toArray a.tmps j=some b
      ·rw[hwant,hy,if_pos (by simp)];have hΓ:=B4J hS 5 j b hy;have hobb:=B9K hS _ _ _ hob h20 hΓ;obtain⟨v,g1,g2⟩:=A5l hT hS hΓ hp hobb;exact F9 g1 (h30 _ _ _ (hS.put hi hSS (B5.ext_refl _ _) hS.h hf (E6 _ _) (fun e' he=>by
        cases he;exact⟨fun _=>g2,fun hh=>absurd ((hne' v).trans hy) hh⟩) (fun j' b' x' he=>by cases he;exact⟨hgS j b hg,dj,hdj,xK hjb.2⟩)))
      ·rw[hwant,if_neg (by simpa using hy)];exact h30 _ _ _ (hS.put hi hSS (B5.ext_refl _ _) hS.h hf (E6 _ _) (fun e' he=>by
        cases he;exact⟨fun hh=>absurd ((hne' undef).symm.trans hh) hy,fun _=>rfl⟩) (fun j' b' x' he=>by cases he;exact⟨hgS j b hg,dj,hdj,xK hjb.2⟩))
     ·cases e0
    ·cases e0
   ·cases e0
theorem A2b (hT:K9 P E.T) (hΨ:B1 P E) {kn:Nat→Option Bool} (hS:V1 E.N E.mrk B W M0 ops rs i st M a w) {o:Oper} {K:Act→World→Prop} {Q:Exit→Act→World→Prop}
 (h:∀u,∃st' ob,O0 E kn ops rs i st.f st.H st.nx o u=some (st',ob)∧ob∧∀a' w' M',V1 E.N E.mrk B W M0 ops rs (i+1) st' M' a' w'→K a' w'):
 if Region.wanted o (yielded ops.toArray a.tmps)then o.wp P a w K Q else K (a.put o.dst undef) w:=by
 refine gL hT hΨ hS (i:=i) (S':=fun j=>j<i+1) (by omega) (fun j hj=>by omega) (kn:=kn) (fun j b hg=>?_) h;obtain⟨st',ob,h1,_⟩:=h undef;simp only[O0,hg]at h1;split at h1
 ·cases h1
 ·split at h1
  ·rename_i hjb _;simp only[Bool.and_eq_true,Nat.blt_eq]at hjb;exact hjb.1
  ·rename_i hjb _;simp only[Bool.and_eq_true,Nat.blt_eq]at hjb;exact hjb.1
  ·cases h1
def fce:Option Nat→Fence
 |none=>Fence.wide
 |some 0=>Fence.wide
 |some (l+1)=>Fence.wide.inRound l
def wA (ro:Option Nat) (P:Program) (ops:Array Oper) (Q:Exit→Act→World→Prop) (l:List Oper) (a:Act) (w:World):Prop:=match ro with
 |none=>wpList P ops Q l a w
 |some r=>(∀o,o∈l→∀c,o.op≠ .defer c)→wpListIn (fce (some r)) 0 P ops Q l a w
theorem A7q (r:Nat) (f:FuncId):(fce (some r)).fn f:=by cases r<;> trivial
theorem A2c (r:Nat):(fce (some r)).depth=none:=by cases r<;> rfl
theorem B1P {r n:Nat} {P:Program} {f:FuncId} {args:Array Value} {w:World} {R:Ending→World→Prop} (h:Calls P f args w R):CallsIn (fce (some r)) n P f args w R:=by
 cases r with
 |zero=>exact callsIn_wide.2 h
 |succ l=>exact CallsIn.inRound l (callsIn_wide.2 h)
theorem B1Q {r:Nat} {P:Program} {m m':Machine} (h:Steps P m m'):StepsIn (Machine.fenced P (fce (some r))) P m m':=by
 cases r with
 |zero=>exact stepsIn_wide.2 h
 |succ l=>exact stepsIn_wide.2 h
theorem B9L {o:Oper} {r:Nat} {K:Act→World→Prop} {Q:Exit→Act→World→Prop} (hnd:∀c,o.op≠ .defer c) (h:o.wp P a w K Q):o.wpIn (fce (some r)) 0 P a w K Q:=by
 refine⟨fun f _=>A7q r f,?_⟩;rw[Oper.semAt_eq _ _ _ hnd];unfold Oper.wp at h;generalize(execOp a.eval o).run P w=res at h⊢;cases res with
 |ok x w'=>
  cases x with
  |value v=>exact h
  |skip=>exact h
  |defer d=>exact h
  |enter f args=>exact⟨fun e=>(by rw[A2c]at e;cases e),B1P h⟩
  |row row args=>exact⟨fun e=>(by rw[A2c]at e;cases e),fun c cs _=>let⟨v,w2,q1,q2⟩:=h c cs;⟨v,w2,q1,B1Q q2⟩⟩
  |_=>exact h.elim
 |halt x w'=>
  cases x with
  |panic v=>exact h
  |_=>exact h.elim
theorem B9M {ro:Option Nat} {Q:Exit→Act→World→Prop} {ops:Array Oper} (h:Q .normal a w):wA ro P ops Q [] a w:=by
 cases ro with
 |none=>exact wpList_nil (P:=P) (ops:=ops) h
 |some r=>exact fun _=>wpListIn_nil (P:=P) (ops:=ops) h
theorem N1 {ro:Option Nat} {Q:Exit→Act→World→Prop} {ops:Array Oper} {o:Oper} {rest:List Oper}
 (h:∀K:Act→World→Prop,(∀a w,wA ro P ops Q rest a w→K a w)→if Region.wanted o (yielded ops a.tmps)then o.wp P a w K Q else K (a.put o.dst undef) w):wA ro P ops Q (o::rest) a w:=by
 cases ro with
 |none=>exact wpList_step h
 |some r=>
  intro hnd;refine wpListIn_step fun K hK=>?_
  have:=h K (fun a w hl=>hK a w (hl fun o ho=>hnd o (List.mem_cons_of_mem _ ho)));split
  ·rename_i hw;rw[if_pos hw]at this;exact B9L (hnd o (by simp)) this
  ·rename_i hw;rw[if_neg hw]at this;exact⟨fun f _=>A7q r f,this⟩
theorem A7r (hT:K9 P E.T) (hΨ:B1 P E) {kn:Nat→Option Bool} {Q:Exit→Act→World→Prop}:∀(l:List Oper) (i:Nat) (st:St) (M:B5) (a:Act) (w:World),V1 E.N E.mrk B W M0 ops rs i st M a w→
 (∀bs,(K8 E kn ops rs l i st bs).ob∧∀a' w' M',V1 E.N E.mrk B W M0 ops rs (K8 E kn ops rs l i st bs).i (K8 E kn ops rs l i st bs).st M' a' w'→wA E.ro P ops.toArray Q (K8 E kn ops rs l i st bs).rest a' w')→
 wA E.ro P ops.toArray Q l a w:=by
 intro l
 induction l with
 |nil=>
  intro i st M a w hS h;exact(h (fun _=>undef)).2 a w M hS
 |cons o l ih=>
  intro i st M a w hS h;obtain⟨f,H,nx⟩:=st;by_cases hex:∃u,O0 E kn ops rs i f H nx o u=none
  ·obtain⟨u,hu⟩:=hex;have:=(h (fun _=>u)).2;simp only[K8,hu]at this;exact this a w M hS
  ·refine N1 fun K hK=>A2b hT hΨ hS (kn:=kn) fun u=>?_
   cases hst:O0 E kn ops rs i f H nx o u with
   |none=>exact absurd ⟨u,hst⟩ hex
   |some r=>
    obtain⟨st',ob⟩:=r;have hb:=fun bs:Nat→Value=>h (fun n=>match n with|0=>u|n+1=>bs n)
    simp only[K8,hst]at hb;have hob:ob:=by
     have:=(hb (fun _=>undef)).1;split at this
     ·exact this.1
     ·exact this.elim
    refine⟨st',ob,rfl,hob,fun a' w' M' hS'=>hK _ _ (ih (i+1) st' M' a' w' hS' fun bs=>?_)⟩;have:=hb bs;cases hr:K8 E kn ops rs l (i+1) st' bs with
    |mk r i' st'' ob'=>rw[hr]at this;exact⟨this.1.2,this.2⟩
    |bad=>rw[hr]at this;exact this.1.elim
end
end
end Go.Mt
