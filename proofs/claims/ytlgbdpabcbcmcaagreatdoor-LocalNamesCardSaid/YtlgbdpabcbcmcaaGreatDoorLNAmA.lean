/- The abstract machine over the model: values, orders, steps. -/
import Derived.WalkKit
import Derived.Deep.MidRow
import Derived.Still
set_option linter.unusedSimpArgs false
set_option linter.unusedVariables false
namespace Go.AM
open Go.RowKit
inductive V where
 |bot
 |bool (b:Bool)
 |int (k:IntKind) (n:Int)
 |str (s:ByteArray)
 |nilS
 |sl (e:Nat) (xs:List V)
 |nl
 |sn (e:Nat) (xs:List V)
 |obj (id n:Nat)
 |ptr (id n i o:Nat)
 |win (id n i o k:Nat)
 |tptr (e:Nat) (xs:List V) (i o:Nat)
 |nilP
 |func (fn:Fn) (first caps:List V)
 |mp (id:Nat)
 |nilF
 |agg (cs:List V)
 |tup (vs:List V)
 |opt (g:Bool) (x:V)
 deriving Inhabited
inductive Kind where
 |box|arr|ro|map
 deriving DecidableEq
structure Obj where
 k:Kind
 T:TypeId
 e:Nat
 xs:List V
abbrev Heap:=Nat→Option Obj
def blk:Value→Option Nat
 | .slice (some a) _ _=>some a.block
 | .map r=>r
 |_=>none
def flat(us:List Value):List Value:=us.flatMap fun u=>u.cells.toList
structure Ctx where
 w:World
 O:Nat→Prop
 hp:Heap
 η:Nat→Value
 kn:Nat→Prop
 data:Bool
mutual
def RV(c:Ctx):V→Value→Prop
 | .bot,_=>c.data=false
 | .bool b,v=>v= .bool b
 | .int k n,v=>v= .int k n∧k.has n
 | .str s,v=>v= .string s
 | .nilS,v=>v= .slice none 0 0
 | .sl e xs,v=>∃a cap us,v= .slice a xs.length cap∧xs.length≤cap∧xs.length≤140737488355328∧RVl { c with data:=true } xs us∧(∀u∈us,u.cells.size=e)∧(∀x∈flat us,x.oneCell'=true) ∧
   (xs=[]∨∃b off,a=some ⟨b,off,none⟩∧¬c.O b∧b<c.w.heap.size∧c.w.rangeAt b off (flat us))
 | .nl,v=>∃cap,v= .slice none 0 cap
 | .sn e xs,v=>(∃a n m,v= .slice (some a) n m)∧∃a cap us,v= .slice a xs.length cap∧xs.length≤cap∧xs.length≤140737488355328∧RVl { c with data:=true } xs us∧(∀u∈us,u.cells.size=e)∧(∀x∈flat us,x.oneCell'=true) ∧
   (xs=[]∨∃b off,a=some ⟨b,off,none⟩∧¬c.O b∧b<c.w.heap.size∧c.w.rangeAt b off (flat us))
 | .obj id n,v=>(∃a m cap,v= .slice a m cap)∧c.data=false∧c.kn id∧match c.hp id with
   |some o=>o.k≠ .map∧n≤o.xs.length∧(n=o.xs.length→v=c.η id)
   |none=>True
 | .mp id,v=>(∃r,v= .map (some r))∧c.data=false∧c.kn id∧match c.hp id with
   |some o=>o.k= .map∧v=c.η id
   |none=>True
 | .ptr id n i o,v=>(∃b k,v= .pointer (some ⟨b,k,none⟩))∧c.data=false∧c.kn id∧match c.hp id with
   |some ob=>ob.k≠ .map∧n≤ob.xs.length∧(n=ob.xs.length→∃b,blk (c.η id)=some b∧v= .pointer (some ⟨b,i*ob.e+o,none⟩))
   |none=>True
 | .win id n i o k,v=>(∃a m cap,v= .slice a m cap)∧c.data=false∧c.kn id∧match c.hp id with
   |some ob=>ob.k≠ .map∧n≤ob.xs.length∧(n=ob.xs.length→∃b cap,blk (c.η id)=some b∧v= .slice (some ⟨b,i*ob.e+o,none⟩) k cap∧k≤cap∧k≤140737488355328)
   |none=>True
 | .tptr e xs i o,v=>∃b off us,RVl { c with data:=true } xs us∧(∀u∈us,u.cells.size=e)∧¬c.O b∧b<c.w.heap.size∧c.w.rangeAt b off (flat us)∧v= .pointer (some ⟨b,off+(i*e+o),none⟩)
 | .nilP,v=>v= .pointer none
 | .func fn first caps,v=>∃f1 c1,v= .func fn f1 c1∧RVl c first f1.toList∧RVl c caps c1.toList
 | .nilF,v=>v= .nilFunc
 | .agg cs,v=>∃cv,v= .agg cv∧RVl c cs cv.toList∧∀u∈cv.toList,u.oneCell'=true
 | .tup vs,v=>∃cv,v= .tuple cv∧RVl c vs cv.toList
 | .opt g x,v=>c.data=false∧(g=true→RV c x v)∧(g=false→v= .tuple #[])
def RVl(c:Ctx):List V→List Value→Prop
 |[],us=>us=[]
 |x::xs,us=>∃u r,us=u::r∧RV c x u∧RVl c xs r
end
theorem zAp{c:Ctx}:∀ {xs us},RVl c xs us→us.length=xs.length
 |[],us,h=>by simp only[RVl]at h;simp[h]
 |x::xs,us,h=>by
  simp only[RVl]at h;obtain⟨u,r,rfl,_,hr⟩:=h;simp[zAp hr]
theorem zDa{c:Ctx}:∀ {xs us},RVl c xs us→∀(i:Nat) x,xs[i]?=some x→∃u,us[i]?=some u∧RV c x u
 |[],us,h,i,x,hx=>by simp at hx
 |y::xs,us,h,i,x,hx=>by
  simp only[RVl]at h;obtain⟨u,r,rfl,hu,hr⟩:=h;cases i with
  |zero=>simp at hx;subst hx;exact⟨u,by simp,hu⟩
  |succ i=>simp at hx;obtain⟨v,hv,hx'⟩:=zDa hr i x hx;exact⟨v,by simpa using hv,hx'⟩
theorem zFb{c:Ctx}:∀ {xs us},us.length=xs.length→(∀(i:Nat) x u,xs[i]?=some x→us[i]?=some u→RV c x u)→RVl c xs us
 |[],us,hl,_=>by simp only[RVl];simpa using hl
 |x::xs,[],hl,_=>by simp at hl
 |x::xs,u::us,hl,h=>by
  simp only[RVl];exact⟨u,us,rfl,h 0 x u (by simp) (by simp),zFb (by simpa using hl) (fun i y v hy hv=>h (i+1) y v (by simpa using hy) (by simpa using hv))⟩
theorem zCb{c:Ctx}{xs ys us vs}(h:RVl c xs us)(h':RVl c ys vs):RVl c (xs++ys) (us++vs):=by
 have l1:=zAp h
 have l2:=zAp h'
 refine zFb (by simp[l1,l2]) fun i x u hx hu=>?_
 by_cases hi:i<xs.length
 ·rw[List.getElem?_append_left hi]at hx;rw[List.getElem?_append_left (by omega)]at hu
  obtain⟨v,hv,r⟩:=zDa h i x hx;rw[hu]at hv;cases hv;exact r
 ·rw[List.getElem?_append_right (by omega)]at hx
  rw[List.getElem?_append_right (by omega),l1]at hu
  obtain⟨v,hv,r⟩:=zDa h' _ x hx;rw[hu]at hv;cases hv;exact r
theorem zVb{c:Ctx}{xs us}(h:RVl c xs us){i:Nat}{x u}(hx:RV c x u):RVl c (xs.set i x) (us.set i u):=by
 have l1:=zAp h
 refine zFb (by simp[l1]) fun j y v hy hv=>?_
 rw[List.getElem?_set]at hy hv
 by_cases hij:i=j
 ·subst hij;simp only[if_true,l1]at hy hv;by_cases hl:i<xs.length
  ·simp[hl]at hy hv;subst hy;subst hv;exact hx
  ·simp[hl]at hy
 ·simp only[hij,if_false]at hy hv;obtain⟨z,hz,r⟩:=zDa h j y hy;rw[hv]at hz;cases hz;exact r
theorem zEf{c:Ctx}{xs us}(n:Nat)(h:RVl c xs us):RVl c (xs.take n) (us.take n):=by
 have l1:=zAp h
 refine zFb (by simp[l1]) fun j y v hy hv=>?_
 rw[List.getElem?_take]at hy hv
 split at hy
 ·obtain⟨z,hz,r⟩:=zDa h j y hy;simp_all
 ·simp at hy
theorem zFp{c:Ctx}{xs us}(n:Nat)(h:RVl c xs us):RVl c (xs.drop n) (us.drop n):=by
 have l1:=zAp h
 refine zFb (by simp[l1]) fun j y v hy hv=>?_
 rw[List.getElem?_drop]at hy hv
 obtain⟨z,hz,r⟩:=zDa h _ y hy
 rw[hv]at hz;cases hz;exact r
def zMh(c c':Ctx)(id:Nat):Prop:=
 match c.hp id with
 |none=>c'.hp id=none
 |some o=>match c'.hp id with
  |none=>True
  |some o'=>o'.e=o.e∧(o'.k= .map↔o.k= .map)∧(o.k= .map→c'.η id=c.η id)∧o.xs.length≤o'.xs.length∧(o.xs.length=o'.xs.length→c'.η id=c.η id)
def xLo(w:World)(b:Nat):Prop:=∃cs e f,w.heap[b]?=some (.cells cs e f)
structure zGy(c c':Ctx):Prop where
 size:c.w.heap.size≤c'.w.heap.size
 block:∀b,b<c.w.heap.size→¬c.O b→xLo c.w b→c'.w.heap[b]?=c.w.heap[b]?
 own:∀b,b<c.w.heap.size→c'.O b→c.O b
 data:c'.data=c.data
 kn:c.data=false→∀id,c.kn id→c'.kn id
 evo:c.data=false→∀id,c.kn id→zMh c c' id
theorem xKk{w:World}{a:Addr}{v:Value}(h:w.cell? a=some v):xLo w a.block:=by
 unfold World.cell? at h
 split at h
 ·rename_i c e f hc;exact⟨c,e,f,hc⟩
 ·cases h
theorem zKn{w w':World}{b off:Nat}{cs:List Value}(h:w.rangeAt b off cs)(hb:xLo w b→w'.heap[b]?=w.heap[b]?):w'.rangeAt b off cs:=
 fun j v hv=>by
  have h1:=h j v hv;rw[World.cell?_of_block (w:=w) (a:=⟨b,off+j,none⟩) (hb (xKk h1))];exact h1
theorem zGy.asData{c c':Ctx}(h:zGy c c'):zGy { c with data:=true } { c' with data:=true }:=
 ⟨h.size,h.block,h.own,rfl,by simp,by simp⟩
theorem zGy.withData{c c':Ctx}(h:zGy c c')(hd:c.data=false)(d:Bool):zGy { c with data:=d } { c' with data:=d }:=
 ⟨h.size,h.block,h.own,rfl,fun _=>h.kn hd,fun _=>h.evo hd⟩
mutual
theorem zBg{c c':Ctx}(h:zGy c c'):∀(x:V) (v:Value),RV c x v→RV c' x v
 | .bot,v,hx=>by simp only[RV]at hx ⊢;rw[h.data];exact hx
 | .bool b,v,hx=>by simpa only[RV] using hx
 | .int k n,v,hx=>by simpa only[RV] using hx
 | .str s,v,hx=>by simpa only[RV] using hx
 | .nilS,v,hx=>by simpa only[RV] using hx
 | .sl e xs,v,hx=>by
  simp only[RV]at hx ⊢;obtain⟨a,cap,us,hv,hcp,hl,hus,hsz,hone,hm⟩:=hx;refine⟨a,cap,us,hv,hcp,hl,zCm h.asData _ _ hus,hsz,hone,?_⟩;rcases hm with hm|⟨b,off,ha,hO,hb,hr⟩
  ·exact .inl hm
  ·exact .inr ⟨b,off,ha,fun hO'=>hO (h.own b hb hO'),Nat.lt_of_lt_of_le hb h.size,zKn hr (h.block b hb hO)⟩
 | .nl,v,hx=>by simpa only[RV] using hx
 | .sn e xs,v,hx=>by
  simp only[RV]at hx ⊢;obtain⟨hs,a,cap,us,hv,hcp,hl,hus,hsz,hone,hm⟩:=hx;refine⟨hs,a,cap,us,hv,hcp,hl,zCm h.asData _ _ hus,hsz,hone,?_⟩;rcases hm with hm|⟨b,off,ha,hO,hb,hr⟩
  ·exact .inl hm
  ·exact .inr ⟨b,off,ha,fun hO'=>hO (h.own b hb hO'),Nat.lt_of_lt_of_le hb h.size,zKn hr (h.block b hb hO)⟩
 | .obj id n,v,hx=>by
  simp only[RV]at hx ⊢;obtain⟨hz,hd,hn,hx⟩:=hx;refine⟨hz,h.data.trans hd,h.kn hd id hn,?_⟩;have he:=h.evo hd id hn;unfold zMh at he;cases h1:c.hp id with
  |none=>rw[h1]at he;simp only at he;rw[he];trivial
  |some o=>
   rw[h1]at he hx;cases h2:c'.hp id with
   |none=>trivial
   |some o'=>
    rw[h2]at he;obtain⟨e1,e4,_,e2,e3⟩:=he;refine⟨fun h=>hx.1 (e4.1 h),by omega,fun hn'=>?_⟩
    rw[e3 (by omega)]
    exact hx.2.2 (by omega)
 | .ptr id n i o,v,hx=>by
  simp only[RV]at hx ⊢;obtain⟨hz,hd,hn,hx⟩:=hx;refine⟨hz,h.data.trans hd,h.kn hd id hn,?_⟩;have he:=h.evo hd id hn;unfold zMh at he;cases h1:c.hp id with
  |none=>rw[h1]at he;simp only at he;rw[he];trivial
  |some o=>
   rw[h1]at he hx;cases h2:c'.hp id with
   |none=>trivial
   |some o'=>
    rw[h2]at he;obtain⟨e1,e4,_,e2,e3⟩:=he;refine⟨fun h=>hx.1 (e4.1 h),by omega,fun hn'=>?_⟩
    rw[e3 (by omega),e1]
    exact hx.2.2 (by omega)
 | .win id n i o k,v,hx=>by
  simp only[RV]at hx ⊢;obtain⟨hz,hd,hn,hx⟩:=hx;refine⟨hz,h.data.trans hd,h.kn hd id hn,?_⟩;have he:=h.evo hd id hn;unfold zMh at he;cases h1:c.hp id with
  |none=>rw[h1]at he;simp only at he;rw[he];trivial
  |some o=>
   rw[h1]at he hx;cases h2:c'.hp id with
   |none=>trivial
   |some o'=>
    rw[h2]at he;obtain⟨e1,e4,_,e2,e3⟩:=he;refine⟨fun h=>hx.1 (e4.1 h),by omega,fun hn'=>?_⟩
    rw[e3 (by omega),e1]
    exact hx.2.2 (by omega)
 | .mp id,v,hx=>by
  simp only[RV]at hx ⊢;obtain⟨hz,hd,hn,hx⟩:=hx;refine⟨hz,h.data.trans hd,h.kn hd id hn,?_⟩;have he:=h.evo hd id hn;unfold zMh at he;cases h1:c.hp id with
  |none=>rw[h1]at he;simp only at he;rw[he];trivial
  |some o=>
   rw[h1]at he hx;cases h2:c'.hp id with
   |none=>trivial
   |some o'=>
    rw[h2]at he;obtain⟨e1,e4,e5,e2,e3⟩:=he;exact⟨e4.2 hx.1,by rw[e5 hx.1];exact hx.2⟩
 | .tptr e xs i o,v,hx=>by
  simp only[RV]at hx ⊢;obtain⟨b,off,us,hus,hsz,hO,hb,hr,hv⟩:=hx;exact⟨b,off,us,zCm h.asData _ _ hus,hsz,fun hO'=>hO (h.own b hb hO'),Nat.lt_of_lt_of_le hb h.size,zKn hr (h.block b hb hO),hv⟩
 | .nilP,v,hx=>by simpa only[RV] using hx
 | .func fn first caps,v,hx=>by
  simp only[RV]at hx ⊢;obtain⟨f1,c1,hv,h1,h2⟩:=hx;exact⟨f1,c1,hv,zCm h _ _ h1,zCm h _ _ h2⟩
 | .nilF,v,hx=>by simpa only[RV] using hx
 | .agg cs,v,hx=>by
  simp only[RV]at hx ⊢;obtain⟨cv,hv,h1,h2⟩:=hx;exact⟨cv,hv,zCm h _ _ h1,h2⟩
 | .tup vs,v,hx=>by
  simp only[RV]at hx ⊢;obtain⟨cv,hv,h1⟩:=hx;exact⟨cv,hv,zCm h _ _ h1⟩
 | .opt g x,v,hx=>by
  simp only[RV]at hx ⊢;exact⟨h.data.trans hx.1,fun hg=>zBg h x v (hx.2.1 hg),hx.2.2⟩
theorem zCm{c c':Ctx}(h:zGy c c'):∀(xs:List V) (us:List Value),RVl c xs us→RVl c' xs us
 |[],us,hx=>by simpa only[RVl] using hx
 |x::xs,us,hx=>by
  simp only[RVl]at hx ⊢;obtain⟨u,r,hu,h1,h2⟩:=hx;exact⟨u,r,hu,zBg h x u h1,zCm h xs r h2⟩
end
def Own(hp:Heap)(η:Nat→Value)(b:Nat):Prop:=∃id o,hp id=some o∧o.k≠ .ro∧blk (η id)=some b
def zGw(w:World)(o:Obj)(v:Value)(us:List Value):Prop:=
 if o.k= .map then ∃r es clk,v= .map (some r)∧w.heap[r]?=some (.map es clk)∧us=es.toList.map fun x=> .tuple #[x.key,x.val]
 else(∀u∈us,u.cells.size=o.e)∧(∀x∈flat us,x.oneCell'=true)∧w.ownsRow 0 o.T o.e v o.xs.length (flat us)
theorem yZm{v:Value}(h:∃a n c,v= .slice a n c):blk v=v.ownBlock:=by
 obtain⟨a,n,c,rfl⟩:=h
 cases a<;>rfl
theorem zIo{w:World}{T:TypeId}{e n:Nat}{v:Value}{xs:List Value}(h:w.ownsRow 0 T e v n xs):blk v=v.ownBlock:=by
 rcases h.2 with ⟨h,_⟩|⟨g,cap,cur,h,_⟩<;>exact yZm ⟨_,_,_,h⟩
theorem zGw.lt{w:World}{o:Obj}{v:Value}{us:List Value}(h:zGw w o v us){b:Nat}(hb:blk v=some b):b<w.heap.size:=by
 unfold zGw at h
 split at h
 ·obtain⟨r,es,clk,rfl,hr,_⟩:=h;simp only[blk,Option.some.injEq]at hb;subst hb;exact(Array.getElem?_eq_some_iff.1 hr).1
 ·rw[zIo h.2.2]at hb;exact(h.2.2.lt b hb).2
theorem zGw.keep{w w':World}{o:Obj}{v:Value}{us:List Value}(h:zGw w o v us)(hb:∀b,blk v=some b→w'.heap[b]?=w.heap[b]?):zGw w' o v us:=by
 unfold zGw at h ⊢
 split at h
 ·rename_i hk;obtain⟨r,es,clk,rfl,hr,hu⟩:=h;rw[if_pos hk];exact⟨r,es,clk,rfl,by rw[hb r rfl];exact hr,hu⟩
 ·rename_i hk;rw[if_neg hk];refine⟨h.1,h.2.1,h.2.2.1,?_⟩;rcases h.2.2.2 with h3|⟨g,cap,cur,rfl,h4,h5,h6⟩
  ·exact .inl h3
  ·exact .inr ⟨g,cap,cur,rfl,h4,by rw[hb g rfl];exact h5,h6⟩
structure LaidO(c:Ctx)(id:Nat)(o:Obj):Prop where
 pos:0<o.e
 lt:c.kn id
 len:o.xs.length≤140737488355328
 row:∃us,RVl { c with data:=decide (o.k= .ro) } o.xs us∧zGw c.w o (c.η id) us
 ro:o.k= .ro→∀b,blk (c.η id)=some b→¬c.O b
 own:o.k≠ .ro→∀b,blk (c.η id)=some b→c.O b
 box:o.k= .box→∃b,c.η id= .slice (some ⟨b,0,none⟩) 1 1
structure Laid(c:Ctx):Prop where
 obj:∀id o,c.hp id=some o→LaidO c id o
 inj:∀id id' o o' b,c.hp id=some o→c.hp id'=some o'→o.k≠ .ro→o'.k≠ .ro→blk (c.η id)=some b→blk (c.η id')=some b→id=id'
structure zBf where
 w0:World
 own0:Nat→Prop
 base:Nat→Prop
 hb:∀b,base b→b<w0.heap.size∧¬own0 b
 nb:Nat
 hp0:Heap
 hd0:Nat→Value
 fix:List (Nat × Go.Obj):=[]
 gh:List (V × Value):=[]
 dfr:List Deferred:=[]
structure FSt where
 sl:Nat→V
 hp:Heap
 kn:Nat→Prop
 N:Nat
 nb:Nat
 gl:Nat→Option (Nat × List V)
def yDv(E:zBf)(s:FSt)(η:Nat→Value)(i:Nat):Prop:=
 s.kn i∧∃o0 o,E.hp0 i=some o0∧s.hp i=some o∧o.k≠ .ro∧o.e=o0.e∧(o.k= .map↔o0.k= .map)∧(o0.k= .map→η i=E.hd0 i)∧o0.xs.length≤o.xs.length∧(o0.xs.length=o.xs.length→η i=E.hd0 i)
structure Held(E:zBf)(s:FSt)(η:Nat→Value):Prop where
 nb:E.nb=s.nb
 at_:∀i,i<s.nb→yDv E s η i
def FSt.ctx(E:zBf)(s:FSt)(w:World)(η:Nat→Value):Ctx:=⟨w,fun b=>E.base b∨Own s.hp η b,s.hp,η,s.kn,false⟩
structure xXj(E:zBf)(w:World):Prop where
 os:w.os=E.w0.os
 tape:w.tape=E.w0.tape
 output:w.output=E.w0.output
 size:E.w0.heap.size≤w.heap.size
 block:∀b,b<E.w0.heap.size→¬E.own0 b→w.heap[b]?=E.w0.heap[b]?
def opq:Go.Obj→Bool
 | .cells .. | .map .. =>false
 |_=>true
def FixW(w:World)(l:List (Nat × Go.Obj)):Prop:=∀p∈l,w.heap[p.1]?=some p.2∧opq p.2=true
def zFr(n0:Nat)(w:World):List Deferred→Prop
 |[]=>True
 |d::r=>(∃D,d={ target:= .collected D,args:= #[] }∧n0≤D∧w.heap[D]?=some (.deferred (some []))∧∀d'∈r,d'≠{ target:= .collected D,args:= #[] })∧zFr n0 w r
structure Own2(E:zBf)(a:Act)(w:World):Prop where
 fix:FixW w E.fix
 marks:∃ms,a.defers=ms++E.dfr∧zFr E.w0.heap.size w ms
def zPn(w w':World):Prop:=∀(b:Nat) (o:Go.Obj),w.heap[b]?=some o→opq o=true→w'.heap[b]?=some o
theorem zFr.keep{n0:Nat}{w w':World}(hk:zPn w w'):∀ {l:List Deferred},zFr n0 w l→zFr n0 w' l
 |[],_=>by simp[zFr]
 |d::r,h=>by
  simp only[zFr]at h ⊢;obtain⟨⟨D,h1,h2,h3,h4⟩,h5⟩:=h;exact⟨⟨D,h1,h2,hk _ _ h3 rfl,h4⟩,h5.keep hk⟩
theorem Own2.keep{E:zBf}{a:Act}{w w':World}(h:Own2 E a w)(hk:zPn w w'):Own2 E a w':=⟨fun p hp=>⟨hk _ _ (h.fix p hp).1 (h.fix p hp).2,(h.fix p hp).2⟩,h.marks.imp fun _ h=>⟨h.1,h.2.keep hk⟩⟩
theorem zPn.grown{w w':World}(hg:w.grownBy w' none):zPn w w':=fun b o hb _=>by
 rw[hg.block b (Array.getElem?_eq_some_iff.1 hb).1 (by simp)];exact hb
theorem zGw.notOpq{w:World}{o:Obj}{v:Value}{us:List Value}(h:zGw w o v us){b:Nat}(hb:blk v=some b){o':Go.Obj}(ho:w.heap[b]?=some o'):opq o'=false:=by
 unfold zGw at h
 split at h
 ·obtain⟨r,es,clk,rfl,hr,_⟩:=h;simp only[blk,Option.some.injEq]at hb;subst hb;rw[hr]at ho;cases ho;rfl
 ·rcases h.2.2.2 with ⟨rfl,_⟩|⟨g,cap,cur,rfl,_,hg,_⟩
  ·simp[blk]at hb
  ·simp[blk]at hb;subst hb;rw[hg]at ho;cases ho;rfl
structure Rel(E:zBf)(s:FSt)(a:Act)(w:World)(η:Nat→Value):Prop where
 slots:∀t,RV (s.ctx E w η) (s.sl t) (a.tmps.getD t undef)
 laid:Laid (s.ctx E w η)
 since:xXj E w
 fresh:∀b,Own s.hp η b→E.own0 b∨E.w0.heap.size≤b
 tmps:a.tmps.size=s.N
 defers:Own2 E a w
 held:Held E s η
 glob:∀g p,s.gl g=some p→RV (s.ctx E w η) (.tptr p.1 p.2 0 0) (.pointer (some ⟨g,0,none⟩))
 ghost:∀p∈E.gh,RV { s.ctx E w η with data:=true } p.1 p.2
def FSt.put(s:FSt)(d:Option Tmp)(x:V):FSt:=
 match d with
 |none=>s
 |some d=>if d<s.N then{ s with sl:=fun t=>if t=d then x else s.sl t } else s
theorem Rel.put{E:zBf}{s:FSt}{a:Act}{w:World}{η:Nat→Value}(h:Rel E s a w η)(d:Option Tmp){x:V}{v:Value}(hx:RV (s.ctx E w η) x v) :
  Rel E (s.put d x) (a.put d v) w η:=by
 cases d with
 |none=>exact h
 |some d=>
  unfold FSt.put;by_cases hd:d<s.N
  ·simp only[hd,if_true];refine⟨fun t=>?_,h.laid,h.since,h.fresh,by simpa[Act.put] using h.tmps,⟨h.defers.fix,h.defers.marks⟩,⟨h.held.nb,h.held.at_⟩,h.glob,h.ghost⟩
   by_cases ht:t=d
   ·subst ht;have:(a.put (some t) v).tmps.getD t undef=v:=by simp[Act.put,h.tmps,hd]
    rw[this];simp only[if_true];exact hx
   ·have:(a.put (some d) v).tmps.getD t undef=a.tmps.getD t undef:=by
     simp[Act.put,Array.getElem?_setIfInBounds_ne (Ne.symm ht)]
    rw[this];simp only[ht,if_false];exact h.slots t
  ·simp only[hd,if_false];have:a.put (some d) v=a:=by
    simp only[Act.put];have h2:a.tmps.size≤d:=by rw[h.tmps];exact Nat.le_of_not_lt hd
    rw[Array.setIfInBounds_eq_of_size_le h2]
   rw[this];exact h
theorem Rel.grow{E:zBf}{s:FSt}{a:Act}{w w':World}{η:Nat→Value}(h:Rel E s a w η)(hg:w.grownBy w' none):Rel E s a w' η:=by
 have hk:∀b,b<w.heap.size→w'.heap[b]?=w.heap[b]?:=fun b hb=>hg.block b hb (by simp)
 have K:zGy (s.ctx E w η) (s.ctx E w' η):=⟨hg.size,fun b hb _ _=>hk b hb,fun b _ h=>h,rfl,fun _ _ h=>h,fun _ id _=>by
  unfold zMh;cases h1:s.hp id<;>simp[FSt.ctx,h1]⟩
 refine⟨fun t=>zBg K _ _ (h.slots t),⟨fun id o ho=>?_,h.laid.inj⟩,⟨hg.os.trans h.since.os,hg.tape.trans h.since.tape,hg.output.trans h.since.output,Nat.le_trans h.since.size hg.size,fun b hb hn=>(hk b (Nat.lt_of_lt_of_le hb h.since.size)).trans (h.since.block b hb hn)⟩,h.fresh,h.tmps,h.defers.keep (.grown hg),h.held,fun g p hp=>zBg K _ _ (h.glob g p hp),fun p hp=>zBg K.asData _ _ (h.ghost p hp)⟩
 obtain⟨p,l,n,⟨us,r1,r2⟩,hro,hown,hbox⟩:=h.laid.obj id o ho
 exact⟨p,l,n,⟨us,zCm (K.withData rfl _) _ _ r1,r2.keep fun b hb=>hk b (r2.lt hb)⟩,hro,hown,hbox⟩
theorem Rel.layG{E:zBf}{s:FSt}{a:Act}{w w':World}{η:Nat→Value}(h:Rel E s a w η)(id:Nat)(o':Obj)(hdr:Value)(row:Option Nat)
  (hg:w.grownBy w' row)
  (hid:(¬s.kn id∧row=none)∨∃o,s.hp id=some o∧o.k≠ .ro∧row=blk (η id)∧o'.e=o.e∧(o'.k= .map↔o.k= .map)∧(o.k= .map→hdr=η id)∧o.xs.length≤o'.xs.length∧(o.xs.length=o'.xs.length→hdr=η id))
  (hk:o'.k≠ .ro) (hpos:0<o'.e) (hlen:o'.xs.length≤140737488355328)
  (hdrb:∀b,blk hdr=some b→w.heap.size≤b∨(row=some b))
  (hbox:o'.k= .box→∃b,hdr= .slice (some ⟨b,0,none⟩) 1 1)
  (us:List Value) (hus:RVl (s.ctx E w η) o'.xs us) (hrow:zGw w' o' hdr us) :
  Rel E { s with hp:=fun i=>if i=id then some o' else s.hp i,kn:=fun i=>i=id∨s.kn i } a w' (fun i=>if i=id then hdr else η i):=by
 -- the numbers' own blocks lie in the world
 have hlt_w:∀i o b,s.hp i=some o→blk (η i)=some b→b<w.heap.size:=fun i o b ho hb=>by
  obtain⟨us,_,r4⟩:=(h.laid.obj i o ho).row;exact r4.lt hb
 have hrowid:∀b,row=some b→∃o,s.hp id=some o∧o.k≠ .ro∧blk (η id)=some b:=fun b hb=>by
  rcases hid with ⟨_,hr⟩|⟨o,ho,hk,hr,_⟩
  ·rw[hr]at hb;cases hb
  ·exact⟨o,ho,hk,by rw[← hr];exact hb⟩
 -- own blocks of the new state
 have hown:∀b,Own (fun i=>if i=id then some o' else s.hp i) (fun i=>if i=id then hdr else η i) b→(blk hdr=some b)∨(∃i o,i≠id∧s.hp i=some o∧o.k≠ .ro∧blk (η i)=some b):=by
  rintro b ⟨i,o,ho,hko,hb⟩
  by_cases hi:i=id
  ·subst hi;simp at hb;exact .inl hb
  ·simp[hi]at ho hb;exact .inr ⟨i,o,hi,ho,hko,hb⟩
 have hown':∀b,b<w.heap.size→Own (fun i=>if i=id then some o' else s.hp i) (fun i=>if i=id then hdr else η i) b→Own s.hp η b:=fun b hb ho=>by
  rcases hown b ho with hd|⟨i,o,_,ho,hko,hbi⟩
  ·rcases hdrb b hd with h1|h1
   ·omega
   ·obtain⟨o,ho,hko,hbi⟩:=hrowid b h1;exact⟨id,o,ho,hko,hbi⟩
  ·exact⟨i,o,ho,hko,hbi⟩
 have hblk:∀b,b<w.heap.size→¬Own s.hp η b→w'.heap[b]?=w.heap[b]?:=fun b hb hO=>hg.block b hb (fun e=>by
  obtain⟨o,ho,hko,hbi⟩:=hrowid b e.symm;exact hO ⟨id,o,ho,hko,hbi⟩)
 have K:zGy (s.ctx E w η) (FSt.ctx E { s with hp:=fun i=>if i=id then some o' else s.hp i,kn:=fun i=>i=id∨s.kn i } w' (fun i=>if i=id then hdr else η i)):=by
  refine⟨hg.size,fun b hb hO _=>hblk b hb (fun h=>hO (.inr h)),fun b hb ho=>?_,rfl,fun _ _ h=> .inr h,fun _ i hi=>?_⟩
  ·rcases ho with ho|ho
   ·exact .inl ho
   ·exact .inr (hown' b hb ho)
  ·unfold zMh;simp only[FSt.ctx]at hi ⊢;by_cases hii:i=id
   ·subst hii;rcases hid with ⟨h1,_⟩|⟨o,ho,hko,_,h1,h4,h5,h2,h3⟩
    ·exact absurd hi h1
    ·simp only[ho,if_true];exact⟨h1,h4,h5,h2,h3⟩
   ·simp only[hii,if_false];cases s.hp i<;>simp
 refine⟨fun t=>zBg K _ _ (h.slots t),⟨fun i o ho=>?_,?_⟩,⟨hg.os.trans h.since.os,hg.tape.trans h.since.tape,hg.output.trans h.since.output,Nat.le_trans h.since.size hg.size,fun b hb hn=>?_⟩,?_,h.tmps,h.defers.keep (fun b o2 hb ho2=>by
  rw[hg.block b (Array.getElem?_eq_some_iff.1 hb).1 (fun e=>?_)]
  ·exact hb
  ·obtain⟨o3,ho3,_,hb3⟩:=hrowid b e.symm;obtain⟨us3,_,r3⟩:=(h.laid.obj id o3 ho3).row;rw[r3.notOpq hb3 hb]at ho2;cases ho2),⟨h.held.nb,fun i hi=>?_⟩,fun g p hp=>zBg K _ _ (h.glob g p hp),fun p hp=>zBg K.asData _ _ (h.ghost p hp)⟩
 ·by_cases hi:i=id
  ·subst hi;simp only[FSt.ctx,if_true,Option.some.injEq]at ho;subst ho;refine⟨hpos,.inl rfl,hlen,⟨us,?_,by simpa[FSt.ctx] using hrow⟩,fun h=>absurd h hk,fun _ b hb=> .inr ⟨i,o',by simp,hk,hb⟩,fun hb=>by simpa[FSt.ctx] using hbox hb⟩
   have:decide (o'.k= .ro)=false:=by simpa using hk
   rw[this];exact zCm K _ _ hus
  ·simp only[FSt.ctx,hi,if_false]at ho;obtain⟨p,l,n,⟨vs,r1,r4⟩,hro,hw,hbx⟩:=h.laid.obj i o ho;refine⟨p,.inr l,n,⟨vs,zCm (K.withData rfl _) _ _ r1,?_⟩,fun hk b hb=>?_,fun hk b hb=> .inr ⟨i,o,by simpa[hi] using ho,hk,by simpa[FSt.ctx,hi] using hb⟩,fun hb=>by simpa[FSt.ctx,hi] using hbx hb⟩
   ·simp only[FSt.ctx,hi,if_false];refine r4.keep fun b hbi=>hg.block b (r4.lt hbi) fun e=>?_
    obtain⟨o1,ho1,hk1,hb1⟩:=hrowid b e.symm;by_cases hko:o.k= .ro
    ·exact hro hko b hbi (.inr ⟨id,o1,ho1,hk1,hb1⟩)
    ·exact hi (h.laid.inj i id o o1 b ho ho1 hko hk1 hbi hb1)
   ·simp only[FSt.ctx,hi,if_false]at hb;intro hO;have hbw:=hlt_w i o b ho hb;rcases hO with hO|hO
    ·exact hro hk b hb (.inl hO)
    ·exact hro hk b hb (.inr (hown' b hbw hO))
 ·intro i j o1 o2 b h1 h2 k1 k2 b1 b2;simp only[FSt.ctx]at h1 h2 b1 b2;by_cases hi:i=id
  ·by_cases hj:j=id
   ·rw[hi,hj]
   ·simp only[hi,if_true]at h1 b1;simp only[hj,if_false]at h2 b2;have hbw:=hlt_w j o2 b h2 b2;rcases hdrb b b1 with hb|hb
    ·omega
    ·obtain⟨o,ho,hko,hbi⟩:=hrowid b hb;exact hi.trans (h.laid.inj id j o o2 b ho h2 hko k2 hbi b2)
  ·by_cases hj:j=id
   ·simp only[hi,if_false]at h1 b1;simp only[hj,if_true]at h2 b2;have hbw:=hlt_w i o1 b h1 b1;rcases hdrb b b2 with hb|hb
    ·omega
    ·obtain⟨o,ho,hko,hbi⟩:=hrowid b hb;exact(h.laid.inj i id o1 o b h1 ho k1 hko b1 hbi).trans hj.symm
   ·simp only[hi,if_false]at h1 b1;simp only[hj,if_false]at h2 b2;exact h.laid.inj i j o1 o2 b h1 h2 k1 k2 b1 b2
 ·have hbw:=Nat.lt_of_lt_of_le hb h.since.size;rw[← h.since.block b hb hn];refine hg.block b hbw fun e=>?_
  obtain⟨o,ho,hko,hbi⟩:=hrowid b e.symm;rcases h.fresh b ⟨id,o,ho,hko,hbi⟩with h1|h1
  ·exact hn h1
  ·omega
 ·intro b hb;by_cases hbw:b<w.heap.size
  ·exact h.fresh b (hown' b hbw hb)
  ·exact .inr (Nat.le_trans h.since.size (by omega))
 ·obtain⟨hkn,o0,o,h1,h2,h3,h4,h7,h8,h5,h6⟩:=h.held.at_ i hi;refine⟨.inr hkn,?_⟩;by_cases hii:i=id
  ·subst hii;rcases hid with ⟨hk',_⟩|⟨o1,ho,hko,_,q1,q4,q5,q2,q3⟩
   ·exact absurd hkn hk'
   ·rw[ho]at h2;cases h2;exact⟨o0,o',h1,by simp,hk,q1.trans h4,q4.trans h7,fun e=>by
     simp only[if_true];rw[q5 (h7.2 e),h8 e],Nat.le_trans h5 q2,fun e=>by
     have e1:o0.xs.length=o.xs.length:=by omega
     have e2:o.xs.length=o'.xs.length:=by omega
     simp only[if_true];rw[q3 e2,h6 e1]⟩
  ·exact⟨o0,o,h1,by simp only[hii,if_false];exact h2,h3,h4,h7,by simp only[hii,if_false];exact h8,h5,by simp only[hii,if_false];exact h6⟩
theorem Rel.lay{E:zBf}{s:FSt}{a:Act}{w w':World}{η:Nat→Value}(h:Rel E s a w η)(id:Nat)(o':Obj)(hdr:Value)(row:Option Nat)
  (hg:w.grownBy w' row)
  (hid:(¬s.kn id∧row=none)∨∃o,s.hp id=some o∧o.k≠ .ro∧row=blk (η id)∧o'.e=o.e∧o.xs.length≤o'.xs.length∧(o.xs.length=o'.xs.length→hdr=η id))
  (hk:o'.k≠ .ro) (hpos:0<o'.e) (hlen:o'.xs.length≤140737488355328)
  (hdrb:∀b,blk hdr=some b→w.heap.size≤b∨(row=some b))
  (hbox:o'.k= .box→∃b,hdr= .slice (some ⟨b,0,none⟩) 1 1)
  (us:List Value) (hus:RVl (s.ctx E w η) o'.xs us) (hsz:∀u∈us,u.cells.size=o'.e) (hone:∀x∈flat us,x.oneCell'=true)
  (hrow:w'.ownsRow 0 o'.T o'.e hdr o'.xs.length (flat us)) (hm:o'.k≠ .map) (hm':∀o,s.hp id=some o→row=blk (η id)→s.kn id→o.k≠ .map) :
  Rel E { s with hp:=fun i=>if i=id then some o' else s.hp i,kn:=fun i=>i=id∨s.kn i } a w' (fun i=>if i=id then hdr else η i):=
 h.layG id o' hdr row hg (hid.imp_right fun⟨o,h1,h2,h3,h4,h5,h6⟩=>by
  have hn:=hm' o h1 h3 (h.laid.obj id o h1).lt;exact⟨o,h1,h2,h3,h4,⟨fun h=>absurd h hm,fun h=>absurd h hn⟩,fun h=>absurd h hn,h5,h6⟩) hk hpos hlen hdrb hbox us hus (by unfold zGw;rw[if_neg hm];exact⟨hsz,hone,hrow⟩)
def putO(w:World)(r:Nat)(o:Go.Obj):World:={ w with heap:=w.heap.setIfInBounds r o }
theorem zKo{w:World}{r:Nat}{o:Go.Obj}(h:r<w.heap.size):(putO w r o).heap[r]?=some o:=by simp[putO,h]
theorem zBl{w:World}{r b:Nat}{o:Go.Obj}(h:b≠r):(putO w r o).heap[b]?=w.heap[b]?:=by
 simp[putO,Array.getElem?_setIfInBounds_ne (Ne.symm h)]
theorem yMi(w:World)(r:Nat)(o:Go.Obj):w.grownBy (putO w r o) (some r):=
 ⟨rfl,rfl,rfl,by simp[putO],fun b _ hne=>zBl fun e=>hne (by rw[e])⟩
theorem Rel.turn{E E':zBf}{s:FSt}{a a':Act}{w:World}{η:Nat→Value}(h:Rel E s a w η){l:Nat}{o o':Go.Obj}(hl:E.w0.heap.size≤l)(ho:w.heap[l]?=some o)(hq:opq o=true)
  (hE:E'={ E with fix:=E'.fix,gh:=E'.gh }) (hgh:∀p∈E'.gh,RV { s.ctx E w η with data:=true } p.1 p.2) (ha:a'.tmps=a.tmps) (h2:Own2 E' a' (putO w l o')):Rel E' s a' (putO w l o') η:=by
 have hlt:l<w.heap.size:=(Array.getElem?_eq_some_iff.1 ho).1
 have hw0:E'.w0=E.w0:=by rw[hE]
 have hb:E'.base=E.base:=by rw[hE]
 have hown:E'.own0=E.own0:=by rw[hE]
 have hctx:s.ctx E' (putO w l o') η={ s.ctx E w η with w:=putO w l o' }:=by unfold FSt.ctx;rw[hb]
 have hne:∀b,xLo w b→b≠l:=fun b ⟨cs,e,f,hc⟩ hbl=>by
  subst hbl;rw[ho]at hc;cases hc;cases hq
 have K:zGy (s.ctx E w η) (s.ctx E' (putO w l o') η):=by
  rw[hctx];refine⟨by simp[FSt.ctx,putO],fun b hb _ hc=>zBl (hne b hc),fun b _ h=>h,rfl,fun _ _ h=>h,fun _ id _=>?_⟩
  unfold zMh;cases h1:s.hp id<;>simp[FSt.ctx,h1]
 refine⟨fun t=>by rw[ha];exact zBg K _ _ (h.slots t),⟨fun id o1 h1=>?_,?_⟩,?_,fun b hb=>?_,by rw[ha];exact h.tmps,h2,⟨?_,fun i hi=>?_⟩,fun g p hp=>zBg K _ _ (h.glob g p hp),fun p hp=>zBg K.asData _ _ (hgh p hp)⟩
 ·obtain⟨p,kn,n,⟨us,r1,r2⟩,hro,hw,hbox⟩:=h.laid.obj id o1 h1;refine⟨p,kn,n,⟨us,zCm (K.withData rfl _) _ _ r1,r2.keep fun b hb=>zBl fun e=>?_⟩,fun hk b hb hO=>hro hk b hb (by rw[hctx]at hO;exact hO),fun hk b hb=>by rw[hctx];exact hw hk b hb,hbox⟩
  subst e;have:=r2.notOpq hb ho;rw[hq]at this;cases this
 ·rw[hctx];exact h.laid.inj
 ·have hs:=h.since;refine⟨by rw[hw0];exact hs.os,by rw[hw0];exact hs.tape,by rw[hw0];exact hs.output,by rw[hw0];simpa[putO] using hs.size,fun b hb hn=>?_⟩
  rw[hw0]at hb ⊢;rw[hown]at hn;rw[zBl (by omega)]
  exact hs.block b hb hn
 ·rw[hown,hw0];exact h.fresh b hb
 ·rw[hE];exact h.held.nb
 ·have:=h.held.at_ i hi;unfold yDv at this ⊢;rw[hE];exact this
#print axioms Rel.lay
end Go.AM
set_option linter.unusedSimpArgs false
set_option linter.unusedVariables false
namespace Go.AM
open Go.RowKit
structure Eff where
 val:V
 upd:List (Nat × Obj)
 rd:List Nat
def zCy:List (Nat × Obj)→Heap→Heap
 |[],h=>h
 |(i,o)::r,h=>fun k=>if k=i then some o else zCy r h k
def Eff.ids(e:Eff):List Nat:=e.upd.map (·.1)
def FSt.app(s:FSt)(d:Option Tmp)(e:Eff):FSt:=
 { (s.put d e.val)with hp:=zCy e.upd s.hp,kn:=fun i=>i∈e.ids∨s.kn i }
theorem FSt.put_hp(s:FSt)(d:Option Tmp)(x:V):(s.put d x).hp=s.hp:=by unfold FSt.put;(repeat' split)<;>rfl
theorem FSt.put_kn(s:FSt)(d:Option Tmp)(x:V):(s.put d x).kn=s.kn:=by unfold FSt.put;(repeat' split)<;>rfl
theorem FSt.put_N(s:FSt)(d:Option Tmp)(x:V):(s.put d x).N=s.N:=by unfold FSt.put;(repeat' split)<;>rfl
theorem FSt.put_gl(s:FSt)(d:Option Tmp)(x:V):(s.put d x).gl=s.gl:=by unfold FSt.put;(repeat' split)<;>rfl
theorem FSt.put_nb(s:FSt)(d:Option Tmp)(x:V):(s.put d x).nb=s.nb:=by unfold FSt.put;(repeat' split)<;>rfl
theorem FSt.put_sl(s:FSt)(d:Option Tmp)(x:V)(t:Nat):(s.put d x).sl t=if d=some t∧t<s.N then x else s.sl t:=by
 unfold FSt.put
 cases d with
 |none=>simp
 |some d=>
  by_cases hd:d<s.N
  ·simp only[hd,if_true,Option.some.injEq];by_cases h:t=d
   ·subst h;simp[hd]
   ·simp[h,Ne.symm h]
  ·simp only[hd,if_false,Option.some.injEq];by_cases h:d=t
   ·subst h;simp[hd]
   ·simp[h]
theorem zFc(l:List (Nat × Obj))(h:Heap)(k:Nat)(hk:k ∉ l.map (·.1)):zCy l h k=h k:=by
 induction l with
 |nil=>rfl
 |cons p r ih=>
  simp only[List.map_cons,List.mem_cons,not_or]at hk;simp only[zCy,hk.1,if_false];exact ih hk.2
theorem yLc(l r:List (Nat × Obj))(h:Heap)(hd:∀k,k∈l.map (·.1)→k ∉ r.map (·.1)):zCy l (zCy r h)=zCy r (zCy l h):=by
 funext k
 by_cases h1:k∈l.map (·.1)
 ·have h2:=hd k h1;rw[zFc r _ k h2];clear hd h2;induction l with
  |nil=>simp at h1
  |cons p l ih=>
   simp only[zCy];by_cases hp:k=p.1
   ·simp[hp]
   ·simp only[hp,if_false];exact ih (by simpa[hp] using h1)
 ·rw[zFc l _ k h1];by_cases h2:k∈r.map (·.1)
  ·clear hd;induction r with
   |nil=>simp at h2
   |cons p r ih=>
    simp only[zCy];by_cases hp:k=p.1
    ·simp[hp]
    ·simp only[hp,if_false];exact ih (by simpa[hp] using h2)
  ·rw[zFc r _ k h2,zFc r _ k h2,zFc l _ k h1]
theorem FSt.app_comm(s:FSt)(d1 d2:Option Tmp)(e1 e2:Eff)(hd:∀t,d1=some t→d2≠some t)(hi:∀k,k∈e1.ids→k ∉ e2.ids) :
  (s.app d1 e1).app d2 e2=(s.app d2 e2).app d1 e1:=by
 have h1:((s.app d1 e1).app d2 e2).sl=((s.app d2 e2).app d1 e1).sl:=by
  funext t
  simp only[FSt.app,FSt.put_sl,FSt.put_N];by_cases a:d1=some t
  ·have:=hd t a;simp[a,this]
  ·simp[a]
 have h2:((s.app d1 e1).app d2 e2).hp=((s.app d2 e2).app d1 e1).hp:=by
  simp only[FSt.app];exact yLc _ _ _ (fun k hk h=>hi k h hk)
 have h3:((s.app d1 e1).app d2 e2).kn=((s.app d2 e2).app d1 e1).kn:=by
  funext k
  simp only[FSt.app];exact propext ⟨fun h=>by rcases h with h|h|h<;>simp[h],fun h=>by rcases h with h|h|h<;>simp[h]⟩
 have h4:((s.app d1 e1).app d2 e2).N=((s.app d2 e2).app d1 e1).N:=by simp only[FSt.app,FSt.put_N]
 have h5:((s.app d1 e1).app d2 e2).nb=((s.app d2 e2).app d1 e1).nb:=by simp only[FSt.app,FSt.put_nb]
 have h6:((s.app d1 e1).app d2 e2).gl=((s.app d2 e2).app d1 e1).gl:=by simp only[FSt.app,FSt.put_gl]
 generalize (s.app d1 e1).app d2 e2=x at *
 generalize (s.app d2 e2).app d1 e1=y at *
 cases x;cases y
 simp_all
structure Same(ts:List Tmp)(ids:List Nat)(s s':FSt):Prop where
 sl:∀t∈ts,s'.sl t=s.sl t
 hp:∀i∈ids,s'.hp i=s.hp i
 kn:∀i∈ids,s'.kn i↔s.kn i
 N:s'.N=s.N
 gl:s'.gl=s.gl
 nb:s'.nb=s.nb
def Indep(e1 e2:Eff):Prop:=(∀k,k∈e1.ids→k ∉ e2.rd∧k ∉ e2.ids)∧(∀k,k∈e2.ids→k ∉ e1.rd∧k ∉ e1.ids)
theorem Same.app{ts:List Tmp}{e:Eff}(s:FSt)(d:Option Tmp)(e':Eff)(hd:∀t,d=some t→t ∉ ts)(hi:∀k,k∈e'.ids→k ∉ e.rd∧k ∉ e.ids) :
  Same ts (e.rd++e.ids) s (s.app d e'):=by
 have hn:∀i,i∈e.rd++e.ids→i ∉ e'.ids:=fun i hi' h=>by
  have:=hi i h;simp[this]at hi'
 refine⟨fun t ht=>?_,fun i hi'=>?_,fun i hi'=>?_,by simp[FSt.app,FSt.put_N],by simp[FSt.app,FSt.put_gl],by simp[FSt.app,FSt.put_nb]⟩
 ·simp only[FSt.app,FSt.put_sl];have:d≠some t:=fun h=>hd t h ht
  simp[this]
 ·simp only[FSt.app];exact zFc _ _ _ (hn i hi')
 ·simp only[FSt.app];exact⟨fun h=>h.resolve_left (hn i hi'),.inr⟩
theorem Same.symm{ts ids}{s s':FSt}(h:Same ts ids s s'):Same ts ids s' s:=
 ⟨fun t ht=>(h.sl t ht).symm,fun i hi=>(h.hp i hi).symm,fun i hi=>(h.kn i hi).symm,h.N.symm,h.gl.symm,h.nb.symm⟩
def zIk(P:Program)(ops:Array Oper)(Q:Exit→Act→World→Prop)(o:Oper)(K:Act→World→Prop)(a:Act)(w:World):Prop:=
 if Region.wanted o (yielded ops a.tmps)=true then o.wp P a w K Q else K (a.put o.dst undef) w
structure LawJ(P:Program)(ops:Array Oper)(E:zBf)(J:Nat→Oper→FSt→Eff→Prop):Prop where
 sound:∀i o s e,J i o s e→∀a w η,Rel E s a w η→∀(K:Act→World→Prop) Q,(∀a' w' η',Rel E (s.app o.dst e) a' w' η'→K a' w')→zIk P ops Q o K a w
 loc:∀i o s s' e,J i o s e→Same (o.looksAt ops) (e.rd++e.ids) s s'→J i o s' e
section
variable {P : Program} {ops : Array Oper} {E : zBf} {J : Nat → Oper → FSt → Eff → Prop} {τ : Nat → Eff} {md : Region.Mode}
def SeqT(J:Nat→Oper→FSt→Eff→Prop)(τ:Nat→Eff):Nat→List Oper→FSt→(FSt→Prop)→Prop
 |_,[],s,K=>K s
 |k,o::l,s,K=>J k o s (τ k)∧SeqT J τ (k+1) l (s.app o.dst (τ k)) K
theorem zNr{Q:Exit→Act→World→Prop}{i:Nat}{o:Oper}{a:Act}{w:World}{K:Act→World→Prop}(ho:ops[i]?=some o)(h:zIk P ops Q o K a w):wpOp P ops Q i K a w:=by
 unfold zIk at h
 unfold wpOp
 simp only[ho]
 split
 ·rename_i hw;rw[if_pos hw]at h;exact .inl h
 ·rename_i hw;rw[if_neg hw]at h;exact h
theorem zVy(L:LawJ P ops E J){Q:Exit→Act→World→Prop}{K:FSt→Prop}(hQ:∀s a w η,K s→Rel E s a w η→Q .normal a w) :
  ∀(l:List Oper) (k:Nat) (s:FSt) (a:Act) (w:World) (η:Nat→Value),(∀j,l[j]?=ops[k+j]?)→SeqT J τ k l s K→Rel E s a w η→wpOps P ops Q (List.range' k l.length) a w
 |[],k,s,a,w,η,_,h,hr=>by simpa[wpOps] using hQ s a w η h hr
 |o::l,k,s,a,w,η,hl,h,hr=>by
  have h0:ops[k]?=some o:=by simpa using(hl 0).symm
  simp only[List.length_cons,List.range'_succ,wpOps_cons];refine zNr h0 (L.sound k o s _ h.1 a w η hr _ Q fun a' w' η' hr'=>?_)
  exact zVy L hQ l (k+1) _ a' w' η' (fun j=>by have:=hl (j+1);simpa[Nat.add_assoc,Nat.add_comm 1 j] using this) h.2 hr'
def StepT(J:Nat→Oper→FSt→Eff→Prop)(ops:Array Oper)(τ:Nat→Eff)(i:Nat)(s:FSt):Prop:=∀o,ops[i]?=some o→J i o s (τ i)
def appT(ops:Array Oper)(τ:Nat→Eff)(i:Nat)(s:FSt):FSt:=match ops[i]? with|none=>s|some o=>s.app o.dst (τ i)
def AnyT(J:Nat→Oper→FSt→Eff→Prop)(md:Region.Mode)(ops:Array Oper)(τ:Nat→Eff)(K:FSt→Prop):Nat→Array Bool→FSt→Prop
 |0,listed,s=>Region.ready md ops listed=[]∧K s
 |fuel+1,listed,s=>(Region.ready md ops listed=[]→K s)∧∀i∈Region.ready md ops listed,StepT J ops τ i s∧AnyT J md ops τ K fuel (listed.setIfInBounds i true) (appT ops τ i s)
theorem zXo(L:LawJ P ops E J){Q:Exit→Act→World→Prop}{K:FSt→Prop}(hQ:∀s a w η,K s→Rel E s a w η→Q .normal a w) :
  ∀(fuel:Nat) (listed:Array Bool) (s:FSt) (a:Act) (w:World) (η:Nat→Value),AnyT J md ops τ K fuel listed s→Rel E s a w η→wpAny P md ops Q fuel listed a w
 |0,_,s,a,w,η,h,hr=>⟨h.1,hQ s a w η h.2 hr⟩
 |fuel+1,listed,s,a,w,η,h,hr=>by
  refine⟨fun h0=>hQ s a w η (h.1 h0) hr,fun i hi=>?_⟩
  obtain⟨hs,hn⟩:=h.2 i hi;cases ho:ops[i]? with
  |none=> 
   have:=(mem_ready.1 hi).2;simp[ho]at this
  |some o=>
   refine zNr ho (L.sound i o s _ (hs o ho) a w η hr _ Q fun a' w' η' hr'=>?_)
   refine zXo L hQ fuel _ _ a' w' η' hn ?_;simpa[appT,ho] using hr'
def Comm(J:Nat→Oper→FSt→Eff→Prop)(ops:Array Oper)(τ:Nat→Eff)(i j:Nat):Prop:=
 (∀k,k∈(τ i).ids→k ∉ (τ j).ids)∧∀oi oj s,ops[i]?=some oi→ops[j]?=some oj→oi.apart ops oj=true →
  (J j oj (s.app oi.dst (τ i)) (τ j)→J j oj s (τ j))∧(J i oi s (τ i)→J i oi (s.app oj.dst (τ j)) (τ i))
theorem zPc(L:LawJ P ops E J){i j:Nat}(h:Indep (τ i) (τ j)):Comm J ops τ i j:=
 ⟨fun k hk=>(h.1 k hk).2,fun oi oj s hi hj hap=>by
  obtain⟨a1,a2,a3⟩:=Oper.apart_spec hap;exact⟨fun hJ=>L.loc j oj _ s _ hJ (Same.app s oi.dst (τ i) a1 h.1).symm,fun hJ=>L.loc i oi s _ _ hJ (Same.app s oj.dst (τ j) a3 h.2)⟩⟩
inductive Up(md:Region.Mode)(ops:Array Oper)(i:Nat):Nat→Prop
 |one {j:Nat} {oj:Oper} {e:Edge}:ops[j]?=some oj→e∈oj.after→Region.binds md e=true→e.on=i→Up md ops i j
 |via {j:Nat} {oj:Oper} {e:Edge}:ops[j]?=some oj→e∈oj.after→Region.binds md e=true→Up md ops i e.on→Up md ops i j
def ClL(md:Region.Mode)(ops:Array Oper)(listed:Array Bool):Prop:=∀m om,listed.getD m false=true→ops[m]?=some om→∀e∈om.after,Region.binds md e=true→listed.getD e.on false=true
theorem yPt{listed:Array Bool}(h:ClL md ops listed){i m:Nat}(hu:Up md ops i m):listed.getD m false=true→listed.getD i false=true:=by
 induction hu with
 |one h1 h2 h3 h4=>intro hm;rw[← h4];exact h _ _ hm h1 _ h2 h3
 |via h1 h2 h3 _ ih=>intro hm;exact ih (h _ _ hm h1 _ h2 h3)
theorem xCv{listed:Array Bool}(h:ClL md ops listed){i j:Nat}(hj:j∈Region.ready md ops listed)(hu:Up md ops i j):listed.getD i false=true:=by
 obtain⟨_,o,ho,hall⟩:=mem_ready.1 hj
 cases hu with
 |one h1 h2 h3 h4=>rw[ho]at h1;cases h1;rw[← h4];exact hall _ h2 h3
 |via h1 h2 h3 h4=>rw[ho]at h1;cases h1;exact yPt h h4 (hall _ h2 h3)
theorem xUl{listed:Array Bool}(h:ClL md ops listed){i j:Nat}(hi:i∈Region.ready md ops listed)(hj:j∈Region.ready md ops listed):¬Up md ops i j:=fun hu=>by
 have h1:=xCv h hj hu
 have h0:=(mem_ready.1 hi).1
 rcases Nat.lt_or_ge i listed.size with h'|h'
 ·simp[h']at h0 h1;rw[h0]at h1;cases h1
 ·simp[Array.getElem?_eq_none h']at h1
theorem xMk{listed:Array Bool}(h:ClL md ops listed){j:Nat}(hj:j∈Region.ready md ops listed):ClL md ops (listed.setIfInBounds j true):=by
 intro m om hm ho e he hb
 obtain⟨_,o,hoj,hall⟩:=mem_ready.1 hj
 by_cases e1:j=m
 ·subst e1;rw[hoj]at ho;cases ho;exact getD_set_true (hall e he hb)
 ·rw[getD_set_ne false e1]at hm;exact getD_set_true (h m om hm ho e he hb)
theorem yOz(L:LawJ P ops E J){K:FSt→Prop}{i:Nat}{oi:Oper}(hi:ops[i]?=some oi) :
  ∀(fuel:Nat) (listed:Array Bool) (s:FSt),ClL md ops listed →
   (∀j oj,ops[j]?=some oj→j≠i→listed.getD j true=false→¬Up md ops i j→oi.apart ops oj=true∧Comm J ops τ i j) →
   i∈Region.ready md ops listed→J i oi s (τ i) →
   AnyT J md ops τ K fuel (listed.setIfInBounds i true) (s.app oi.dst (τ i))→AnyT J md ops τ K (fuel+1) listed s:=by
 intro fuel
 induction fuel with
 |zero=>
  intro listed s _ _ hr hy H;refine⟨fun h=>(by rw[h]at hr;cases hr),fun j hj=>?_⟩
  by_cases hji:j=i
  ·subst hji;refine⟨fun o ho=>?_,?_⟩
   ·rw[hi]at ho;cases ho;exact hy
   ·simpa[appT,hi] using H
  ·have:=ready_mono hj hji;rw[H.1]at this;cases this
 |succ fuel ih=>
  intro listed s hcl hfree hr hy H;refine⟨fun h=>(by rw[h]at hr;cases hr),fun j hj=>?_⟩
  by_cases hji:j=i
  ·subst hji;refine⟨fun o ho=>?_,?_⟩
   ·rw[hi]at ho;cases ho;exact hy
   ·simpa[appT,hi] using H
  ·obtain⟨h1,h2⟩:=H.2 j (ready_mono hj hji);obtain⟨hjun,oj,hoj,hall⟩:=mem_ready.1 hj;have hnot:=xUl hcl hr hj;obtain⟨hap,hind⟩:=hfree j oj hoj hji hjun hnot;obtain⟨a1,a2,a3⟩:=Oper.apart_spec hap;have hJj:J j oj s (τ j):=(hind.2 oi oj s hi hoj hap).1 (h1 oj hoj);refine⟨fun o ho=>by rw[hoj]at ho;cases ho;exact hJj,?_⟩
   have hfree':∀k ok,ops[k]?=some ok→k≠i→(listed.setIfInBounds j true).getD k true=false →
     ¬Up md ops i k→oi.apart ops ok=true∧Comm J ops τ i k:=fun k ok hk hki hun hno=>by
    refine hfree k ok hk hki ?_ hno;by_cases hjk:j=k
    ·subst hjk;exact hjun
    ·rw[getD_set_ne true hjk]at hun;exact hun
   refine ih (listed.setIfInBounds j true) _ (xMk hcl hj) hfree' (ready_mono hr (Ne.symm hji)) ?_ ?_
   ·simp only[appT,hoj];exact(hind.2 oi oj s hi hoj hap).2 hy
   ·rw[Array.setIfInBounds_comm _ _ hji];simp only[appT,hoj]at h2 ⊢;rw[FSt.app_comm s oj.dst oi.dst (τ j) (τ i) (fun t ht h=>a2 t h ht) (fun k hk h=>hind.1 k h hk)]
    exact h2
theorem zZu(L:LawJ P ops E J){K:FSt→Prop}
  (hind:∀i j oj,i<j→ops[j]?=some oj→¬Up md ops i j→Comm J ops τ i j) :
  ∀(l:List Oper) (k:Nat) (listed:Array Bool) (s:FSt),ClL md ops listed→(∀j,l[j]?=ops[k+j]?)→(∀j,j<k→listed.getD j true=true) →
  Region.lexFrom md ops l.length k listed=true→SeqT J τ k l s K→AnyT J md ops τ K l.length listed s
 |[],_,_,_,_,_,_,hB,h=>⟨by simpa[Region.lexFrom] using hB,h⟩
 |o::l,k,listed,s,hcl,hl,hlt,hB,h=>by
  have h0:ops[k]?=some o:=by simpa using(hl 0).symm
  simp only[List.length_cons,Region.lexFrom,Bool.and_eq_true]at hB;obtain⟨⟨hr,hf⟩,hB'⟩:=hB;refine yOz L h0 l.length listed s hcl (fun j oj hj hne hun hno=>⟨Region.free_spec h0 hf j oj hj hne hun fun e he hb heq=>hno (.one hj he hb heq),hind k j oj ?_ hj hno⟩) (by simpa using hr) h.1
   (zZu L hind l (k+1) _ _ (xMk hcl (by simpa using hr)) (fun j=>by have:=hl (j+1);simpa[Nat.add_assoc,Nat.add_comm 1 j] using this) (fun j hj=>?_) hB' h.2)
  ·rcases Nat.lt_or_ge j k with h'|h'
   ·rw[hlt j h']at hun;cases hun
   ·omega
  ·by_cases hjk:k=j
   ·subst hjk;rcases Nat.lt_or_ge k listed.size with h'|h'
    ·simp[h']
    ·simp[Array.getElem?_eq_none,h']
   ·rw[getD_set_ne true hjk];exact hlt j (by omega)
theorem zXt(L:LawJ P ops E J){id:Nat}{Q:Exit→Act→World→Prop}{K:FSt→Prop}(hQ:∀s a w η,K s→Rel E s a w η→Q .normal a w)
  {s:FSt} (h:SeqT J τ 0 ops.toList s K) {a:Act} {w:World} {η:Nat→Value} (hr:Rel E s a w η):(Code.region id ops false).wp P Q a w:=by
 refine wp_region ?_
 have:=zVy (τ:=τ) L hQ ops.toList 0 s a w η (by simp) h hr
 simpa[List.range_eq_range'] using this
theorem zNq(L:LawJ P ops E J)(hm:P.follows .mixedOrders=true){id:Nat}{Q:Exit→Act→World→Prop}{K:FSt→Prop}(hQ:∀s a w η,K s→Rel E s a w η→Q .normal a w)
  (hB:Region.lexB .any ops=true) (hind:∀i j oj,i<j→ops[j]?=some oj→¬Up .any ops i j→Comm J ops τ i j)
  {s:FSt} (h:SeqT J τ 0 ops.toList s K) {a:Act} {w:World} {η:Nat→Value} (hr:Rel E s a w η):(Code.region id ops true).wp P Q a w:=by
 simp only[Region.lexB,Bool.and_eq_true]at hB
 refine wp_region_any hm (zXo (τ:=τ) L hQ _ _ s a _ η ?_ (hr.grow ⟨rfl,rfl,rfl,Nat.le_refl _,fun _ _ _=>rfl⟩))
 have:=zZu (md:= .any) L hind ops.toList 0 (Array.replicate ops.size false) s (fun m om hm=>(by simp[Array.getElem?_replicate]at hm;split at hm<;>simp at hm)) (by simp) (by omega) (by simpa using hB.2) h
 simpa using this
end
#print axioms zNq
end Go.AM
set_option linter.unusedSimpArgs false
set_option linter.unusedVariables false
namespace Go.AM
open Go.RowKit
def V.cl:V→Option (List V)
 | .agg cs=>some cs
 |_=>none
def V.sc:V→Bool
 | .bot | .agg _ | .tup _ | .opt _ _=>false
 |_=>true
mutual
def cst:Value→V
 | .bool b=> .bool b
 | .int k n=>if k.min≤n∧n≤k.max then .int k n else .bot
 | .string s=>if s.size≤140737488355328 then .str s else .bot
 | .pointer none=> .nilP
 | .slice none 0 0=> .nilS
 | .nilFunc=> .nilF
 | .agg ⟨cs⟩=>if cs.all (·.oneCell')=true then .agg (csts cs)else .bot
 |_=> .bot
def csts:List Value→List V
 |[]=>[]
 |x::r=>cst1 x::csts r
def cst1:Value→V
 | .bool b=> .bool b
 | .int k n=>if k.min≤n∧n≤k.max then .int k n else .bot
 | .string s=>if s.size≤140737488355328 then .str s else .bot
 | .pointer none=> .nilP
 | .slice none 0 0=> .nilS
 | .nilFunc=> .nilF
 |_=> .bot
end
def zAn(P:Program)(T:TypeId):Option Bool:=(P.underlying T).map fun d=>match d with | .struct _ | .array _ _=>true|_=>false
def zBw(P:Program)(T:TypeId):Option V:=
 match (P.info? T).bind (·.zero)with
 |some z=>some (cst z)
 |none=>none
def zAq(P:Program)(T:TypeId)(f:Nat):Option (Nat × TypeId):=
 match P.underlying T with
 |some (.struct fs)=>(fs[f]?).map fun x=>(x.offset,x.type)
 |_=>none
def zAu(P:Program)(T:TypeId):Option TypeId:=
 match P.underlying T with
 |some (.slice e)=>some e
 |_=>none
def ptrT(P:Program)(T:TypeId):Bool:=match P.underlying T with|some (.pointer _)=>true|_=>false
def zIf(P:Program)(T:TypeId):Option (Nat × TypeId):=
 match P.underlying T with
 |some (.array n e)=>some (n,e)
 |_=>none
def zCt(P:Program)(T:TypeId)(x:V)(o:Nat):Option V:=
 match zAn P T,x.cl with
 |some true,some cs=>if o=0∧cs.length=P.cellsOf T then some x else if o+P.cellsOf T≤cs.length then some (.agg ((cs.drop o).take (P.cellsOf T)))else none
 |some false,some cs=>cs[o]?
 |some false,none=>if o=0 then(match x with | .opt _ _ | .tup _=>none|_=>some x)else none
 |_,_=>none
def zSu(x:V)(o:Nat)(v:V):Option V:=
 match x.cl,v.cl with
 |some cs,some vs=>if o=0∧cs.length=vs.length then some v else if o+vs.length≤cs.length then some (.agg (cs.take o++vs++cs.drop (o+vs.length)))else none
 |some cs,none=>if v.sc=true∧o<cs.length then some (.agg (cs.set o v))else none
 |none,none=>if v.sc=true∧x.sc=true∧o=0 then some v else none
 |none,some _=>none
def zKb(v:V):Nat:=match v.cl with|some cs=>cs.length|none=>1
structure Stp where
 e:Eff
 side:Prop
def just(v:V):Option Stp:=some ⟨⟨v,[],[]⟩,True⟩
def zCv(v:V)(p:Prop):Option Stp:=some ⟨⟨v,[],[]⟩,p⟩
def zLe(st:ByteArray)(i:Nat):Nat:=(st.data.getD i 0).toNat
def nth:List V→Nat→V
 |[],_=> .bot
 |x::_,0=>x
 |_::r,i+1=>nth r i
theorem zKs:∀(xs:List V) (i:Nat),nth xs i=xs.getD i .bot
 |[],i=>rfl
 |x::r,0=>rfl
 |x::r,i+1=>by simp only[nth];rw[zKs r i];rfl
def ldS(P:Program)(hp:Heap)(T:TypeId):V→Option Stp
 | .ptr id n i o=>match hp id with
  |some ob=>(zCt P T (nth ob.xs i) o).map fun v=>⟨⟨v,[],[id]⟩,n=ob.xs.length∧i<ob.xs.length⟩
  |none=>none
 | .tptr e xs i o=>(zCt P T (nth xs i) o).map fun v=>⟨⟨v,[],[]⟩,i<xs.length∧0<e⟩
 |_=>none
def stS(P:Program)(hp:Heap)(T:TypeId)(p v:V):Option Stp:=
 match p with
 | .ptr id n i o=>match hp id with
  |some ob=>(zSu (nth ob.xs i) o v).map fun x=>⟨⟨.tup [],[(id,{ ob with xs:=ob.xs.set i x })],[id]⟩,n=ob.xs.length∧i<ob.xs.length∧zKb v=P.cellsOf T∧ob.k≠ .ro⟩
  |none=>none
 |_=>none
def cmpV(op:BinOp)(a b:Int):Option V:=
 match op with
 | .eql=>some (.bool (a == b))
 | .neq=>some (.bool (a != b))
 | .lss=>some (.bool (a<b))
 | .leq=>some (.bool (a≤b))
 | .gtr=>some (.bool (a>b))
 | .geq=>some (.bool (a≥b))
 |_=>none
def zDk(op:BinOp)(k:IntKind)(x y:Int):Option V:=
 match op with
 | .and=>some (.int k (k.wrap (BitVec.ofInt k.bits x &&& BitVec.ofInt k.bits y).toNat))
 | .or=>some (.int k (k.wrap (BitVec.ofInt k.bits x ||| BitVec.ofInt k.bits y).toNat))
 | .xor=>some (.int k (k.wrap (BitVec.ofInt k.bits x ^^^ BitVec.ofInt k.bits y).toNat))
 | .andNot=>some (.int k (k.wrap (BitVec.ofInt k.bits x &&& ~~~ BitVec.ofInt k.bits y).toNat))
 |_=>none
def zCg:List Nat→List V→List V→Option Bool
 |[],[],[]=>some true
 |1::ts,.int k a::r,.int k' b::r'=>if k=k' then(zCg ts r r').map fun t=>(a == b)&&t else none
 |0::ts,.bool a::r,.bool b::r'=>(zCg ts r r').map fun t=>(a == b)&&t
 |2::ts,.str a::r,.str b::r'=>(zCg ts r r').map fun t=>(a.toList == b.toList)&&t
 |_,_,_=>none
def zWt(P:Program):Nat→List Field→Option (List Nat)
 |_,[]=>some []
 | k, f :: fs => if f.name ≠ "_" ∧ f.offset = k then
   (match P.underlying f.type,zWt P (k+1) fs with
    |some .bool,some l=>some (0::l)
    |some (.int _),some l=>some (1::l)
    |some .string,some l=>some (2::l)
    |_,_=>none)else none
def zZf(P:Program)(T:TypeId):Option (List Nat):=
 match P.underlying T with
  |some (.struct fs)=>if P.stoodInHeld T=false∧P.eqGuardType P.depth T=false then zWt P 0 fs.toList else none
  |_=>none
def strV(op:BinOp)(a b:ByteArray):Option Stp:=
 match op with
 | .add=>zCv (.str (a++b)) (a.size+b.size≤140737488355328)
 | .eql=>just (.bool (a.toList == b.toList))
 | .neq=>just (.bool (!(a.toList == b.toList)))
 | .lss=>just (.bool (Op.bytesLess a.toList b.toList))
 | .leq=>just (.bool (Op.bytesLess a.toList b.toList||a.toList == b.toList))
 | .gtr=>just (.bool (!(Op.bytesLess a.toList b.toList||a.toList == b.toList)))
 | .geq=>just (.bool (!(Op.bytesLess a.toList b.toList)))
 |_=>none
def xKy(P:Program)(T:TypeId):Bool:=
 match P.underlying T with
  |some (.array 2 e)=>(match P.underlying e with|some (.int _)=>decide (P.cellsOf e=1∧P.eqGuardType P.depth T=false)|_=>false)
  |_=>false
def eq2(P:Program)(T:TypeId):List V→List V→Option Bool
 |[.int k a,.int j b],[.int k' a',.int j' b']=>if xKy P T=true∧k=k'∧j=j' then some (a == a'&&b == b')else none
 |_,_=>none
def xKf(P:Program)(T:TypeId)(xs ys:List V):Option Bool:=
 match (zZf P T).bind fun l=>zCg l xs ys with
 |some b=>some b
 |none=>eq2 P T xs ys
def nilB(op:BinOp)(r t:Bool):Option Stp:=
 match r,op with
 |true,.eql=>just (.bool t)
 |true,.neq=>just (.bool (!t))
 |_,_=>none
def binS(P:Program)(op:BinOp)(T:TypeId):V→V→Option Stp
 | .int k a,.int k' b=>
  match op with
  | .shl=>zCv (.int k (k.wrap (a*2 ^ (min b.toNat k.bits)))) (0≤b)
  | .shr=>zCv (.int k (a.fdiv (2 ^ (min b.toNat k.bits)))) (0≤b)
  | .add=>zCv (.int k (k.wrap (a+b))) (k=k')
  | .sub=>zCv (.int k (k.wrap (a-b))) (k=k')
  | .mul=>zCv (.int k (k.wrap (a*b))) (k=k')
  | .quo=>zCv (.int k (k.wrap (a.tdiv b))) (k=k'∧b≠0)
  | .rem=>zCv (.int k (a.tmod b)) (k=k'∧b≠0)
  | .and | .or | .xor | .andNot=>(zDk op k a b).map fun v=>⟨⟨v,[],[]⟩,k=k'⟩
  |_=>(cmpV op a b).map fun v=>⟨⟨v,[],[]⟩,k=k'⟩
 | .str a,.str b=>strV op a b
 | .bool a,.bool b=>match op,P.underlying T with
  | .eql,some .bool=>just (.bool (a == b))
  | .neq,some .bool=>just (.bool (!(a == b)))
  |_,_=>none
 | .nilS,.nilS=>nilB op (zAu P T).isSome true
 | .nl,.nilS=>nilB op (zAu P T).isSome true
 | .sn _ _,.nilS=>nilB op (zAu P T).isSome false
 | .nilP,.nilP=>nilB op (ptrT P T) true
 | .ptr _ _ _ _,.nilP=>nilB op (ptrT P T) false
 | .agg xs,.agg ys=>match op,xKf P T xs ys with
  | .eql,some b=>just (.bool b)
  | .neq,some b=>just (.bool (!b))
  |_,_=>none
 |_,_=>none
def unS(op:UnOp):V→Option Stp
 | .int k a=>match op with
  | .neg=>just (.int k (k.wrap (0-a)))
  | .xor=>(zDk .xor k (if k.signed then -1 else k.max) a).map fun v=>⟨⟨v,[],[]⟩,True⟩
  |_=>none
 | .bool b=>match op with
  | .not=>just (.bool (!b))
  |_=>none
 |_=>none
def lenV(hp:Heap):V→Option Stp
 | .nilS=>just (.int .i64 0)
 | .sl _ xs=>just (.int .i64 xs.length)
 | .str s=>zCv (.int .i64 s.size) (s.size≤140737488355328)
 | .obj id n=>match hp id with
  |some ob=>some ⟨⟨.int .i64 n,[],[id]⟩,n=ob.xs.length⟩
  |none=>none
 | .mp id=>match hp id with
  |some ob=>some ⟨⟨.int .i64 ob.xs.length,[],[id]⟩,True⟩
  |none=>none
 |_=>none
def idxS(P:Program)(hp:Heap)(T:TypeId)(x i:V):Option Stp:=
 match i with
 | .int _ j=>match zAu P T with
  |some E=>match x with
   | .sl e xs=>zCv (.tptr e xs j.toNat 0) (e=P.cellsOf E∧0≤j∧j<xs.length∧0<e)
   | .obj id n=>match hp id with
    |some ob=>some ⟨⟨.ptr id n j.toNat 0,[],[id]⟩,n=ob.xs.length∧ob.k≠ .box∧ob.e=P.cellsOf E∧0≤j∧j<n⟩
    |none=>none
   |_=>none
  |none=>match zIf P T with
   |some (n,E)=>match x with
    | .tptr e xs i' o=>zCv (.tptr e xs i' (o+j.toNat*P.cellsOf E)) (0<P.cellsOf E∧0≤j∧j<n)
    | .ptr id m i' o=>match hp id with
     |some ob=>some ⟨⟨.ptr id m i' (o+j.toNat*P.cellsOf E),[],[id]⟩,m=ob.xs.length∧0<P.cellsOf E∧0≤j∧j<n⟩
     |none=>none
    |_=>none
   |none=>none
 |_=>none
def keyB:V→V→Option Bool
 | .int k a,.int k' b=>if k=k' then some (a == b)else none
 | .agg [.int k a,.int j b],.agg [.int k' a',.int j' b']=>if k=k'∧j=j' then some (a == a'&&b == b')else none
 |_,_=>none
def yMz(key:V):List V→Option (Option V)
 |[]=>some none
 | .tup [k,v]::r=>match keyB key k with
  |some true=>some (some v)
  |some false=>yMz key r
  |none=>none
 |_=>none
def xPa(z key:V)(xs:List V):Option V:=(yMz key xs).map fun v=>v.getD z
def mput(key v:V):List V→Option (List V)
 |[]=>some [.tup [key,v]]
 | .tup [k,x]::r=>match keyB key k with
  |some true=>some (.tup [key,v]::r)
  |some false=>(mput key v r).map fun l=> .tup [k,x]::l
  |none=>none
 |_=>none
def zRp(P:Program)(T:TypeId):Option (Bool × TypeId × TypeId):=
 match P.underlying T with
 |some (.map K E)=>match P.underlying K with
  |some (.int _)=>some (false,K,E)
  |some (.array 2 e)=>match P.underlying e with
   |some (.int _)=>if P.cellsOf e=1 then some (true,K,E)else none
   |_=>none
  |_=>none
 |_=>none
def keyF:Bool→V→Bool
 |false,.int _ _=>true
 |true,.agg [.int _ _,.int _ _]=>true
 |_,_=>false
def xDw(P:Program)(hp:Heap)(T:TypeId)(x i:V):Option Stp:=
 match x with
 | .mp id=>match hp id with
  |some ob=>match zRp P T with
   |some (b,_,E)=>(zBw P E).bind fun z=>(xPa z i ob.xs).map fun v=>⟨⟨v,[],[id]⟩,keyF b i=true⟩
   |none=>none
  |none=>none
 |_=>none
def xDr(P:Program)(hp:Heap)(T:TypeId)(x i v:V):Option Stp:=
 match x with
 | .mp id=>match hp id with
  |some ob=>match zRp P T with
   |some (b,_,_)=>match v with
    | .opt _ _=>none
    |v=>(mput i v ob.xs).map fun ys=>⟨⟨.tup [],[(id,{ ob with xs:=ys })],[id]⟩,keyF b i=true∧ob.xs.length+1≤140737488355328⟩
   |none=>none
  |none=>none
 |_=>none
def bnd(d:Int):Option V→Option Int
 |none=>some d
 |some (.int _ j)=>some j
 |_=>none
def yIb(P:Program)(hp:Heap)(T:TypeId)(x:V)(lo hi:Option V):Option Stp:=
 match x with
 | .str s=>match bnd 0 lo,bnd s.size hi with
  |some l,some h=>zCv (.str (s.extract l.toNat h.toNat)) (P.underlying T=some .string∧0≤l∧l≤h∧h≤s.size)
  |_,_=>none
 | .sl e xs=>match zAu P T,bnd 0 lo,bnd xs.length hi with
  |some E,some l,some h=>zCv (.sl e ((xs.take h.toNat).drop l.toNat)) (e=P.cellsOf E∧0<e∧0≤l∧l≤h∧h≤xs.length)
  |_,_,_=>none
 | .nilS=>match zAu P T,bnd 0 lo,bnd ((0:Nat):Int) hi with
  |some E,some l,some h=>zCv .nilS (0<P.cellsOf E∧l=0∧h=0)
  |_,_,_=>none
 | .ptr id n i o=>match hp id with
  |some ob=>match zIf P T with
   |some (na,E)=>match bnd 0 lo,bnd na hi with
    |some l,some h=>some ⟨⟨.win id n i (o+l.toNat) (h.toNat-l.toNat),[],[id]⟩,n=ob.xs.length∧P.cellsOf E=1∧0≤l∧l<na∧l≤h∧h≤na∧na≤140737488355328⟩
    |_,_=>none
   |none=>none
  |none=>none
 | .obj id n=>match hp id with
  |some ob=>match zAu P T,bnd 0 lo,bnd ob.xs.length hi with
   |some E,some l,some h=>match ob.k with
    | .arr=>some ⟨⟨.win id n l.toNat 0 (h.toNat-l.toNat),[],[id]⟩,n=ob.xs.length∧ob.k≠ .map∧ob.e=P.cellsOf E∧0<ob.e∧0≤l∧l<n∧l≤h∧h≤n⟩
    |_=>some ⟨⟨.sl ob.e ((ob.xs.take h.toNat).drop l.toNat),[],[id]⟩,n=ob.xs.length∧ob.k= .ro∧ob.e=P.cellsOf E∧0<ob.e∧0≤l∧l≤h∧h≤ob.xs.length⟩
   |_,_,_=>none
  |none=>none
 | .win id n i o k=>match hp id with
  |some ob=>match zAu P T,bnd 0 lo,bnd k hi with
   |some E,some l,some h=>some ⟨⟨.win id n (i+l.toNat) o (h.toNat-l.toNat),[],[id]⟩,n=ob.xs.length∧ob.k= .arr∧ob.e=P.cellsOf E∧0<ob.e∧0≤l∧l<k∧l≤h∧h≤k⟩
   |_,_,_=>none
  |none=>none
 |_=>none
def zRk(hp:Heap)(e:Nat):V→Option (List V × List Nat × Prop)
 | .nilS=>some ([],[],True)
 | .nl=>some ([],[],True)
 | .sl e' ys=>some (ys,[],e'=e)
 | .sn e' ys=>some (ys,[],e'=e)
 | .obj id n=>match hp id with
  |some ob=>some (ob.xs,[id],n=ob.xs.length∧e=ob.e)
  |none=>none
 | .win id n i o k=>match hp id with
  |some ob=>some ((ob.xs.drop i).take k,[id],n=ob.xs.length∧e=ob.e∧ob.k= .arr∧o=0∧i+k≤n)
  |none=>none
 |_=>none
def zRd:List V→Option (List UInt8)
 |[]=>some []
 | .int .u8 n::r=>(zRd r).map (UInt8.ofNat n.toNat::·)
 |_=>none
def strS(P:Program)(hp:Heap)(E:TypeId)(v:V):Option Stp:=
 match P.underlying E,zRk hp 1 v with
 |some (.int .u8),some (xs,rd,p)=>(zRd xs).map fun l=>⟨⟨.str ⟨l.toArray⟩,[],rd⟩,p⟩
 |_,_=>none
def scs:List V→Bool
 |[]=>true
 |x::r=>x.sc&&scs r
def yYx(P:Program)(hp:Heap)(T:TypeId)(d x:V):Option Stp:=
 match zAu P T with
 |none=>none
 |some E=>match d with
  | .win id n i o k=>match hp id with
   |some ob=>match ob.k with
    | .arr=>(match zRk hp (P.cellsOf E) x with
     |some (ys,rd,p)=>some ⟨⟨.int .i64 (min k ys.length:Nat),[(id,{ ob with xs:=ob.xs.take i++ys.take (min k ys.length)++ob.xs.drop (i+min k ys.length) })],id::rd⟩,
       p∧0<P.cellsOf E∧ob.e=P.cellsOf E∧n=ob.xs.length∧o=0∧i+k≤n∧ob.k= .arr⟩
     |none=>none)
    |_=>(match zRk hp 1 x with
     |some (ys,rd,p)=>(match nth ob.xs i with
      | .agg cs=>some ⟨⟨.int .i64 (min k ys.length:Nat),[(id,{ ob with xs:=ob.xs.set i (.agg (cs.take o++ys.take (min k ys.length)++cs.drop (o+min k ys.length))) })],id::rd⟩,
        p∧P.cellsOf E=1∧n=ob.xs.length∧i<ob.xs.length∧o+k≤cs.length∧ob.k≠ .ro∧scs ys=true⟩
      |_=>none)
     |none=>none)
   |none=>none
  | .obj id n=>match hp id,zRk hp (P.cellsOf E) x with
   |some ob,some (ys,rd,p)=>some ⟨⟨.int .i64 (min n ys.length:Nat),[(id,{ ob with xs:=ys.take (min n ys.length)++ob.xs.drop (min n ys.length) })],id::rd⟩,
      p∧0<P.cellsOf E∧ob.e=P.cellsOf E∧n=ob.xs.length∧0<n∧ob.k= .arr⟩
   |_,_=>none
  |_=>none
def appS(P:Program)(hp:Heap)(fid:Nat)(T:TypeId)(s x:V):Option Stp:=
 match zAu P T with
 |none=>none
 |some E=>match zBw P E,zRk hp (P.cellsOf E) x with
  |some z,some (ys,rd,p)=>match s with
   | .nilS=>some ⟨⟨.obj fid ys.length,[(fid,⟨.arr,E,P.cellsOf E,ys⟩)],rd⟩,
     p∧0<P.cellsOf E∧zKb z=P.cellsOf E∧(z.sc=true∨z.cl.isSome=true)∧ys.length*P.bytesOf E≤140737488355328∧ys.length≤140737488355328⟩
   | .obj id n=>match hp id with
    |some ob=>some ⟨⟨.obj id (n+ys.length),[(id,{ ob with xs:=ob.xs++ys })],id::rd⟩,
      p∧0<P.cellsOf E∧zKb z=P.cellsOf E∧(z.sc=true∨z.cl.isSome=true)∧n=ob.xs.length∧ob.k= .arr∧ob.T=E∧ob.e=P.cellsOf E∧(n+ys.length)*P.bytesOf E≤140737488355328∧n+ys.length≤140737488355328⟩
    |none=>none
   |_=>none
  |_,_=>none
def zRo(t:Bool)(x y:V):Option Stp:=
 match x,y with
 | .bool x,.bool y=>just (.bool (if t then x else y))
 | .bool x,.opt g (.bool y)=>zCv (.bool (if t then x else y)) (t=false→g=true)
 | .opt g (.bool x),.bool y=>zCv (.bool (if t then x else y)) (t=true→g=true)
 | .bool x,.tup []=>zCv (.bool x) (t=true)
 | .tup [],.bool y=>zCv (.bool y) (t=false)
 |_,_=>none
def minV(big:Bool):List V→Option V
 |[]=>none
 |[.int k a]=>some (.int k a)
 | .int k a:: .int k' b::r=>if k=k' then minV big (.int k (if big then(if b>a then b else a)else(if b<a then b else a))::r)else none
 |_=>none
termination_by l=>l.length
def yKc(v:V):List V:=match v.cl with|some cs=>cs|none=>[v]
def yNy(places:Nat→Option (Nat × Nat))(cells:List V):List (Nat × V)→Option (List V)
 |[]=>some cells
 |(i,v)::rest=>match places i with
  |none=>none
  |some (off,size)=>
   if(v.cl.isSome=true∨v.sc=true)∧zKb v=size∧off+size≤cells.length then yNy places (cells.take off++yKc v++cells.drop (off+size)) rest else none
def plF(P:Program)(T:TypeId):Option (Nat→Option (Nat × Nat)):=
 match P.underlying T with
 |some (.array _ e)=>(P.info? e).map fun ie=>fun i=>some (i*ie.size,ie.size)
 |some (.struct fs)=>(fs.toList.mapM fun f=>(P.info? f.type).map fun i=>(f.offset,i.size)).map fun pl=>fun i=>pl.toArray[i]?
 |_=>none
def yKe(P:Program)(T:TypeId)(zIw:List (Nat × V)):Option Stp:=
 match plF P T,zBw P T with
 |some pl,some (.agg z)=>(yNy pl z zIw).map fun cs=>⟨⟨.agg cs,[],[]⟩,True⟩
 |_,_=>none
def zOz(e:Nat)(xs:List V):List (Nat × V)→Option (List V)
 |[]=>some xs
 |(i,v)::rest=>if(v.cl.isSome=true∨v.sc=true)∧zKb v=e∧i<xs.length then zOz e (xs.set i v) rest else none
def bslS(P:Program)(fid:Nat)(T:TypeId)(len:Nat)(zIw:List (Nat × V)):Option Stp:=
 match zAu P T with
 |none=>none
 |some E=>match zBw P E with
  |none=>none
  |some z=>(zOz (P.cellsOf E) (List.replicate len z) zIw).map fun xs=>
    ⟨⟨.obj fid len,[(fid,⟨.arr,E,P.cellsOf E,xs⟩)],[]⟩,0<P.cellsOf E∧zKb z=P.cellsOf E∧(z.sc=true∨z.cl.isSome=true)∧len*P.cellsOf E≤16777216⟩
def ySq(P:Program)(fid:Nat)(T:TypeId)(l c:V):Option Stp:=
 match zAu P T with
 |none=>none
 |some E=>match zBw P E,l,c with
  |some z,.int _ n,.int _ m=>some ⟨⟨.obj fid n.toNat,[(fid,⟨.arr,E,P.cellsOf E,List.replicate n.toNat z⟩)],[]⟩,
    0<P.cellsOf E∧zKb z=P.cellsOf E∧(z.sc=true∨z.cl.isSome=true)∧0≤n∧n≤m∧m≤140737488355328∧P.bytesOf E*m≤140737488355328⟩
  |_,_,_=>none
end Go.AM
set_option linter.unusedSimpArgs false
set_option linter.unusedVariables false
namespace Go.AM
open Go.RowKit
theorem yDr{c:Ctx}{x:V}{v:Value}(h:RV c x v)(hx:x.sc=true):v.oneCell'=true:=by
 cases x<;>simp only[V.sc,Bool.false_eq_true]at hx<;>simp only[RV]at h
 case bool=>subst h;rfl
 case int=>rw[h.1];rfl
 case str=>subst h;rfl
 case nilS=>subst h;rfl
 case sl=>obtain⟨a,cap,us,rfl,_⟩:=h;rfl
 case nl=>obtain⟨cap,rfl⟩:=h;rfl
 case sn=>obtain⟨⟨a,n,m,rfl⟩,_⟩:=h;rfl
 case win=>obtain⟨⟨a,m,cap,rfl⟩,_⟩:=h;rfl
 case nilP=>subst h;rfl
 case func=>obtain⟨f,c1,rfl,_⟩:=h;rfl
 case nilF=>subst h;rfl
 case tptr=>obtain⟨b,off,us,_,_,_,_,_,rfl⟩:=h;rfl
 case obj=>obtain⟨⟨a,m,cap,rfl⟩,_⟩:=h;rfl
 case mp=>obtain⟨⟨r,rfl⟩,_⟩:=h;rfl
 case ptr=>obtain⟨⟨b,k,rfl⟩,_⟩:=h;rfl
theorem zEs{v:Value}(h:v.oneCell'=true):v.cells= #[v]:=by cases v<;>simp_all [Value.oneCell',Value.cells]
theorem cl_eq{x:V}{cs:List V}(h:x.cl=some cs):x= .agg cs:=by cases x<;>simp_all [V.cl]
theorem yPc{c:Ctx}{x:V}{cs:List V}{v:Value}(hx:x.cl=some cs)(h:RV c x v):∃cv,v= .agg cv∧RVl c cs cv.toList∧∀u∈cv.toList,u.oneCell'=true:=by
 rw[cl_eq hx]at h
 simpa only[RV] using h
theorem zNp{c:Ctx}{x:V}{v:Value}(h:RV c x v)(hx:x.sc=true∨x.cl.isSome=true):v.cells.size=zKb x:=by
 cases hc:x.cl with
 |some cs=>
  obtain⟨cv,rfl,h1,_⟩:=yPc hc h;simp only[Value.cells,zKb,hc];have:=zAp h1;simpa using this
 |none=>
  simp only[zKb,hc];rcases hx with hx|hx
  ·rw[zEs (yDr h hx)];rfl
  ·simp[hc]at hx
mutual
theorem zLi{c:Ctx}:∀(x:V) (v:Value),RV { c with data:=true } x v→RV { c with data:=false } x v
 | .bot,v,h=>by simp[RV]at h
 | .bool b,v,h=>by simpa only[RV] using h
 | .int k n,v,h=>by simpa only[RV] using h
 | .str s,v,h=>by simpa only[RV] using h
 | .nilS,v,h=>by simpa only[RV] using h
 | .sl e xs,v,h=>by simpa only[RV] using h
 | .nl,v,h=>by simpa only[RV] using h
 | .sn e xs,v,h=>by simpa only[RV] using h
 | .win id n i o k,v,h=>by simp[RV]at h
 | .obj id n,v,h=>by simp[RV]at h
 | .ptr id n i o,v,h=>by simp[RV]at h
 | .mp id,v,h=>by simp[RV]at h
 | .tptr e xs i o,v,h=>by simpa only[RV] using h
 | .nilP,v,h=>by simpa only[RV] using h
 | .func fn f cs,v,h=>by
  simp only[RV]at h ⊢;obtain⟨f1,c1,hv,h1,h2⟩:=h;exact⟨f1,c1,hv,zGe _ _ h1,zGe _ _ h2⟩
 | .nilF,v,h=>by simpa only[RV] using h
 | .agg cs,v,h=>by
  simp only[RV]at h ⊢;obtain⟨cv,hv,h1,h2⟩:=h;exact⟨cv,hv,zGe _ _ h1,h2⟩
 | .tup vs,v,h=>by
  simp only[RV]at h ⊢;obtain⟨cv,hv,h1⟩:=h;exact⟨cv,hv,zGe _ _ h1⟩
 | .opt g x,v,h=>by simp[RV]at h
theorem zGe{c:Ctx}:∀(xs:List V) (us:List Value),RVl { c with data:=true } xs us→RVl { c with data:=false } xs us
 |[],us,h=>by simpa only[RVl] using h
 |x::xs,us,h=>by
  simp only[RVl]at h ⊢;obtain⟨u,r,hu,h1,h2⟩:=h;exact⟨u,r,hu,zLi x u h1,zGe xs r h2⟩
end
theorem zFk(u:Value)(us:List Value):flat (u::us)=u.cells.toList++flat us:=by simp[flat]
theorem zCz(us vs:List Value):flat (us++vs)=flat us++flat vs:=by simp[flat]
theorem zEq:∀ {us:List Value},(∀x∈us,x.oneCell'=true)→flat us=us
 |[],_=>rfl
 |u::us,h=>by
  rw[zFk,zEs (h u (by simp)),zEq fun x hx=>h x (by simp[hx])]
  rfl
theorem zBi{e:Nat}:∀ {us:List Value},(∀u∈us,u.cells.size=e)→(flat us).length=us.length*e
 |[],_=>by simp[flat]
 |u::us,h=>by
  rw[zFk,List.length_append,zBi (fun v hv=>h v (by simp[hv]))]
  have:=h u (by simp)
  simp[this,Nat.add_mul,Nat.add_comm]
theorem zOv{e:Nat}:∀ {us:List Value},(∀u∈us,u.cells.size=e)→∀(i:Nat) (u:Value),us[i]?=some u→∀j,j<e→(flat us)[i*e+j]?=u.cells[j]?
 |[],_,i,u,h,_,_=>by simp at h
 |v::us,h,0,u,hu,j,hj=>by
  simp at hu;subst hu;rw[zFk,Nat.zero_mul,Nat.zero_add,List.getElem?_append_left (by have:=h v (by simp);simp[this,hj])]
  simp
 |v::us,h,i+1,u,hu,j,hj=>by
  have h0:=h v (by simp)
  rw[zFk,List.getElem?_append_right (by simp[h0,Nat.add_mul];omega)]
  simp only[List.getElem?_cons_succ]at hu;have:=zOv (fun x hx=>h x (by simp[hx])) i u hu j hj
  rw[← this]
  congr 1
  simp[h0,Nat.add_mul];omega
theorem zLw{e:Nat}:∀ {us:List Value},(∀u∈us,u.cells.size=e)→∀(i:Nat) (u v:Value),us[i]?=some u→v.cells.size=e →
  flat (us.set i v)=(flat us).take (i*e)++v.cells.toList++(flat us).drop (i*e+e)
 |[],_,i,u,v,h,_=>by simp at h
 |x::us,h,0,u,v,hu,hv=>by
  have h0:=h x (by simp)
  simp only[List.set_cons_zero,zFk,Nat.zero_mul,List.take_zero,List.nil_append,Nat.zero_add];rw[List.drop_append_of_le_length (by simp[h0])]
  simp[List.drop_of_length_le,h0]
 |x::us,h,i+1,u,v,hu,hv=>by
  have h0:=h x (by simp)
  simp only[List.getElem?_cons_succ]at hu;have ih:=zLw (fun y hy=>h y (by simp[hy])) i u v hu hv
  have hx:x.cells.toList.length=e:=by simpa using h0
  have t1:(x.cells.toList++flat us).take ((i+1)*e)=x.cells.toList++(flat us).take (i*e):=by
   rw[show (i+1)*e=x.cells.toList.length+i*e by rw[hx,Nat.add_mul];omega]
   rw[List.take_append,List.take_of_length_le (by omega),Nat.add_sub_cancel_left]
  have t2:(x.cells.toList++flat us).drop ((i+1)*e+e)=(flat us).drop (i*e+e):=by
   rw[show (i+1)*e+e=x.cells.toList.length+(i*e+e) by rw[hx,Nat.add_mul];omega]
   rw[List.drop_append,List.drop_of_length_le (by omega),Nat.add_sub_cancel_left,List.nil_append]
  simp only[List.set_cons_succ,zFk,ih,t1,t2,List.append_assoc]
theorem zGi{P:Program}{T:TypeId}{b:Bool}(h:zAn P T=some b)(w:World):(isAgg T).run P w= .ok b w:=by
 unfold zAn at h
 cases hu:P.underlying T with
 |none=>simp[hu]at h
 |some d=>
  simp only[hu,Option.map_some,Option.some.injEq]at h;unfold isAgg;rw[Sem.run_bind,run_underlying hu w];subst h;cases d<;>simp
theorem zBd{P:Program}{T:TypeId}(h:0<P.cellsOf T)(w:World):(sizeOf T).run P w= .ok (P.cellsOf T) w:=by
 unfold Program.cellsOf at *
 cases hi:P.info? T with
 |none=>simp[hi]at h
 |some i=>simp[sizeOf,typeInfo,hi]
theorem zYx{P:Program}{T:TypeId}(h:0<P.cellsOf T):(P.info? T).map (·.size)=some (P.cellsOf T):=by
 unfold Program.cellsOf at *
 cases hi:P.info? T with
 |none=>simp[hi]at h
 |some i=>simp
theorem zLr{P:Program}{c:Ctx}{T:TypeId}{b off e i o:Nat}{us:List Value}{u:Value}{x y:V}(hsz:∀u∈us,u.cells.size=e)(hr:c.w.rangeAt b off (flat us))
  (hu:us[i]?=some u) (hx:RV c x u) (hp:zCt P T x o=some y) (hpos:0<e) (hc:0<P.cellsOf T) :
  ∃v,(loadVar T ⟨b,off+(i*e+o),none⟩).run P c.w= .ok v c.w∧RV c y v:=by
 have hue:u.cells.size=e:=hsz u (List.mem_of_getElem? hu)
 have cellAt:∀j v,u.cells[j]?=some v→c.w.cell? ⟨b,off+(i*e+j),none⟩=some v:=fun j v hv=>by
  have hj:j<e:=by rw[← hue];exact(Array.getElem?_eq_some_iff.1 hv).1
  exact hr _ _ (by rw[zOv hsz i u hu j hj];exact hv)
 unfold zCt at hp
 cases hrow:zAn P T with
 |none=>simp[hrow]at hp
 |some r=>
  have hra:=zGi (P:=P) hrow c.w;cases hcl:x.cl with
  |none=>
   cases r with
   |true=>simp[hrow,hcl]at hp
   |false=>
    simp only[hrow,hcl]at hp;split at hp
    ·rename_i ho;subst ho;have hy:y=x:=by
      cases x<;>simp_all [V.cl]
     subst hy;have h1:(loadVar T ⟨b,off+(i*e+0),none⟩).run P c.w=(load ⟨b,off+(i*e+0),none⟩).run P c.w:=by
      simp[loadVar,hra]
     rw[h1];by_cases hb:y= .bot
     ·subst hb;have h0:0<u.cells.size:=by omega
      have:=cellAt 0 _ (Array.getElem?_eq_getElem h0);refine⟨_,by rw[run_load,this],?_⟩
      simp only[RV]at hx ⊢;exact hx
     ·have hsc:y.sc=true:=by cases y<;>simp_all [V.sc,V.cl]
      have hone:=yDr hx hsc;have:=cellAt 0 u (by rw[zEs hone];rfl)
      exact⟨u,by rw[run_load,this],hx⟩
    ·cases hp
  |some cs=>
   obtain⟨cv,rfl,h1,h2⟩:=yPc hcl hx;have hl:=zAp h1;simp only[Value.cells]at hue cellAt;cases r with
   |false=>
    simp only[hrow,hcl]at hp;obtain⟨v,hv,hy⟩:=zDa h1 o y hp;have:=cellAt o v (by simpa using hv)
    exact⟨v,by simp[loadVar,hra,run_load,this],hy⟩
   |true=>
    simp only[hrow,hcl]at hp;have key:∀n,o+n≤cs.length→n=P.cellsOf T→(loadVar T ⟨b,off+(i*e+o),none⟩).run P c.w= .ok (.agg ((cv.toList.drop o).take n).toArray) c.w:=fun n hn hnT=>by
     have hlen:((cv.toList.drop o).take n).length=n:=by simp at hl ⊢;omega
     have hl2:(loadCells ⟨b,off+(i*e+o),none⟩ ((cv.toList.drop o).take n).length).run P c.w= .ok ((cv.toList.drop o).take n).toArray c.w:=
      run_loadCells_list (P:=P) c.w _ _ (fun j v hv=>by
       rw[Addr.add_mid];have hjn:j<n:=by
        have:=(List.getElem?_eq_some_iff.1 hv).1;omega
       rw[List.getElem?_take,if_pos hjn,List.getElem?_drop]at hv;have:=cellAt (o+j) v (by simpa using hv)
       rwa [show off+(i*e+(o+j))=off+(i*e+o)+j by omega]at this)
     rw[hlen]at hl2;simp[loadVar,hra,zBd hc,← hnT,hl2]
    split at hp
    ·rename_i hw;obtain⟨rfl,hw⟩:=hw;cases hp
     refine⟨_,key _ (by omega) rfl,?_⟩
     have:((cv.toList.drop 0).take (P.cellsOf T)).toArray=cv:=by
      rw[List.drop_zero,List.take_of_length_le (by simp at hl ⊢;omega)]
     rw[this];exact hx
    ·split at hp
     ·rename_i hw;cases hp
      refine⟨_,key _ hw rfl,?_⟩;simp only[RV];exact⟨_,rfl,zEf _ (zFp _ h1),fun v hv=>h2 v (List.mem_of_mem_drop (List.mem_of_mem_take hv))⟩
     ·cases hp
end Go.AM
set_option linter.unusedSimpArgs false
set_option linter.unusedVariables false
namespace Go.AM
open Go.RowKit
def FSt.ev(s:FSt):Operand→V
 | .tmp t=>s.sl t
 | .const v=>cst v
 | .global g=>match s.gl g with|some p=> .tptr p.1 p.2 0 0|none=> .bot
 | .func f=> .func (.func f) [] []
def zOq(P:Program)(ρ:Operand→V)(hp:Heap)(fid:Nat)(o:Oper):Option Stp:=
 match o.op with
 | .move x | .assign x=>match ρ x with | .opt _ _=>none|v=>just v
 | .pick c a b=>match ρ c with
  | .bool t=>zRo t (ρ a) (ρ b)
  |_=>none
 | .alloc T=>(zBw P T).bind fun z=>some ⟨⟨.ptr fid 1 0 0,[(fid,⟨.box,T,P.cellsOf T,[z]⟩)],[]⟩,zKb z=P.cellsOf T∧0<P.cellsOf T∧(z.sc=true∨z.cl.isSome=true)⟩
 | .box T x=>some ⟨⟨.ptr fid 1 0 0,[(fid,⟨.box,T,P.cellsOf T,[ρ x]⟩)],[]⟩,zKb (ρ x)=P.cellsOf T∧0<P.cellsOf T∧((ρ x).sc=true∨(ρ x).cl.isSome=true)⟩
 | .load T x=>(ldS P hp T (ρ x)).map fun t=>⟨t.e,t.side∧0<P.cellsOf T⟩
 | .store T p x=>(stS P hp T (ρ p) (ρ x)).map fun t=>⟨t.e,t.side∧0<P.cellsOf T⟩
 | .nilCheck x=>match ρ x with
  | .ptr id n i o=>just (.ptr id n i o)
  | .func (.func f) a b=>just (.func (.func f) a b)
  |_=>none
 | .binOp op T x y _=>binS P op T (ρ x) (ρ y)
 | .unOp op _ x=>unS op (ρ x)
 | .convert src dst x=>match P.underlying src,P.underlying dst,ρ x with
  |some (.int _),some (.int k),.int _ n=>just (.int k (k.wrap n))
  |some (.slice E),some .string,v=>strS P hp E v
  |_,_,_=>none
 | .makeFunc fn first caps=>just (.func fn (first.toList.map ρ) (caps.toList.map ρ))
 | .slice T x lo hi none=>yIb P hp T (ρ x) (lo.map ρ) (hi.map ρ)
 | .fieldAddr T x f=>match zAq P T f,ρ x with
  |some (off,ft),.ptr id n i o=>zCv (.ptr id n i (o+off)) (0<P.cellsOf ft)
  |some (off,ft),.tptr e xs i o=>zCv (.tptr e xs i (o+off)) (0<P.cellsOf ft)
  |_,_=>none
 | .field T x f=>match zAq P T f with
  |some (off,ft)=>match ρ x with
   | .agg cs=>(zCt P ft (.agg cs) off).map fun v=>⟨⟨v,[],[]⟩,0<P.cellsOf ft⟩
   |_=>none
  |none=>none
 | .build T ps=>yKe P T (ps.toList.map fun p=>(p.1,ρ p.2))
 | .buildSlice T len ps=>bslS P fid T len (ps.toList.map fun p=>(p.1,ρ p.2))
 | .makeSlice T l c=>ySq P fid T (ρ l) (ρ c)
 | .makeMap T none=>(zRp P T).map fun _=>⟨⟨.mp fid,[(fid,⟨.map,T,1,[]⟩)],[]⟩,True⟩
 | .lookup T x i false=>xDw P hp T (ρ x) (ρ i)
 | .mapUpdate T x i v=>xDr P hp T (ρ x) (ρ i) (ρ v)
 | .indexAddr T x i=>idxS P hp T (ρ x) (ρ i)
 | .extract x i=>match ρ x with
  | .tup vs=>(vs[i]?).bind just
  |_=>none
 | .index T x i=>match ρ x,ρ i with
  | .str st,.int _ n=>zCv (.int .u8 (zLe st n.toNat)) (P.underlying T=some .string∧0≤n∧n.toNat<st.size)
  | .agg cs,.int _ n=>match zIf P T with
   |some (na,E)=>match zAn P E,cs[n.toNat]? with
    |some false,some v=>zCv v (0≤n∧n<na∧P.cellsOf E=1)
    |_,_=>none
   |none=>none
  |_,_=>none
 | .call { callee:= .builtin b,args,argTypes }=>match b,args.toList.map ρ,argTypes.toList with
  | .len,[x],[T]=>(lenV hp x).map fun t=>⟨t.e,t.side∧(match x with | .str _=>P.underlying T=some .string | .mp _=>(zRp P T).isSome=true|_=>(zAu P T).isSome=true)⟩
  | .append,[s,x],[T,T']=>if T=T' then appS P hp fid T s x else none
  | .copy,[d,x],[T,T']=>if T=T' then yYx P hp T d x else none
  | .max,xs,_=>(minV true xs).bind just
  | .min,xs,_=>(minV false xs).bind just
  |_,_,_=>none
 |_=>none
def Done(P:Program)(E:zBf)(s:FSt)(a:Act)(w:World)(o:Oper)(e:Eff):Prop:=
 ∃r w' η',(execOp a.eval o).run P w= .ok r w'∧((∃v,r= .value v∧Rel E (s.app o.dst e) (a.put o.dst v) w' η')∨(r= .skip∧Rel E (s.app o.dst e) (a.put o.dst undef) w' η'))
theorem FSt.app_nil(s:FSt)(d:Option Tmp)(v:V)(rd:List Nat):s.app d ⟨v,[],rd⟩=s.put d v:=by
 have h1:=s.put_hp d v
 have h2:=s.put_kn d v
 unfold FSt.app
 simp only[zCy,Eff.ids,List.map_nil,List.not_mem_nil,false_or,← h1,← h2]
section
variable {P : Program} {E : zBf} {s : FSt} {a : Act} {w : World} {η : Nat → Value} {o : Oper}
theorem Done.val(hr:Rel E s a w η){x:V}{v:Value}{rd:List Nat}(hx:RV (s.ctx E w η) x v)(h:(execOp a.eval o).run P w= .ok (.value v) w):Done P E s a w o ⟨x,[],rd⟩:=
 ⟨_,w,η,h,.inl ⟨v,rfl,by rw[FSt.app_nil];exact hr.put o.dst hx⟩⟩
mutual
theorem zUn{c:Ctx}(hc:c.data=false):∀(v:Value),RV c (cst v) v
 | .bool b=>by simp[cst,RV]
 | .int k n=>by
  simp only[cst];split
  ·simp only[RV,true_and];assumption
  ·simp only[RV];exact hc
 | .string s=>by
  simp only[cst];split
  ·simp only[RV]
  ·simp only[RV];exact hc
 | .pointer none=>by simp[cst,RV]
 | .pointer (some _)=>by simpa[cst,RV] using hc
 | .slice none 0 0=>by simp[cst,RV]
 | .slice none 0 (n+1)=>by simpa[cst,RV] using hc
 | .slice none (n+1) m=>by simpa[cst,RV] using hc
 | .slice (some _) n m=>by simpa[cst,RV] using hc
 | .nilFunc=>by simp[cst,RV]
 | .agg ⟨cs⟩=>by
  simp only[cst];split
  ·rename_i h;simp only[RV];exact⟨⟨cs⟩,rfl,yYt hc cs (by simpa using h),by simpa using h⟩
  ·simp only[RV];exact hc
 | .float .. =>by simpa[cst,RV] using hc
 | .complex .. =>by simpa[cst,RV] using hc
 | .map _=>by simpa[cst,RV] using hc
 | .chan _=>by simpa[cst,RV] using hc
 | .func .. =>by simpa[cst,RV] using hc
 | .iface .. =>by simpa[cst,RV] using hc
 | .nilIface=>by simpa[cst,RV] using hc
 | .tuple .. =>by simpa[cst,RV] using hc
theorem yYt{c:Ctx}(hc:c.data=false):∀(cs:List Value),(∀u∈cs,u.oneCell'=true)→RVl c (csts cs) cs
 |[],_=>by simp[csts,RVl]
 |x::r,h=>by
  simp only[csts,RVl];exact⟨x,r,rfl,xSq hc x,yYt hc r (fun u hu=>h u (by simp[hu]))⟩
theorem xSq{c:Ctx}(hc:c.data=false):∀(v:Value),RV c (cst1 v) v
 | .bool b=>by simp[cst1,RV]
 | .int k n=>by
  simp only[cst1];split
  ·simp only[RV,true_and];assumption
  ·simp only[RV];exact hc
 | .string s=>by
  simp only[cst1];split
  ·simp only[RV]
  ·simp only[RV];exact hc
 | .pointer none=>by simp[cst1,RV]
 | .pointer (some _)=>by simpa[cst1,RV] using hc
 | .slice none 0 0=>by simp[cst1,RV]
 | .slice none 0 (n+1)=>by simpa[cst1,RV] using hc
 | .slice none (n+1) m=>by simpa[cst1,RV] using hc
 | .slice (some _) n m=>by simpa[cst1,RV] using hc
 | .nilFunc=>by simp[cst1,RV]
 | .agg _=>by simpa[cst1,RV] using hc
 | .float .. =>by simpa[cst1,RV] using hc
 | .complex .. =>by simpa[cst1,RV] using hc
 | .map _=>by simpa[cst1,RV] using hc
 | .chan _=>by simpa[cst1,RV] using hc
 | .func .. =>by simpa[cst1,RV] using hc
 | .iface .. =>by simpa[cst1,RV] using hc
 | .nilIface=>by simpa[cst1,RV] using hc
 | .tuple .. =>by simpa[cst1,RV] using hc
end
end
end Go.AM
