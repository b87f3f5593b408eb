/- An own row is cut to none: under a number of its own. A call that is deferred. -/
import Derived.Test.YtlgbdpabcbcmcaaGreatDoorLNAmEx
import Derived.Lib.AppendZerosOnto
set_option linter.unusedSimpArgs false
set_option linter.unusedVariables false
namespace Go.AM
open Go.RowKit
section
variable {P : Program} {E E2 : zBf} {r : Option Nat} {n : Nat}
def hdr0:Value→Value
 | .slice a _ c=> .slice a 0 c
 |v=>v
theorem Rel.cut{s:FSt}{a:Act}{w:World}{η:Nat→Value}(h:Rel E s a w η){id fid:Nat}{o:Obj}(ho:s.hp id=some o)(hk:o.k= .arr)(hnb:s.nb≤id)(hf:¬s.kn fid) :
  Rel E { s with hp:=fun i=>if i=fid then some { o with xs:=[] } else if i=id then none else s.hp i,kn:=fun i=>i=fid∨s.kn i } a w (fun i=>if i=fid then hdr0 (η id)else η i)∧∃ad cap,η id= .slice ad o.xs.length cap∧o.xs.length≤cap∧hdr0 (η id)= .slice ad 0 cap:=by
 obtain⟨hpos,hkn,hlen,us,r1,r2,r3,r4⟩:=zCu h ho (by rw[hk];simp)
 have hform:∃ad cap,η id= .slice ad o.xs.length cap∧o.xs.length≤cap∧hdr0 (η id)= .slice ad 0 cap∧w.ownsRow 0 o.T o.e (.slice ad 0 cap) 0 []∧∀b,blk (.slice ad 0 cap)=some b↔blk (η id)=some b:=by
  rcases r4.2 with ⟨h1,h2⟩|⟨g,cap,cur,h1,h2,h3,h4,h5,h6,h7⟩
  ·exact⟨none,0,by rw[h1,h2],by omega,by rw[h1];rfl,⟨by simp,.inl ⟨rfl,rfl⟩⟩,fun b=>by rw[h1]⟩
  ·exact⟨some ⟨g,0,none⟩,cap,h1,h4,by rw[h1];rfl,⟨by simp,.inr ⟨g,cap,cur,rfl,h2,h3,Nat.zero_le _,h5,h6,by simp⟩⟩,fun b=>by rw[h1];rfl⟩
 obtain⟨ad,cap,hη,hcap,hh0,how,hbl⟩:=hform
 refine⟨?_,ad,cap,hη,hcap,hh0⟩
 rw[hh0]
 have hne:id≠fid:=fun e=>hf (by rw[← e];exact hkn)
 have hown:∀b,Own (fun i=>if i=fid then some { o with xs:=[] } else if i=id then none else s.hp i) (fun i=>if i=fid then .slice ad 0 cap else η i) b→Own s.hp η b:=by
  rintro b ⟨i,o1,h1,h2,h3⟩
  by_cases hi:i=fid
  ·subst hi;simp only[if_true]at h1 h3;exact⟨id,o,ho,by rw[hk];simp,(hbl b).1 h3⟩
  ·simp only[hi,if_false]at h1 h3;by_cases hid:i=id
   ·simp[hid]at h1
   ·simp only[hid,if_false]at h1;exact⟨i,o1,h1,h2,h3⟩
 have K:zGy (s.ctx E w η) (FSt.ctx E { s with hp:=fun i=>if i=fid then some { o with xs:=[] } else if i=id then none else s.hp i,kn:=fun i=>i=fid∨s.kn i } w (fun i=>if i=fid then .slice ad 0 cap else η i)):=by
  refine⟨Nat.le_refl _,fun _ _ _ _=>rfl,fun b _ hb=>hb.imp (fun x=>x) (hown b),rfl,fun _ _ h=> .inr h,fun _ i hi=>?_⟩
  have hif:i≠fid:=fun e=>hf (by rw[← e];exact hi)
  unfold zMh;simp only[FSt.ctx,hif,if_false];by_cases hid:i=id
  ·subst hid;simp[ho]
  ·simp only[hid,if_false];cases s.hp i<;>simp
 refine⟨fun t=>zBg K _ _ (h.slots t),⟨fun i o1 h1=>?_,?_⟩,h.since,fun b hb=>h.fresh b (hown b hb),h.tmps,h.defers,⟨h.held.nb,fun i hi=>?_⟩,fun g p hp=>zBg K _ _ (h.glob g p hp),fun p hp=>zBg K.asData _ _ (h.ghost p hp)⟩
 ·simp only[FSt.ctx]at h1;by_cases hi:i=fid
  ·subst hi;simp only[if_true,Option.some.injEq]at h1;subst h1;refine⟨hpos,.inl rfl,by simp,⟨[],by simp[RVl],?_⟩,fun h=>(by simp only[hk]at h;cases h),fun _ b hb=> .inr ⟨i,{ o with xs:=[] },(by simp),(by simp[hk]),hb⟩,fun hb=>(by simp only[hk]at hb;cases hb)⟩
   unfold zGw;rw[if_neg (by rw[hk];simp)]
   simp only[FSt.ctx,if_true];exact⟨by simp,by simp[flat],by simpa[flat] using how⟩
  ·simp only[hi,if_false]at h1;by_cases hid:i=id
   ·simp[hid]at h1
   ·simp only[hid,if_false]at h1;obtain⟨p,kn,n,⟨vs,q1,q2⟩,hro,hw,hbox⟩:=h.laid.obj i o1 h1;refine⟨p,.inr kn,n,⟨vs,zCm (K.withData rfl _) _ _ q1,by simpa[FSt.ctx,hi] using q2⟩,fun hk1 b hb hO=>?_,fun hk1 b hb=>?_,fun hb=>by simpa[FSt.ctx,hi] using hbox hb⟩
    ·simp only[FSt.ctx,hi,if_false]at hb;exact hro hk1 b hb (hO.imp (fun x=>x) (hown b))
    ·simp only[FSt.ctx,hi,if_false]at hb;exact .inr ⟨i,o1,by simp[hi,hid,h1],hk1,by simpa[hi] using hb⟩
 ·intro i j o1 o2 b h1 h2 k1 k2 b1 b2;simp only[FSt.ctx]at h1 h2 b1 b2;by_cases hi:i=fid
  ·by_cases hj:j=fid
   ·rw[hi,hj]
   ·simp only[hj,if_false]at h2 b2;simp only[hi,if_true]at b1;by_cases hjd:j=id
    ·simp[hjd]at h2
    ·simp only[hjd,if_false]at h2;exact absurd (h.laid.inj j id o2 o b h2 ho k2 (by rw[hk];simp) b2 ((hbl b).1 b1)) hjd
  ·simp only[hi,if_false]at h1 b1;by_cases hid:i=id
   ·simp[hid]at h1
   ·simp only[hid,if_false]at h1;by_cases hj:j=fid
    ·simp only[hj,if_true]at b2;exact absurd (h.laid.inj i id o1 o b h1 ho k1 (by rw[hk];simp) b1 ((hbl b).1 b2)) hid
    ·simp only[hj,if_false]at h2 b2;by_cases hjd:j=id
     ·simp[hjd]at h2
     ·simp only[hjd,if_false]at h2;exact h.laid.inj i j o1 o2 b h1 h2 k1 k2 b1 b2
 ·obtain⟨hkn,o0,o1,h1,h2,h3,h4,h7,h8,h5,h6⟩:=h.held.at_ i hi;have hif:i≠fid:=fun e=>hf (by rw[← e];exact hkn)
  have hid:i≠id:=fun e=>by
   have:i<s.nb:=hi;omega
  exact⟨.inr hkn,o0,o1,h1,by simp only[hif,hid,if_false];exact h2,h3,h4,h7,by simp only[hif,if_false];exact h8,h5,by simp only[hif,if_false];exact h6⟩
def kill(id:Nat):List (Nat × Obj)→List (Nat × Obj)
 |[]=>[]
 |p::l=>if p.1=id then kill id l else p::kill id l
theorem zTp{id:Nat}:∀(l:List (Nat × Obj)) (i:Nat),look (kill id l) i=if i=id then none else look l i
 |[],i=>by simp[kill,look]
 |(j,o)::l,i=>by
  simp only[kill];by_cases hj:j=id
  ·simp only[hj,if_true,zTp l i,look];by_cases hi:i=id<;>simp[hi]
  ·simp only[hj,if_false,look,zTp l i];by_cases hi:i=j
   ·subst hi;simp[hj]
   ·simp[hi]
def zZx(P:Program)(E:zBf)(oy:Oper)(s:St)(K:St→Prop):Prop:=oy.guard=none∧zCo oy=true∧∃s2:St,s2.nx=s.nx∧(∀a w η,Rel E s.F a w η→∃v w' η',(execOp a.eval oy).run P w= .ok (.value v) w'∧Rel E s2.F (a.put oy.dst v) w' η')∧K s2
theorem yZr{id:Nat}{ops:Array Oper}{l1 l2:List Oper}{oy:Oper}{s:St}{Q:Exit→St→Prop}(hops:ops.toList=l1++oy::l2)(hd:(l1++l2).all zCo=true)
  (h:walk P ops 0 l1 s [] fun s1 _=>zZx P E oy s1 fun s2=>walk P ops (l1.length+1) l2 s2 [] fun s3 _=>exOk s3.ex (s3.nx+16*ops.size)∧Q .normal (s3.next ops.size)):AW P E (.region id ops false) s Q:=by
 intro a w η hr
 simp only[List.all_append,Bool.and_eq_true]at hd
 refine(wpIn_wide (n:=1)).1 (wpIn_region ?_)
 have hsz:ops.size=l1.length+(1+l2.length):=by
  have:=congrArg List.length hops;simp at this;omega
 have hrange:List.range ops.size=List.range' 0 l1.length++(l1.length::List.range' (l1.length+1) l2.length):=by
  rw[hsz,List.range_eq_range',← List.range'_append_1,← List.range'_append_1 (s:=0+l1.length)];simp
 have hat:∀j,ops[j]?=(l1++oy::l2)[j]?:=fun j=>by rw[← hops,Array.getElem?_toList]
 rw[hrange]
 refine zCr (r:=none) l1 0 s [] _ _ a w η (fun j o ho=>?_) hd.1 h hr fun s1 log a1 w1 η1 hy hnx hr1=>?_
 ·rw[Nat.zero_add,hat,List.getElem?_append_left (List.getElem?_eq_some_iff.1 ho).1];exact ho
 ·obtain⟨hg,hdf,s2,hnx2,hrun,hK⟩:=hy;have hoy:ops[l1.length]?=some oy:=by rw[hat,List.getElem?_append_right (Nat.le_refl _)];simp
  rw[wpOpsIn_cons];obtain⟨v,w2,η2,hrun,hr2⟩:=hrun a1 w1 η1 hr1;have key:wpOpsIn (Rw none) 1 P ops (fun e a' w'=>∃s' η',Q e s'∧Rel E s'.F a' w' η') (List.range' (l1.length+1) l2.length) (a1.put oy.dst v) w2:=by
   have:=zCr (r:=none) (n:=1) (Q:=fun e a' w'=>∃s' η',Q e s'∧Rel E s'.F a' w' η') l2 (l1.length+1) _ [] _ [] _ w2 η2 (fun j o ho=>?_) hd.2 hK hr2 fun s3 log3 a3 w3 η3 hk3 hnx3 hr4=>?_
   ·rw[List.append_nil]at this;exact this
   ·rw[hat,List.getElem?_append_right (by omega),show l1.length+1+j-l1.length=j+1 by omega]
    simpa using ho
   ·simp only[wpOpsIn];obtain⟨hx,hq⟩:=hk3;refine⟨s3.next ops.size,η3,hq,?_⟩;have:=hr4.more (kn':=fun i=>i<s3.nx+16*ops.size∨i∈[]) (fun i hi=>?_)
    ·exact this
    ·rcases hi with hi|hi
     ·exact .inl (Nat.lt_of_lt_of_le hi (Nat.le_add_right _ _))
     ·exact .inl (zId hx i hi)
  unfold wpOpIn;simp only[hoy];have hw:Region.wanted oy (yielded ops a1.tmps)=true:=by simp[Region.wanted,hg]
  rw[if_pos hw];refine⟨fun _ _=>trivial,?_⟩
  rw[Oper.semAt_eq _ _ _ (fun c hc=>by simp[zCo,hc]at hdf),hrun]
  exact key
theorem zRt{oy:Oper}{s:St}{K:St→Prop}{T T' id:Nat}{x hi:Operand}{o:Obj}(fid:Nat)(hg:oy.guard=none)(hop:oy.op= .slice T x none (some hi) none)(hhi:s.ev hi= .int .i64 0)(hT:zAu P T=some T')(hx:s.ev x= .obj id o.xs.length)(hid:look s.hp id=some o)(hk:o.k= .arr)(hnb:s.nb≤id)
  (hf:¬(fid<s.nx∨fid∈s.ex)) (he:o.e=P.cellsOf T') (hpos:0<P.cellsOf T')
  (hK:K (({ s with hp:=(fid,{ o with xs:=[] })::kill id s.hp,ex:=fid::s.ex }:St).app oy.dst ⟨.obj fid 0,[],[]⟩)):zZx P E oy s K:=by
 refine⟨hg,by simp[zCo,hop],({ s with hp:=(fid,{ o with xs:=[] })::kill id s.hp,ex:=fid::s.ex }:St).app oy.dst ⟨.obj fid 0,[],[]⟩,rfl,fun a w η hr=>?_,hK⟩
 obtain⟨hr2,ad,cap,hη,hcap,hh0⟩:=hr.cut (id:=id) (fid:=fid) hid hk hnb hf
 have hxx:=zAi hr x
 rw[St.ev_F,hx]at hxx
 simp only[RV]at hxx
 obtain⟨_,_,hkn,hxx⟩:=hxx
 have hhp:s.F.hp id=some o:=hid
 simp only[FSt.ctx,hhp]at hxx
 obtain⟨hkm,_,hv⟩:=hxx
 have hv:=hv trivial
 rw[hη]at hv
 have hbd:=zFx (P:=P) (s:=s.F) (lo:=none) (hi:=some hi) (b:=true) (len:=o.xs.length) (cap:=cap) (l:=0) (h:=0) hr rfl (by simp[bnd,St.ev_F,hhi]) (by omega) (by omega) (by omega) (by omega)
 have hrun:(execOp a.eval oy).run P w= .ok (.value (.slice ad 0 cap)) w:=by
  have hadz:ad.map (fun x=>x.add 0)=ad:=by
   cases ad with
   |none=>rfl
   |some a=>
    obtain⟨b,o,sp⟩:=a;simp only[Option.map_some];unfold Addr.add;split<;>simp_all
  unfold execOp;simp only[hop,hv,Option.map_none,Sem.run_bind,zFd (zAw hT)];simp at hbd;simp[Instr.slice,run_underlying (zAw hT),hbd,zBd hpos,hadz]
 refine⟨_,w,(fun i=>if i=fid then hdr0 (η id)else η i),hrun,?_⟩
 rw[St.app_F,FSt.app_nil]
 have hF:({ s with hp:=(fid,{ o with xs:=[] })::kill id s.hp,ex:=fid::s.ex }:St).F={ s.F with hp:=fun i=>if i=fid then some { o with xs:=[] } else if i=id then none else s.F.hp i,kn:=fun i=>i=fid∨s.F.kn i }:=by
  have h1:look ((fid,{ o with xs:=[] })::kill id s.hp)=fun i=>if i=fid then some { o with xs:=[] } else if i=id then none else s.F.hp i:=by
   funext i
   simp only[look,zTp];rfl
  have h2:(fun i=>i<s.nx∨i∈fid::s.ex)=fun i=>i=fid∨s.F.kn i:=by
   funext i
   simp only[List.mem_cons];exact propext ⟨fun h=>by rcases h with h|h|h<;>simp[h,St.F],fun h=>by rcases h with h|h|h<;>simp[h]⟩
  simp only[St.F,h1,h2];rfl
 rw[hF]
 refine hr2.put oy.dst (x:= .obj fid 0) (v:= .slice ad 0 cap) ?_
 simp only[RV,FSt.ctx,if_true]
 exact⟨⟨_,_,_,rfl⟩,trivial,.inl trivial,hkm,by simp,fun _=>hh0.symm⟩
theorem zRs{P:Program}(w:World)(t tn ty e:TypeId)(i:TypeInfo)(ht:P.underlying t=some (.slice e))(htn:P.underlying tn=some (.int .i64))(hi:P.info? e=some i)(hz:i.zero=some (.int .u8 0))
  (hsize:i.size=1) (hby:i.bytes=1) (v:Value) (n:Nat) (xs:List Value) (hown:w.ownsRow 0 e 1 v n xs) (k:Nat) (h63:n+k≤140737488355328) :
  ∃v' w',(Builtin.append_ #[t,tn] ty #[v,.int .i64 (k:Int)]).run P w= .ok v' w'∧w'.ownsRow 0 e 1 v' (n+k) (xs++List.replicate k (.int .u8 0))∧w.grownBy w' v.ownBlock∧(∀b,v'.ownBlock=some b→w.heap.size≤b∨v.ownBlock=some b)∧(k=0→v'=v):=by
 have hw:IntKind.i64.wrap (k:Int)=k:=by rw[IntKind.wrap_i64];omega
 have hneg:¬((k:Int)<0):=by omega
 have h48:¬(281474976710656<(k:Int)):=by omega
 have hzc:(Value.int .u8 0).cells= #[.int .u8 0]:=rfl
 have hzk:∀m,Builtin.zeroCells (Value.int .u8 0).cells m=(List.replicate m (Value.int .u8 0)).toArray:=fun m=>by
  rw[hzc];unfold Builtin.zeroCells;apply Array.ext
  ·simp
  ·intro j h1 h2;simp[Nat.mod_one]
 have hgrow:∀(base:Option Addr) (cap:Nat),(Builtin.firstCells i.size n (.slice base n cap)).run P w.drew= .ok xs.toArray w.drew→0<k→cap<n+k →
   (Builtin.append_ #[t,tn] ty #[.slice base n cap,.int .i64 (k:Int)]).run P w= .ok (.slice (some ⟨w.heap.size,0,none⟩) (n+k) (grownCap w (n+k) cap e))
    (w.drew.alloc (.cells (xs.toArray++Builtin.zeroCells (Value.int .u8 0).cells k++Builtin.zeroCells (Value.int .u8 0).cells (grownCap w (n+k) cap e-(n+k))) e)):=fun base cap h1 h2 h3=>
  Lib.run_append_grow_zeros w t tn ty e i _ .i64 .i64 ht htn hi hz base n cap xs h1 k h2 (by omega) h3 (by omega) (by rw[hby];omega) (by
   rw[hby];exact growslice_fits h3 (by omega))
 have hnew:∀(cap:Nat),xs.length=n→(w.drew.alloc (.cells (xs.toArray++Builtin.zeroCells (Value.int .u8 0).cells k++Builtin.zeroCells (Value.int .u8 0).cells (grownCap w (n+k) cap e-(n+k))) e)).ownsRow 0 e 1 (.slice (some ⟨w.heap.size,0,none⟩) (n+k) (grownCap w (n+k) cap e)) (n+k) (xs++List.replicate k (.int .u8 0)):=fun cap hx=>by
  have hG:n+k≤grownCap w (n+k) cap e:=grownCap_ge w _ _ _;have hG2:=grownCap_le_maxLen w (n+k) cap e (by unfold maxLen;omega)
  refine⟨by simp[hx],.inr ⟨_,_,_,rfl,Nat.zero_le _,World.alloc_heap_new w.drew _,hG,hG2,?_,?_⟩⟩
  ·rw[hzk,hzk];simp;omega
  ·rw[hzk,hzk];simp only[Nat.mul_one,Array.toList_append,List.take_append,List.length_append,List.length_replicate,hx];rw[List.take_of_length_le (by omega),List.take_of_length_le (by simp)]
   simp
 rcases hown.2 with ⟨rfl,rfl⟩|⟨g,cap,cur,rfl,hbg,hg,hnc,hcm,hcs,htake⟩
 ·have hx0:xs=[]:=List.eq_nil_of_length_eq_zero (by simpa using hown.1)
  subst hx0;by_cases hk:k=0
  ·subst hk;refine⟨.slice none 0 0,w,?_,by simpa using hown,⟨rfl,rfl,rfl,Nat.le_refl _,fun _ _ _=>rfl⟩,fun b hb=> .inr hb,fun _=>rfl⟩
   simp[Builtin.append_,run_underlying ht,run_underlying htn,sizeOf,typeInfo,zeroValue,hi,hz,asInt,asIntOf,hsize,hby,IntKind.wrap_i64]
  ·have hr:=hgrow none 0 (by simp[Builtin.firstCells]) (by omega) (by omega)
   refine⟨_,_,hr,hnew 0 rfl,?_,fun b hb=>?_,fun h=>absurd h hk⟩
   ·have h2:=World.grownBy_alloc w.drew (.cells (([]:List Value).toArray++Builtin.zeroCells (Value.int .u8 0).cells k++Builtin.zeroCells (Value.int .u8 0).cells (grownCap w (0+k) 0 e-(0+k))) e) none;exact⟨h2.os,h2.tape,h2.output,h2.size,fun b hb hn=>h2.block b hb (by simp)⟩
   ·simp[Value.ownBlock]at hb;exact .inl (by omega)
 ·simp only[Nat.mul_one]at hcs htake;have hxl:xs.length=n:=by simpa using hown.1
  by_cases hroom:n+k≤cap
  ·have hrow:w.ownsRow 0 e 1 (.slice (some ⟨g,0,none⟩) cap cap) cap cur.toList:=⟨by simp[hcs],.inr ⟨g,cap,cur,rfl,hbg,hg,Nat.le_refl _,hcm,by simp[hcs],by rw[List.take_of_length_le (by simp[hcs])]⟩⟩
   have hthere:∀j,j<(List.replicate k (Value.int .u8 0)).length→(w.cell? ⟨g,n+0+j,none⟩).isSome=true∧w.frozen? ⟨g,n+0+j,none⟩=false:=fun j hj=>by
    have:=zIt hrow rfl (n+j) 0 1 (by simp at hj;omega) (by omega) 0 (by omega)
    simpa using this
   have hst:=run_storeCells_cells (P:=P) g n (List.replicate k (Value.int .u8 0)) 0 w (fun j hj=>(hthere j hj).1) (fun j hj=>(hthere j hj).2) (fun u hu=>by rw[List.eq_of_mem_replicate hu];rfl)
   obtain⟨q1,q2⟩:=zHa (List.replicate k (Value.int .u8 0)) n w cur.toList hrow (by simp[hcs];omega)
   simp only[Nat.add_zero]at hst;have hadd:(⟨g,0,none⟩:Addr).add n=⟨g,n,none⟩:=by rw[Addr.add_mid];simp
   refine⟨.slice (some ⟨g,0,none⟩) (n+k) cap,w.setCells g n (List.replicate k (Value.int .u8 0)),?_,⟨by simp[hxl],.inr ?_⟩,q2,fun b hb=> .inr hb,fun h=>by rw[h];rfl⟩
   ·by_cases hk:k=0
    ·subst hk;simp at hst;simp[Builtin.append_,run_underlying ht,run_underlying htn,sizeOf,typeInfo,zeroValue,hi,hz,asInt,asIntOf,hsize,hby,IntKind.wrap_i64,hnc,World.setCells,storeCells]
    ·simp[Builtin.append_,run_underlying ht,run_underlying htn,sizeOf,typeInfo,zeroValue,hi,hz,asInt,asIntOf,hw,hneg,h48,hsize,hby,hk,hroom,hadd,hzk,hst]
   ·rcases q1.2 with ⟨h,_⟩|⟨g2,cap2,cur2,h,_,hg2,_,_,hcs2,htk2⟩
    ·cases h
    ·simp only[Value.slice.injEq,Option.some.injEq,Addr.mk.injEq,and_true,true_and]at h;obtain⟨rfl,rfl⟩:=h;refine⟨g,cap,cur2,rfl,hbg,hg2,hroom,hcm,hcs2,?_⟩;have hcl:cur2.toList.length=cap:=by simpa using hcs2
     simp only[Nat.mul_one]at htk2 ⊢;rw[List.take_of_length_le (by omega)]at htk2
     rw[htk2,htake];have:(xs++List.replicate k (Value.int .u8 0)).length=n+k:=by simp[hxl]
     rw[← this,List.take_left]
  ·have hk:0<k:=by omega
   have hr:=hgrow (some ⟨g,0,none⟩) cap (by
    have:=run_loadCells_list (P:=P) w.drew ⟨g,0,none⟩ xs (fun j u hj=>by
     have:=hown.cells (g:=g) rfl j u hj;exact this)
    rw[hxl]at this;simp[Builtin.firstCells,hsize,this]) hk (by omega)
   refine⟨_,_,hr,hnew cap hxl,?_,fun b hb=>?_,fun h=>by omega⟩
   ·have h2:=(World.grownBy_alloc w.drew (.cells (xs.toArray++Builtin.zeroCells (Value.int .u8 0).cells k++Builtin.zeroCells (Value.int .u8 0).cells (grownCap w (n+k) cap e-(n+k))) e) none);exact⟨h2.os,h2.tape,h2.output,h2.size,fun b hb _=>h2.block b hb (by simp)⟩
   ·simp[Value.ownBlock]at hb;exact .inl (by omega)
theorem yDq{c:Ctx}:∀k:Nat,RVl c (List.replicate k (.int .u8 0)) (List.replicate k (Value.int .u8 0))
 |0=>by simp[RVl]
 |k+1=>by
  simp only[List.replicate_succ,RVl];exact⟨_,_,rfl,by simp[RV,IntKind.has,IntKind.min,IntKind.max,IntKind.signed,IntKind.bits],yDq k⟩
theorem zVv{oy:Oper}{s:St}{K:St→Prop}{T Tn T' id k:Nat}{x y:Operand}{ob:Obj}(hg:oy.guard=none)(hop:oy.op= .call { callee:= .builtin .append,args:= #[x,y],argTypes:= #[T,Tn] })(hT:zAu P T=some T')(hTn:P.underlying Tn=some (.int .i64))
  (hi:(P.info? T').map (fun i=>(i.zero,i.size,i.bytes))=some (some (Value.int .u8 0),1,1)) (hx:s.ev x= .obj id ob.xs.length) (hid:look s.hp id=some ob) (hk:ob.k= .arr) (hoT:ob.T=T') (he:ob.e=1) (hy:s.ev y= .int .i64 (k:Int)) (hb:ob.xs.length+k≤140737488355328)
  (hK:K (s.app oy.dst ⟨.obj id (ob.xs.length+k),[(id,{ ob with xs:=ob.xs++List.replicate k (.int .u8 0) })],[]⟩)):zZx P E oy s K:=by
 refine⟨hg,by simp[zCo,hop],s.app oy.dst ⟨.obj id (ob.xs.length+k),[(id,{ ob with xs:=ob.xs++List.replicate k (.int .u8 0) })],[]⟩,rfl,fun a w η hr=>?_,hK⟩
 obtain⟨i,hi1,hi2⟩:=Option.map_eq_some_iff.1 hi
 simp only[Prod.mk.injEq]at hi2
 obtain⟨hz,hs1,hb1⟩:=hi2
 have hyv:=zAi hr y
 rw[St.ev_F,hy]at hyv
 simp only[RV]at hyv
 have hsv:=zAi hr x
 rw[St.ev_F,hx]at hsv
 simp only[RV]at hsv
 obtain⟨_,_,hkn,hsv⟩:=hsv
 have hhp:s.F.hp id=some ob:=hid
 simp only[FSt.ctx,hhp]at hsv
 have hη:=hsv.2.2 trivial
 obtain⟨hpos,_,hobl,vs,r1,r2,r3,r4⟩:=zCu hr hhp (by rw[hk];simp)
 have hbk:=zIo r4
 rw[hoT,he]at r4
 obtain⟨v',w',hrun,how,hg2,hblk,hself⟩:=zRs (P:=P) w T Tn oy.type T' i (zAw hT) hTn hi1 hz hs1 hb1 (η id) ob.xs.length (flat vs) r4 k hb
 have hfz:flat (List.replicate k (Value.int .u8 0))=List.replicate k (Value.int .u8 0):=zEq fun y hy=>by rw[List.eq_of_mem_replicate hy];rfl
 have hgrow:flat vs++List.replicate k (Value.int .u8 0)=flat (vs++List.replicate k (Value.int .u8 0)):=by rw[zCz,hfz]
 rw[hgrow]at how
 have L:=hr.lay (w':=w') id { ob with xs:=ob.xs++List.replicate k (.int .u8 0) } v' (blk (η id)) (by rw[hbk];exact hg2) (.inr ⟨ob,hhp,by rw[hk];simp,rfl,rfl,by simp,fun h=>hself (by simp at h;simp[h])⟩) (by rw[hk];simp) hpos (by simp;omega) (fun b hb'=>by rw[hbk];rw[zIo how]at hb';exact hblk b hb') (fun hbx=>by simp only[hk]at hbx;cases hbx)
  (vs++List.replicate k (Value.int .u8 0)) (zCb r1 (yDq k)) (fun u hu=>by
   rcases List.mem_append.1 hu with hu|hu
   ·exact r2 u hu
   ·show u.cells.size=ob.e;rw[he,List.eq_of_mem_replicate hu];rfl) (fun x hx=>by
   rw[zCz,hfz]at hx;rcases List.mem_append.1 hx with hx|hx
   ·exact r3 x hx
   ·rw[List.eq_of_mem_replicate hx];rfl) (by simpa[hoT,he] using how) (by simp[hk]) (fun o2 h2 _ _=>by rw[hhp]at h2;cases h2;simp[hk])
 have L2:=L.put oy.dst (x:= .obj id (ob.xs.length+k)) (v:=v') (by
  have hsl:∃a m cap,v'= .slice a m cap:=by rcases how.2 with ⟨h,_⟩|⟨g,cap,cur,h,_⟩<;>exact⟨_,_,_,h⟩
  simp only[RV,FSt.ctx];refine⟨hsl,trivial,.inl trivial,?_⟩;simp[hk])
 rw[← FSt.app_one s.F oy.dst (.obj id (ob.xs.length+k)) id _ []]at L2
 rw[← St.app_F]at L2
 refine⟨v',w',_,?_,L2⟩
 unfold execOp
 simp[hop,hη,hyv.1,resolve,invoke,builtin,hrun]
theorem yYi{f:FuncId}{fn:Func}{c:Code}{args:List V}{F:Exit→St→Prop}{R:Value→World→Prop}{gl:zCd}(hm:P.follows .mixedOrders=true)(hf:P.funcs[f]?=some fn)(hb:fn.body=some c)(hN:args.length≤fn.ntmps)
  (h:wfs args→∀E,AW P E c (St.init args fn.ntmps gl) F) (w:World) (O:Nat→Prop) (cargs:Array Value) (hO:∀b,O b→b<w.heap.size) (hargs:RVl (dctx w O) args cargs.toList) (hgl:yDw w O gl)
  (hF:∀e s',F e s'→(e= .normal∨e= .ret)∧∃x,zGk P s' fn.results.toList=some x∧x.2∧∀(E:zBf) (a':Act) (w':World) (η':Nat→Value) (v:Value),E.w0=w→E.base=O→(∀b,¬E.own0 b)→Rel E s'.F a' w' η'→RV (s'.F.ctx E w' η') (oneV x.1) v→R v w') :
  Calls P f cargs w fun e w'=>∃v,e= .returned v∧R v w'∧w.grownBy w' none:=by
 let E:zBf:=⟨w,fun _=>False,O,fun b hb=>⟨hO b hb,fun h=>h⟩,0,fun _=>none,fun _=> .nilFunc,[],[],[]⟩
 have hlen:=zAp hargs
 have hwf:=zMn _ _ hargs
 refine zEt hf hb ?_
 have hr:Rel E (St.init args fn.ntmps gl).F { tmps:=cargs++Array.replicate (fn.ntmps-cargs.size) undef,defers:=[] } w (fun _=> .nilFunc):=by
  have hlen':cargs.size=args.length:=by simpa using hlen
  refine⟨fun t=>?_,⟨fun id o ho=>by simp[FSt.ctx,St.F,St.init,look]at ho,fun id id' o o' b ho=>by simp[FSt.ctx,St.F,St.init,look]at ho⟩,⟨rfl,rfl,rfl,Nat.le_refl _,fun _ _ _=>rfl⟩,
   fun b hb=>?_,?_,⟨(fun p hp=>nomatch hp),[],rfl,trivial⟩,⟨rfl,fun i hi=>absurd hi (Nat.not_lt_zero i)⟩,fun g p hp=>?_,fun p hp=>nomatch hp⟩
  ·have hget:(St.init args fn.ntmps gl).F.sl t=(args[t]?).getD .bot:=by
    simp only[St.F,St.get,St.init];rw[List.range_eq_range',zOk];simp
   rw[hget];cases ht:args[t]? with
   |none=>simp only[Option.getD_none,RV];rfl
   |some x=>
    obtain⟨u,hu,hx⟩:=zDa hargs t x ht;have ht':t<cargs.size:=by rw[hlen'];exact(List.getElem?_eq_some_iff.1 ht).1
    have hv:(cargs++Array.replicate (fn.ntmps-cargs.size) undef).getD t undef=u:=by
     have h1:cargs[t]?=some u:=by simpa using hu
     rw[Array.getElem?_eq_getElem ht']at h1;simp only[Option.some.injEq]at h1;simp[Array.getElem?_append,ht',h1]
    rw[hv];have hO':((St.init args fn.ntmps gl).F.ctx E w fun _=> .nilFunc).O=O:=by
     funext b
     simp only[FSt.ctx];refine propext ⟨fun h=>?_,.inl⟩
     rcases h with h|⟨id,o,ho,_⟩
     ·exact h
     ·simp[St.F,St.init,look]at ho
    have:=zPm (c:=(St.init args fn.ntmps gl).F.ctx E w fun _=> .nilFunc) rfl x u (by rw[hO'];exact hx)
    exact this
  ·obtain⟨id,o,ho,_⟩:=hb;simp[St.F,St.init,look]at ho
  ·simp[St.F,St.init];omega
  ·have hmem:∀ {l:zCd},look l g=some p→(g,p)∈l:=by
    intro l;induction l with
    |nil=>intro h;simp[look]at h
    |cons q l ih=>
     intro h;obtain⟨q1,q2⟩:=q;simp only[look]at h;split at h
     ·rename_i hi;cases h;subst hi;simp
     ·exact List.mem_cons_of_mem _ (ih h)
   have h1:=hgl (g,p) (hmem hp);have hO':((St.init args fn.ntmps gl).F.ctx E w fun _=> .nilFunc).O=O:=by
    funext b
    simp only[FSt.ctx];refine propext ⟨fun h=>?_,.inl⟩
    rcases h with h|⟨id,o,ho,_⟩
    ·exact h
    ·simp[St.F,St.init,look]at ho
   exact zPm (c:=(St.init args fn.ntmps gl).F.ctx E w fun _=> .nilFunc) rfl _ _ (by rw[hO'];exact h1)
 have hw:=h hwf E _ w _ hr
 refine wp_mono hw ?_
 rintro e a' w' ⟨s',η',hq,hr'⟩
 obtain⟨he,x,hx,hq,hR⟩:=hF e s' hq
 refine⟨he,zHj a'.tmps a'.defers w' (fun p hp=>by simp[E]at hp) hr' (fun w2 hr2=>?_)⟩
 have hg:w.grownBy w2 none:=⟨hr2.since.os,hr2.since.tape,hr2.since.output,hr2.since.size,fun b hb _=>hr2.since.block b hb (fun h=>h)⟩
 obtain⟨v,h1,h2⟩:=zFf hr2 hx hq
 exact⟨v,h1,v,rfl,hR E _ w2 η' v rfl rfl (fun _ h=>h) hr2 h2,hg⟩
theorem xRh {f : FuncId} {fn : Func} {c : Code} {args : List V} {res : V} {gl : zCd} (hm : P.follows .mixedOrders = true) (hf : P.funcs[f]? = some fn) (hb : fn.body = some c) (hn : (fn.name == "runtime.NumGoroutine") = false) (hN : args.length ≤ fn.ntmps)
  (h:wfs args→∀E,AW P E c (St.init args fn.ntmps gl) (Fin P fn res)):FnD P f args res gl:=by
 refine⟨⟨fn,hf,by simp[hb],hn⟩,fun w O cargs hO hargs hgl=>yYi hm hf hb hN h w O cargs hO hargs hgl fun e s' he=>?_⟩
 have key:(∃x,zGk P s' fn.results.toList=some x∧x.2∧zAx (look s'.hp) (fun _=>True) V.pure 8 (oneV x.1) res)→∃x,zGk P s' fn.results.toList=some x∧x.2∧∀(E:zBf) (a':Act) (w':World) (η':Nat→Value) (v:Value),E.w0=w→E.base=O→(∀b,¬E.own0 b)→Rel E s'.F a' w' η'→RV (s'.F.ctx E w' η') (oneV x.1) v→RV (dctx w' O) res v:=by
  rintro⟨x,h1,h2,h3⟩
  refine⟨x,h1,h2,fun E a' w' η' v e1 e2 e3 hr' hv=>zEy (c:=s'.F.ctx E w' η') (c':=dctx w' O) hr'.laid rfl rfl (fun x v hp hx=>?_) (fun id ob b _ hid hg hOb=>?_) 8 _ _ _ h3 hv⟩
  ·have h4:=zGo x v hp hx;exact zBg (c:={ s'.F.ctx E w' η' with data:=true }) (c':=dctx w' O) ⟨Nat.le_refl _,fun _ _ _ _=>rfl,fun b _ hb=> .inl (by rw[e2];exact hb),rfl,by simp[dctx,FSt.ctx],by simp[FSt.ctx]⟩ x v h4
  ·have hl:=hr'.laid.obj id ob hid;by_cases hk:ob.k= .ro
   ·exact hl.ro hk b hg (.inl (by rw[e2];exact hOb))
   ·rcases hr'.fresh b ⟨id,ob,hid,hk,hg⟩with h|h
    ·exact e3 b h
    ·rw[e1]at h;have:=hO b hOb;omega
 cases e with
 |normal=>exact⟨.inl rfl,key he⟩
 |ret=>exact⟨.inr rfl,key he⟩
 |_=>exact he.elim
theorem yUh {f : FuncId} {fn : Func} {c : Code} {obs : List Obj} {args : List V} {obs' : List Obj} {res : V} {gl : zCd} (hf : P.funcs[f]? = some fn) (hb : fn.body = some c) (hn : (fn.name == "runtime.NumGoroutine") = false) (hN : args.length ≤ fn.ntmps) (ho : obs.length ≤ 16)
  (h:wfs args→∀E,AW P E c (St.start obs args fn.ntmps gl) (FinR P fn obs.length obs' res gl)):FnR P f obs args obs' res gl:=
 ⟨⟨fn,hf,by simp[hb],hn⟩,fun E cargs η _ _ _ _ hfix _ hr0=>zUr hf hb hN ho (by rw[hfix];intro p hp;cases hp) (fun hwf=>h hwf E) hr0⟩
theorem xAx{id g te to d:Nat}{ops:Array Oper}{o1 o2:Oper}(hops:ops= #[o1,o2])(h1:o1.op= .makeFunc (.func g) #[] #[.tmp te,.tmp to])(hg1:o1.guard=none)(hd1:o1.dst=some d)(ty:Array TypeId)(h2:o2.op= .defer { callee:= .value (.tmp d),args:= #[],argTypes:=ty })(hg2:o2.guard=none)(hd2:o2.dst=none)
  {a:Act} {w:World} {Q:Exit→Act→World→Prop} (hN:d<a.tmps.size)
  (h:Q .normal { tmps:=a.tmps.setIfInBounds d (.func (.func g) #[] #[a.tmps.getD te undef,a.tmps.getD to undef]),defers:={ target:= .fn (.func g) #[a.tmps.getD te undef,a.tmps.getD to undef],args:= #[] }::a.defers } w):(Code.region id ops false).wp P Q a w:=by
 subst hops
 refine wp_region ?_
 have hr:List.range #[o1,o2].size=[0,1]:=rfl
 rw[hr]
 simp only[wpOps]
 have hw1:Region.wanted o1 (yielded #[o1,o2] a.tmps)=true:=by simp[Region.wanted,hg1]
 simp only[List.getElem?_toArray,List.getElem?_cons_zero,hw1,if_true]
 left
 have e1:(execOp a.eval o1).run P w= .ok (.value (.func (.func g) #[] #[a.tmps.getD te undef,a.tmps.getD to undef])) w:=by
  unfold execOp;simp[h1,Act.eval,Instr.makeFunc]
 unfold Oper.wp
 rw[e1,Oper.upon_value,hd1]
 have hw2:∀tm,Region.wanted o2 (yielded #[o1,o2] tm)=true:=fun tm=>by simp[Region.wanted,hg2]
 simp only[List.getElem?_cons_succ,List.getElem?_cons_zero,hw2,if_true]
 left
 have e2:(execOp (a.put (some d) (.func (.func g) #[] #[a.tmps.getD te undef,a.tmps.getD to undef])).eval o2).run P w= .ok (.defer { target:= .fn (.func g) #[a.tmps.getD te undef,a.tmps.getD to undef],args:= #[] }) w:=by
  unfold execOp;simp[h2,Act.eval,Act.put,resolve,Deferred.ofValue,hN]
 rw[e2,Oper.upon_defer,hd2]
 exact h
def E00(w:World)(O:Nat→Prop)(hO:∀b,O b→b<w.heap.size):zBf:=⟨w,fun _=>False,O,fun b hb=>⟨hO b hb,fun h=>h⟩,0,fun _=>none,fun _=> .nilFunc,[],[],[]⟩
theorem yQh{args:List V}{gl:zCd}{N:Nat}(hN:args.length≤N)(w:World)(O:Nat→Prop)(cargs:Array Value)(hO:∀b,O b→b<w.heap.size)(hargs:RVl (dctx w O) args cargs.toList)(hgl:yDw w O gl) :
  Rel (E00 w O hO) (St.init args N gl).F { tmps:=cargs++Array.replicate (N-cargs.size) undef,defers:=[] } w (fun _=> .nilFunc):=by
 have hlen:=zAp hargs
 let E:zBf:=E00 w O hO
 show Rel E _ _ _ _
 have hlen':cargs.size=args.length:=by simpa using hlen
 refine⟨fun t=>?_,⟨fun id o ho=>by simp[FSt.ctx,St.F,St.init,look]at ho,fun id id' o o' b ho=>by simp[FSt.ctx,St.F,St.init,look]at ho⟩,⟨rfl,rfl,rfl,Nat.le_refl _,fun _ _ _=>rfl⟩,
  fun b hb=>?_,?_,⟨(fun p hp=>nomatch hp),[],rfl,trivial⟩,⟨rfl,fun i hi=>absurd hi (Nat.not_lt_zero i)⟩,fun g p hp=>?_,fun p hp=>nomatch hp⟩
 ·have hget:(St.init args N gl).F.sl t=(args[t]?).getD .bot:=by
   simp only[St.F,St.get,St.init];rw[List.range_eq_range',zOk];simp
  rw[hget];cases ht:args[t]? with
  |none=>simp only[Option.getD_none,RV];rfl
  |some x=>
   obtain⟨u,hu,hx⟩:=zDa hargs t x ht;have ht':t<cargs.size:=by rw[hlen'];exact(List.getElem?_eq_some_iff.1 ht).1
   have hv:(cargs++Array.replicate (N-cargs.size) undef).getD t undef=u:=by
    have h1:cargs[t]?=some u:=by simpa using hu
    rw[Array.getElem?_eq_getElem ht']at h1;simp only[Option.some.injEq]at h1;simp[Array.getElem?_append,ht',h1]
   rw[hv];have hO':((St.init args N gl).F.ctx E w fun _=> .nilFunc).O=O:=by
    funext b
    simp only[FSt.ctx,E00];refine propext ⟨fun h=>?_,.inl⟩
    rcases h with h|⟨id,o,ho,_⟩
    ·exact h
    ·simp[St.F,St.init,look]at ho
   have:=zPm (c:=(St.init args N gl).F.ctx E w fun _=> .nilFunc) rfl x u (by rw[hO'];exact hx)
   exact this
 ·obtain⟨id,o,ho,_⟩:=hb;simp[St.F,St.init,look]at ho
 ·simp[St.F,St.init];omega
 ·have hmem:∀ {l:zCd},look l g=some p→(g,p)∈l:=by
   intro l;induction l with
   |nil=>intro h;simp[look]at h
   |cons q l ih=>
    intro h;obtain⟨q1,q2⟩:=q;simp only[look]at h;split at h
    ·rename_i hi;cases h;subst hi;simp
    ·exact List.mem_cons_of_mem _ (ih h)
  have h1:=hgl (g,p) (hmem hp);have hO':((St.init args N gl).F.ctx E w fun _=> .nilFunc).O=O:=by
   funext b
   simp only[FSt.ctx,E00];refine propext ⟨fun h=>?_,.inl⟩
   rcases h with h|⟨id,o,ho,_⟩
   ·exact h
   ·simp[St.F,St.init,look]at ho
  exact zPm (c:=(St.init args N gl).F.ctx E w fun _=> .nilFunc) rfl _ _ (by rw[hO'];exact h1)
theorem Rel.reenter{s:FSt}{a:Act}{w:World}{η:Nat→Value}(hr:Rel E s a w η)(O:Nat→Prop)(hO:E.base=O)(nb:Nat)(hnb:∀i,i<nb→∃o,s.hp i=some o∧o.k≠ .ro)(hb:∀b,O b→b<w.heap.size∧¬Own s.hp η b)(ds:List Deferred)(fx:List (Nat × Go.Obj))(hfx:FixW w fx) :
  Rel { w0:=w,own0:=Own s.hp η,base:=O,hb:=hb,nb:=nb,hp0:=s.hp,hd0:=η,fix:=fx,gh:=[],dfr:=ds } { s with nb:=nb } { tmps:=a.tmps,defers:=ds } w η:=by
 subst hO
 refine⟨hr.slots,hr.laid,⟨rfl,rfl,rfl,Nat.le_refl _,fun _ _ _=>rfl⟩,fun b hb=> .inl hb,hr.tmps,⟨hfx,[],rfl,trivial⟩,⟨rfl,fun i hi=>?_⟩,hr.glob,fun p hp=>nomatch hp⟩
 obtain⟨o,h1,h2⟩:=hnb i hi
 exact⟨(hr.laid.obj i o h1).lt,o,o,h1,h1,h2,rfl,Iff.rfl,fun _=>rfl,Nat.le_refl _,fun _=>rfl⟩
theorem Rel.back{s:FSt}{tm:Array Value}{w w1 w':World}{η:Nat→Value}{O:Nat→Prop}{ds:List Deferred}{ds2:List Deferred}(hr:Rel E2 s { tmps:=tm,defers:=ds2 } w' η)(hO:∀b,O b→b<w.heap.size)(h1:xXj (E00 w O hO) w1)(hw:E2.w0=w1)(hb:E2.base=O)(hown:∀b,E2.own0 b→w.heap.size≤b)(hgh:E2.gh=[])(hm:zFr w.heap.size w' ds) :
  Rel (E00 w O hO) { s with nb:=0 } { tmps:=tm,defers:=ds } w' η:=by
 have hctx:FSt.ctx (E00 w O hO) { s with nb:=0 } w' η=s.ctx E2 w' η:=by
  unfold FSt.ctx;rw[hb];rfl
 have hs:=hr.since
 subst hw
 refine⟨fun t=>by rw[hctx];exact hr.slots t,by rw[hctx];exact hr.laid,⟨?_,?_,?_,?_,fun b hb _=>?_⟩,fun b hb=> .inr ?_,hr.tmps,⟨(fun p hp=>nomatch hp),ds,by simp[E00],hm⟩,⟨rfl,fun i hi=>absurd hi (Nat.not_lt_zero i)⟩,fun g p hp=>by rw[hctx];exact hr.glob g p hp,fun p hp=>nomatch hp⟩
 ·rw[hs.os];exact h1.os
 ·rw[hs.tape];exact h1.tape
 ·rw[hs.output];exact h1.output
 ·exact Nat.le_trans h1.size hs.size
 ·have hlt:b<w.heap.size:=hb;have:=hs.block b (Nat.lt_of_lt_of_le hlt h1.size) (fun h=>by have:=hown b h;omega)
  rw[this];exact h1.block b hb (fun h=>h)
 ·rcases hr.fresh b hb with h|h
  ·exact hown b h
  ·exact Nat.le_trans h1.size h
theorem zQt{s:FSt}{η:Nat→Value}{fn:Func}{R:Ending→World→Prop}(tmps:Array Value):∀(ms:List Deferred) (w:World),(∀p∈E.fix,p.1<E.w0.heap.size)→zFr E.w0.heap.size w ms→Rel E s { tmps:=tmps,defers:=ms++E.dfr } w η →
  (∀w',Rel E s { tmps:=tmps,defers:=E.dfr } w' η→LeavesInM Fence.wide 0 P fn tmps R E.dfr .returning w')→LeavesInM Fence.wide 0 P fn tmps R (ms++E.dfr) .returning w
 |[],w,_,_,hr,h=>h w hr
 |d::r,w,hf,hm,hr,h=>by
  obtain⟨⟨D,h1,h2,h3,h4⟩,h5⟩:=hm;have hm2:=zTm r h4 h5;refine⟨by simp,.inl ⟨D,_,by rw[h1],run_takeDeferred h3,?_⟩⟩
  refine zQt tmps r _ hf hm2 (hr.turn (E':=E) (o':= .deferred none) h2 h3 rfl rfl hr.ghost rfl ⟨fun p hp=>⟨?_,(hr.defers.fix p hp).2⟩,r,rfl,hm2⟩) h
  have h6:=(hr.defers.fix p hp).1;have h7:=hf p hp;rw[zBl (by omega)]
  exact h6
theorem yUj {f : FuncId} {fn : Func} {c0 rest : Code} {idd : Nat} {ops : Array Oper} {o1 o2 : Oper} {te to d g : Nat} {args : List V} {res : V} (sl : List (Nat × V)) (obs : List Obj) (ie io : Nat) (oe oo : Obj) (hf : P.funcs[f]? = some fn) (hb : fn.body = some (.seq c0 (.seq (.region idd ops false) rest))) (hn : (fn.name == "runtime.NumGoroutine") = false) (hN : args.length ≤ fn.ntmps)
  (hops:ops= #[o1,o2]) (h1:o1.op= .makeFunc (.func g) #[] #[.tmp te,.tmp to]) (hg1:o1.guard=none) (hd1:o1.dst=some d) (ty:Array TypeId) (h2:o2.op= .defer { callee:= .value (.tmp d),args:= #[],argTypes:=ty }) (hg2:o2.guard=none) (hd2:o2.dst=none) (hdN:d<fn.ntmps)
  (hsd:look sl d=none) (hse:look sl te=some (.ptr ie 1 0 0)) (hso:look sl to=some (.ptr io 1 0 0)) (hob:∀o∈obs,o.k≠ .ro) (hie:obs[ie]?=some oe∧oe.xs.length=1) (hio:obs[io]?=some oo∧oo.xs.length=1)
  (hst:wfs args→∀E,AW P E c0 (St.init args fn.ntmps []) fun e s=>e= .normal∧Le s ⟨sl,obsL 0 obs,16,[],fn.ntmps,0,[]⟩)
  (hre:wfs args→∀E,AW P E rest ⟨sl,obsL 0 obs,16,[],fn.ntmps,obs.length,[]⟩ fun e s=>(e= .normal∨e= .ret)∧(∃T1 ev,look s.hp ie=some ⟨.box,T1,1,[.int .i64 ev]⟩∧∃T2 x,look s.hp io=some ⟨.box,T2,1,[.agg [x]]⟩∧(ev≠0→x= .nilS))∧∃x,zGk P s fn.results.toList=some x∧x.2∧zAx (look s.hp) (fun _=>True) V.pure 8 (oneV x.1) res)
  (hinv:∀(caps:Array Value) (w:World),(invoke (.fn (.func g) caps) #[]).run P w= .ok (.enter g caps) w)
  (hclose:∀(be bo:Nat) (ev:Int) (w:World),w.cell? ⟨be,0,none⟩=some (.int .i64 ev)→(ev≠0→w.cell? ⟨bo,0,none⟩=some (.slice none 0 0))→w.frozen? ⟨bo,0,none⟩=false→CallsDIn Fence.wide 0 P g #[.pointer (some ⟨be,0,none⟩),.pointer (some ⟨bo,0,none⟩)] .returning w fun e u' w'=>u'= .returning∧(∃v,e= .returned v)∧w'=w):FnD P f args res:=by
 refine⟨⟨fn,hf,by simp[hb],hn⟩,fun w O cargs hO hargs hgl=>?_⟩
 have hwf:=zMn _ _ hargs
 have hr0:=yQh (gl:=[]) hN w O cargs hO hargs hgl
 refine zEt hf hb ?_
 refine wp_seq (wp_mono (hst hwf (E00 w O hO) _ _ _ hr0) ?_)
 rintro e a1 w1 ⟨s1,η1',⟨rfl,hle⟩,hr1'⟩
 obtain⟨η1,hr1⟩:=hle _ a1 w1 η1' hr1'
 have hmk:zFr w.heap.size w1 a1.defers:=hr1.marks_of rfl
 have htm:a1.tmps.size=fn.ntmps:=hr1.tmps
 refine wp_seq (xAx hops h1 hg1 hd1 ty h2 hg2 hd2 (by rw[htm];exact hdN) ?_)
 obtain⟨ds,hds⟩:∃ds:List Deferred,ds={ target:= .fn (.func g) #[a1.tmps.getD te undef,a1.tmps.getD to undef],args:= #[] }::a1.defers:=⟨_,rfl⟩
 rw[← hds]
 have hhp:look (obsL 0 obs)=fun i=>obs[i]?:=by funext t;rw[zKu];simp
 have hown0:∀b,Own (fun i=>obs[i]?) η1 b→w.heap.size≤b:=fun b hb=>by
  have hb2:Own (look (obsL 0 obs)) η1 b:=by rw[hhp];exact hb
  rcases hr1.fresh b hb2 with h|h
  ·exact h.elim
  ·exact h
 have hr2:=hr1.reenter O rfl obs.length (fun i hi=>⟨obs[i],by
  show look (obsL 0 obs) i=_
  rw[hhp];simp[hi],hob _ (List.getElem_mem hi)⟩) (fun b hb=>⟨Nat.lt_of_lt_of_le (hO b hb) hr1.since.size,fun h=>by
  have h1:Own (look (obsL 0 obs)) η1 b:=h;rw[hhp]at h1;have:=hown0 b h1;have:=hO b hb;omega⟩) ds (mk a1.defers) (zWi hmk).1
 have hmks:=(zWi hmk).2
 generalize hE2:({ w0:=w1,own0:=Own (St.F ⟨sl,obsL 0 obs,16,[],fn.ntmps,0,[]⟩).hp η1,base:=O,hb:=_,nb:=obs.length,hp0:=(St.F ⟨sl,obsL 0 obs,16,[],fn.ntmps,0,[]⟩).hp,hd0:=η1,fix:=mk a1.defers,gh:=[],dfr:=ds }:zBf)=E2 at hr2
 have f1:E2.w0=w1:=by rw[← hE2]
 have f2:E2.base=O:=by rw[← hE2]
 have f3:E2.own0=Own (fun i=>obs[i]?) η1:=by rw[← hE2];show Own (look (obsL 0 obs)) η1=_;rw[hhp]
 have f4:E2.hp0=fun i=>obs[i]?:=by rw[← hE2];exact hhp
 have f5:E2.hd0=η1:=by rw[← hE2]
 have f6:E2.fix=mk a1.defers:=by rw[← hE2]
 have f7:E2.dfr=ds:=by rw[← hE2]
 have f8:E2.gh=[]:=by rw[← hE2]
 clear hE2
 have hr3:Rel E2 (St.F ⟨sl,obsL 0 obs,16,[],fn.ntmps,obs.length,[]⟩) { tmps:=a1.tmps.setIfInBounds d (.func (.func g) #[] #[a1.tmps.getD te undef,a1.tmps.getD to undef]),defers:=ds } w1 η1:=by
  refine⟨fun t=>?_,hr2.laid,hr2.since,hr2.fresh,(by rw[Array.size_setIfInBounds];exact htm),⟨hr2.defers.fix,hr2.defers.marks⟩,hr2.held,hr2.glob,hr2.ghost⟩
  by_cases ht:t=d
  ·subst ht;have:(St.F ⟨sl,obsL 0 obs,16,[],fn.ntmps,obs.length,[]⟩).sl t= .bot:=by
    show (look sl t).getD .bot= .bot
    rw[hsd];rfl
   rw[this];exact zEu rfl
  ·have e1:(a1.tmps.setIfInBounds d (.func (.func g) #[] #[a1.tmps.getD te undef,a1.tmps.getD to undef])).getD t undef=a1.tmps.getD t undef:=by
    simp only[Array.getD_eq_getD_getElem?];rw[Array.getElem?_setIfInBounds_ne (Ne.symm ht)]
   show RV _ _ ((a1.tmps.setIfInBounds d _).getD t undef)
   rw[e1];exact hr2.slots t
 refine wp_mono (hre hwf E2 _ _ _ hr3) ?_
 rintro e a' w' ⟨s',η',⟨he,⟨T1,ev,hh1,T2,x,hh2,hx⟩,y,hy1,hy2,hy3⟩,hr'⟩
 refine⟨he,?_⟩
 obtain⟨ms2,hd',hmk2⟩:=hr'.defers.marks
 rw[hd']
 have hmklt:∀p∈mk a1.defers,p.1<w1.heap.size:=fun p hp=>(Array.getElem?_eq_some_iff.1 ((zWi hmk).1 p hp).1).1
 refine zQt a'.tmps ms2 w' (fun p hp=>by rw[f6]at hp;rw[f1];exact hmklt p hp) hmk2 (by rw[← hd'];exact hr') fun w2 hr4=>?_
 have hnb:s'.nb=obs.length:=by
  have h1:=hr4.held.nb;have h2:=hr3.held.nb;have h3:s'.F.nb=(St.F ⟨sl,obsL 0 obs,16,[],fn.ntmps,obs.length,[]⟩).nb:=h1.symm.trans h2;exact h3
 -- the pointers still hold
 have ptr:∀(t i:Nat) (oi ob:Obj),look sl t=some (.ptr i 1 0 0)→obs[i]?=some oi→oi.xs.length=1→look s'.hp i=some ob→ob.xs.length=1→ob.k= .box→∃b,a1.tmps.getD t undef= .pointer (some ⟨b,0,none⟩)∧blk (η' i)=some b:=fun t i oi ob h1 h2 h3 h4 h5 h6=>by
  have hs:=hr1.slots t;have hs':RV ((St.F ⟨sl,obsL 0 obs,16,[],fn.ntmps,obs.length,[]⟩).ctx E2 w1 η1) (.ptr i 1 0 0) (a1.tmps.getD t undef):=by
   have e1:(St.F ⟨sl,obsL 0 obs,16,[],fn.ntmps,0,[]⟩).sl t= .ptr i 1 0 0:=by
    show (look sl t).getD .bot=_
    rw[h1];rfl
   rw[e1]at hs;have e2:(St.F ⟨sl,obsL 0 obs,16,[],fn.ntmps,obs.length,[]⟩).ctx E2 w1 η1=(St.F ⟨sl,obsL 0 obs,16,[],fn.ntmps,0,[]⟩).ctx (E00 w O hO) w1 η1:=by
    unfold FSt.ctx;rw[f2];rfl
   rw[e2];exact hs
  have hin:i<obs.length:=(List.getElem?_eq_some_iff.1 h2).1;have ha:=zIh (s0:=St.F ⟨sl,obsL 0 obs,16,[],fn.ntmps,obs.length,[]⟩) (E:=E2) (o0:=oi) (ob:=ob) hr4 f5 (by rw[f4];exact h2) (by show i<s'.nb;omega) (by show look (obsL 0 obs) i=_;rw[hhp];exact h2) h4 (by omega) (by omega) hs'
  simp only[RV]at ha;obtain⟨_,_,_,ha⟩:=ha;have hhp4:s'.F.hp i=some ob:=h4;simp only[FSt.ctx,hhp4]at ha;obtain⟨b,hb1,hb2⟩:=ha.2.2 (by omega)
  exact⟨b,by rw[hb2];simp,hb1⟩
 obtain⟨be,hbe,hbe2⟩:=ptr te ie oe _ hse hie.1 hie.2 hh1 rfl rfl
 obtain⟨bo,hbo,hbo2⟩:=ptr to io oo _ hso hio.1 hio.2 hh2 rfl rfl
 have hhe:s'.F.hp ie=some ⟨.box,T1,1,[.int .i64 ev]⟩:=hh1
 have hho:s'.F.hp io=some ⟨.box,T2,1,[.agg [x]]⟩:=hh2
 obtain⟨_,_,_,ue,re1,re2,re3,re4⟩:=zCu hr4 hhe (by simp)
 obtain⟨_,_,_,uo,ro1,ro2,ro3,ro4⟩:=zCu hr4 hho (by simp)
 have hce:w2.cell? ⟨be,0,none⟩=some (.int .i64 ev):=by
  simp only[RVl,RV]at re1;obtain⟨u,r,rfl,⟨rfl,_⟩,rfl⟩:=re1;have:=zEo re4 hbe2 0 (.int .i64 ev) rfl;simpa using this
 have hco:ev≠0→w2.cell? ⟨bo,0,none⟩=some (.slice none 0 0):=fun hv=>by
  have hx0:=hx hv;subst hx0;simp only[RVl,RV]at ro1;obtain⟨u,r,rfl,⟨cv,rfl,⟨u2,r2,hcv,rfl,rfl⟩,_⟩,rfl⟩:=ro1;have hfl:flat [Value.agg cv]=[.slice none 0 0]:=by simp[flat,Value.cells,hcv]
  have:=zEo ro4 hbo2 0 (.slice none 0 0) (by rw[hfl];rfl)
  simpa using this
 have hfo:w2.frozen? ⟨bo,0,none⟩=false:=by
  have:=zIt ro4 hbo2 0 0 1 (by simp) (by simp) 0 (by omega)
  simpa using this.2
 rw[f7,hds]
 refine⟨by simp,.inr ⟨fun h=>by simp[Fence.wide]at h,_,_,g,_,rfl,hinv _ _,fun _ _=>trivial,?_⟩⟩
 rw[hbe,hbo]
 refine CallsDIn.mono (hclose be bo ev w2 hce hco hfo) ?_
 rintro e u' w3 ⟨rfl,⟨v,rfl⟩,rfl⟩
 have hm3:zFr w.heap.size w3 a1.defers:=zSb hmk fun p hp=>hr4.defers.fix p (by rw[f6];exact hp)
 have hr5:=hr4.back (w:=w) (O:=O) (ds:=a1.defers) hO hr1.since f1 f2 (fun b hb=>by rw[f3]at hb;exact hown0 b hb) f8 hm3
 show LeavesInM Fence.wide 0 P fn a'.tmps _ a1.defers .returning w3
 refine zHj a'.tmps a1.defers w3 (fun p hp=>by simp[E00]at hp) hr5 (fun w4 hr6=>?_)
 have hres:∀(l:List ResultVar),zGk P { s' with nb:=0 } l=zGk P s' l:=fun l=>by
  induction l with
  |nil=>rfl
  |cons r rs ih=>simp only[zGk,ih];rfl
 obtain⟨v',hv1,hv2⟩:=zFf (s:={ s' with nb:=0 }) (fn:=fn) hr6 (by rw[hres];exact hy1) hy2
 refine⟨v',hv1,v',rfl,zEy (c:=(St.F { s' with nb:=0 }).ctx (E00 w O hO) w4 η') (c':=dctx w4 O) hr6.laid rfl rfl (fun x v hp hx=>?_) (fun id ob b _ hid hg hOb=>?_) 8 _ _ _ hy3 hv2,⟨hr6.since.os,hr6.since.tape,hr6.since.output,hr6.since.size,fun b hb _=>hr6.since.block b hb (fun h=>h)⟩⟩
 ·have h4:=zGo x v hp hx;exact zBg (c:={ (St.F { s' with nb:=0 }).ctx (E00 w O hO) w4 η' with data:=true }) (c':=dctx w4 O) ⟨Nat.le_refl _,fun _ _ _ _=>rfl,fun b _ hb=> .inl hb,rfl,by simp[dctx,FSt.ctx],by simp[FSt.ctx]⟩ x v h4
 ·have hl:=hr6.laid.obj id ob hid;by_cases hk:ob.k= .ro
  ·exact hl.ro hk b hg (.inl hOb)
  ·rcases hr6.fresh b ⟨id,ob,hid,hk,hg⟩with h|h
   ·exact h
   ·have h7:w.heap.size≤b:=h;have:=hO b hOb;omega
end
end Go.AM
