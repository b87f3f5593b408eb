/- Ranges over a function: the iterator and the rounds of its loop, over abstract states. -/
import Derived.Test.YtlgbdpabcbcmcaaGreatDoorLNAmSimp
import Derived.RangeFuncIn
import Derived.OrdersIn
set_option linter.unusedSimpArgs false
set_option linter.unusedVariables false
namespace Go.AM
open Go.RowKit
def Rw(r:Option Nat):Fence:={ Fence.wide with round:=r }
def zCo(o:Oper):Bool:=match o.op with | .defer _=>false|_=>true
section
variable {P : Program} {E : zBf} {r : Option Nat} {n : Nat}
theorem xOt{o:Oper}{a:Act}{w:World}{K:Act→World→Prop}{Q:Exit→Act→World→Prop}(hd:zCo o=true)(h:o.wp P a w K Q):o.wpIn (Rw r) n P a w K Q:=by
 refine⟨fun _ _=>trivial,?_⟩
 rw[Oper.semAt_eq _ _ _ (fun c hc=>by simp[zCo,hc]at hd)]
 unfold Oper.wp at h
 generalize (execOp a.eval o).run P w=x at h
 cases x with
 |halt x w'=>cases x<;>exact h
 |ok x w'=>
  cases x with
  |enter f args=>exact⟨by simp[Rw,Fence.wide],callsIn_wide.2 h⟩
  |row rw_ args=>
   refine⟨by simp[Rw,Fence.wide],fun c cs _=>?_⟩
   obtain⟨v,w2,h1,h2⟩:=h c cs;exact⟨v,w2,h1,stepsIn_wide.2 h2⟩
  |round _ _ _ _ _=>exact h.elim
  |_=>exact h
theorem zHc{ops:Array Oper}{Q:Exit→Act→World→Prop}{i:Nat}{o:Oper}{a:Act}{w:World}{K:Act→World→Prop}(ho:ops[i]?=some o)(hd:zCo o=true)(h:zIk P ops Q o K a w):wpOpIn (Rw r) n P ops Q i K a w:=by
 unfold zIk at h
 unfold wpOpIn
 simp only[ho]
 split
 ·rename_i hw;rw[if_pos hw]at h;exact xOt hd h
 ·rename_i hw;rw[if_neg hw]at h;exact⟨fun _ _=>trivial,h⟩
theorem zQo{ops:Array Oper}{J:Nat→Oper→FSt→Eff→Prop}{τ:Nat→Eff}(L:LawJ P ops E J){Q:Exit→Act→World→Prop}{K:FSt→Prop}(hQ:∀s a w η,K s→Rel E s a w η→Q .normal a w) :
  ∀(l:List Oper) (k:Nat) (s:FSt) (a:Act) (w:World) (η:Nat→Value),(∀j,l[j]?=ops[k+j]?)→l.all zCo=true→SeqT J τ k l s K→Rel E s a w η→wpOpsIn (Rw r) n P ops Q (List.range' k l.length) a w
 |[],k,s,a,w,η,_,_,h,hr=>by simpa[wpOpsIn] using hQ s a w η h hr
 |o::l,k,s,a,w,η,hl,hd,h,hr=>by
  have h0:ops[k]?=some o:=by simpa using(hl 0).symm
  simp only[List.all_cons,Bool.and_eq_true]at hd;simp only[List.length_cons,List.range'_succ,wpOpsIn_cons];refine zHc h0 hd.1 (L.sound k o s _ h.1 a w η hr _ Q fun a' w' η' hr'=>?_)
  exact zQo L hQ l (k+1) _ a' w' η' (fun j=>by have:=hl (j+1);simpa[Nat.add_assoc,Nat.add_comm 1 j] using this) hd.2 h.2 hr'
def AWi(P:Program)(E:zBf)(r:Option Nat)(c:Code)(s:St)(Q:Exit→St→Prop):Prop:=
 ∀n a w η,Rel E s.F a w η→c.wpIn (Rw r) n P (fun e a' w'=>∃s' η',Q e s'∧Rel E s'.F a' w' η') a w
theorem zMj{id:Nat}{ops:Array Oper}{s:St}{Q:Exit→St→Prop}(hd:ops.toList.all zCo=true)
  (h:walk P ops 0 ops.toList s [] fun s' log=>(false=true→yPf P ops log)∧exOk s'.ex (s'.nx+16*ops.size)∧Q .normal (s'.next ops.size)):AWi P E r (.region id ops false) s Q:=by
 intro n a w η hr
 obtain⟨effs,lgs,s',q1,q1',q2,qN,q3,⟨q4,qx,q4'⟩,q6,q5⟩:=zNz (ops:=ops) s.nx ops.toList 0 s [] _ a w η rfl (by simp) h hr
 let τ:Nat→Eff:=fun j=>effs.getD j ⟨.bot,[],[]⟩
 have hτ:∀j e,effs[j]?=some e→τ (0+j)=e:=fun j e he=>by simp[τ,he]
 have hseq:=q5 τ (fun j=>lgs[j]?) hτ (fun j=>by simp)
 have hQ:∀f a w η,f=s'.F→Rel E f a w η→(fun e a' w'=>∃s'' η',Q e s''∧Rel E s''.F a' w' η') .normal a w:=fun f a w η hf hr'=>by
  subst hf;refine⟨s'.next ops.size,η,q4',?_⟩;have:=hr'.more (kn':=fun i=>i<s'.nx+16*ops.size∨i∈[]) (fun i hi=>?_)
  ·exact this
  ·rcases hi with hi|hi
   ·exact .inl (Nat.lt_of_lt_of_le hi (Nat.le_add_right _ _))
   ·exact .inl (zId qx i hi)
 refine wpIn_region ?_
 have:=zQo (τ:=τ) (r:=r) (n:=n) (Q:=fun e a' w'=>∃s'' η',Q e s''∧Rel E s''.F a' w' η') (zRi P ops E s.nx _) hQ ops.toList 0 s.F a w η (by simp) hd hseq hr
 simpa[List.range_eq_range'] using this
def zIv:Code→Bool
 | .region _ ops draw=> !draw&&ops.toList.all zCo
 | .seq a b | .cond _ a b=>zIv a&&zIv b
 | .block _ c=>zIv c
 | .skip | .ret | .exit _ | .label _=>true
 |_=>false
theorem zEz:∀(c:Code) (s:St) (Q:Exit→St→Prop),zIv c=true→aev P E c s Q→AWi P E r c s Q
 | .skip,s,Q,_,h=>fun n a w η hr=>wpIn_skip ⟨s,η,h,hr⟩
 | .label l,s,Q,_,h=>fun n a w η hr=>wpIn_label ⟨s,η,h,hr⟩
 | .ret,s,Q,_,h=>fun n a w η hr=>wpIn_ret ⟨s,η,h,hr⟩
 | .exit id,s,Q,_,h=>fun n a w η hr=>wpIn_exit ⟨s,η,h,hr⟩
 | .region id ops draw,s,Q,hp,h=>by
  simp only[zIv,Bool.and_eq_true,Bool.not_eq_true']at hp;obtain⟨rfl,hd⟩:=hp;exact zMj hd h
 | .seq x y,s,Q,hp,h=>by
  simp only[zIv,Bool.and_eq_true]at hp;intro n a w η hr;have h1:=zEz x s _ hp.1 h n a w η hr;refine wpIn_seq (wpIn_mono h1 ?_);rintro e a' w' ⟨s',η',q,r⟩
  cases e with
  |normal=>exact zEz y s' Q hp.2 q n a' w' η' r
  |_=>exact⟨s',η',q,r⟩
 | .cond c x y,s,Q,hp,h=>by
  simp only[zIv,Bool.and_eq_true]at hp;intro n a w η hr;simp only[aev]at h;split at h
  ·rename_i t ht;have hv:=zAi hr c;rw[St.ev_F,ht]at hv;simp only[RV]at hv;cases t with
   |true=>exact wpIn_cond_true hv (zEz x s Q hp.1 (h.1 rfl) n a w η hr)
   |false=>exact wpIn_cond_false hv (zEz y s Q hp.2 (h.2 rfl) n a w η hr)
  ·exact h.elim
 | .block id c,s,Q,hp,h=>by
  intro n a w η hr;refine wpIn_block (wpIn_mono (zEz c s _ (by simpa[zIv] using hp) h n a w η hr) ?_)
  rintro e a' w' ⟨s',η',q,r⟩
  cases e with
  |exit id'=>
   simp only[Exit.inBlock];simp only[zMm]at q;split
   ·rename_i hid;rw[if_pos hid]at q;exact⟨s',η',q,r⟩
   ·rename_i hid;rw[if_neg hid]at q;exact⟨s',η',q,r⟩
  |_=>exact⟨s',η',q,r⟩
 | .loop c,s,Q,hp,h=>by simp[zIv]at hp
 | .rangeFunc ..,s,Q,hp,h=>by simp[zIv]at hp
 | .scope c,s,Q,hp,h=>by simp[zIv]at hp
 | .goto l,s,Q,hp,h=>by simp[zIv]at hp
 | .refuse _,s,Q,hp,h=>by simp[zIv]at hp
def seqA(P:Program)(E:zBf)(b:Code)(Q:Exit→St→Prop)(e:Exit)(s:St):Prop:=
 match e with
 | .normal=>AW P E b s Q
 |e=>Q e s
theorem yEs{b:Code}{Q:Exit→St→Prop}{s:St}:seqA P E b Q .normal s=AW P E b s Q:=rfl
theorem yQr{b:Code}{Q:Exit→St→Prop}{s:St}{id:Nat}:seqA P E b Q (.exit id) s=Q (.exit id) s:=rfl
theorem xCg{b:Code}{Q:Exit→St→Prop}{s:St}:seqA P E b Q .ret s=Q .ret s:=rfl
theorem zFz{x y:Code}{s:St}{Q:Exit→St→Prop}(h:AW P E x s (seqA P E y Q)):AW P E (.seq x y) s Q:=fun a w η hr=>by
 refine wp_seq (wp_mono (h a w η hr) ?_)
 rintro e a' w' ⟨s',η',q,r⟩
 cases e with
 |normal=>exact q a' w' η' r
 |_=>exact⟨s',η',q,r⟩
theorem zDt(hm:P.follows .mixedOrders=true){x y:Code}{s:St}{Q:Exit→St→Prop}(h:aev P E x s (seqA P E y Q)):AW P E (.seq x y) s Q:=zFz (zDp hm x s _ h)
theorem zPk{id:Nat}{c:Code}{s:St}{Q:Exit→St→Prop}(h:AW P E c s (zMm id Q)):AW P E (.block id c) s Q:=fun a w η hr=>by
 refine wp_block (wp_mono (h a w η hr) ?_)
 rintro e a' w' ⟨s',η',q,r⟩
 cases e with
 |exit id'=>
  simp only[Exit.inBlock];simp only[zMm]at q;split
  ·rename_i hid;rw[if_pos hid]at q;exact⟨s',η',q,r⟩
  ·rename_i hid;rw[if_neg hid]at q;exact⟨s',η',q,r⟩
 |_=>exact⟨s',η',q,r⟩
theorem yKk{c:Code}{s:St}{Q:Exit→St→Prop}{ι:Type}(F:ι→St)(ok:ι→Prop)(m:ι→Nat)(i0:ι)(h0:ok i0)(hle:Le s (F i0))
  (hstep:∀i,ok i→AW P E c (F i) (zRg F ok m i Q)):AW P E (.loop c) s Q:=by
 intro a w η hr
 obtain⟨η',hr'⟩:=hle E a w η hr
 let S:Act→World→Nat→Prop:=fun a w n=>∃i η,ok i∧m i=n∧Rel E (F i).F a w η
 let μ:Act→World→Nat:=fun a w=>Classical.epsilon (fun n=>S a w n∧∀k,S a w k→n≤k)
 have hμ:∀a w,(∃n,S a w n)→S a w (μ a w)∧∀k,S a w k→μ a w≤k:=fun a w h=>Classical.epsilon_spec (xPh _ h)
 refine wp_loop (fun a w=>∃n,S a w n) μ ⟨_,i0,η',h0,rfl,hr'⟩ fun a w hI=>?_
 obtain⟨⟨i,ηi,hok,hmi,hri⟩,hmin⟩:=hμ a w hI
 refine wp_mono (hstep i hok a w ηi hri) ?_
 rintro e a' w' ⟨s',η2,hq,hr2⟩
 cases e with
 |normal=>
  obtain⟨j,hj,hlt,hLe⟩:=hq;obtain⟨η3,hr3⟩:=hLe E a' w' η2 hr2;have hS:S a' w' (m j):=⟨j,η3,hj,rfl,hr3⟩;refine⟨⟨_,hS⟩,?_⟩;have:=(hμ a' w' ⟨_,hS⟩).2 _ hS;omega
 |_=>exact⟨s',η2,hq,hr2⟩
theorem zIh{s0 s:FSt}{w0 w:World}{a:Act}{η0 η:Nat→Value}{i n j o:Nat}{v:Value}{o0 ob:Obj}(hr:Rel E s a w η)(hd:E.hd0=η0)(hh:E.hp0 i=some o0)(hi:i<s.nb)(h0:s0.hp i=some o0)(hs:s.hp i=some ob)(hl:ob.xs.length=o0.xs.length)(hn:n=o0.xs.length)
  (h:RV (s0.ctx E w0 η0) (.ptr i n j o) v):RV (s.ctx E w η) (.ptr i n j o) v:=by
 obtain⟨hkn,q0,q,g1,g2,_,g4,g5,_,_,g8⟩:=hr.held.at_ i hi
 rw[hh]at g1;cases g1
 rw[hs]at g2;cases g2
 simp only[RV]at h ⊢
 obtain⟨hz,_,_,h⟩:=h
 refine⟨hz,rfl,hkn,?_⟩
 simp only[FSt.ctx,h0]at h
 simp only[FSt.ctx,hs]
 obtain⟨b,hb,hv⟩:=h.2.2 hn
 refine⟨fun hk=>h.1 (g5.1 hk),by omega,fun _=>⟨b,?_,by rw[hv,g4]⟩⟩
 rw[g8 hl.symm,hd];exact hb
theorem Rel.swap{s s':FSt}{a a':Act}{w:World}{η:Nat→Value}(hr:Rel E s a w η)(h1:s'.hp=s.hp)(h2:s'.kn=s.kn)(h3:s'.nb=s.nb)(h4:s'.gl=s.gl)(hsl:∀t,RV (s.ctx E w η) (s'.sl t) (a'.tmps.getD t undef))(hN:a'.tmps.size=s'.N)(hd:∃ms,a'.defers=ms++E.dfr∧zFr E.w0.heap.size w ms)(gh:List (V × Value))(hgh:∀p∈gh,RV { s.ctx E w η with data:=true } p.1 p.2) :
  Rel { E with gh:=gh } s' a' w η:=by
 have hctx:s'.ctx { E with gh:=gh } w η=s.ctx E w η:=by unfold FSt.ctx;rw[h1,h2]
 refine⟨fun t=>by rw[hctx];exact hsl t,by rw[hctx];exact hr.laid,⟨hr.since.os,hr.since.tape,hr.since.output,hr.since.size,hr.since.block⟩,fun b hb=>by rw[h1]at hb;exact hr.fresh b hb,hN,⟨hr.defers.fix,hd⟩,⟨by rw[h3];exact hr.held.nb,fun i hi=>?_⟩,fun g p hp=>by rw[hctx];exact hr.glob g p (by rw[← h4];exact hp),fun p hp=>by rw[hctx];exact hgh p hp⟩
 have:=hr.held.at_ i (by rw[← h3];exact hi)
 unfold yDv at this ⊢
 rw[h1,h2]
 exact this
theorem yMv{s s2:FSt}{a:Act}{w:World}{η:Nat→Value}{ops:Array Oper}{oy:Oper}{i l:Nat}{rec:Loop}{fo x:Operand}{ty:Array TypeId}{Q:Exit→Act→World→Prop}{K:Act→World→Prop}(hfix:(l,Go.Obj.loop rec)∈E.fix)(hr:Rel E s a w η)(ho:ops[i]?=some oy)(hg:oy.guard=none)
  (hop:oy.op= .call { callee:= .value fo,args:= #[x],argTypes:=ty }) (hfo:s.ev fo= .func (.yield l) [] []) (hps:rec.params.size=1)
  (hround:RoundIn Fence.wide (n-1) P l rec.fn ((rec.params.zip #[a.eval x]).foldl (fun tmps (t,v)=>tmps.setIfInBounds t v) rec.tmps) rec.assign rec.body w fun e w'=>e= .returned (.bool true)∧∃η',Rel E s2 a w' η')
  (hK:∀w' η',Rel E s2 a w' η'→K (a.put oy.dst (.bool true)) w'):wpOpIn Fence.wide n P ops Q i K a w:=by
 have hv:=zAi hr fo
 rw[hfo]at hv
 simp only[RV,RVl]at hv
 obtain⟨f1,c1,hv,h1,h2⟩:=hv
 have e1:f1= #[]:=by cases f1;simpa using h1
 have e2:c1= #[]:=by cases c1;simpa using h2
 subst e1;subst e2
 have hl:=(hr.defers.fix _ hfix).1
 have hy:=run_yield (P:=P) (args:= #[a.eval x]) hl (by simpa using hps.symm)
 have hrun:(execOp a.eval oy).run P w= .ok (.round l rec.fn ((rec.params.zip #[a.eval x]).foldl (fun tmps (t,v)=>tmps.setIfInBounds t v) rec.tmps) rec.assign rec.body) w:=by
  unfold execOp;simp[hop,hv,resolve,Deferred.ofValue,invoke,hy]
 unfold wpOpIn
 simp only[ho]
 have hw:Region.wanted oy (yielded ops a.tmps)=true:=by simp[Region.wanted,hg]
 rw[if_pos hw]
 refine⟨fun _ _=>trivial,?_⟩
 rw[Oper.semAt_eq _ _ _ (fun c hc=>by rw[hop]at hc;cases hc),hrun]
 refine⟨by simp[Fence.wide],hround.mono ?_⟩
 rintro e w' ⟨rfl,η',h⟩
 exact hK w' η' h
theorem xOy{s:FSt}{tm:Array Value}{w:World}{η:Nat→Value}(h:Rel E s { tmps:=tm,defers:=[] } w η):E.dfr=[]:=by
 obtain⟨ms,h1,_⟩:=h.defers.marks
 simp only[List.nil_eq_append_iff]at h1
 exact h1.2
theorem Rel.marks_of{s:FSt}{a:Act}{w:World}{η:Nat→Value}(h:Rel E s a w η)(hd:E.dfr=[]):zFr E.w0.heap.size w a.defers:=by
 obtain⟨ms,h1,h2⟩:=h.defers.marks
 rw[hd,List.append_nil]at h1
 rw[h1];exact h2
def mk:List Deferred→List (Nat × Go.Obj)
 |[]=>[]
 |d::r=>(match d.target with | .collected D=>[(D,.deferred (some []))]|_=>[])++mk r
theorem zWi{n0:Nat}{w:World}:∀ {ds:List Deferred},zFr n0 w ds→FixW w (mk ds)∧∀p∈mk ds,p.2= .deferred (some [])
 |[],_=>by simp[mk,FixW]
 |d::r,⟨⟨D,h1,h2,h3,h4⟩,h5⟩=>by
  obtain⟨i1,i2⟩:=zWi h5;subst h1;simp only[mk,List.cons_append,List.nil_append];constructor
  ·intro p hp;rcases List.mem_cons.1 hp with rfl|hp
   ·exact⟨h3,rfl⟩
   ·exact i1 p hp
  ·intro p hp;rcases List.mem_cons.1 hp with rfl|hp
   ·rfl
   ·exact i2 p hp
theorem zSb{n0:Nat}{w w':World}:∀ {ds:List Deferred},zFr n0 w ds→FixW w' (mk ds)→zFr n0 w' ds
 |[],_,_=>trivial
 |d::r,⟨⟨D,h1,h2,h3,h4⟩,h5⟩,hf=>by
  subst h1;simp only[mk,List.cons_append,List.nil_append]at hf;exact⟨⟨D,rfl,h2,(hf (D,.deferred (some [])) (by simp)).1,h4⟩,zSb h5 fun p hp=>hf p (by simp[hp])⟩
theorem zIx{n0 l:Nat}{w:World}{rc:Loop}{o:Go.Obj}(hl:w.heap[l]?=some (.loop rc)):∀(ds:List Deferred),zFr n0 w ds→zFr n0 (putO w l o) ds
 |[],_=>trivial
 |d::ds,⟨⟨D,g1,g2,g3,g4⟩,g5⟩=>by
  refine⟨⟨D,g1,g2,?_,g4⟩,zIx hl ds g5⟩;rw[zBl fun e=>by subst e;rw[hl]at g3;cases g3];exact g3
theorem zQp{sB:St}{s3:FSt}{w:World}{η:Nat→Value}{l:Nat}{rc:Loop}{fx:List (Nat × Go.Obj)}{tmps0:Array Value}{aI:Act}(hE:E.fix=(l,Go.Obj.loop rc)::fx)(hfx:∀p∈fx,p.1≠l)(hst:rc.state= .ready)(hpe:rc.pending=none)(hlb:E.w0.heap.size≤l)(hB:Rel E sB.F { tmps:=tmps0,defers:=[] } w η)
  (hassign:AWi P E (some l) rc.assign sB fun e s1=>e= .normal∧AWi P { E with fix:=(l,Go.Obj.loop { rc with state:= .busy })::fx } (some l) rc.body s1 fun e s2=>e= .normal ∧
   ∀a w η,Rel { E with fix:=(l,Go.Obj.loop { rc with state:= .busy })::fx } s2.F a w η→∃η',Rel { E with fix:=(l,Go.Obj.loop { rc with state:= .busy })::fx,gh:=[] } s3 aI w η') :
  RoundIn Fence.wide n P l rc.fn tmps0 rc.assign rc.body w fun e w'=>e= .returned (.bool true)∧∃η',Rel { E with gh:=[] } s3 aI w' η':=by
 refine roundIn_of_wpIn trivial (wpIn_mono (hassign n _ w η hB) ?_)
 rintro e a1 w1 ⟨s1,η1,⟨rfl,hbody⟩,hr1⟩
 have hl1:w1.heap[l]?=some (Go.Obj.loop rc):=(hr1.defers.fix (l,Go.Obj.loop rc) (by rw[hE];simp)).1
 refine⟨_,run_beginRound hl1 hst,?_⟩
 have hlt1:=(Array.getElem?_eq_some_iff.1 hl1).1
 have hr2:Rel { E with fix:=(l,Go.Obj.loop { rc with state:= .busy })::fx } s1.F a1 (putO w1 l (.loop { rc with state:= .busy })) η1:=by
  refine hr1.turn (E':={ E with fix:=(l,Go.Obj.loop { rc with state:= .busy })::fx }) (o:= .loop rc) (o':= .loop { rc with state:= .busy }) hlb hl1 rfl rfl hr1.ghost rfl ⟨fun p hp=>?_,hr1.defers.marks.imp fun _ h=>⟨h.1,zIx hl1 _ h.2⟩⟩
  rcases List.mem_cons.1 hp with rfl|hp
  ·exact⟨zKo hlt1,rfl⟩
  ·obtain⟨q1,q2⟩:=hr1.defers.fix p (by rw[hE];simp[hp])
   exact⟨by rw[zBl (hfx p hp)];exact q1,q2⟩
 refine wpIn_mono (hbody n a1 _ η1 hr2) ?_
 rintro e a2 w3 ⟨s2,η2,⟨rfl,hback⟩,hr3⟩
 obtain⟨η3,hr4⟩:=hback a2 w3 η2 hr3
 have hl3:w3.heap[l]?=some (Go.Obj.loop { rc with state:= .busy }):=(hr4.defers.fix (l,Go.Obj.loop { rc with state:= .busy }) (by simp)).1
 have hlt3:=(Array.getElem?_eq_some_iff.1 hl3).1
 have hend:=run_endRound (P:=P) none hl3
 refine⟨_,_,hend,rfl,η3,?_⟩
 have hrec:({ ({ rc with state:= .busy }:Loop)with state:=if(none:Option Code).isNone then .ready else .done,pending:=none }:Loop)=rc:=by
  cases rc;simp_all
 rw[hrec]
 refine hr4.turn (E':={ E with gh:=[] }) (o:= .loop { rc with state:= .busy }) (o':= .loop rc) hlb hl3 rfl rfl (fun p hp=>nomatch hp) rfl ⟨fun p hp=>?_,hr4.defers.marks.imp fun _ h=>⟨h.1,zIx hl3 _ h.2⟩⟩
 have hp':p∈E.fix:=hp
 rw[hE]at hp'
 rcases List.mem_cons.1 hp' with rfl|hp'
 ·exact⟨zKo hlt3,rfl⟩
 ·obtain⟨q1,q2⟩:=hr4.defers.fix p (by simp[hp'])
  exact⟨by rw[zBl (hfx p hp')];exact q1,q2⟩
theorem Rel.setFix{s:FSt}{a:Act}{w:World}{η:Nat→Value}(hr:Rel E s a w η){fx:List (Nat × Go.Obj)}(h:FixW w fx):Rel { E with fix:=fx } s a w η:=
 ⟨hr.slots,hr.laid,⟨hr.since.os,hr.since.tape,hr.since.output,hr.since.size,hr.since.block⟩,hr.fresh,hr.tmps,⟨h,hr.defers.marks⟩,⟨hr.held.nb,hr.held.at_⟩,hr.glob,hr.ghost⟩
def yGx(s:St)(σ:Ren):List (Nat × V)→Prop
 |[]=>True
 |(t,y)::r=>vLe (look s.hp) (σf σ) (· ∈([]:List Nat)) (s.get t) y∧yGx s σ r
theorem zZl{s:St}{σ:Ren}:∀ {l:List (Nat × V)},yGx s σ l→∀p∈l,vLe (look s.hp) (σf σ) (· ∈([]:List Nat)) (s.get p.1) p.2
 |(t,y)::r,h,p,hp=>by
  simp only[yGx]at h;rcases List.mem_cons.1 hp with rfl|hp
  ·exact h.1
  ·exact zZl h.2 p hp
def Iter(P:Program)(gf:FuncId)(ps:Array Tmp)(assign body:Code)(N:Nat)(gl:zCd)(obs:List Obj)(capsR:List V)(csl:List (Nat × V))(obs':List Obj):Prop:=
 ∀(E':zBf) (l:Nat) (rec:Loop) (cargs:Array Value) (W:World) (η0:Nat→Value),rec.state= .ready→rec.pending=none→rec.params=ps→rec.assign=assign→rec.body=body→rec.tmps.size=N→E'.fix=[(l,Go.Obj.loop rec)]→E'.gh=[]→E'.w0.heap.size≤l→E'.nb=obs.length→E'.hp0=(fun i=>obs[i]?)→E'.hd0=η0 →
  (∀p∈csl,RV ((inF obs (.func (.yield l) [] []::capsR) gl).ctx E' W η0) p.2 (rec.tmps.getD p.1 undef)) →
  Rel E' (inF obs (.func (.yield l) [] []::capsR) gl) { tmps:=cargs,defers:=[] } W η0 →
  Calls P gf cargs W fun e w'=>∃v η',e= .returned v∧Rel E' (outF obs.length obs' (.tup []) gl) { tmps:= #[v],defers:=[] } w' η'
theorem xKv{g:Operand}{ps:Array Tmp}{assign body:Code}{s:St}{Q:Exit→St→Prop}{gf:FuncId}{capsV capsR:List V}{obs obs':List Obj}(σ:Ren)(live:List Nat)(csl:List (Nat × V))
  (hfn : ∃ fn, P.funcs[gf]? = some fn ∧ fn.body.isSome = true ∧ (fn.name == "runtime.NumGoroutine") = false) (hg : s.ev g = .func (.func gf) [] capsV)
  (hren:zTc obs.length live σ∧zJo (look s.hp) σ (· ∈([]:List Nat)) 0 obs) (hcaps:vsLe (look s.hp) (σf σ) (· ∈([]:List Nat)) capsV capsR) (hro:noRo obs') (hlen:obs'.length=obs.length∧∀i,i<obs.length→∃j,look σ i=some (some j))
  (hcsl:yGx s σ csl) (hit:Iter P gf ps assign body s.N s.gl obs capsR csl obs')
  (hQ:Q .normal { s with hp:=outU (τr σ 0) 0 obs'++s.hp,ex:=(outU (τr σ 0) 0 obs').map (·.1)++s.ex }):AW P E (.rangeFunc g ps assign body) s Q:=by
 intro a w η hr
 have hgv:=zAi hr g
 rw[St.ev_F,hg]at hgv
 simp only[RV,RVl]at hgv
 obtain⟨f1,c1,hgv,h1,hc1⟩:=hgv
 have e1:f1= #[]:=by cases f1;simpa using h1
 subst e1
 obtain⟨fnI,hfI,hbI,hnI⟩:=hfn
 have hj:=zFg hren.1
 have H:Hand s.F.hp σ [] obs:=⟨fun i j hij=>⟨(hj.1 i _ hij).1,by simp⟩,fun i hi=>(hj.1 i _ hi).1,hj.2,fun i o ho=>by have:=zLt hren.2 i o ho;rwa [Nat.zero_add]at this⟩
 -- the two blocks
 obtain⟨wD,hwD⟩:∃wD,w.alloc (.deferred (some []))=wD:=⟨_,rfl⟩
 have hgD:w.grownBy wD none:=by rw[← hwD];exact World.grownBy_alloc w _ none
 have hrD:=hr.grow hgD
 have hDs:wD.heap.size=w.heap.size+1:=by rw[← hwD];simp
 have hDat:wD.heap[w.heap.size]?=some (.deferred (some [])):=by rw[← hwD];exact World.alloc_heap_new w _
 refine(wpIn_wide (n:=1)).1 (wpIn_rangeFunc ?_)
 intro fn _
 let rc:Loop:={ state:= .ready,pending:=none,fn,tmps:=a.tmps,params:=ps,assign,body,defers:=w.heap.size }
 obtain⟨W1,hW1⟩:∃W1,wD.alloc (.loop rc)=W1:=⟨_,rfl⟩
 have hg1:wD.grownBy W1 none:=by rw[← hW1];exact World.grownBy_alloc wD _ none
 have hL1:W1.heap[w.heap.size+1]?=some (.loop rc):=by
  rw[← hW1,← hDs];exact World.alloc_heap_new wD _
 refine⟨w.heap.size+1,[{ target:= .collected w.heap.size,args:= #[] }],W1,{ target:= .fn (.func gf) c1,args:= #[.func (.yield (w.heap.size+1)) #[] #[]] },W1,gf,#[.func (.yield (w.heap.size+1)) #[] #[]]++c1,W1,?_,?_,fun _ _=>trivial,?_,by simp[Fence.wide],?_⟩
 ·rw[← hW1,← hwD];have:Fence.wide.round=none:=rfl;rw[this];exact run_enterLoop_outer _ _ _ _ _
 ·simp only[resolve,hgv];simp[go_sem]
 ·have hn : ¬ fnI.name = "runtime.NumGoroutine" := by simpa using hnI
  have hb:¬fnI.body=none:=fun h=>by simp[h]at hbI
  simp[invoke,callFunc,hfI,hn,hb]
 ·refine callsIn_wide.2 ?_
  let l:=w.heap.size+1
  have hx:RVl (s.F.ctx E wD η) (.func (.yield l) [] []::capsV) (#[Value.func (.yield l) #[] #[]]++c1).toList:=by
   have hc1':RVl (s.F.ctx E wD η) capsV c1.toList:=by
    have K:zGy (s.F.ctx E w η) (s.F.ctx E wD η):=⟨hgD.size,fun b hb _ _=>hgD.block b hb (by simp),fun b _ h=>h,rfl,fun _ _ h=>h,fun _ id _=>by
     unfold zMh;cases h1:s.F.hp id<;>simp[FSt.ctx,h1]⟩
    exact zCm K _ _ hc1
   simp only[Array.toList_append,List.cons_append,List.nil_append,RVl];exact⟨_,_,rfl,by simp only[RV,RVl];exact⟨#[],#[],rfl,rfl,rfl⟩,hc1'⟩
  have hargs:vsLe s.F.hp (σf σ) (· ∈([]:List Nat)) (.func (.yield l) [] []::capsV) (.func (.yield l) [] []::capsR):=by
   simp only[vsLe];exact⟨_,_,rfl,by simp[vLe,vsLe],hcaps⟩
  have hin:=zUm hrD H hx hargs (gl:=s.gl) (fun g p h=>h)
  have T:=zSn hrD H (.func (.yield l) [] []::capsR) s.gl;have hin1:=(hin.grow hg1).setFix (fx:=[(l,Go.Obj.loop rc)]) (fun p hp=>by
   simp only[List.mem_singleton]at hp;subst hp;exact⟨hL1,rfl⟩)
  have hcall:=hit { refE E s.F wD η σ [] obs (zGq hrD)with fix:=[(l,Go.Obj.loop rc)] } l rc _ W1 (η2 η σ) rfl rfl rfl rfl rfl hr.tmps rfl rfl (by show wD.heap.size≤l;rw[hDs];exact Nat.le_refl _) rfl rfl rfl (fun p hp=>?_) hin1
  ·refine hcall.mono ?_;rintro e w2 ⟨v,η',rfl,hout⟩
   have hl2:w2.heap[l]?=some (.loop rc):=(hout.defers.fix (l,Go.Obj.loop rc) (by simp)).1
   have hlt2:=(Array.getElem?_eq_some_iff.1 hl2).1;refine⟨none,_,run_endLoop hl2 (by simp[rc]),?_⟩
   obtain⟨η1,h1,_⟩:=zOm (fid:=0) hrD H.light (E':={ refE E s.F wD η σ [] obs (zGq hrD)with fix:=[(l,Go.Obj.loop rc)] }) rfl (fun b=>Iff.rfl) rfl rfl (zRz hro) (fun i hi hn=>by
    obtain⟨j,hj⟩:=hlen.2 i (by rw[← hlen.1];exact hi)
    exact absurd hj (hn j)) (.inr fun b hb hn=>⟨hb,by simp[Bor],hn⟩) hout
   refine⟨_,η1,hQ,?_⟩;have hF:({ s with hp:=outU (τr σ 0) 0 obs'++s.hp,ex:=(outU (τr σ 0) 0 obs').map (·.1)++s.ex }:St).F=s.F.upd (outU (τr σ 0) 0 obs'):=by
    have hh:look (outU (τr σ 0) 0 obs'++s.hp)=zCy (outU (τr σ 0) 0 obs') (look s.hp):=zMy _ _;have hk:(fun i=>i<s.nx∨i∈(outU (τr σ 0) 0 obs').map (·.1)++s.ex)=fun i=>i∈(outU (τr σ 0) 0 obs').map (·.1)∨(i<s.nx∨i∈s.ex):=by
     funext i
     simp only[List.mem_append];exact propext ⟨fun h=>by rcases h with h|h|h<;>simp[h],fun h=>by rcases h with h|h|h<;>simp[h]⟩
    simp only[St.F,FSt.upd,hh,hk];rfl
   rw[hF];have hsz:E.w0.heap.size≤w.heap.size:=hr.since.size;have hDk:w2.heap[w.heap.size]?=some (.deferred (some [])):=by
    rw[hout.since.block w.heap.size (by show _<wD.heap.size;omega) (fun h=>?_)]
    ·exact hDat
    ·obtain⟨i,j,o,_,h2,_,h4⟩:=zHz H.light h;obtain⟨us3,_,r3⟩:=(hr.laid.obj j o h2).row;have h5:w.heap.size<w.heap.size:=r3.lt h4;exact absurd h5 (Nat.lt_irrefl _)
   have hw2:∀b o,w.heap[b]?=some o→opq o=true→w2.heap[b]?=some o:=fun b o hb hq=>by
    have hbl:=(Array.getElem?_eq_some_iff.1 hb).1;rw[hout.since.block b (by show _<wD.heap.size;omega) (fun h=>?_)]
    ·show wD.heap[b]?=_
     rw[hgD.block b hbl (by simp)];exact hb
    ·obtain⟨i,j,o3,_,h2,_,h4⟩:=zHz H.light h;obtain⟨us3,_,r3⟩:=(hr.laid.obj j o3 h2).row;rw[r3.notOpq h4 hb]at hq;cases hq
   refine h1.turn (E':=E) (a':={ a with defers:=[{ target:= .collected w.heap.size,args:= #[] }]++a.defers }) (o:= .loop rc) (o':= .loop { rc with state:= .exhausted }) (by omega) hl2 rfl rfl h1.ghost rfl ⟨fun p hp=>?_,?_⟩
   ·obtain⟨q1,q2⟩:=hr.defers.fix p hp;have hpl:=(Array.getElem?_eq_some_iff.1 q1).1;refine⟨?_,q2⟩;rw[zBl (by omega)]
    exact hw2 _ _ q1 q2
   ·have hold:∀(ds:List Deferred),zFr E.w0.heap.size w ds→zFr E.w0.heap.size (putO w2 l (.loop { rc with state:= .exhausted })) ds∧∀d'∈ds,d'≠{ target:= .collected w.heap.size,args:= #[] }:=by
     intro ds;induction ds with
     |nil=>intro _;exact⟨trivial,by simp⟩
     |cons d ds ih=>
      rintro⟨⟨D,g1,g2,g3,g4⟩,g5⟩
      have hDl:=(Array.getElem?_eq_some_iff.1 g3).1;obtain⟨i1,i2⟩:=ih g5;refine⟨⟨⟨D,g1,g2,?_,g4⟩,i1⟩,fun d' hd'=>?_⟩
      ·rw[zBl (by omega)]
       exact hw2 _ _ g3 rfl
      ·rcases List.mem_cons.1 hd' with rfl|hd'
       ·rw[g1];intro e
        injection e with e _
        injection e with e
        omega
       ·exact i2 d' hd'
    obtain⟨ms,hms,hmk⟩:=hr.defers.marks;obtain⟨i1,i2⟩:=hold ms hmk;refine⟨{ target:= .collected w.heap.size,args:= #[] }::ms,by simp[hms],⟨w.heap.size,rfl,hsz,?_,i2⟩,i1⟩
    rw[zBl (by omega)]
    exact hDk
  ·have h0:=zZl hcsl p hp;have hsv:=hrD.slots p.1;have h2:=zKg T _ _ _ h0 hsv;have K:zGy ((inF obs (.func (.yield l) [] []::capsR) s.gl).ctx (refE E s.F wD η σ [] obs (zGq hrD)) wD (η2 η σ)) ((inF obs (.func (.yield l) [] []::capsR) s.gl).ctx { refE E s.F wD η σ [] obs (zGq hrD)with fix:=[(l,Go.Obj.loop rc)] } W1 (η2 η σ)):=⟨hg1.size,fun b hb _ _=>hg1.block b hb (by simp),fun b _ h=>h,rfl,fun _ _ h=>h,fun _ id _=>by
     unfold zMh;show match obs[id]? with|none=>obs[id]?=none|some o=>match obs[id]? with|none=>True|some o'=>_
     cases h1:obs[id]?<;>simp[FSt.ctx]⟩
   exact zBg K _ _ h2
theorem zCr{ops:Array Oper}{Q:Exit→Act→World→Prop}:∀(l:List Oper) (i:Nat) (s:St) (log:List LogE) (K:St→List LogE→Prop) (rest:List Nat) (a:Act) (w:World) (η:Nat→Value),(∀(j:Nat) o,l[j]?=some o→ops[i+j]?=some o)→l.all zCo=true→walk P ops i l s log K→Rel E s.F a w η →
  (∀s' log' a' w' η',K s' log'→s'.nx=s.nx→Rel E s'.F a' w' η'→wpOpsIn (Rw r) n P ops Q rest a' w')→wpOpsIn (Rw r) n P ops Q (List.range' i l.length++rest) a w
 |[],i,s,log,K,rest,a,w,η,_,_,h,hr,hK=>by simpa using hK s log a w η h rfl hr
 |o::l,i,s,log,K,rest,a,w,η,hl,hd,h,hr,hK=>by
  have h0:ops[i]?=some o:=by simpa using hl 0 o rfl
  simp only[List.all_cons,Bool.and_eq_true]at hd;simp only[walk]at h;obtain⟨e,he,hw⟩:=zUa h hr;simp only[List.length_cons,List.range'_succ,List.cons_append,wpOpsIn_cons];refine zHc h0 hd.1 ((xLm P ops E s.nx).sound i o s.F e he a w η hr _ Q fun a' w' η' hr'=>?_)
  rw[← St.app_F]at hr';exact zCr l (i+1) _ _ K rest a' w' η' (fun j o' ho=>by have:=hl (j+1) o' (by simpa using ho);rwa [show i+(j+1)=i+1+j by omega]at this) hd.2 hw hr' fun s' log' a' w' η' h1 h2 h3=>hK s' log' a' w' η' h1 h2 h3
def xTe(P:Program)(E:zBf)(oy:Oper)(s:St)(K:St→Prop):Prop:=
 ∃(l:Nat) (rc:Loop) (fo x:Operand) (ty:Array TypeId) (hp2:List (Nat × Obj)),(l,Go.Obj.loop rc)∈E.fix∧oy.guard=none∧oy.op= .call { callee:= .value fo,args:= #[x],argTypes:=ty }∧s.ev fo= .func (.yield l) [] []∧rc.params.size=1 ∧
  (∀(a:Act) (w:World) (η:Nat→Value),Rel E s.F a w η→∀n,RoundIn Fence.wide n P l rc.fn ((rc.params.zip #[a.eval x]).foldl (fun tmps (t,v)=>tmps.setIfInBounds t v) rc.tmps) rc.assign rc.body w fun e w'=>e= .returned (.bool true)∧∃η',Rel E ({ s with hp:=hp2 }:St).F a w' η') ∧
  K (({ s with hp:=hp2 }:St).app oy.dst ⟨.bool true,[],[]⟩)
theorem xKu{id:Nat}{ops:Array Oper}{l1 l2:List Oper}{oy:Oper}{s:St}{Q:Exit→St→Prop}(hops:ops.toList=l1++oy::l2)(hd:(l1++l2).all zCo=true)
  (h:walk P ops 0 l1 s [] fun s1 _=>xTe P E oy s1 fun s2=>s2.nx=s.nx→walk P ops (l1.length+1) l2 s2 [] fun s3 _=>exOk s3.ex (s3.nx+16*ops.size)∧Q .normal (s3.next ops.size)):AW P E (.region id ops false) s Q:=by
 intro a w η hr
 simp only[List.all_append,Bool.and_eq_true]at hd
 refine(wpIn_wide (n:=1)).1 (wpIn_region ?_)
 have hsz:ops.size=l1.length+(1+l2.length):=by
  have:=congrArg List.length hops;simp at this;omega
 have hrange:List.range ops.size=List.range' 0 l1.length++(l1.length::List.range' (l1.length+1) l2.length):=by
  rw[hsz,List.range_eq_range',← List.range'_append_1,← List.range'_append_1 (s:=0+l1.length)];simp
 have hat:∀j,ops[j]?=(l1++oy::l2)[j]?:=fun j=>by rw[← hops,Array.getElem?_toList]
 rw[hrange]
 refine zCr (r:=none) l1 0 s [] _ _ a w η (fun j o ho=>?_) hd.1 h hr fun s1 log a1 w1 η1 hy hnx hr1=>?_
 ·rw[Nat.zero_add,hat,List.getElem?_append_left (List.getElem?_eq_some_iff.1 ho).1];exact ho
 ·obtain⟨l,rc,fo,x,ty,hp2,hfix,hg,hop,hfo,hps,hround,hK⟩:=hy;have hoy:ops[l1.length]?=some oy:=by rw[hat,List.getElem?_append_right (Nat.le_refl _)];simp
  rw[wpOpsIn_cons];refine yMv (s:=s1.F) hfix hr1 hoy hg hop (by rw[St.ev_F];exact hfo) hps (hround a1 w1 η1 hr1 _) fun w2 η2 hr2=>?_
  have hr3:=hr2.put oy.dst (x:= .bool true) (v:= .bool true) zFq;have hF:(({ s1 with hp:=hp2 }:St).app oy.dst ⟨.bool true,[],[]⟩).F=(({ s1 with hp:=hp2 }:St).F).put oy.dst (.bool true):=by rw[St.app_F,FSt.app_nil]
  rw[← hF]at hr3;have hw2:=hK hnx;have:=zCr (r:=none) (n:=1) (Q:=fun e a' w'=>∃s' η',Q e s'∧Rel E s'.F a' w' η') l2 (l1.length+1) _ [] _ [] _ w2 η2 (fun j o ho=>?_) hd.2 hw2 hr3 fun s3 log3 a3 w3 η3 hk3 hnx3 hr4=>?_
  ·rw[List.append_nil]at this;exact this
  ·rw[hat,List.getElem?_append_right (by omega),show l1.length+1+j-l1.length=j+1 by omega]
   simpa using ho
  ·simp only[wpOpsIn];obtain⟨hx,hq⟩:=hk3;refine⟨s3.next ops.size,η3,hq,?_⟩;have:=hr4.more (kn':=fun i=>i<s3.nx+16*ops.size∨i∈[]) (fun i hi=>?_)
   ·exact this
   ·rcases hi with hi|hi
    ·exact .inl (Nat.lt_of_lt_of_le hi (Nat.le_add_right _ _))
    ·exact .inl (zId hx i hi)
theorem xXd{c:Code}{s s':St}{Q:Exit→St→Prop}(h:Le s s')(h2:AW P E c s' Q):AW P E c s Q:=fun a w η hr=>by
 obtain⟨η',hr'⟩:=h E a w η hr
 exact h2 a w η' hr'
def xUr(s':St)(e:Exit)(s:St):Prop:=
 match e with
 | .normal=>Le s s'
 |_=>False
theorem yBs{s s':St}:xUr s' .normal s=Le s s':=rfl
theorem yZt(hm:P.follows .mixedOrders=true){x y:Code}{s:St}{Q:Exit→St→Prop}(s':St)(hx:aev P E x s (xUr s'))(hy:AW P E y s' Q):AW P E (.seq x y) s Q:=fun a w η hr=>by
 refine wp_seq (wp_mono (zDp hm x s _ hx a w η hr) ?_)
 rintro e a' w' ⟨s2,η',q,r⟩
 cases e with
 |normal=>
  obtain⟨η2,hr2⟩:=q E a' w' η' r;exact hy a' w' η2 hr2
 |_=>exact q.elim
theorem zAy{c:Code}{s:St}{Q:Exit→St→Prop}(h:aev P E c s Q)(hm:P.follows .mixedOrders=true):AW P E c s Q:=zDp hm c s Q h
theorem yIy{α:Type}:∀ {l:List (Nat × α)} {t:Nat} {x:α},look l t=some x→(t,x)∈l
 |[],t,x,h=>by simp[look]at h
 |(k,y)::r,t,x,h=>by
  simp only[look]at h;split at h
  ·rename_i hk;cases h;subst hk;simp
  ·exact List.mem_cons_of_mem _ (yIy h)
def yEq(c:Ctx)(tm:Array Value):List (Nat × V)→Prop
 |[]=>True
 |(t,x)::r=>RV c x (tm.getD t undef)∧yEq c tm r
theorem zRu{s:St}{c:Ctx}{tm:Array Value}(hd:c.data=false)(h:yEq c tm s.sl)(t:Nat):RV c (s.get t) (tm.getD t undef):=by
 have key:∀(l:List (Nat × V)),yEq c tm l→∀p∈l,RV c p.2 (tm.getD p.1 undef):=by
  intro l;induction l with
  |nil=>intro _ p hp;simp at hp
  |cons q l ih=>
   rintro⟨h1,h2⟩ p hp
   rcases List.mem_cons.1 hp with rfl|hp
   ·exact h1
   ·exact ih h2 p hp
 unfold St.get
 cases hl:look s.sl t with
 |none=>simp only[Option.getD_none,RV];exact hd
 |some x=>exact key _ h _ (yIy hl)
theorem zZy{E2:zBf}{s s2:FSt}{w w2:World}{a a2:Act}{η η2:Nat→Value}{i n j o:Nat}{v:Value}{o0 ob ob2:Obj}(hr:Rel E s a w η)(hr2:Rel E2 s2 a2 w2 η2)(hd:E2.hd0=E.hd0)(hp:E2.hp0=E.hp0)(h0:E.hp0 i=some o0)(hi:i<s.nb)(hi2:i<s2.nb)(hs:s.hp i=some ob)(hs2:s2.hp i=some ob2)
  (hl:ob.xs.length=o0.xs.length) (hl2:ob2.xs.length=o0.xs.length) (h:RV (s.ctx E w η) (.ptr i n j o) v) (hn:n=o0.xs.length):RV (s2.ctx E2 w2 η2) (.ptr i n j o) v:=by
 obtain⟨_,q0,q,g1,g2,_,g4,g5,_,_,g8⟩:=hr.held.at_ i hi
 obtain⟨hkn,q0',q',k1,k2,_,k4,k5,_,_,k8⟩:=hr2.held.at_ i hi2
 rw[h0]at g1;cases g1
 rw[hp,h0]at k1;cases k1
 rw[hs]at g2;cases g2
 rw[hs2]at k2;cases k2
 simp only[RV]at h ⊢
 obtain⟨hz,_,_,h⟩:=h
 refine⟨hz,rfl,hkn,?_⟩
 simp only[FSt.ctx,hs]at h
 simp only[FSt.ctx,hs2]
 obtain⟨b,hb,hv⟩:=h.2.2 (by omega)
 refine⟨fun hk=>h.1 (g5.2 (k5.1 hk)),by omega,fun _=>⟨b,?_,by rw[hv,g4,k4]⟩⟩
 rw[k8 hl2.symm,hd,← g8 hl.symm];exact hb
theorem zSi{c c':Ctx}{l:Nat}{v:Value}(h:RV c (.func (.yield l) [] []) v):RV c' (.func (.yield l) [] []) v:=by
 simpa only[RV,RVl] using h
theorem xAo{g:Operand}{ps:Array Tmp}{x y:Code}{s:St}{Q:Exit→St→Prop}:aev P E (.rangeFunc g ps x y) s Q=AW P E (.rangeFunc g ps x y) s Q:=rfl
end
attribute [go_sem ↓] xAo yEs yQr xCg yBs
end Go.AM
