/- Ranges over a function that are left early; a row that is cut to none; deferred calls. -/
import Derived.Test.YtlgbdpabcbcmcaaGreatDoorLNAmMore
import Derived.Test.YtlgbdpabcbcmcaaGreatDoorLNAmRange
set_option linter.unusedSimpArgs false
set_option linter.unusedVariables false
namespace Go.AM
open Go.RowKit
section
variable {P : Program} {E E2 : zBf} {r : Option Nat} {n : Nat}
theorem zRf{md:Region.Mode}{ops:Array Oper}{J:Nat→Oper→FSt→Eff→Prop}{τ:Nat→Eff}(L:LawJ P ops E J)(hdf:ops.toList.all zCo=true){Q:Exit→Act→World→Prop}{K:FSt→Prop}(hQ:∀s a w η,K s→Rel E s a w η→Q .normal a w) :
  ∀(fuel:Nat) (listed:Array Bool) (s:FSt) (a:Act) (w:World) (η:Nat→Value),AnyT J md ops τ K fuel listed s→Rel E s a w η→wpAnyIn (Rw r) n P md ops Q fuel listed a w
 |0,_,s,a,w,η,h,hr=>⟨h.1,hQ s a w η h.2 hr⟩
 |fuel+1,listed,s,a,w,η,h,hr=>by
  refine⟨fun h0=>hQ s a w η (h.1 h0) hr,fun i hi=>?_⟩
  obtain⟨hs,hn⟩:=h.2 i hi;cases ho:ops[i]? with
  |none=>
   have:=(mem_ready.1 hi).2;simp[ho]at this
  |some o=>
   have hd1:zCo o=true:=by
    have hm:o∈ops.toList:=by
     rw[List.mem_iff_getElem?];exact⟨i,by simpa using ho⟩
    exact List.all_eq_true.1 hdf o hm
   refine zHc ho hd1 (L.sound i o s _ (hs o ho) a w η hr _ Q fun a' w' η' hr'=>?_)
   refine zRf L hdf hQ fuel _ _ a' w' η' hn ?_;simpa[appT,ho] using hr'
theorem zTd(hm:P.follows .mixedOrders=true){id:Nat}{ops:Array Oper}{draw:Bool}{s:St}{Q:Exit→St→Prop}(hdf:ops.toList.all zCo=true)
  (h:walk P ops 0 ops.toList s [] fun s' log=>(draw=true→yPf P ops log)∧exOk s'.ex (s'.nx+16*ops.size)∧Q .normal (s'.next ops.size)):AWi P E r (.region id ops draw) s Q:=by
 cases draw with
 |false=>exact zMj hdf h
 |true=>
  intro n a w η hr;obtain⟨effs,lgs,s',q1,q1',q2,qN,q3,⟨q4,qx,q4'⟩,q6,q5⟩:=zNz (ops:=ops) s.nx ops.toList 0 s [] _ a w η rfl (by simp) h hr
  let τ:Nat→Eff:=fun j=>effs.getD j ⟨.bot,[],[]⟩
  have hτ:∀j e,effs[j]?=some e→τ (0+j)=e:=fun j e he=>by simp[τ,he]
  let lg:Nat→Option LogE:=fun j=>lgs[j]?
  have hlg:∀j,lg (0+j)=lgs[j]?:=fun j=>by simp[lg]
  have hseq:=q5 τ lg hτ hlg;have hQ:∀f a w η,f=s'.F→Rel E f a w η→(fun e a' w'=>∃s'' η',Q e s''∧Rel E s''.F a' w' η') .normal a w:=fun f a w η hf hr'=>by
   subst hf;refine⟨s'.next ops.size,η,q4',?_⟩;have:=hr'.more (kn':=fun i=>i<s'.nx+16*ops.size∨i∈[]) (fun i hi=>?_)
   ·exact this
   ·rcases hi with hi|hi
    ·exact .inl (Nat.lt_of_lt_of_le hi (Nat.le_add_right _ _))
    ·exact .inl (zId qx i hi)
  have hd:=q4 rfl;have hboth:∃L,zXd ops L (lgs.reverse++[])=true∧zKx P (lgs.reverse++[]).reverse L:=by
   rcases hd with hd|hd
   ·exact⟨[],hd,by simp[zKx]⟩
   ·exact hd
  obtain⟨L,hd,hlate⟩:=hboth;simp only[zXd,Bool.and_eq_true,List.append_nil,List.map_reverse,List.reverse_reverse]at hd hlate;have hB:=hd.1;have hind:∀i j oj,i<j→ops[j]?=some oj→¬Up .any ops i j→Comm (JL P ops s.nx lg) ops τ i j:=fun i j oj hij hoj hno=>by
   have hsz:ops.toList.length=ops.size:=by simp
   have hjl:j<ops.size:=(Array.getElem?_eq_some_iff.1 hoj).1;have hj:effs[j]?=some effs[j]:=List.getElem?_eq_getElem (by omega)
   have hi:effs[i]?=some effs[i]:=List.getElem?_eq_getElem (by omega)
   have hj':lgs[j]?=some lgs[j]:=List.getElem?_eq_getElem (by omega)
   have hi':lgs[i]?=some lgs[i]:=List.getElem?_eq_getElem (by omega)
   have e1:τ i=effs[i]:=by simpa using hτ i _ hi
   have e2:τ j=effs[j]:=by simpa using hτ j _ hj
   obtain⟨f1,f2⟩:=q6 i _ _ hi hi';obtain⟨g1,g2⟩:=q6 j _ _ hj hj';rcases yBu hd.2 i j _ _ oj hij (by rw[List.getElem?_map,hi'];rfl) (by rw[List.getElem?_map,hj'];rfl) hoj hno with hl|hl
   ·obtain⟨x,y,hx,hy,hz,hl'⟩:=zNb hlate (i,j) hl;simp only at hx hy;rw[hi']at hx;cases hx;rw[hj']at hy;cases hy;rw[f1]at hz;exact yCq (E:=E) (x:=lgs[i]) (y:=lgs[j]) (by simp[lg]) (by rw[e1];exact hz) (by rw[e2];exact g2) hl'
   ·refine zPc (zRi P ops E s.nx lg) ?_;rw[e1,e2];rw[f1,g1]at hl;exact hl
  simp only[Region.lexB,Bool.and_eq_true]at hB;refine wpIn_region_any hm (zRf (τ:=τ) (zRi P ops E s.nx lg) hdf hQ _ _ s.F a _ η ?_ (hr.grow ⟨rfl,rfl,rfl,Nat.le_refl _,fun _ _ _=>rfl⟩))
  have:=zZu (md:= .any) (zRi P ops E s.nx lg) hind ops.toList 0 (Array.replicate ops.size false) s.F (fun m om hm=>(by simp[Array.getElem?_replicate]at hm;split at hm<;>simp at hm)) (by simp) (by omega) (by simpa using hB.2) hseq
  simpa using this
def zIu:Code→Bool
 | .region _ ops _=>ops.toList.all zCo
 | .seq a b | .cond _ a b=>zIu a&&zIu b
 | .block _ c=>zIu c
 | .skip | .ret | .exit _ | .label _=>true
 |_=>false
theorem zCw(hm:P.follows .mixedOrders=true):∀(c:Code) (s:St) (Q:Exit→St→Prop),zIu c=true→aev P E c s Q→AWi P E r c s Q
 | .skip,s,Q,_,h=>fun n a w η hr=>wpIn_skip ⟨s,η,h,hr⟩
 | .label l,s,Q,_,h=>fun n a w η hr=>wpIn_label ⟨s,η,h,hr⟩
 | .ret,s,Q,_,h=>fun n a w η hr=>wpIn_ret ⟨s,η,h,hr⟩
 | .exit id,s,Q,_,h=>fun n a w η hr=>wpIn_exit ⟨s,η,h,hr⟩
 | .region id ops draw,s,Q,hp,h=>zTd hm (by simpa[zIu] using hp) h
 | .seq x y,s,Q,hp,h=>by
  simp only[zIu,Bool.and_eq_true]at hp;intro n a w η hr;have h1:=zCw hm x s _ hp.1 h n a w η hr;refine wpIn_seq (wpIn_mono h1 ?_);rintro e a' w' ⟨s',η',q,r⟩
  cases e with
  |normal=>exact zCw hm y s' Q hp.2 q n a' w' η' r
  |_=>exact⟨s',η',q,r⟩
 | .cond c x y,s,Q,hp,h=>by
  simp only[zIu,Bool.and_eq_true]at hp;intro n a w η hr;simp only[aev]at h;split at h
  ·rename_i t ht;have hv:=zAi hr c;rw[St.ev_F,ht]at hv;simp only[RV]at hv;cases t with
   |true=>exact wpIn_cond_true hv (zCw hm x s Q hp.1 (h.1 rfl) n a w η hr)
   |false=>exact wpIn_cond_false hv (zCw hm y s Q hp.2 (h.2 rfl) n a w η hr)
  ·exact h.elim
 | .block id c,s,Q,hp,h=>by
  intro n a w η hr;refine wpIn_block (wpIn_mono (zCw hm c s _ (by simpa[zIu] using hp) h n a w η hr) ?_)
  rintro e a' w' ⟨s',η',q,r⟩
  cases e with
  |exit id'=>
   simp only[Exit.inBlock];simp only[zMm]at q;split
   ·rename_i hid;rw[if_pos hid]at q;exact⟨s',η',q,r⟩
   ·rename_i hid;rw[if_neg hid]at q;exact⟨s',η',q,r⟩
  |_=>exact⟨s',η',q,r⟩
 | .loop c,s,Q,hp,h=>by simp[zIu]at hp
 | .rangeFunc ..,s,Q,hp,h=>by simp[zIu]at hp
 | .scope c,s,Q,hp,h=>by simp[zIu]at hp
 | .goto l,s,Q,hp,h=>by simp[zIu]at hp
 | .refuse _,s,Q,hp,h=>by simp[zIu]at hp
def AWx(P:Program)(E E2:zBf)(c:Code)(s:St)(Q:Exit→St→Prop):Prop:=
 ∀a w η,Rel E s.F a w η→c.wp P (fun e a' w'=>∃s' η',Q e s'∧Rel E2 s'.F a' w' η') a w
def xTu(P:Program)(E E2:zBf)(y:Code)(Q:Exit→St→Prop)(e:Exit)(s:St):Prop:=
 match e with
 | .normal=>AWx P E E2 y s Q
 |_=>False
theorem yAl{y:Code}{Q:Exit→St→Prop}{s:St}:xTu P E E2 y Q .normal s=AWx P E E2 y s Q:=rfl
theorem zQk{x y:Code}{s:St}{Q:Exit→St→Prop}(h:AW P E x s (xTu P E E2 y Q)):AWx P E E2 (.seq x y) s Q:=fun a w η hr=>by
 refine wp_seq (wp_mono (h a w η hr) ?_)
 rintro e a' w' ⟨s',η',q,r⟩
 cases e with
 |normal=>exact q a' w' η' r
 |_=>exact q.elim
def yHl(P:Program)(E2:zBf)(y:Code)(Q:Exit→St→Prop)(e:Exit)(s:St):Prop:=
 match e with
 | .normal=>AW P E2 y s Q
 |e=>Q e s
theorem zVl{y:Code}{Q:Exit→St→Prop}{s:St}:yHl P E2 y Q .normal s=AW P E2 y s Q:=rfl
theorem yHk{y:Code}{Q:Exit→St→Prop}{s:St}:yHl P E2 y Q .ret s=Q .ret s:=rfl
theorem yKj{x y:Code}{s:St}{Q:Exit→St→Prop}(h:AWx P E E2 x s (yHl P E2 y Q)):AWx P E E2 (.seq x y) s Q:=fun a w η hr=>by
 refine wp_seq (wp_mono (h a w η hr) ?_)
 rintro e a' w' ⟨s',η',q,r⟩
 cases e with
 |normal=>exact q a' w' η' r
 |_=>exact⟨s',η',q,r⟩
theorem yDi{id:Nat}{c:Code}{s:St}{Q:Exit→St→Prop}(h:AWx P E E2 c s (zMm id Q)):AWx P E E2 (.block id c) s Q:=fun a w η hr=>by
 refine wp_block (wp_mono (h a w η hr) ?_)
 rintro e a' w' ⟨s',η',q,r⟩
 cases e with
 |exit id'=>
  simp only[Exit.inBlock];simp only[zMm]at q;split
  ·rename_i hid;rw[if_pos hid]at q;exact⟨s',η',q,r⟩
  ·rename_i hid;rw[if_neg hid]at q;exact⟨s',η',q,r⟩
 |_=>exact⟨s',η',q,r⟩
def ySc(Q:Exit→St→Prop)(e:Exit)(s:St):Prop:=
 match e with
 | .normal=>False
 |e=>Q e s
theorem yFu{Q:Exit→St→Prop}{s:St}:ySc Q .ret s=Q .ret s:=rfl
theorem xKt{c:Code}{s:St}{Q:Exit→St→Prop}{ι:Type}(F:ι→St)(ok:ι→Prop)(m:ι→Nat)(i0:ι)(h0:ok i0)(hle:Le s (F i0))
  (hstep:∀i,ok i→AW P E c (F i) (zRg F ok m i fun _ _=>False)∨AWx P E E2 c (F i) (ySc Q)):AWx P E E2 (.loop c) s Q:=by
 intro a w η hr
 obtain⟨η',hr'⟩:=hle E a w η hr
 let S:Act→World→Nat→Prop:=fun a w n=>∃i η,ok i∧m i=n∧Rel E (F i).F a w η
 let μ:Act→World→Nat:=fun a w=>Classical.epsilon (fun n=>S a w n∧∀k,S a w k→n≤k)
 have hμ:∀a w,(∃n,S a w n)→S a w (μ a w)∧∀k,S a w k→μ a w≤k:=fun a w h=>Classical.epsilon_spec (xPh _ h)
 refine wp_loop (fun a w=>∃n,S a w n) μ ⟨_,i0,η',h0,rfl,hr'⟩ fun a w hI=>?_
 obtain⟨⟨i,ηi,hok,hmi,hri⟩,hmin⟩:=hμ a w hI
 rcases hstep i hok with h|h
 ·refine wp_mono (h a w ηi hri) ?_;rintro e a' w' ⟨s',η2,hq,hr2⟩
  cases e with
  |normal=>
   obtain⟨j,hj,hlt,hLe⟩:=hq;obtain⟨η3,hr3⟩:=hLe E a' w' η2 hr2;have hS:S a' w' (m j):=⟨j,η3,hj,rfl,hr3⟩;refine⟨⟨_,hS⟩,?_⟩;have:=(hμ a' w' ⟨_,hS⟩).2 _ hS;omega
  |_=>exact hq.elim
 ·refine wp_mono (h a w ηi hri) ?_;rintro e a' w' ⟨s',η2,hq,hr2⟩
  cases e with
  |normal=>exact hq.elim
  |_=>exact⟨s',η2,hq,hr2⟩
theorem yFs{s s2:FSt}{a:Act}{w:World}{η:Nat→Value}{ops:Array Oper}{oy:Oper}{i l:Nat}{rec:Loop}{fo x y:Operand}{ty:Array TypeId}{b:Bool}{Q:Exit→Act→World→Prop}{K:Act→World→Prop}(hfix:(l,Go.Obj.loop rec)∈E.fix)(hr:Rel E s a w η)(ho:ops[i]?=some oy)(hg:oy.guard=none)
  (hop:oy.op= .call { callee:= .value fo,args:= #[x,y],argTypes:=ty }) (hfo:s.ev fo= .func (.yield l) [] []) (hps:rec.params.size=2)
  (hround:RoundIn Fence.wide (n-1) P l rec.fn ((rec.params.zip #[a.eval x,a.eval y]).foldl (fun tmps (t,v)=>tmps.setIfInBounds t v) rec.tmps) rec.assign rec.body w fun e w'=>e= .returned (.bool b)∧∃η',Rel E2 s2 a w' η')
  (hK:∀w' η',Rel E2 s2 a w' η'→K (a.put oy.dst (.bool b)) w'):wpOpIn Fence.wide n P ops Q i K a w:=by
 have hv:=zAi hr fo
 rw[hfo]at hv
 simp only[RV,RVl]at hv
 obtain⟨f1,c1,hv,h1,h2⟩:=hv
 have e1:f1= #[]:=by cases f1;simpa using h1
 have e2:c1= #[]:=by cases c1;simpa using h2
 subst e1;subst e2
 have hl:=(hr.defers.fix _ hfix).1
 have hy:=run_yield (P:=P) (args:= #[a.eval x,a.eval y]) hl (by simpa using hps.symm)
 have hrun:(execOp a.eval oy).run P w= .ok (.round l rec.fn ((rec.params.zip #[a.eval x,a.eval y]).foldl (fun tmps (t,v)=>tmps.setIfInBounds t v) rec.tmps) rec.assign rec.body) w:=by
  unfold execOp;simp[hop,hv,resolve,Deferred.ofValue,invoke,hy]
 unfold wpOpIn
 simp only[ho]
 have hw:Region.wanted oy (yielded ops a.tmps)=true:=by simp[Region.wanted,hg]
 rw[if_pos hw]
 refine⟨fun _ _=>trivial,?_⟩
 rw[Oper.semAt_eq _ _ _ (fun c hc=>by rw[hop]at hc;cases hc),hrun]
 refine⟨by simp[Fence.wide],hround.mono ?_⟩
 rintro e w' ⟨rfl,η',h⟩
 exact hK w' η' h
def xXh(P:Program)(E E2:zBf)(b:Bool)(oy:Oper)(s:St)(K:St→Prop):Prop:=
 ∃(l:Nat) (rc:Loop) (fo x y:Operand) (ty:Array TypeId) (hp2:List (Nat × Obj)),(l,Go.Obj.loop rc)∈E.fix∧oy.guard=none∧oy.op= .call { callee:= .value fo,args:= #[x,y],argTypes:=ty }∧s.ev fo= .func (.yield l) [] []∧rc.params.size=2 ∧
  (∀(a:Act) (w:World) (η:Nat→Value),Rel E s.F a w η→∀n,RoundIn Fence.wide n P l rc.fn ((rc.params.zip #[a.eval x,a.eval y]).foldl (fun tmps (t,v)=>tmps.setIfInBounds t v) rc.tmps) rc.assign rc.body w fun e w'=>e= .returned (.bool b)∧∃η',Rel E2 ({ s with hp:=hp2 }:St).F a w' η') ∧
  K (({ s with hp:=hp2 }:St).app oy.dst ⟨.bool b,[],[]⟩)
theorem yDh{id:Nat}{ops:Array Oper}{l1 l2:List Oper}{oy:Oper}{s:St}{Q:Exit→St→Prop}(b:Bool)(hops:ops.toList=l1++oy::l2)(hd:(l1++l2).all zCo=true)
  (h:walk P ops 0 l1 s [] fun s1 _=>xXh P E E2 b oy s1 fun s2=>s2.nx=s.nx→walk P ops (l1.length+1) l2 s2 [] fun s3 _=>exOk s3.ex (s3.nx+16*ops.size)∧Q .normal (s3.next ops.size)):AWx P E E2 (.region id ops false) s Q:=by
 intro a w η hr
 simp only[List.all_append,Bool.and_eq_true]at hd
 refine(wpIn_wide (n:=1)).1 (wpIn_region ?_)
 have hsz:ops.size=l1.length+(1+l2.length):=by
  have:=congrArg List.length hops;simp at this;omega
 have hrange:List.range ops.size=List.range' 0 l1.length++(l1.length::List.range' (l1.length+1) l2.length):=by
  rw[hsz,List.range_eq_range',← List.range'_append_1,← List.range'_append_1 (s:=0+l1.length)];simp
 have hat:∀j,ops[j]?=(l1++oy::l2)[j]?:=fun j=>by rw[← hops,Array.getElem?_toList]
 rw[hrange]
 refine zCr (r:=none) l1 0 s [] _ _ a w η (fun j o ho=>?_) hd.1 h hr fun s1 log a1 w1 η1 hy hnx hr1=>?_
 ·rw[Nat.zero_add,hat,List.getElem?_append_left (List.getElem?_eq_some_iff.1 ho).1];exact ho
 ·obtain⟨l,rc,fo,x,y,ty,hp2,hfix,hg,hop,hfo,hps,hround,hK⟩:=hy;have hoy:ops[l1.length]?=some oy:=by rw[hat,List.getElem?_append_right (Nat.le_refl _)];simp
  rw[wpOpsIn_cons];refine yFs (s:=s1.F) hfix hr1 hoy hg hop (by rw[St.ev_F];exact hfo) hps (hround a1 w1 η1 hr1 _) fun w2 η2 hr2=>?_
  have hr3:=hr2.put oy.dst (x:= .bool b) (v:= .bool b) zFq;have hF:(({ s1 with hp:=hp2 }:St).app oy.dst ⟨.bool b,[],[]⟩).F=(({ s1 with hp:=hp2 }:St).F).put oy.dst (.bool b):=by rw[St.app_F,FSt.app_nil]
  rw[← hF]at hr3;have hw2:=hK hnx;have:=zCr (r:=none) (n:=1) (Q:=fun e a' w'=>∃s' η',Q e s'∧Rel E2 s'.F a' w' η') l2 (l1.length+1) _ [] _ [] _ w2 η2 (fun j o ho=>?_) hd.2 hw2 hr3 fun s3 log3 a3 w3 η3 hk3 hnx3 hr4=>?_
  ·rw[List.append_nil]at this;exact this
  ·rw[hat,List.getElem?_append_right (by omega),show l1.length+1+j-l1.length=j+1 by omega]
   simpa using ho
  ·simp only[wpOpsIn];obtain⟨hx,hq⟩:=hk3;refine⟨s3.next ops.size,η3,hq,?_⟩;have:=hr4.more (kn':=fun i=>i<s3.nx+16*ops.size∨i∈[]) (fun i hi=>?_)
   ·exact this
   ·rcases hi with hi|hi
    ·exact .inl (Nat.lt_of_lt_of_le hi (Nat.le_add_right _ _))
    ·exact .inl (zId hx i hi)
theorem yAx{sB:St}{s3:FSt}{w:World}{η:Nat→Value}{l:Nat}{rc:Loop}{fx:List (Nat × Go.Obj)}{tmps0:Array Value}{aI:Act}(hE:E.fix=(l,Go.Obj.loop rc)::fx)(hfx:∀p∈fx,p.1≠l)(hst:rc.state= .ready)(hlb:E.w0.heap.size≤l)(hB:Rel E sB.F { tmps:=tmps0,defers:=[] } w η)
  (hassign:AWi P E (some l) rc.assign sB fun e s1=>e= .normal∧AWi P { E with fix:=(l,Go.Obj.loop { rc with state:= .busy })::fx } (some l) rc.body s1 fun e s2=>e= .ret ∧
   ∀a w η,Rel { E with fix:=(l,Go.Obj.loop { rc with state:= .busy })::fx } s2.F a w η→∃η',Rel { E with fix:=(l,Go.Obj.loop { rc with state:= .busy })::fx,gh:=[] } s3 aI w η') :
  RoundIn Fence.wide n P l rc.fn tmps0 rc.assign rc.body w fun e w'=>e= .returned (.bool false)∧∃η',Rel { E with fix:=(l,Go.Obj.loop { rc with state:= .done,pending:=some .ret })::fx,gh:=[] } s3 aI w' η':=by
 refine roundIn_of_wpIn trivial (wpIn_mono (hassign n _ w η hB) ?_)
 rintro e a1 w1 ⟨s1,η1,⟨rfl,hbody⟩,hr1⟩
 have hl1:w1.heap[l]?=some (Go.Obj.loop rc):=(hr1.defers.fix (l,Go.Obj.loop rc) (by rw[hE];simp)).1
 refine⟨_,run_beginRound hl1 hst,?_⟩
 have hlt1:=(Array.getElem?_eq_some_iff.1 hl1).1
 have hr2:Rel { E with fix:=(l,Go.Obj.loop { rc with state:= .busy })::fx } s1.F a1 (putO w1 l (.loop { rc with state:= .busy })) η1:=by
  refine hr1.turn (E':={ E with fix:=(l,Go.Obj.loop { rc with state:= .busy })::fx }) (o:= .loop rc) (o':= .loop { rc with state:= .busy }) hlb hl1 rfl rfl hr1.ghost rfl ⟨fun p hp=>?_,hr1.defers.marks.imp fun _ h=>⟨h.1,zIx hl1 _ h.2⟩⟩
  rcases List.mem_cons.1 hp with rfl|hp
  ·exact⟨zKo hlt1,rfl⟩
  ·obtain⟨q1,q2⟩:=hr1.defers.fix p (by rw[hE];simp[hp])
   exact⟨by rw[zBl (hfx p hp)];exact q1,q2⟩
 refine wpIn_mono (hbody n a1 _ η1 hr2) ?_
 rintro e a2 w3 ⟨s2,η2,⟨rfl,hback⟩,hr3⟩
 obtain⟨η3,hr4⟩:=hback a2 w3 η2 hr3
 have hl3:w3.heap[l]?=some (Go.Obj.loop { rc with state:= .busy }):=(hr4.defers.fix (l,Go.Obj.loop { rc with state:= .busy }) (by simp)).1
 have hlt3:=(Array.getElem?_eq_some_iff.1 hl3).1
 have hend:=run_endRound (P:=P) (some .ret) hl3
 refine⟨_,_,hend,rfl,η3,?_⟩
 refine hr4.turn (E':={ E with fix:=(l,Go.Obj.loop { rc with state:= .done,pending:=some .ret })::fx,gh:=[] }) (o:= .loop { rc with state:= .busy }) (o':= .loop { rc with state:= .done,pending:=some .ret }) hlb hl3 rfl rfl (fun p hp=>nomatch hp) rfl ⟨fun p hp=>?_,hr4.defers.marks.imp fun _ h=>⟨h.1,zIx hl3 _ h.2⟩⟩
 rcases List.mem_cons.1 hp with rfl|hp'
 ·exact⟨zKo hlt3,rfl⟩
 ·obtain⟨q1,q2⟩:=hr4.defers.fix p (by simp[hp'])
  exact⟨by rw[zBl (hfx p hp')];exact q1,q2⟩
def endR(rec:Loop):Loop:={ rec with state:= .done,pending:=some .ret }
def xXl(P:Program)(gf:FuncId)(ps:Array Tmp)(assign body:Code)(N:Nat)(gl:zCd)(obs:List Obj)(capsR:List V)(csl:List (Nat × V))(obs':List Obj):Prop:=
 ∀(E':zBf) (l:Nat) (rec:Loop) (cargs:Array Value) (W:World) (η0:Nat→Value),rec.state= .ready→rec.pending=none→rec.params=ps→rec.assign=assign→rec.body=body→rec.tmps.size=N→E'.fix=[(l,Go.Obj.loop rec)]→E'.gh=[]→E'.w0.heap.size≤l→E'.nb=obs.length→E'.hp0=(fun i=>obs[i]?)→E'.hd0=η0 →
  (∀p∈csl,RV ((inF obs (.func (.yield l) [] []::capsR) gl).ctx E' W η0) p.2 (rec.tmps.getD p.1 undef)) →
  Rel E' (inF obs (.func (.yield l) [] []::capsR) gl) { tmps:=cargs,defers:=[] } W η0 →
  Calls P gf cargs W fun e w'=>∃v η',e= .returned v∧Rel { E' with fix:=[(l,Go.Obj.loop (endR rec))] } (outF obs.length obs' (.tup []) gl) { tmps:= #[v],defers:=[] } w' η'
theorem yOk{f:FuncId}{fn:Func}{c:Code}{obs:List Obj}{args:List V}{obs':List Obj}{res:V}{gl:zCd}(hf:P.funcs[f]?=some fn)(hb:fn.body=some c)(hN:args.length≤fn.ntmps)(ho:obs.length≤16)
  (hfix:∀p∈E2.fix,∀q,p.2≠ .deferred q) (hd2:E2.dfr=E.dfr) (h:wfs args→AWx P E E2 c (St.start obs args fn.ntmps gl) (FinR P fn obs.length obs' res gl)) {cargs:Array Value} {η:Nat→Value} {w0:World} (hr0:Rel E (inF obs args gl) { tmps:=cargs,defers:=[] } w0 η) :
  Calls P f cargs w0 fun e w'=>∃v η',e= .returned v∧Rel E2 (outF obs.length obs' res gl) { tmps:= #[v],defers:=[] } w' η':=by
 have hlen:cargs.size=args.length:=hr0.tmps
 have hdfr:E2.dfr=[]:=hd2.trans (xOy hr0)
 have hargs:RVl ((inF obs args gl).ctx E w0 η) args cargs.toList:=by
  refine zFb (by simpa using hlen) fun i x u hx hu=>?_
  have:=hr0.slots i;have h1:(inF obs args gl).sl i=x:=by simp[inF,hx]
  have h2:cargs.getD i undef=u:=by
   have:cargs[i]?=some u:=by simpa using hu
   rw[Array.getD_eq_getD_getElem?,this];rfl
  rw[h1]at this;have h3:({ tmps:=cargs,defers:=[] }:Act).tmps.getD i undef=u:=h2;rw[h3]at this;exact this
 have hwf:=zMn _ _ hargs
 refine zEt hf hb ?_
 have hhp:look (obsL 0 obs)=fun i=>obs[i]?:=by funext t;rw[zKu];simp
 have hr1:=hr0.more (kn':=fun i=>i<16∨i∈[]) (fun i hi=> .inl (Nat.lt_of_lt_of_le hi ho))
 have hr:Rel E (St.start obs args fn.ntmps gl).F { tmps:=cargs++Array.replicate (fn.ntmps-cargs.size) undef,defers:=[] } w0 η:=by
  have hF:(St.start obs args fn.ntmps gl).F={ ({ inF obs args gl with kn:=fun i=>i<16∨i∈[] }:FSt)with N:=fn.ntmps }:=by
   have hs:(St.start obs args fn.ntmps gl).get=(inF obs args gl).sl:=by
    funext t
    simp only[St.get,St.start,inF];rw[List.range_eq_range',zOk];simp
   simp only[St.F,hs];simp only[St.start,hhp];rfl
  rw[hF];refine⟨fun t=>?_,hr1.laid,hr1.since,hr1.fresh,by simp;omega,⟨hr1.defers.fix,hr1.defers.marks⟩,⟨hr1.held.nb,hr1.held.at_⟩,hr1.glob,hr1.ghost⟩
  have h1:=hr1.slots t;by_cases ht:t<cargs.size
  ·have:(cargs++Array.replicate (fn.ntmps-cargs.size) undef).getD t undef=cargs.getD t undef:=by
    simp[Array.getElem?_append,ht]
   show RV _ _ ((cargs++Array.replicate (fn.ntmps-cargs.size) undef).getD t undef)
   rw[this];exact h1
  ·have:(inF obs args gl).sl t= .bot:=by
    simp only[inF];rw[List.getElem?_eq_none (by omega)];rfl
   show RV _ ((inF obs args gl).sl t) _
   rw[this];simp only[RV];rfl
 refine wp_mono (h hwf _ _ _ hr) ?_
 rintro e a' w' ⟨s',η',hq,hr'⟩
 have key:(∃x,zGk P s' fn.results.toList=some x∧x.2∧Le (s'.res (oneV x.1)) (St.out obs.length obs' res gl))→LeavesInM Fence.wide 0 P fn a'.tmps (fun e w''=>∃v' η'',e= .returned v'∧Rel E2 (outF obs.length obs' res gl) { tmps:= #[v'],defers:=[] } w'' η'') a'.defers .returning w':=by
  rintro⟨x,hx,hs,hle⟩
  refine zHj a'.tmps a'.defers w' hfix hr' (fun w2 hr2=>?_) hdfr
  obtain⟨v,h1,h2⟩:=zFf hr2 hx hs;obtain⟨η'',h3⟩:=hle E2 { tmps:= #[v],defers:=[] } w2 η' ⟨fun t=>by
   show RV (s'.F.ctx E2 w2 η') ((look [(0,oneV x.1)] t).getD .bot) (#[v].getD t undef)
   simp only[look];by_cases ht:t=0
   ·subst ht;simpa using h2
   ·simp only[ht,if_false,Option.getD_none,RV];rfl,hr2.laid,hr2.since,hr2.fresh,rfl,⟨hr2.defers.fix,hr2.defers.marks⟩,⟨hr2.held.nb,hr2.held.at_⟩,hr2.glob,hr2.ghost⟩
  refine⟨v,h1,v,η'',rfl,?_⟩;have hF:(St.out obs.length obs' res gl).F=outF obs.length obs' res gl:=by
   have hs:(St.out obs.length obs' res gl).get=(outF obs.length obs' res gl).sl:=by
    funext t
    simp only[St.get,St.out,outF,look];by_cases ht:t=0<;>simp[ht]
   have hh:look (obsL 0 obs')=fun i=>obs'[i]?:=by funext t;rw[zKu];simp
   have hk:(fun i=>i<obs'.length∨i∈([]:List Nat))=fun i=>i<obs'.length:=by funext i;simp
   simp only[St.F,hs];simp only[St.out,hh,hk];rfl
  rw[← hF];exact h3
 cases e with
 |normal=>exact⟨.inl rfl,key hq⟩
 |ret=>exact⟨.inr rfl,key hq⟩
 |_=>exact hq.elim
theorem yZs{g:Operand}{ps:Array Tmp}{assign body:Code}{s:St}{Q:Exit→St→Prop}{gf:FuncId}{capsV capsR:List V}{obs obs':List Obj}(σ:Ren)(live:List Nat)(csl:List (Nat × V))
  (hfn : ∃ fn, P.funcs[gf]? = some fn ∧ fn.body.isSome = true ∧ (fn.name == "runtime.NumGoroutine") = false) (hg : s.ev g = .func (.func gf) [] capsV)
  (hren:zTc obs.length live σ∧zJo (look s.hp) σ (· ∈([]:List Nat)) 0 obs) (hcaps:vsLe (look s.hp) (σf σ) (· ∈([]:List Nat)) capsV capsR) (hro:noRo obs') (hlen:obs'.length=obs.length∧∀i,i<obs.length→∃j,look σ i=some (some j))
  (hcsl:yGx s σ csl) (hit:xXl P gf ps assign body s.N s.gl obs capsR csl obs')
  (hQ:Q .ret { s with hp:=outU (τr σ 0) 0 obs'++s.hp,ex:=(outU (τr σ 0) 0 obs').map (·.1)++s.ex }):AW P E (.rangeFunc g ps assign body) s Q:=by
 intro a w η hr
 have hgv:=zAi hr g
 rw[St.ev_F,hg]at hgv
 simp only[RV,RVl]at hgv
 obtain⟨f1,c1,hgv,h1,hc1⟩:=hgv
 have e1:f1= #[]:=by cases f1;simpa using h1
 subst e1
 obtain⟨fnI,hfI,hbI,hnI⟩:=hfn
 have hj:=zFg hren.1
 have H:Hand s.F.hp σ [] obs:=⟨fun i j hij=>⟨(hj.1 i _ hij).1,by simp⟩,fun i hi=>(hj.1 i _ hi).1,hj.2,fun i o ho=>by have:=zLt hren.2 i o ho;rwa [Nat.zero_add]at this⟩
 -- the two blocks
 obtain⟨wD,hwD⟩:∃wD,w.alloc (.deferred (some []))=wD:=⟨_,rfl⟩
 have hgD:w.grownBy wD none:=by rw[← hwD];exact World.grownBy_alloc w _ none
 have hrD:=hr.grow hgD
 have hDs:wD.heap.size=w.heap.size+1:=by rw[← hwD];simp
 have hDat:wD.heap[w.heap.size]?=some (.deferred (some [])):=by rw[← hwD];exact World.alloc_heap_new w _
 refine(wpIn_wide (n:=1)).1 (wpIn_rangeFunc ?_)
 intro fn _
 let rc:Loop:={ state:= .ready,pending:=none,fn,tmps:=a.tmps,params:=ps,assign,body,defers:=w.heap.size }
 obtain⟨W1,hW1⟩:∃W1,wD.alloc (.loop rc)=W1:=⟨_,rfl⟩
 have hg1:wD.grownBy W1 none:=by rw[← hW1];exact World.grownBy_alloc wD _ none
 have hL1:W1.heap[w.heap.size+1]?=some (.loop rc):=by
  rw[← hW1,← hDs];exact World.alloc_heap_new wD _
 refine⟨w.heap.size+1,[{ target:= .collected w.heap.size,args:= #[] }],W1,{ target:= .fn (.func gf) c1,args:= #[.func (.yield (w.heap.size+1)) #[] #[]] },W1,gf,#[.func (.yield (w.heap.size+1)) #[] #[]]++c1,W1,?_,?_,fun _ _=>trivial,?_,by simp[Fence.wide],?_⟩
 ·rw[← hW1,← hwD];have:Fence.wide.round=none:=rfl;rw[this];exact run_enterLoop_outer _ _ _ _ _
 ·simp only[resolve,hgv];simp[go_sem]
 ·have hn : ¬ fnI.name = "runtime.NumGoroutine" := by simpa using hnI
  have hb:¬fnI.body=none:=fun h=>by simp[h]at hbI
  simp[invoke,callFunc,hfI,hn,hb]
 ·refine callsIn_wide.2 ?_
  let l:=w.heap.size+1
  have hx:RVl (s.F.ctx E wD η) (.func (.yield l) [] []::capsV) (#[Value.func (.yield l) #[] #[]]++c1).toList:=by
   have hc1':RVl (s.F.ctx E wD η) capsV c1.toList:=by
    have K:zGy (s.F.ctx E w η) (s.F.ctx E wD η):=⟨hgD.size,fun b hb _ _=>hgD.block b hb (by simp),fun b _ h=>h,rfl,fun _ _ h=>h,fun _ id _=>by
     unfold zMh;cases h1:s.F.hp id<;>simp[FSt.ctx,h1]⟩
    exact zCm K _ _ hc1
   simp only[Array.toList_append,List.cons_append,List.nil_append,RVl];exact⟨_,_,rfl,by simp only[RV,RVl];exact⟨#[],#[],rfl,rfl,rfl⟩,hc1'⟩
  have hargs:vsLe s.F.hp (σf σ) (· ∈([]:List Nat)) (.func (.yield l) [] []::capsV) (.func (.yield l) [] []::capsR):=by
   simp only[vsLe];exact⟨_,_,rfl,by simp[vLe,vsLe],hcaps⟩
  have hin:=zUm hrD H hx hargs (gl:=s.gl) (fun g p h=>h)
  have T:=zSn hrD H (.func (.yield l) [] []::capsR) s.gl;have hin1:=(hin.grow hg1).setFix (fx:=[(l,Go.Obj.loop rc)]) (fun p hp=>by
   simp only[List.mem_singleton]at hp;subst hp;exact⟨hL1,rfl⟩)
  have hcall:=hit { refE E s.F wD η σ [] obs (zGq hrD)with fix:=[(l,Go.Obj.loop rc)] } l rc _ W1 (η2 η σ) rfl rfl rfl rfl rfl hr.tmps rfl rfl (by show wD.heap.size≤l;rw[hDs];exact Nat.le_refl _) rfl rfl rfl (fun p hp=>?_) hin1
  ·refine hcall.mono ?_;rintro e w2 ⟨v,η',rfl,hout⟩
   have hl2:w2.heap[l]?=some (.loop (endR rc)):=(hout.defers.fix (l,Go.Obj.loop (endR rc)) (by simp)).1
   have hlt2:=(Array.getElem?_eq_some_iff.1 hl2).1;refine⟨some .ret,_,run_endLoop hl2 (by simp[endR]),wpIn_ret ?_⟩
   obtain⟨η1,h1,_⟩:=zOm (fid:=0) hrD H.light (E':={ refE E s.F wD η σ [] obs (zGq hrD)with fix:=[(l,Go.Obj.loop (endR rc))] }) rfl (fun b=>Iff.rfl) rfl rfl (zRz hro) (fun i hi hn=>by
    obtain⟨j,hj⟩:=hlen.2 i (by rw[← hlen.1];exact hi)
    exact absurd hj (hn j)) (.inr fun b hb hn=>⟨hb,by simp[Bor],hn⟩) hout
   refine⟨_,η1,hQ,?_⟩;have hF:({ s with hp:=outU (τr σ 0) 0 obs'++s.hp,ex:=(outU (τr σ 0) 0 obs').map (·.1)++s.ex }:St).F=s.F.upd (outU (τr σ 0) 0 obs'):=by
    have hh:look (outU (τr σ 0) 0 obs'++s.hp)=zCy (outU (τr σ 0) 0 obs') (look s.hp):=zMy _ _;have hk:(fun i=>i<s.nx∨i∈(outU (τr σ 0) 0 obs').map (·.1)++s.ex)=fun i=>i∈(outU (τr σ 0) 0 obs').map (·.1)∨(i<s.nx∨i∈s.ex):=by
     funext i
     simp only[List.mem_append];exact propext ⟨fun h=>by rcases h with h|h|h<;>simp[h],fun h=>by rcases h with h|h|h<;>simp[h]⟩
    simp only[St.F,FSt.upd,hh,hk];rfl
   rw[hF];have hsz:E.w0.heap.size≤w.heap.size:=hr.since.size;have hDk:w2.heap[w.heap.size]?=some (.deferred (some [])):=by
    rw[hout.since.block w.heap.size (by show _<wD.heap.size;omega) (fun h=>?_)]
    ·exact hDat
    ·obtain⟨i,j,o,_,h2,_,h4⟩:=zHz H.light h;obtain⟨us3,_,r3⟩:=(hr.laid.obj j o h2).row;have h5:w.heap.size<w.heap.size:=r3.lt h4;exact absurd h5 (Nat.lt_irrefl _)
   have hw2:∀b o,w.heap[b]?=some o→opq o=true→w2.heap[b]?=some o:=fun b o hb hq=>by
    have hbl:=(Array.getElem?_eq_some_iff.1 hb).1;rw[hout.since.block b (by show _<wD.heap.size;omega) (fun h=>?_)]
    ·show wD.heap[b]?=_
     rw[hgD.block b hbl (by simp)];exact hb
    ·obtain⟨i,j,o3,_,h2,_,h4⟩:=zHz H.light h;obtain⟨us3,_,r3⟩:=(hr.laid.obj j o3 h2).row;rw[r3.notOpq h4 hb]at hq;cases hq
   refine h1.turn (E':=E) (a':={ a with defers:=[{ target:= .collected w.heap.size,args:= #[] }]++a.defers }) (o:= .loop (endR rc)) (o':= .loop { endR rc with state:= .exhausted }) (by omega) hl2 rfl rfl h1.ghost rfl ⟨fun p hp=>?_,?_⟩
   ·obtain⟨q1,q2⟩:=hr.defers.fix p hp;have hpl:=(Array.getElem?_eq_some_iff.1 q1).1;refine⟨?_,q2⟩;rw[zBl (by omega)]
    exact hw2 _ _ q1 q2
   ·have hold:∀(ds:List Deferred),zFr E.w0.heap.size w ds→zFr E.w0.heap.size (putO w2 l (.loop { endR rc with state:= .exhausted })) ds∧∀d'∈ds,d'≠{ target:= .collected w.heap.size,args:= #[] }:=by
     intro ds;induction ds with
     |nil=>intro _;exact⟨trivial,by simp⟩
     |cons d ds ih=>
      rintro⟨⟨D,g1,g2,g3,g4⟩,g5⟩
      have hDl:=(Array.getElem?_eq_some_iff.1 g3).1;obtain⟨i1,i2⟩:=ih g5;refine⟨⟨⟨D,g1,g2,?_,g4⟩,i1⟩,fun d' hd'=>?_⟩
      ·rw[zBl (by omega)]
       exact hw2 _ _ g3 rfl
      ·rcases List.mem_cons.1 hd' with rfl|hd'
       ·rw[g1];intro e
        injection e with e _
        injection e with e
        omega
       ·exact i2 d' hd'
    obtain⟨ms,hms,hmk⟩:=hr.defers.marks;obtain⟨i1,i2⟩:=hold ms hmk;refine⟨{ target:= .collected w.heap.size,args:= #[] }::ms,by simp[hms],⟨w.heap.size,rfl,hsz,?_,i2⟩,i1⟩
    rw[zBl (by omega)]
    exact hDk
  ·have h0:=zZl hcsl p hp;have hsv:=hrD.slots p.1;have h2:=zKg T _ _ _ h0 hsv;have K:zGy ((inF obs (.func (.yield l) [] []::capsR) s.gl).ctx (refE E s.F wD η σ [] obs (zGq hrD)) wD (η2 η σ)) ((inF obs (.func (.yield l) [] []::capsR) s.gl).ctx { refE E s.F wD η σ [] obs (zGq hrD)with fix:=[(l,Go.Obj.loop rc)] } W1 (η2 η σ)):=⟨hg1.size,fun b hb _ _=>hg1.block b hb (by simp),fun b _ h=>h,rfl,fun _ _ h=>h,fun _ id _=>by
     unfold zMh;show match obs[id]? with|none=>obs[id]?=none|some o=>match obs[id]? with|none=>True|some o'=>_
     cases h1:obs[id]?<;>simp[FSt.ctx]⟩
   exact zBg K _ _ h2
end
end Go.AM
