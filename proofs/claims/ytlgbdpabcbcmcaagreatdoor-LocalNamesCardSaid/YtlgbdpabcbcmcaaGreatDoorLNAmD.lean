/- The abstract machine: code. -/
import Derived.Test.YtlgbdpabcbcmcaaGreatDoorLNAmC
import Derived.RangeFuncRecord
set_option linter.unusedSimpArgs false
set_option linter.unusedVariables false
namespace Go.AM
open Go.RowKit
section
variable {P : Program} {E : zBf} {s : FSt} {a : Act} {w : World} {η : Nat → Value} {o : Oper}
def V.unw(g:Bool):V→V
 | .opt g' x=>if(!g||g')=true then x else .opt g' x
 |x=>x
def FSt.unw(g:Bool)(s:FSt):FSt:={ s with sl:=fun t=>(s.sl t).unw g }
theorem xXk{c:Ctx}{x:V}{v:Value}(h:RV c x v):RV c (x.unw true) v:=by
 cases x with
 |opt g' x=>
  simp only[V.unw];split
  ·rename_i hg;simp only[RV]at h;exact h.2.1 (by simpa using hg)
  ·exact h
 |_=>simpa only[V.unw] using h
theorem Rel.unw(hr:Rel E s a w η):Rel E (s.unw true) a w η:=⟨fun t=>xXk (hr.slots t),hr.laid,hr.since,hr.fresh,hr.tmps,⟨hr.defers.fix,hr.defers.marks⟩,⟨hr.held.nb,hr.held.at_⟩,hr.glob,hr.ghost⟩
def yHs(P:Program)(fid:Nat)(o:Oper)(s:FSt)(e:Eff):Prop:=xTh P o s.ev s.hp s.gl s.nb e∨yDx P o s.ev s.hp s.kn s.gl s.nb fid e
theorem yDb(hr:Rel E s a w η){fid:Nat}{e:Eff}(h:yHs P fid o s e):∃f cargs,(execOp a.eval o).run P w= .ok (.enter f cargs) w ∧
  Calls P f cargs w fun e' w'=>∃v η1,e'= .returned v∧RV ((s.upd e.upd).ctx E w' η1) e.val v∧Rel E (s.upd e.upd) a w' η1:=by
 rcases h with h|h
 ·obtain⟨f,cargs,_,_,h1,h2⟩:=yZf hr h;exact⟨f,cargs,h1,h2.mono fun e' w' ⟨v,q1,q2,q3⟩=>⟨v,η,q1,q2,q3⟩⟩
 ·exact yCy hr h
def FnX(P:Program)(f:FuncId)(args:List V)(res:V):Prop:=res.noRef ∧
 ∀(w:World) (O:Nat→Prop) (cargs:Array Value),RVl (dctx w O) args cargs.toList→∃v,(callFunc f cargs).run P w= .ok (.value v) w∧RV (dctx w O) res v
def xLp(P:Program)(o:Oper)(ρ:Operand→V)(hp:Heap)(e:Eff):Prop:=
 ∃fo args tys f args0 res bor,o.op= .call { callee:= .value fo,args:=args,argTypes:=tys }∧ρ fo= .func (.func f) [] []∧FnX P f args0 res∧all2 (zAx hp (· ∈bor) V.pure 8) (args.toList.map ρ) args0∧e=⟨res,[],bor⟩
theorem yCw(hr:Rel E s a w η){e:Eff}(h:xLp P o s.ev s.hp e):∃v,(execOp a.eval o).run P w= .ok (.value v) w∧RV (s.ctx E w η) e.val v∧∃rd,e=⟨e.val,[],rd⟩:=by
 obtain⟨fo,args,tys,f,args0,res,bor,ho,hf,⟨h2,h3⟩,h1,rfl⟩:=h
 have hfv:=zAi hr fo
 rw[hf]at hfv
 simp only[RV,RVl]at hfv
 obtain⟨f1,c1,hfv,hf1,hc1⟩:=hfv
 have hf1:f1= #[]:=Array.toList_eq_nil_iff.1 hf1
 have hc1:c1= #[]:=Array.toList_eq_nil_iff.1 hc1
 subst hf1;subst hc1
 obtain⟨v,q1,q2⟩:=h3 w _ (args.map a.eval) (by have:=zJc hr h1 (zHp hr args.toList);simpa using this)
 refine⟨v,?_,zDu _ _ h2 q2,_,rfl⟩
 unfold execOp
 simp[ho,hfv,resolve,Deferred.ofValue,invoke]
 simpa using q1
def xLq(P:Program)(fid:Nat)(o:Oper)(s:FSt)(e:Eff):Prop:=∃e1,yDx P o s.ev s.hp s.kn s.gl s.nb fid e1∧(∀p∈e1.upd,s.hp p.1=some p.2)∧e=⟨e1.val,[],e1.rd++e1.ids⟩
theorem zVr{h:Heap}:∀ {l:List (Nat × Obj)},(∀p∈l,h p.1=some p.2)→zCy l h=h
 |[],_=>rfl
 |(k,o)::r,hl=>by
  funext i
  have hr:=zVr (l:=r) fun p hp=>hl p (by simp[hp])
  simp only[zCy,hr];by_cases e:i=k
  ·subst e;rw[if_pos rfl];exact(hl (i,o) (by simp)).symm
  ·rw[if_neg e]
theorem yCx(hr:Rel E s a w η){fid:Nat}{e:Eff}(h:xLq P fid o s e):∃f cargs,(execOp a.eval o).run P w= .ok (.enter f cargs) w ∧
  Calls P f cargs w fun e' w'=>∃v η1,e'= .returned v∧RV ((s.upd e.upd).ctx E w' η1) e.val v∧Rel E (s.upd e.upd) a w' η1:=by
 obtain⟨e1,h1,h2,rfl⟩:=h
 obtain⟨f,cargs,q1,q2⟩:=yCy hr h1
 have hs:s.upd e1.upd=s.upd []:=by
  unfold FSt.upd;have a1:zCy e1.upd s.hp=zCy [] s.hp:=zVr h2;have a2:(fun i=>i∈e1.upd.map (·.1)∨s.kn i)=fun i=>i∈([]:List (Nat × Obj)).map (·.1)∨s.kn i:=by
   funext i
   refine propext ⟨fun h=> .inr ?_,fun h=> .inr (by simpa using h)⟩
   rcases h with h|h
   ·obtain⟨p,hp,rfl⟩:=List.mem_map.1 h;exact(hr.laid.obj p.1 p.2 (h2 p hp)).lt
   ·exact h
  rw[a1,a2]
 rw[hs]at q2
 exact⟨f,cargs,q1,q2⟩
def J0(P:Program)(fid:Nat)(o:Oper)(s:FSt)(e:Eff):Prop:=
 (∃t,zOq P s.ev s.hp fid o=some t∧t.side∧t.e=e∧(fid∈e.ids→¬s.kn fid))∨(yHs P fid o s e∨xLq P fid o s e)∨xLp P o s.ev s.hp e
def zMk(v:V)(want:Bool):Option Bool:=
 match v with
 | .bool t=>some (t == want)
 | .opt g (.bool t)=>some (g&&(t == want))
 | .tup []=>some false
 | .opt _ (.tup [])=>some false
 |_=>none
def J(P:Program)(ops:Array Oper)(base:Nat)(i:Nat)(o:Oper)(s:FSt)(e:Eff):Prop:=
 match o.guard with
 |none=>J0 P (base+16*i) o s e
 |some (j,want)=>∃d g,(ops[j]?).bind (·.dst)=some d∧d<s.N∧zMk (s.sl d) want=some g ∧
   ((g=true∧J0 P (base+16*i) o (s.unw true) e)∨(g=false∧e=⟨.tup [],[],[]⟩) ∨
    (∃e0,(g=true→J0 P (base+16*i) o (s.unw g) e0)∧e0.upd=[]∧e=⟨.opt g e0.val,[],e0.rd⟩))
theorem zZz(hr:Rel E s a w η){fid:Nat}{e:Eff}(h:J0 P fid o s e)(K:Act→World→Prop)(Q:Exit→Act→World→Prop)(hK:∀a' w' η',Rel E (s.app o.dst e) a' w' η'→K a' w'):o.wp P a w K Q:=by
 rcases h with ⟨t,ht,hs,rfl,hf⟩|h|h
 ·obtain⟨r,w',η',hrun,h⟩:=yGh hr ht hs hf;unfold Oper.wp;rw[hrun];rcases h with ⟨v,rfl,h⟩|⟨rfl,h⟩
  ·exact hK _ _ _ h
  ·exact hK _ _ _ h
 rotate_left
 ·obtain⟨v,hrun,hv,rd,he⟩:=yCw hr h;unfold Oper.wp;rw[hrun];refine hK _ w η ?_;rw[he,FSt.app_nil];exact hr.put o.dst hv
 ·obtain⟨f,cargs,hrun,hc⟩:∃f cargs,(execOp a.eval o).run P w= .ok (.enter f cargs) w ∧
    Calls P f cargs w fun e' w'=>∃v η1,e'= .returned v∧RV ((s.upd e.upd).ctx E w' η1) e.val v∧Rel E (s.upd e.upd) a w' η1:=h.elim (yDb hr) (yCx hr)
  unfold Oper.wp;rw[hrun];simp only[Oper.upon];refine hc.mono ?_;rintro e' w' ⟨v,η1,rfl,h1,h2⟩
  refine hK _ w' η1 ?_;have:=h2.put o.dst h1;rw[← FSt.app_upd s o.dst e.val e.upd e.rd]at this;exact this
theorem yPo(hr:Rel E s a w η){ops:Array Oper}{j d:Nat}{want g:Bool}(hg:o.guard=some (j,want))(hd:(ops[j]?).bind (·.dst)=some d)(hN:d<s.N)(ht:zMk (s.sl d) want=some g):Region.wanted o (yielded ops a.tmps)=g:=by
 have h:=hr.slots d
 have hlt:d<a.tmps.size:=by rw[hr.tmps];exact hN
 have get:∀u:Value,a.tmps.getD d undef=u→a.tmps[d]?=some u:=by
  intro u hu;rw[Array.getD_eq_getD_getElem?,Array.getElem?_eq_getElem hlt]at hu;rw[Array.getElem?_eq_getElem hlt];simpa using hu
 unfold Region.wanted yielded
 simp only[hg,hd,Option.bind_some]
 unfold zMk at ht
 split at ht
 ·rename_i t hs;rw[hs]at h;simp only[RV]at h;rw[get _ h];cases ht
  cases t<;>cases want<;>rfl
 ·rename_i g' t hs;rw[hs]at h;simp only[RV]at h;cases ht
  cases g' with
  |true=>
   rw[get _ (h.2.1 rfl)];cases t<;>cases want<;>rfl
  |false=>
   rw[get _ (h.2.2 rfl)];simp
 ·rename_i hs;rw[hs]at h;simp only[RV,RVl]at h;cases ht
  obtain⟨vs,hv,hl⟩:=h;rw[get _ hv,Array.toList_eq_nil_iff.1 hl];simp
 ·rename_i g' hs;rw[hs]at h;simp only[RV,RVl]at h;cases ht
  cases g' with
  |true=>
   obtain⟨vs,hv,hl⟩:=h.2.1 rfl;rw[get _ hv,Array.toList_eq_nil_iff.1 hl];simp
  |false=>
   rw[get _ (h.2.2 rfl)];simp
 ·cases ht
theorem xEg{ρ ρ':Operand→V}{hp:Heap}{fid:Nat}(h:∀x∈o.op.operands,ρ' x=ρ x):zOq P ρ' hp fid o=zOq P ρ hp fid o:=by
 obtain⟨dst,op,type,pos,after,guard⟩:=o
 have arr:∀l:Array Operand,(∀x∈l,ρ' x=ρ x)→l.toList.map ρ'=l.toList.map ρ:=fun l hl=>List.map_congr_left fun x hx=>hl x (by simpa using hx)
 cases op<;>simp only[Op.operands]at h<;>simp only[zOq]
 case build T ps=>
  have:(ps.toList.map fun p=>(p.1,ρ' p.2))=ps.toList.map fun p=>(p.1,ρ p.2):=List.map_congr_left fun p hp=>by
   rw[h p.2 (by cases p;simpa using⟨_,Array.mem_def.2 hp⟩)]
  rw[this]
 case buildSlice T len ps=>
  have:(ps.toList.map fun p=>(p.1,ρ' p.2))=ps.toList.map fun p=>(p.1,ρ p.2):=List.map_congr_left fun p hp=>by
   rw[h p.2 (by cases p;simpa using⟨_,Array.mem_def.2 hp⟩)]
  rw[this]
 case makeMap T r=>cases r<;>rfl
 case lookup T x i ok=>
  have h1:=h x (by simp)
  have h2:=h i (by simp)
  cases ok with
  |true=>rfl
  |false=>simp only[h1,h2]
 case makeFunc fn f c=>rw[arr f (fun x hx=>h x (by simp[hx])),arr c (fun x hx=>h x (by simp[hx]))]
 case slice T x lo hi mx=>
  cases mx with
  |some _=>rfl
  |none=>
   have h1:=h x (by simp)
   have h2:lo.map ρ'=lo.map ρ:=by cases lo with|none=>rfl|some y=>simp[h y (by simp)]
   have h3:hi.map ρ'=hi.map ρ:=by cases hi with|none=>rfl|some y=>simp[h y (by simp)]
   simp only[h1,h2,h3]
 case call c=>
  obtain⟨callee,args,tys⟩:=c;cases callee with
  |builtin b=>
   have:=arr args (fun x hx=>h x (by simp[Call.operands,hx]))
   simp only[this]
  |value f=>rfl
  |invoke r m=>rfl
 all_goals simp_all
theorem zNu{hp hp':Heap}{e:Nat}{x:V}{ys:List V}{rd:List Nat}{p:Prop}(hs:zRk hp e x=some (ys,rd,p))(h:∀i∈rd,hp' i=hp i):zRk hp' e x=some (ys,rd,p):=by
 unfold zRk at hs ⊢
 split at hs
 ·exact hs
 ·exact hs
 ·exact hs
 ·exact hs
 ·rename_i id n;split at hs
  ·rename_i ob hid;cases hs
   have:=h id (by simp)
   simp only[this,hid]
  ·cases hs
 ·rename_i id n i o k;split at hs
  ·rename_i ob hid;cases hs
   have:=h id (by simp)
   simp only[this,hid]
  ·cases hs
 ·cases hs
theorem xEh{ρ:Operand→V}{hp hp':Heap}{fid:Nat}{t:Stp}(ht:zOq P ρ hp fid o=some t)(h:∀i∈t.e.rd++t.e.ids,hp' i=hp i):zOq P ρ hp' fid o=some t:=by
 obtain⟨dst,op,type,pos,after,guard⟩:=o
 cases op<;>simp only[zOq,reduceCtorEq]at ht ⊢
 case makeMap T r=>cases r<;>exact ht
 case lookup T x i ok=>
  cases ok with
  |true=>cases ht
  |false=>
   simp only at ht ⊢;unfold xDw at ht ⊢;split at ht
   ·rename_i id hx;split at ht
    ·rename_i ob hid;split at ht
     ·rename_i bk K E' hT;obtain⟨z,hz,ht'⟩:=Option.bind_eq_some_iff.1 ht;obtain⟨v,hv,rfl⟩:=Option.map_eq_some_iff.1 ht';have:=h id (by simp)
      simp only[this,hid,hT];exact ht
     ·cases ht
    ·cases ht
   ·cases ht
 case mapUpdate T x i y=>
  unfold xDr at ht ⊢;split at ht
  ·rename_i id hx;split at ht
   ·rename_i ob hid;split at ht
    ·rename_i bk K E' hT;have hh:id∈t.e.rd:=by
      split at ht
      ·cases ht
      ·obtain⟨ys,hv,rfl⟩:=Option.map_eq_some_iff.1 ht;simp
     have:=h id (by simp[hh])
     simp only[this,hid,hT];exact ht
    ·cases ht
   ·cases ht
  ·cases ht
 case load T x=>
  obtain⟨q,hq,rfl⟩:=Option.map_eq_some_iff.1 ht;refine Option.map_eq_some_iff.2 ⟨q,?_,rfl⟩;unfold ldS at hq ⊢;split at hq
  ·rename_i id n i o' hx;split at hq
   ·rename_i ob hid;obtain⟨v,hv,rfl⟩:=Option.map_eq_some_iff.1 hq;have:=h id (by simp)
    simp only[this,hid,hv];rfl
   ·cases hq
  ·rename_i hx;exact hq
  ·cases hq
 case store T p x=>
  obtain⟨q,hq,rfl⟩:=Option.map_eq_some_iff.1 ht;refine Option.map_eq_some_iff.2 ⟨q,?_,rfl⟩;unfold stS at hq ⊢;split at hq
  ·rename_i id n i o' hx;split at hq
   ·rename_i ob hid;obtain⟨v,hv,rfl⟩:=Option.map_eq_some_iff.1 hq;have:=h id (by simp)
    simp only[this,hid,hv];rfl
   ·cases hq
  ·cases hq
 case nilCheck x=>
  split at ht
  ·rename_i id n i o' hx;exact ht
  ·rename_i hx;exact ht
  ·cases ht
 case fieldAddr T x f=>
  split at ht
  ·rename_i off ft id n i o' hf hx;exact ht
  ·rename_i off ft e xs i o' hf hx;exact ht
  ·cases ht
 case convert src dst x=>
  split at ht
  ·exact ht
  ·rename_i E' h1 h2;unfold strS at ht ⊢;split at ht
   ·rename_i xs rd p hE hsrc;obtain⟨l,hl,rfl⟩:=Option.map_eq_some_iff.1 ht;have hs2:=zNu (hp':=hp') hsrc fun i hi=>h i (by simp[hi])
    simp only[hE,hs2,hl,Option.map_some]
   ·cases ht
  ·cases ht
 case indexAddr T x i=>
  unfold idxS at ht ⊢;split at ht
  ·rename_i h1;split at ht
   ·rename_i h2;split at ht
    ·rename_i h3;exact ht
    ·rename_i id n h3;split at ht
     ·rename_i ob hid;cases ht
      have:=h id (by simp)
      simp only[this,hid]
     ·cases ht
    ·cases ht
   ·split at ht
    ·split at ht
     ·exact ht
     ·rename_i id m i' o' h3;split at ht
      ·rename_i ob hid;cases ht
       have:=h id (by simp)
       simp only[this,hid]
      ·cases ht
     ·cases ht
    ·cases ht
  ·cases ht
 case slice T x lo hi mx=>
  cases mx with
  |some _=>simp at ht
  |none=>
   simp only at ht ⊢;unfold yIb at ht ⊢;split at ht
   ·rename_i h3;exact ht
   ·rename_i h3;exact ht
   ·rename_i h3;exact ht
   ·rename_i id n i o' h3;split at ht
    ·rename_i ob hid;have hh:id∈t.e.rd:=by
      split at ht
      ·split at ht
       ·cases ht;simp
       ·cases ht
      ·cases ht
     have:=h id (by simp[hh])
     simp only[this,hid];exact ht
    ·cases ht
   ·rename_i id n h3;split at ht
    ·rename_i ob hid;have hh:id∈t.e.rd:=by
      split at ht
      ·split at ht<;>(cases ht;simp)
      ·cases ht
     have:=h id (by simp[hh])
     simp only[this,hid];exact ht
    ·cases ht
   ·rename_i id n i o' k h3;split at ht
    ·rename_i ob hid;have hh:id∈t.e.rd:=by
      split at ht
      ·cases ht;simp
      ·cases ht
     have:=h id (by simp[hh])
     simp only[this,hid];exact ht
    ·cases ht
   ·cases ht
 case call c=>
  obtain⟨callee,args,tys⟩:=c;cases callee with
  |builtin b=>
   simp only at ht ⊢;split at ht
   ·rename_i x T ha hT;obtain⟨q,hq,rfl⟩:=Option.map_eq_some_iff.1 ht;refine Option.map_eq_some_iff.2 ⟨q,?_,rfl⟩;unfold lenV at hq ⊢;split at hq
    ·exact hq
    ·exact hq
    ·exact hq
    ·rename_i id n;split at hq
     ·rename_i ob hid;cases hq
      have:=h id (by simp)
      simp only[this,hid]
     ·cases hq
    ·rename_i id;split at hq
     ·rename_i ob hid;cases hq
      have:=h id (by simp)
      simp only[this,hid]
     ·cases hq
    ·cases hq
   ·rename_i v1 v2 T T' ha hT;split at ht
    ·rename_i hTT;subst hTT;simp only[if_true];unfold appS at ht ⊢;split at ht
     ·cases ht
     ·rename_i E' hE;split at ht
      ·rename_i z ys rd p hz hsrc;have hrd:∀i∈rd,i∈t.e.rd:=by
        split at ht
        ·cases ht;exact fun i hi=>hi
        ·split at ht
         ·cases ht;exact fun i hi=>by simp[hi]
         ·cases ht
        ·cases ht
       have hs2:=zNu (hp':=hp') hsrc fun i hi=>h i (by simp[hrd i hi])
       simp only[hz,hs2];split at ht
       ·exact ht
       ·rename_i id n;split at ht
        ·rename_i ob hid;cases ht
         have:=h id (by simp)
         simp only[this,hid]
        ·cases ht
       ·cases ht
      ·cases ht
    ·cases ht
   ·rename_i v1 v2 T T' ha hT;split at ht
    ·rename_i hTT;subst hTT;simp only[if_true];unfold yYx at ht ⊢;split at ht
     ·cases ht
     ·rename_i E' hE;split at ht
      ·rename_i id n i o' k;split at ht
       ·rename_i ob hid;split at ht
        ·rename_i hka;split at ht
         ·rename_i ys rd p hsrc;cases ht
          have hs2:=zNu (hp':=hp') hsrc fun i hi=>h i (by simp[hi])
          have:=h id (by simp)
          simp only[this,hid,hs2,hka]
         ·cases ht
        ·split at ht
         ·rename_i ys rd p hsrc;split at ht
          ·rename_i cs hcs;cases ht
           have hs2:=zNu (hp':=hp') hsrc fun i hi=>h i (by simp[hi])
           have:=h id (by simp)
           simp only[this,hid,hs2,hcs]
          ·cases ht
         ·cases ht
       ·cases ht
      ·rename_i id n;split at ht
       ·rename_i ob ys rd p hid hsrc;cases ht
        have hs2:=zNu (hp':=hp') hsrc fun i hi=>h i (by simp[hi])
        have:=h id (by simp)
        simp only[this,hid,hs2]
       ·cases ht
      ·cases ht
    ·cases ht
   ·rename_i h1;exact ht
   ·rename_i h1;exact ht
   ·cases ht
  |value f=>simp at ht
  |invoke r m=>simp at ht
 all_goals exact ht
theorem zLg{R R':V→V→Prop}(h:∀x y,R x y→R' x y):∀(xs ys:List V),all2 R xs ys→all2 R' xs ys
 |[],[],_=>by simp only[all2]
 |x::xs,y::ys,hr=>by
  simp only[all2]at hr ⊢;exact⟨h x y hr.1,zLg h xs ys hr.2⟩
 |[],_::_,hr=>hr.elim
 |_::_,[],hr=>hr.elim
theorem zIg{hp hp':Heap}{B:Nat→Prop}{D:V→Prop}(h:∀i,B i→hp' i=hp i):∀(n:Nat) (x y:V),zAx hp B D n x y→zAx hp' B D n x y
 |0,x,y,hx=>by simpa only[zAx] using hx
 |n+1,x,y,hx=>by
  have ih:=zLg (zIg (D:=D) h n);unfold zAx at hx ⊢;split at hx
  ·exact hx
  ·obtain⟨hb,ob,h1,h2,h3,h4⟩:=hx;exact⟨hb,ob,by rw[h _ hb];exact h1,h2,h3,ih _ _ h4⟩
  ·obtain⟨hb,ob,h1,h2,h3,h4,h5,h6⟩:=hx;exact⟨hb,ob,by rw[h _ hb];exact h1,h2,h3,h4,h5,ih _ _ h6⟩
  ·obtain⟨hb,hx⟩:=hx;rcases hx with ⟨ob,cs,h1,h2,h3,h4,h5,h6⟩|⟨ob,h1,h2,h3,h4,h5,h6,h7⟩
   ·exact⟨hb,.inl ⟨ob,cs,by rw[h _ hb];exact h1,h2,h3,h4,h5,ih _ _ h6⟩⟩
   ·exact⟨hb,.inr ⟨ob,by rw[h _ hb];exact h1,h2,h3,h4,h5,h6,ih _ _ h7⟩⟩
  ·exact ih _ _ hx
  ·exact ih _ _ hx
  ·exact⟨hx.1,ih _ _ hx.2.1,ih _ _ hx.2.2⟩
  ·exact⟨hx.1,zIg h n _ _ hx.2⟩
  ·exact hx
mutual
theorem xLs{hp hp':Heap}{σ:Nat→Option (Option Nat)}{B:Nat→Prop}(h:∀i,B i→hp' i=hp i):∀(x y:V),vLe hp σ B x y→vLe hp' σ B x y
 | .bot,y,hx=>by cases y<;>(simp only[vLe]at hx ⊢ <;>exact hx)
 | .bool _,y,hx=>by cases y<;>(simp only[vLe]at hx ⊢ <;>exact hx)
 | .int _ _,y,hx=>by cases y<;>(simp only[vLe]at hx ⊢ <;>exact hx)
 | .str _,y,hx=>by cases y<;>(simp only[vLe]at hx ⊢ <;>exact hx)
 | .nilS,y,hx=>by cases y<;>(simp only[vLe]at hx ⊢ <;>exact hx)
 | .sl _ _,y,hx=>by cases y<;>(simp only[vLe]at hx ⊢ <;>exact hx)
 | .nilP,y,hx=>by cases y<;>(simp only[vLe]at hx ⊢ <;>exact hx)
 | .nilF,y,hx=>by cases y<;>(simp only[vLe]at hx ⊢ <;>exact hx)
 | .nl,y,hx=>by cases y<;>(simp only[vLe]at hx ⊢ <;>exact hx)
 | .sn _ _,y,hx=>by cases y<;>(simp only[vLe]at hx ⊢ <;>exact hx)
 | .win id n i o k,y,hx=>by
  cases y with
  |sl e ys=>
   simp only[vLe]at hx ⊢;exact zIg h _ _ _ hx
  |_=>(simp only[vLe]at hx ⊢ <;>exact hx)
 | .tptr _ _ _ _,y,hx=>by cases y<;>(simp only[vLe]at hx ⊢ <;>exact hx)
 | .mp _,y,hx=>by cases y<;>(simp only[vLe]at hx ⊢ <;>exact hx)
 | .obj id n,y,hx=>by
  cases y with
  |sl e ys=>
   simp only[vLe]at hx ⊢;exact zIg h _ _ _ hx
  |_=>(simp only[vLe]at hx ⊢ <;>exact hx)
 | .ptr id n i o,y,hx=>by
  cases y with
  |tptr e ys i' o'=>
   simp only[vLe]at hx ⊢;exact zIg h _ _ _ hx
  |_=>(simp only[vLe]at hx ⊢ <;>exact hx)
 | .agg xs,y,hx=>by
  cases y with
  |agg ys=>simp only[vLe]at hx ⊢;exact zMp h xs ys hx
  |_=>(simp only[vLe]at hx ⊢ <;>exact hx)
 | .tup xs,y,hx=>by
  cases y with
  |tup ys=>simp only[vLe]at hx ⊢;exact zMp h xs ys hx
  |_=>(simp only[vLe]at hx ⊢ <;>exact hx)
 | .func f p q,y,hx=>by
  cases y with
  |func g c d=>simp only[vLe]at hx ⊢;exact⟨hx.1,zMp h p c hx.2.1,zMp h q d hx.2.2⟩
  |_=>(simp only[vLe]at hx ⊢ <;>exact hx)
 | .opt g x,y,hx=>by
  cases y with
  |bot=>simp only[vLe]
  |_=>simp only[vLe]at hx ⊢;exact⟨hx.1,xLs h x _ hx.2⟩
theorem zMp{hp hp':Heap}{σ:Nat→Option (Option Nat)}{B:Nat→Prop}(h:∀i,B i→hp' i=hp i):∀(xs ys:List V),vsLe hp σ B xs ys→vsLe hp' σ B xs ys
 |[],ys,hx=>by simpa only[vsLe] using hx
 |x::xs,ys,hx=>by
  simp only[vsLe]at hx ⊢;obtain⟨y,r,rfl,h1,h2⟩:=hx;exact⟨y,r,rfl,xLs h x y h1,zMp h xs r h2⟩
end
theorem yGl{hp hp':Heap}{bor:List Nat}{nb:Nat}(h:∀i,i∈bor→hp' i=hp i):∀ {fz:List (Nat × Obj)},fzOk hp bor nb fz→fzOk hp' bor nb fz
 |[],_=>by simp only[fzOk]
 |(i,o)::r,hz=>by
  simp only[fzOk]at hz ⊢;obtain⟨⟨h1,h2,ob,h3,h4,h5,h6,h7,h8,h9⟩,hn,hr⟩:=hz;exact⟨⟨h1,h2,ob,by rw[h i h1];exact h3,h4,h5,h6,h7,zLg (zIg h 8) _ _ h8,h9⟩,hn,yGl h hr⟩
theorem yJl{hp hp':Heap}{bor:List Nat}(h:∀i,i∈bor→hp' i=hp i){fz:List (Nat × Obj)}(hz:zZc hp bor fz):zZc hp' bor fz:=fun i hi=>(hz i hi).imp_right fun⟨ob,h1,h2⟩=>⟨ob,by rw[h i hi];exact h1,h2⟩
theorem yCz{fid:Nat}{s s':FSt}{e:Eff}(h:yDx P o s.ev s.hp s.kn s.gl s.nb fid e)(hρ:∀x∈o.op.operands,s'.ev x=s.ev x)(hhp:∀i∈e.rd++e.ids,s'.hp i=s.hp i)(hkn:∀i∈e.rd++e.ids,s'.kn i↔s.kn i)(hgl:s'.gl=s.gl)(hnb:s'.nb=s.nb):yDx P o s'.ev s'.hp s'.kn s'.gl s'.nb fid e:=by
 refine⟨?_⟩
 obtain⟨fo,args,tys,f,first,caps,obs,args0,obs',res,σ,bor,fz,gl,ho,hf,hfr,hG,hargs,H,hk',hnew,hsh,rfl⟩:=h.ex
 have hh:∀i,i∈bor→s'.hp i=s.hp i:=fun i hi=>hhp i (by simp[hi])
 refine⟨fo,args,tys,f,first,caps,obs,args0,obs',res,σ,bor,fz,gl,ho,?_,hfr,by rw[hgl];exact hG,?_,⟨H.old,H.new,H.inj,fun i o ho=>?_⟩,hk',fun i hi hj hk=>?_,hsh.imp id fun h=>⟨by rw[hnb];exact yGl hh h.1,yJl hh h.2⟩,rfl⟩
 ·rw[hρ fo (by simp[ho,Op.operands,Call.operands])];exact hf
 ·have:args.toList.map s'.ev=args.toList.map s.ev:=List.map_congr_left fun x hx=>hρ x (by simp[ho,Op.operands,Call.operands];exact .inr (by simpa using hx))
  rw[this];exact zMp hh _ _ hargs
 ·have:=H.ob i o ho;unfold zEh at this ⊢;cases hσ:look σ i with
  |none=>rw[hσ]at this;exact this
  |some x=>
   rw[hσ]at this;cases x with
   |none=>exact this
   |some j=>
    obtain⟨o',q1,q2,q3,q4,q5,q6⟩:=this;exact⟨o',by rw[hhp j (by simp[yIq hσ])];exact q1,q2,q3,q4,q5,zMp hh _ _ q6⟩
 ·refine hnew i hi hj ((hkn _ ?_).1 hk);have hm:(fid+i)∈(outU (τr σ fid) 0 obs').map (·.1):=by
   refine List.mem_map.2 ⟨_,zLo.2 ⟨i,obs'[i],by simp[hi],rfl⟩,?_⟩
   simp only[Nat.zero_add];unfold τr;split
   ·rename_i j' hj';exact absurd hj' (hj j')
   ·rfl
  simp only[Eff.ids,List.map_append,List.mem_append];exact .inr (.inl hm)
theorem xAv{fid:Nat}{s s':FSt}{e:Eff}(h:J0 P fid o s e)(hρ:∀x∈o.op.operands,s'.ev x=s.ev x)(hhp:∀i∈e.rd++e.ids,s'.hp i=s.hp i)(hkn:∀i∈e.rd++e.ids,s'.kn i↔s.kn i)(hgl:s'.gl=s.gl)(hnb:s'.nb=s.nb):J0 P fid o s' e:=by
 rcases h with ⟨t,ht,hs,rfl,hf⟩|((h|h)|h)|h
 ·refine .inl ⟨t,?_,hs,rfl,fun hi hk=>hf hi ((hkn _ (by simp[hi])).1 hk)⟩
  rw[xEg (ρ:=s.ev) hρ];exact xEh ht hhp
 ·refine .inr (.inl (.inl (.inl ⟨?_⟩)));obtain⟨fo,args,tys,f,first,caps,args0,res,bor,fz,gl,ho,hf,hfd,hG,hargs,hbor,hpure,rfl⟩:=h.ex;have hh:∀i,i∈bor→s'.hp i=s.hp i:=fun i hi=>hhp i (by simp[hi])
  refine⟨fo,args,tys,f,first,caps,args0,res,bor,fz,gl,ho,?_,hfd,by rw[hgl];exact hG,?_,hbor.imp id fun h=>⟨by rw[hnb];exact yGl hh h.1,yJl hh h.2⟩,hpure,rfl⟩
  ·rw[hρ fo (by simp[ho,Op.operands,Call.operands])];exact hf
  ·have:args.toList.map s'.ev=args.toList.map s.ev:=List.map_congr_left fun x hx=>hρ x (by simp[ho,Op.operands,Call.operands];exact .inr (by simpa using hx))
   rw[this];exact zLg (zIg hh 8) _ _ hargs
 ·exact .inr (.inl (.inl (.inr (yCz h hρ hhp hkn hgl hnb))))
 ·obtain⟨e1,h1,h2,rfl⟩:=h;have hin:∀i∈e1.rd++e1.ids,i∈(e1.rd++e1.ids)++Eff.ids ⟨e1.val,[],e1.rd++e1.ids⟩:=fun i hi=>by simp only[List.mem_append]at hi ⊢;exact .inl hi
  exact .inr (.inl (.inr ⟨e1,yCz h1 hρ (fun i hi=>hhp i (hin i hi)) (fun i hi=>hkn i (hin i hi)) hgl hnb,fun p hp=>by
   rw[hhp p.1 (hin p.1 (by simp only[Eff.ids,List.mem_append];exact .inr (List.mem_map.2 ⟨p,hp,rfl⟩)))];exact h2 p hp,rfl⟩))
 ·obtain⟨fo,args,tys,f,args0,res,bor,ho,hf,h1,h2,rfl⟩:=h;have hh:∀i,i∈bor→s'.hp i=s.hp i:=fun i hi=>hhp i (by simp[hi])
  have:args.toList.map s'.ev=args.toList.map s.ev:=List.map_congr_left fun x hx=>hρ x (by simp[ho,Op.operands,Call.operands];exact .inr (by simpa using hx))
  exact .inr (.inr ⟨fo,args,tys,f,args0,res,bor,ho,by rw[hρ fo (by simp[ho,Op.operands,Call.operands])];exact hf,h1,by rw[this];exact zLg (zIg hh 8) _ _ h2,rfl⟩)
theorem yYh{ops:Array Oper}{s s':FSt}(hgl:s'.gl=s.gl)(h:∀t∈o.looksAt ops,s'.sl t=s.sl t):∀x∈o.op.operands,s'.ev x=s.ev x:=by
 intro x hx
 cases x with
 |tmp t=>exact h t (List.mem_append_left _ (List.mem_filterMap.2 ⟨.tmp t,by simpa using hx,rfl⟩))
 |global g=>simp only[FSt.ev,hgl]
 |_=>rfl
theorem J_loc{ops:Array Oper}{base i:Nat}{s s':FSt}{e:Eff}(h:J P ops base i o s e)(hsame:Same (o.looksAt ops) (e.rd++e.ids) s s'):J P ops base i o s' e:=by
 have hev:=yYh hsame.gl hsame.sl
 unfold J at h ⊢
 cases hg:o.guard with
 |none=>rw[hg]at h;exact xAv h hev hsame.hp hsame.kn hsame.gl hsame.nb
 |some jw=>
  obtain⟨j,want⟩:=jw;rw[hg]at h;obtain⟨d,t,hd,hN,ht,h⟩:=h;have hdl:d∈o.looksAt ops:=List.mem_append_right _ (by simp[hg,hd])
  refine⟨d,t,hd,by rw[hsame.N];exact hN,by rw[hsame.sl d hdl];exact ht,?_⟩
  have hevu:∀x∈o.op.operands,(s'.unw true).ev x=(s.unw true).ev x:=fun x hx=>by
   cases x with
   |tmp t'=>
    have:=hev _ hx;simp only[FSt.ev]at this;simp only[FSt.ev,FSt.unw,this]
   |global g=>simp only[FSt.ev,FSt.unw,hsame.gl]
   |_=>rfl
  rcases h with ⟨h1,h2⟩|h|⟨e0,h1,h2,h3⟩
  ·exact .inl ⟨h1,xAv h2 hevu hsame.hp hsame.kn hsame.gl hsame.nb⟩
  ·exact .inr (.inl h)
  ·subst h3;refine .inr (.inr ⟨e0,fun hc=>xAv (h1 hc) (fun x hx=>?_) (fun i hi=>?_) (fun i hi=>?_) hsame.gl hsame.nb,h2,rfl⟩)
   ·cases x with
    |tmp t'=>
     have:=hev _ hx;simp only[FSt.ev]at this;simp only[FSt.ev,FSt.unw,this]
    |global g=>simp only[FSt.ev,FSt.unw,hsame.gl]
    |_=>rfl
   ·exact hsame.hp i (by simpa[Eff.ids,h2] using hi)
   ·exact hsame.kn i (by simpa[Eff.ids,h2] using hi)
theorem xTf{c:Ctx}{x:V}{v:Value}(hd:c.data=false)(h:RV c (x.unw true) v):RV c x v:=by
 cases x with
 |opt g' x=>
  simp only[V.unw]at h;split at h
  ·simp only[RV];exact⟨hd,fun _=>h,fun h0=>by rename_i h0';simp[h0]at h0'⟩
  ·exact h
 |_=>simpa only[V.unw] using h
theorem Rel.lift{s1 s2:FSt}(h:Rel E s1 a w η)(hhp:s1.hp=s2.hp)(hkn:s1.kn=s2.kn)(hN:s1.N=s2.N)(hnb:s1.nb=s2.nb)(hgl:s1.gl=s2.gl)(hsl:∀t,s1.sl t=s2.sl t∨s1.sl t=(s2.sl t).unw true):Rel E s2 a w η:=by
 have hctx:s1.ctx E w η=s2.ctx E w η:=by unfold FSt.ctx;rw[hhp,hkn]
 refine⟨fun t'=>?_,by rw[← hctx];exact h.laid,h.since,by rw[← hhp];exact h.fresh,by rw[← hN];exact h.tmps,h.defers,⟨by rw[← hnb];exact h.held.nb,fun i hi=>by unfold yDv;rw[← hhp,← hkn];exact h.held.at_ i (by rw[hnb];exact hi)⟩,fun g p hp=>by rw[← hctx];exact h.glob g p (by rw[hgl];exact hp),fun p hp=>by rw[← hctx];exact h.ghost p hp⟩
 have hs:=h.slots t'
 rw[hctx]at hs
 rcases hsl t' with e|e
 ·rw[e]at hs;exact hs
 ·rw[e]at hs;exact xTf rfl hs
theorem yOy(s:FSt)(d:Option Tmp)(e:Eff)(t:Nat):((s.unw true).app d e).sl t=(s.app d e).sl t∨((s.unw true).app d e).sl t=((s.app d e).sl t).unw true:=by
 simp only[FSt.app,FSt.put_sl]
 show (if d=some t∧t<s.N then e.val else(s.sl t).unw true)=_∨_
 by_cases h:d=some t∧t<s.N
 ·rw[if_pos h];exact .inl (by rw[if_pos h])
 ·rw[if_neg h];exact .inr (by rw[if_neg h];show (if d=some t∧t<s.N then e.val else(s.sl t).unw true)=_;rw[if_neg h])
theorem xLm(P:Program)(ops:Array Oper)(E:zBf)(base:Nat):LawJ P ops E (J P ops base):=by
 constructor
 ·intro i o s e h a w η hr K Q hK;unfold J at h;unfold zIk;cases hg:o.guard with
  |none=>
   rw[hg]at h;have:Region.wanted o (yielded ops a.tmps)=true:=by simp[Region.wanted,hg]
   rw[if_pos this];exact zZz hr h K Q hK
  |some jw=>
   obtain⟨j,want⟩:=jw;rw[hg]at h;obtain⟨d,g,hd,hN,ht,h⟩:=h;have hw:=yPo hr hg hd hN ht;rw[hw];rcases h with ⟨h1,h2⟩|⟨h1,h2⟩|⟨e0,h1,h2,h3⟩
   ·subst h1;simp only[if_true];exact zZz hr.unw h2 K Q fun a' w' η' hr'=>hK a' w' η' (hr'.lift rfl rfl (by simp only[FSt.app,FSt.put_N];rfl) (by simp only[FSt.app,FSt.put_nb];rfl) (by simp only[FSt.app,FSt.put_gl];rfl) (yOy s o.dst e))
   ·subst h1;subst h2;simp only[Bool.false_eq_true,if_false];refine hK _ w η ?_;rw[FSt.app_nil];exact hr.put o.dst (by simp only[RV];exact⟨#[],rfl,by simp[RVl]⟩)
   ·subst h3;by_cases hc:g=true
    ·rw[if_pos hc];have h1':=h1 hc;rw[hc]at h1';refine zZz hr.unw h1' K Q fun a' w' η' hr'=>hK a' w' η' ?_
     rw[FSt.app_nil];have he0:e0=⟨e0.val,[],e0.rd⟩:=by cases e0;simp_all
     rw[he0,FSt.app_nil]at hr';have hhp:((s.unw true).put o.dst e0.val).hp=(s.put o.dst (.opt g e0.val)).hp:=by rw[FSt.put_hp,FSt.put_hp];rfl
     have hkn:((s.unw true).put o.dst e0.val).kn=(s.put o.dst (.opt g e0.val)).kn:=by rw[FSt.put_kn,FSt.put_kn];rfl
     have hNN:((s.unw true).put o.dst e0.val).N=(s.put o.dst (.opt g e0.val)).N:=by rw[FSt.put_N,FSt.put_N];rfl
     have hnb:((s.unw true).put o.dst e0.val).nb=(s.put o.dst (.opt g e0.val)).nb:=by rw[FSt.put_nb,FSt.put_nb];rfl
     have hgll:((s.unw true).put o.dst e0.val).gl=(s.put o.dst (.opt g e0.val)).gl:=by rw[FSt.put_gl,FSt.put_gl];rfl
     have hctx:((s.unw true).put o.dst e0.val).ctx E w' η'=(s.put o.dst (.opt g e0.val)).ctx E w' η':=by
      unfold FSt.ctx;rw[hhp,hkn]
     refine⟨fun t'=>?_,by rw[← hctx];exact hr'.laid,hr'.since,by rw[← hhp];exact hr'.fresh,by rw[← hNN];exact hr'.tmps,hr'.defers,⟨by rw[← hnb];exact hr'.held.nb,fun i hi=>by unfold yDv;rw[← hhp,← hkn];exact hr'.held.at_ i (by rw[hnb];exact hi)⟩,fun g p hp=>by rw[← hctx];exact hr'.glob g p (by rw[hgll];exact hp),fun p hp=>by rw[← hctx];exact hr'.ghost p hp⟩
     have hs:=hr'.slots t';rw[hctx]at hs;rw[FSt.put_sl]at hs ⊢;by_cases hdt:o.dst=some t'∧t'<s.N
     ·rw[if_pos hdt];have hdt':o.dst=some t'∧t'<(s.unw true).N:=hdt;rw[if_pos hdt']at hs;simp only[RV];exact⟨rfl,fun _=>hs,fun h0=>absurd (hc.symm.trans h0) (by simp)⟩
     ·rw[if_neg hdt];have hdt':¬(o.dst=some t'∧t'<(s.unw true).N):=hdt;rw[if_neg hdt']at hs;have hs':RV _ ((s.sl t').unw true) _:=hs;generalize s.sl t'=X at *;cases X with
      |opt g' x=>
       simp only[V.unw]at hs';split at hs'
       ·simp only[RV];exact⟨rfl,fun _=>hs',fun h0=>by rename_i h0';simp[h0]at h0'⟩
       ·exact hs'
      |_=>simpa only[V.unw] using hs'
    ·rw[if_neg hc];refine hK _ w η ?_;rw[FSt.app_nil];exact hr.put o.dst (by simp only[RV];exact⟨rfl,fun h=>absurd h hc,fun _=>rfl⟩)
 ·intro i o s s' e h hsame;exact J_loc h hsame
end
end Go.AM
set_option linter.unusedSimpArgs false
set_option linter.unusedVariables false
namespace Go.AM
open Go.RowKit
mutual
def V.wf:V→Prop
 | .int k n=>k.min≤n∧n≤k.max
 | .sl _ xs=>xs.length≤140737488355328∧wfs xs
 | .sn _ xs=>xs.length≤140737488355328∧wfs xs
 | .agg cs=>wfs cs
 | .tup vs=>wfs vs
 |_=>True
def wfs:List V→Prop
 |[]=>True
 |x::r=>x.wf∧wfs r
end
mutual
theorem xLk{c:Ctx}:∀(x:V) (v:Value),RV c x v→x.wf
 | .bot,v,h=>by simp[V.wf]
 | .bool b,v,h=>by simp[V.wf]
 | .int k n,v,h=>by simp only[RV]at h;exact h.2
 | .str s,v,h=>by simp[V.wf]
 | .nilS,v,h=>by simp[V.wf]
 | .sl e xs,v,h=>by
  simp only[RV]at h;obtain⟨a,cap,us,hv,_,hl,h1,_⟩:=h;simp only[V.wf];exact⟨hl,zMn xs us h1⟩
 | .nl,v,h=>by simp[V.wf]
 | .sn e xs,v,h=>by
  simp only[RV]at h;obtain⟨_,a,cap,us,hv,_,hl,h1,_⟩:=h;simp only[V.wf];exact⟨hl,zMn xs us h1⟩
 | .win id n i o k,v,h=>by simp[V.wf]
 | .obj id n,v,h=>by simp[V.wf]
 | .ptr id n i o,v,h=>by simp[V.wf]
 | .mp id,v,h=>by simp[V.wf]
 | .tptr e xs i o,v,h=>by simp[V.wf]
 | .nilP,v,h=>by simp[V.wf]
 | .func fn f cs,v,h=>by simp[V.wf]
 | .nilF,v,h=>by simp[V.wf]
 | .agg cs,v,h=>by
  simp only[RV]at h;obtain⟨cv,hv,h1,h2⟩:=h;simp only[V.wf];exact zMn cs _ h1
 | .tup vs,v,h=>by
  simp only[RV]at h;obtain⟨cv,hv,h1⟩:=h;simp only[V.wf];exact zMn vs _ h1
 | .opt g x,v,h=>by simp[V.wf]
theorem zMn{c:Ctx}:∀(xs:List V) (us:List Value),RVl c xs us→wfs xs
 |[],us,h=>by simp[wfs]
 |x::xs,us,h=>by
  simp only[RVl]at h;obtain⟨u,r,hu,h1,h2⟩:=h;simp only[wfs];exact⟨xLk x u h1,zMn xs r h2⟩
end
structure St where
 sl:List (Nat × V)
 hp:List (Nat × Obj)
 nx:Nat
 ex:List Nat
 N:Nat
 nb:Nat
 gl:List (Nat × Nat × List V)
def St.get(s:St)(t:Nat):V:=(look s.sl t).getD .bot
def St.F(s:St):FSt:=⟨s.get,look s.hp,fun i=>i<s.nx∨i∈s.ex,s.N,s.nb,look s.gl⟩
def St.app(s:St)(d:Option Tmp)(e:Eff):St:=
 { s with
  sl:=match d with|none=>s.sl|some d=>if d<s.N then(d,e.val)::s.sl else s.sl
  hp:=e.upd++s.hp
  ex:=e.ids++s.ex }
def St.ev(s:St):Operand→V
 | .tmp t=>s.get t
 | .const v=>cst v
 | .global g=>match look s.gl g with|some p=> .tptr p.1 p.2 0 0|none=> .bot
 | .func f=> .func (.func f) [] []
def St.unw(g:Bool)(s:St):St:={ s with sl:=s.sl.map fun p=>(p.1,p.2.unw g) }
theorem St.ev_F(s:St):s.F.ev=s.ev:=by funext x;cases x<;>rfl
theorem zMy(l:List (Nat × Obj))(r:List (Nat × Obj)):look (l++r)=zCy l (look r):=by
 funext k
 induction l with
 |nil=>rfl
 |cons p l ih=>
  obtain⟨i,o⟩:=p;simp only[List.cons_append,look,zCy,ih]
theorem St.app_F(s:St)(d:Option Tmp)(e:Eff):(s.app d e).F=s.F.app d e:=by
 have h1:(s.app d e).F.sl=(s.F.app d e).sl:=by
  funext t
  simp only[FSt.app,FSt.put_sl,St.F,St.app,St.get];cases d with
  |none=>simp
  |some d=>
   by_cases hd:d<s.N
   ·simp only[hd,if_true,look,Option.some.injEq];by_cases ht:t=d
    ·subst ht;simp[hd]
    ·simp[ht,Ne.symm ht]
   ·simp only[hd,if_false,Option.some.injEq];by_cases ht:d=t
    ·subst ht;simp[hd]
    ·simp[ht]
 have h2:(s.app d e).F.hp=(s.F.app d e).hp:=by
  simp only[FSt.app,St.F,St.app];exact zMy _ _
 have h3:(s.app d e).F.kn=(s.F.app d e).kn:=by
  funext k
  simp only[FSt.app,St.F,St.app];exact propext (by simp only[List.mem_append];constructor<;>(intro h;rcases h with h|h|h<;>simp[h]))
 have h4:(s.app d e).F.N=(s.F.app d e).N:=by simp only[FSt.app,FSt.put_N];rfl
 have h5:(s.app d e).F.nb=(s.F.app d e).nb:=by simp only[FSt.app,FSt.put_nb];rfl
 have h6:(s.app d e).F.gl=(s.F.app d e).gl:=by simp only[FSt.app,FSt.put_gl];rfl
 generalize (s.app d e).F=x at *
 generalize s.F.app d e=y at *
 cases x;cases y
 simp_all
theorem xDv(g:Bool)(l:List (Nat × V))(t:Nat):look (l.map fun p=>(p.1,p.2.unw g)) t=(look l t).map (V.unw g):=by
 induction l with
 |nil=>rfl
 |cons p l ih=>
  obtain⟨k,x⟩:=p;simp only[List.map_cons,look,ih];split<;>simp
theorem St.unw_F(s:St)(g:Bool):(s.unw g).F=s.F.unw g:=by
 have:(s.unw g).get=fun t=>(s.get t).unw g:=by
  funext t
  simp only[St.get,St.unw,xDv];cases look s.sl t<;>rfl
 simp only[St.F,FSt.unw,this]
 rfl
def yDa(P:Program)(fid:Nat)(o:Oper)(s:St)(K:Eff→Prop):Prop:=∃e,(xTh P o s.ev (look s.hp) (look s.gl) s.nb e∨yDx P o s.ev (look s.hp) (fun i=>i<s.nx∨i∈s.ex) (look s.gl) s.nb fid e∨xLp P o s.ev (look s.hp) e∨∃e1,yDx P o s.ev (look s.hp) (fun i=>i<s.nx∨i∈s.ex) (look s.gl) s.nb fid e1∧(∀p∈e1.upd,look s.hp p.1=some p.2)∧e=⟨e1.val,[],e1.rd++e1.ids⟩)∧(e.val.wf→K e)
def done(r:Option Stp)(fid nx:Nat)(ex:List Nat)(K:Eff→Prop):Prop:=
 match r with
 |some t=>t.side∧(fid∈t.e.ids→¬(fid<nx∨fid∈ex))∧K t.e
 |none=>False
theorem yYn{t:Stp}{fid nx:Nat}{ex:List Nat}{K:Eff→Prop}:done (some t) fid nx ex K=(t.side∧(fid∈t.e.ids→¬(fid<nx∨fid∈ex))∧K t.e):=rfl
def xMd:Op→Bool
 | .call { callee:= .value _,.. }=>true
 |_=>false
def yRy(P:Program)(fid:Nat)(o:Oper)(s:St)(K:Eff→Prop)(b:Bool):Prop:=
 match b with
 |true=>yDa P fid o s K
 |false=>done (zOq P s.ev (look s.hp) fid o) fid s.nx s.ex K
def yBh(P:Program)(fid:Nat)(o:Oper)(s:St)(K:Eff→Prop):Prop:=yRy P fid o s K (xMd o.op)
def xDe(r:Option Stp)(g:Bool)(K:Eff→Prop):Prop:=
 match r with
 |some t=>(g=true→t.side)∧t.e.upd=[]∧K ⟨.opt g t.e.val,[],t.e.rd⟩
 |none=>g=false∧K ⟨.tup [],[],[]⟩
theorem yMk{t:Stp}{g:Bool}{K:Eff→Prop}:xDe (some t) g K=((g=true→t.side)∧t.e.upd=[]∧K ⟨.opt g t.e.val,[],t.e.rd⟩):=rfl
def xOl(P:Program)(fid:Nat)(o:Oper)(s:St)(g:Bool)(K:Eff→Prop):Prop:=
 xDe (zOq P (fun x=>(s.ev x).unw g) (look s.hp) fid o) g K
def gbr(P:Program)(fid:Nat)(o:Oper)(s:St)(K:Eff→Prop)(g:Bool):Prop:=(g=true→yBh P fid o (s.unw true) K)∧(g=false→K ⟨.tup [],[],[]⟩)
def mayG:Op→Bool
 | .move _ | .assign _ | .pick .. | .load .. | .nilCheck _ | .binOp .. | .unOp .. | .convert .. | .field .. | .fieldAddr .. | .indexAddr .. | .index .. | .slice .. | .extract .. =>true
 | .call { callee:= .builtin .len,.. } | .call { callee:= .builtin .min,.. } | .call { callee:= .builtin .max,.. }=>true
 |_=>false
def zUb(P:Program)(fid:Nat)(o:Oper)(s:St)(K:Eff→Prop)(g:Bool)(b:Bool):Prop:=
 match b with
 |true=>xOl P fid o s g K
 |false=>gbr P fid o s K g
def yTr(P:Program)(fid:Nat)(o:Oper)(s:St)(K:Eff→Prop)(want:Bool)(d:Nat)(v:V):Prop:=
 match v with
 | .bool t=>d<s.N∧zUb P fid o s K (t == want) (mayG o.op)
 | .opt g (.bool t)=>d<s.N∧zUb P fid o s K (g&&(t == want)) (mayG o.op)
 | .tup []=>d<s.N∧zUb P fid o s K false (mayG o.op)
 | .opt _ (.tup [])=>d<s.N∧zUb P fid o s K false (mayG o.op)
 |_=>False
def yTs(P:Program)(fid:Nat)(o:Oper)(s:St)(K:Eff→Prop)(want:Bool)(d:Option Nat):Prop:=
 match d with
 |none=>False
 |some d=>yTr P fid o s K want d (s.get d)
def yTt(P:Program)(ops:Array Oper)(fid:Nat)(o:Oper)(s:St)(K:Eff→Prop)(g:Option (Nat × Bool)):Prop:=
 match g with
 |none=>yBh P fid o s K
 |some (j,want)=>yTs P fid o s K want ((ops[j]?).bind (·.dst))
def yTu(P:Program)(ops:Array Oper)(i:Nat)(o:Oper)(s:St)(K:Eff→Prop):Prop:=yTt P ops (s.nx+16*i) o s K o.guard
structure LogE where
 l:List Nat × List Nat
 u:List (Nat × Obj)
 p:Option (TypeId × V × V)
def ldE(s:St)(o:Oper)(e:Eff):Option (TypeId × V × V):=match o.guard,o.op with
 |none,.load T x=>some (T,s.ev x,e.val)
 |_,_=>none
def walk(P:Program)(ops:Array Oper):Nat→List Oper→St→List LogE→(St→List LogE→Prop)→Prop
 |_,[],s,log,K=>K s log
 |i,o::l,s,log,K=>yTu P ops i o s fun e=>walk P ops (i+1) l (s.app o.dst e) (⟨(e.rd,e.ids),e.upd,ldE s o e⟩::log) K
def exOk:List Nat→Nat→Prop
 |[],_=>True
 |k::r,n=>k<n∧exOk r n
def St.next(s:St)(n:Nat):St:={ s with nx:=s.nx+16*n,ex:=[] }
def after(o:Oper)(i:Nat):Bool:=o.after.any fun e=>Region.binds .any e&&e.on == i
def xAh(a b:List Nat × List Nat):Bool:=a.2.all (fun k=> !b.1.contains k&& !b.2.contains k)&&b.2.all (fun k=> !a.1.contains k&& !a.2.contains k)
def dirs(o:Oper):List Nat:=(o.after.toList.filter (Region.binds .any)).map (·.on)
def upsF:List Oper→List (List Nat)→List (List Nat)
 |[],acc=>acc
 |o::l,acc=>upsF l (acc++[dirs o++(dirs o).flatMap fun m=>acc.getD m []])
theorem yAg{ops:Array Oper}:∀(l:List Oper) (acc:List (List Nat)),(∀j,l[j]?=ops[acc.length+j]?)→(∀j x,x∈acc.getD j []→Up .any ops x j)→∀j x,x∈(upsF l acc).getD j []→Up .any ops x j
 |[],acc,_,h,j,x,hx=>h j x hx
 |o::l,acc,hl,h,j,x,hx=>by
  have h0:ops[acc.length]?=some o:=by simpa using(hl 0).symm
  have hd:∀m,m∈dirs o→∃e∈o.after,Region.binds .any e=true∧e.on=m:=fun m hm=>by
   obtain⟨e,he,rfl⟩:=List.mem_map.1 hm;obtain⟨h1,h2⟩:=List.mem_filter.1 he;exact⟨e,by simpa using h1,h2,rfl⟩
  refine yAg l _ (fun k=>?_) (fun k y hy=>?_) j x hx
  ·have:=hl (k+1);simp only[List.getElem?_cons_succ]at this;rw[this];simp only[List.length_append,List.length_cons,List.length_nil]
   congr 1
   omega
  ·by_cases hk:k<acc.length
   ·rw[List.getD_eq_getElem?_getD,List.getElem?_append_left hk,← List.getD_eq_getElem?_getD]at hy;exact h k y hy
   ·rw[List.getD_eq_getElem?_getD,List.getElem?_append_right (by omega)]at hy
    by_cases hk2:k=acc.length
    ·subst hk2;simp only[Nat.sub_self,List.getElem?_cons_zero,Option.getD_some,List.mem_append,List.mem_flatMap]at hy;rcases hy with hy|⟨m,hm,hy⟩
     ·obtain⟨e,e1,e2,e3⟩:=hd y hy;exact .one h0 e1 e2 e3
     ·obtain⟨e,e1,e2,e3⟩:=hd m hm;exact .via h0 e1 e2 (by rw[e3];exact h m y hy)
    ·have:k-acc.length=(k-acc.length-1)+1:=by omega
     rw[this]at hy;simp at hy
def indB(ops:Array Oper)(L:List (Nat × Nat))(l:List (List Nat × List Nat)):Bool:=
 l.zipIdx.all fun(x,j)=>(l.take j).zipIdx.all fun(y,i)=>(x.2.isEmpty&&y.2.isEmpty)||(match ops[j]? with|some oj=>after oj i|none=>true)||L.contains (i,j)||xAh y x||((upsF ops.toList []).getD j []).contains i
def zXd(ops:Array Oper)(L:List (Nat × Nat))(log:List LogE):Bool:=Region.lexB .any ops&&indB ops L (log.map LogE.l).reverse
def xUq(P:Program)(T:TypeId)(n i o:Nat)(v:V):Option Obj→Prop
 |none=>True
 |some ob=>zCt P T (nth ob.xs i) o=some v∧n=ob.xs.length∧i<ob.xs.length
def zYu(P:Program)(p:Option (TypeId × V × V))(u:List (Nat × Obj)):Prop:=
 match p with
 |some (T,.ptr id n i o,v)=>xUq P T n i o v (look u id)
 |_=>False
def zKx(P:Program)(l:List LogE):List (Nat × Nat)→Prop
 |[]=>True
 |(i,j)::r=>(∃x y,l[i]?=some x∧l[j]?=some y∧x.l.2=[]∧zYu P x.p y.u)∧zKx P l r
def yPf(P:Program)(ops:Array Oper)(log:List LogE):Prop:=zXd ops [] log=true∨∃L,zXd ops L log=true∧zKx P log.reverse L
theorem zNb{P:Program}{l:List LogE}:∀ {L:List (Nat × Nat)},zKx P l L→∀p∈L,∃x y,l[p.1]?=some x∧l[p.2]?=some y∧x.l.2=[]∧zYu P x.p y.u
 |[],_,p,hp=>by simp at hp
 |(i,j)::r,h,p,hp=>by
  simp only[zKx]at h;rcases List.mem_cons.1 hp with rfl|hp
  ·exact h.1
  ·exact zNb h.2 p hp
def thenK(Q:Exit→St→Prop)(K:St→Prop)(e:Exit)(s:St):Prop:=
 match e with
 | .normal=>K s
 |e=>Q e s
def zMm(id:Nat)(Q:Exit→St→Prop)(e:Exit)(s:St):Prop:=
 match e with
 | .exit id'=>if id'=id then Q .normal s else Q (.exit id') s
 |e=>Q e s
def AW(P:Program)(E:zBf)(c:Code)(s:St)(Q:Exit→St→Prop):Prop:=
 ∀a w η,Rel E s.F a w η→c.wp P (fun e a' w'=>∃s' η',Q e s'∧Rel E s'.F a' w' η') a w
def yAu(Q:Exit→St→Prop)(e:Exit)(s:St):Prop:=
 match e with
 | .goto _=>False
 |e=>Q e s
def zGm:Code→Bool
 | .goto _=>true
 | .seq a b=>zGm a||zGm b
 | .cond _ a b=>zGm a||zGm b
 | .block _ c=>zGm c
 | .loop c=>zGm c
 | .scope c=>zGm c
 | .skip=>false
 | .region _ _ _=>false
 | .rangeFunc _ _ _ _=>false
 | .exit _=>false
 | .label _=>false
 | .ret=>false
 | .refuse _=>false
def aev(P:Program)(E:zBf):Code→St→(Exit→St→Prop)→Prop
 | .skip,s,Q=>Q .normal s
 | .label _,s,Q=>Q .normal s
 | .ret,s,Q=>Q .ret s
 | .exit id,s,Q=>Q (.exit id) s
 | .region _ ops draw,s,Q=>walk P ops 0 ops.toList s [] fun s' log=>(draw=true→yPf P ops log)∧exOk s'.ex (s'.nx+16*ops.size)∧Q .normal (s'.next ops.size)
 | .seq a b,s,Q=>aev P E a s (thenK Q fun s'=>aev P E b s' Q)
 | .cond c a b,s,Q=>match s.ev c with
  | .bool t=>(t=true→aev P E a s Q)∧(t=false→aev P E b s Q)
  |_=>False
 | .block id c,s,Q=>aev P E c s (zMm id Q)
 | .scope c,s,Q=>match zGm c with
  |true=>AW P E (.scope c) s Q
  |false=>aev P E c s (yAu Q)
 | .goto l,s,Q=>Q (.goto l) s
 |c,s,Q=>AW P E c s Q
section
variable {P : Program} {E : zBf}
theorem yEn{ops:Array Oper}{o:Oper}{K:Act→World→Prop}{a:Act}{w:World}(h:zIk P ops (fun _ _ _=>False) o K a w):∃a' w',K a' w':=by
 unfold zIk at h
 split at h
 ·unfold Oper.wp at h;generalize (execOp a.eval o).run P w=r at h;cases r with
  |halt x w'=>cases x<;>exact h.elim
  |ok n w'=>
   cases n with
   |value v=>exact⟨_,_,h⟩
   |skip=>exact⟨_,_,h⟩
   |defer d=>exact⟨_,_,h⟩
   |enter f args=>
    obtain⟨e,w',fr,hR,_⟩:=h [];cases e with
    |returned v=>exact⟨_,_,hR⟩
    |panicked c=>exact hR.elim
    |outgrown=>obtain⟨_,_,h⟩:=hR;exact h.elim
   |row rw args=>
    obtain⟨v,w',hR,_⟩:=h default [];exact⟨_,_,hR⟩
   |_=>exact h.elim
 ·exact⟨_,_,h⟩
theorem yZd{fid:Nat}{o:Oper}{s:FSt}{a:Act}{w:World}{η:Nat→Value}{e:Eff}(hr:Rel E s a w η)(h:yHs P fid o s e):e.val.wf:=by
 obtain⟨f,cargs,_,hc⟩:=yDb hr h
 obtain⟨e',w',fr,⟨v,η1,_,hv,_⟩,_⟩:=hc []
 exact xLk _ _ hv
theorem xSp{g:Bool}(v:Value):(cst v).unw g=cst v:=by
 unfold cst
 split<;>(try split)<;>rfl
theorem zTi{fid:Nat}{o:Oper}{s:St}{K:Eff→Prop}(h:yBh P fid o s K){a:Act}{w:World}{η:Nat→Value}(hr:Rel E s.F a w η):∃e,J0 P fid o s.F e∧K e:=by
 unfold yBh yRy at h
 split at h
 ·obtain⟨e,he,hK⟩:=h;rcases he with he|he|he|he
  ·have he':yHs P fid o s.F e:=by unfold yHs;rw[St.ev_F];exact .inl he
   exact⟨e,.inr (.inl (.inl he')),hK (yZd hr he')⟩
  ·have he':yHs P fid o s.F e:=by unfold yHs;rw[St.ev_F];exact .inr he
   exact⟨e,.inr (.inl (.inl he')),hK (yZd hr he')⟩
  ·have he':xLp P o s.F.ev s.F.hp e:=by rw[St.ev_F];exact he
   obtain⟨v,_,hv,_⟩:=yCw hr he';exact⟨e,.inr (.inr he'),hK (xLk _ _ hv)⟩
  ·have he':xLq P fid o s.F e:=by unfold xLq;rw[St.ev_F];exact he
   obtain⟨f,cargs,_,hc⟩:=yCx hr he';obtain⟨e',w',fr,⟨v,η1,_,hv,_⟩,_⟩:=hc [];exact⟨e,.inr (.inl (.inr he')),hK (xLk _ _ hv)⟩
 ·unfold done at h;split at h
  ·rename_i t ht;exact⟨t.e,.inl ⟨t,by rw[St.ev_F];exact ht,h.1,rfl,h.2.1⟩,h.2.2⟩
  ·exact h.elim
theorem zIa{ops:Array Oper}{i j d:Nat}{want g:Bool}{o:Oper}{s:St}{K:Eff→Prop}(h:zUb P (s.nx+16*i) o s K g (mayG o.op))(hg:o.guard=some (j,want))(hd:(ops[j]?).bind (·.dst)=some d)(hN:d<s.N)(ht:zMk (s.F.sl d) want=some g){a:Act}{w:World}{η:Nat→Value}(hr:Rel E s.F a w η):∃e,J P ops s.nx i o s.F e∧K e:=by
 unfold J
 rw[hg]
 simp only
 have skip:g=false→K ⟨.tup [],[],[]⟩→∃e,(∃d' g',(ops[j]?).bind (·.dst)=some d'∧d'<s.F.N∧zMk (s.F.sl d') want=some g'∧((g'=true∧J0 P (s.nx+16*i) o (s.F.unw true) e)∨(g'=false∧e=⟨.tup [],[],[]⟩) ∨
   (∃e0,(g'=true→J0 P (s.nx+16*i) o (s.F.unw g') e0)∧e0.upd=[]∧e=⟨.opt g' e0.val,[],e0.rd⟩)))∧K e:=fun hf hK=>
  ⟨_,⟨d,g,hd,hN,ht,.inr (.inl ⟨hf,rfl⟩)⟩,hK⟩
 have take:g=true→yBh P (s.nx+16*i) o (s.unw true) K→∃e,(∃d' g',(ops[j]?).bind (·.dst)=some d'∧d'<s.F.N∧zMk (s.F.sl d') want=some g'∧((g'=true∧J0 P (s.nx+16*i) o (s.F.unw true) e)∨(g'=false∧e=⟨.tup [],[],[]⟩) ∨
   (∃e0,(g'=true→J0 P (s.nx+16*i) o (s.F.unw g') e0)∧e0.upd=[]∧e=⟨.opt g' e0.val,[],e0.rd⟩)))∧K e:=fun hf hK=>by
  obtain⟨e,he,hKe⟩:=zTi (E:=E) hK (by rw[St.unw_F];exact hr.unw)
  rw[St.unw_F]at he;exact⟨e,⟨d,g,hd,hN,ht,.inl ⟨hf,he⟩⟩,hKe⟩
 unfold zUb at h
 split at h
 ·unfold xOl xDe at h;split at h
  ·rename_i q hq;obtain⟨hs,hu,hK⟩:=h;refine⟨_,⟨d,g,hd,hN,ht,.inr (.inr ⟨q.e,fun hc=> .inl ⟨q,?_,hs hc,rfl,by simp[Eff.ids,hu]⟩,hu,rfl⟩)⟩,hK⟩
   have:(s.F.unw g).ev=fun x=>(s.ev x).unw g:=by
    rw[← St.unw_F,St.ev_F]
    funext x
    cases x with
    |tmp t'=>
     have:=congrFun (congrArg FSt.sl (St.unw_F s g)) t';exact this
    |const v=>exact(xSp v).symm
    |global g'=>
     show (match look s.gl g' with|some p=>V.tptr p.1 p.2 0 0|none=>V.bot)=V.unw _ (match look s.gl g' with|some p=>V.tptr p.1 p.2 0 0|none=>V.bot)
     split<;>rfl
    |func f=>rfl
   rw[this];exact hq
  ·exact skip h.1 h.2
 ·cases hc:g with
  |true=>exact hc▸take hc (h.1 hc)
  |false=>exact hc▸skip hc (h.2 hc)
theorem zUa{ops:Array Oper}{i:Nat}{o:Oper}{s:St}{K:Eff→Prop}(h:yTu P ops i o s K){a:Act}{w:World}{η:Nat→Value}(hr:Rel E s.F a w η):∃e,J P ops s.nx i o s.F e∧K e:=by
 unfold yTu yTt yTs yTr at h
 cases hg:o.guard with
 |none=>
  rw[hg]at h;unfold J;rw[hg];exact zTi h hr
 |some jw=>
  obtain⟨j,want⟩:=jw;rw[hg]at h;simp only at h;cases hd:(ops[j]?).bind (·.dst)with
  |none=>rw[hd]at h;exact h.elim
  |some d=>
   rw[hd]at h;simp only at h;split at h
   ·rename_i t ht;exact zIa h.2 hg hd h.1 (by show zMk (s.get d) want=_;rw[ht];rfl) hr
   ·rename_i g t ht;exact zIa h.2 hg hd h.1 (by show zMk (s.get d) want=_;rw[ht];rfl) hr
   ·rename_i ht;exact zIa h.2 hg hd h.1 (by show zMk (s.get d) want=_;rw[ht];rfl) hr
   ·rename_i g ht;exact zIa h.2 hg hd h.1 (by show zMk (s.get d) want=_;rw[ht];rfl) hr
   ·exact h.elim
end
end Go.AM
set_option linter.unusedSimpArgs false
set_option linter.unusedVariables false
namespace Go.AM
open Go.RowKit
section
variable {P : Program} {E : zBf}
def JL(P:Program)(ops:Array Oper)(base:Nat)(lg:Nat→Option LogE)(i:Nat)(o:Oper)(s:FSt)(e:Eff):Prop:=
 J P ops base i o s e∧∀x,lg i=some x→x.l=(e.rd,e.ids)∧x.u=e.upd∧∀T pv v,x.p=some (T,pv,v)→∃q,o.op= .load T q∧o.guard=none∧s.ev q=pv∧e.val=v
theorem zRi(P:Program)(ops:Array Oper)(E:zBf)(base:Nat)(lg:Nat→Option LogE):LawJ P ops E (JL P ops base lg):=
 ⟨fun i o s e h=>(xLm P ops E base).sound i o s e h.1,fun i o s s' e h hs=>⟨(xLm P ops E base).loc i o s s' e h.1 hs,fun x hx=>by
  obtain⟨h1,h2,h3⟩:=h.2 x hx;refine⟨h1,h2,fun T pv v hp=>?_⟩
  obtain⟨q,q1,q2,q3,q4⟩:=h3 T pv v hp;exact⟨q,q1,q2,by rw[yYh hs.gl hs.sl q (by simp[q1,Op.operands])];exact q3,q4⟩⟩⟩
theorem zNz{ops:Array Oper}(base:Nat):∀(l:List Oper) (i:Nat) (s:St) (log:List LogE) (K:St→List LogE→Prop) (a:Act) (w:World) (η:Nat→Value),s.nx=base→(∀j,l[j]?=ops[i+j]?) →
  walk P ops i l s log K→Rel E s.F a w η →
  ∃(effs:List Eff) (lgs:List LogE) (s':St),effs.length=l.length∧lgs.length=l.length∧s'.nx=base∧s'.N=s.N∧(∀k,k∈s'.ex→k∈s.ex∨k∈effs.flatMap Eff.ids)∧K s' (lgs.reverse++log)∧(∀(j:Nat) (e:Eff) (x:LogE),effs[j]?=some e→lgs[j]?=some x→x.l=(e.rd,e.ids)∧x.u=e.upd) ∧
   ∀(τ:Nat→Eff) (lg:Nat→Option LogE),(∀j e,effs[j]?=some e→τ (i+j)=e)→(∀j,lg (i+j)=lgs[j]?)→SeqT (JL P ops base lg) τ i l s.F (fun f=>f=s'.F)
 |[],i,s,log,K,a,w,η,hb,hl,h,hr=>⟨[],[],s,rfl,rfl,hb,rfl,fun k hk=> .inl hk,by simpa[walk] using h,fun j e x he=>(by simp at he),fun τ lg _ _=>rfl⟩
 |o::l,i,s,log,K,a,w,η,hb,hl,h,hr=>by
  have h0:ops[i]?=some o:=by simpa using(hl 0).symm
  simp only[walk]at h;obtain⟨e,he,hK⟩:=zUa h hr;rw[hb]at he;have hst:=(xLm P ops E base).sound i o s.F e he a w η hr (fun a' w'=>∃η',Rel E (s.app o.dst e).F a' w' η') (fun _ _ _=>False) (fun a' w' η' hr'=>⟨η',by rw[St.app_F];exact hr'⟩)
  obtain⟨a',w',η',hr'⟩:=yEn hst;obtain⟨effs,lgs,s',q1,q1',q2,qN,q3,q4,q6,q5⟩:=zNz base l (i+1) (s.app o.dst e) _ K a' w' η' hb (fun j=>by have:=hl (j+1);simpa[Nat.add_assoc,Nat.add_comm 1 j] using this) hK hr'
  refine⟨e::effs,⟨(e.rd,e.ids),e.upd,ldE s o e⟩::lgs,s',by simp[q1],by simp[q1'],q2,qN,fun k hk=>?_,by simpa using q4,fun j e' x he' hx'=>?_,fun τ lg hτ hlg=>?_⟩
  ·rcases q3 k hk with h|h
   ·simp only[St.app,List.mem_append]at h;rcases h with h|h
    ·exact .inr (by simp[h])
    ·exact .inl h
   ·exact .inr (by simp only[List.flatMap_cons,List.mem_append];exact .inr h)
  ·cases j with
   |zero=>simp at he' hx';subst he';subst hx';exact⟨rfl,rfl⟩
   |succ j=>exact q6 j e' x (by simpa using he') (by simpa using hx')
  ·have h1:τ i=e:=by simpa using hτ 0 e (by simp)
   have h2:lg i=some ⟨(e.rd,e.ids),e.upd,ldE s o e⟩:=by simpa using hlg 0
   refine⟨⟨by rw[h1];exact he,fun x hx=>?_⟩,?_⟩
   ·rw[h2]at hx;cases hx
    rw[h1];refine⟨rfl,rfl,fun T pv v hp=>?_⟩
    simp only[ldE]at hp;split at hp
    ·rename_i T' q hg ho;cases hp
     exact⟨q,ho,hg,by rw[St.ev_F],rfl⟩
    ·cases hp
   rw[h1,← St.app_F];exact q5 τ lg (fun j e' hj=>by have:=hτ (j+1) e' (by simpa using hj);rwa [show i+(j+1)=i+1+j by omega]at this) (fun j=>by have:=hlg (j+1);rw[show i+(j+1)=i+1+j by omega]at this;simpa using this)
theorem xSo(a b:List Nat × List Nat)(h:xAh a b=true):(∀k,k∈a.2→k ∉ b.1∧k ∉ b.2)∧(∀k,k∈b.2→k ∉ a.1∧k ∉ a.2):=by
 simp only[xAh,Bool.and_eq_true,List.all_eq_true,Bool.not_eq_true',List.contains_eq_mem,decide_eq_false_iff_not]at h
 exact h
theorem yBu{ops:Array Oper}{L:List (Nat × Nat)}{l:List (List Nat × List Nat)}(h:indB ops L l=true):∀i j x y oj,i<j→l[i]?=some x→l[j]?=some y→ops[j]?=some oj→¬Up .any ops i j →
  (i,j)∈L∨(∀k,k∈x.2→k ∉ y.1∧k ∉ y.2)∧(∀k,k∈y.2→k ∉ x.1∧k ∉ x.2):=by
 intro i j x y oj hij hi hj ho hno
 unfold indB at h
 rw[List.all_eq_true]at h
 have h1:=h (y,j) (by rw[List.mem_zipIdx_iff_getElem?];exact hj)
 simp only[List.all_eq_true]at h1
 have h2:=h1 (x,i) (by rw[List.mem_zipIdx_iff_getElem?,List.getElem?_take];simpa[hij] using hi)
 simp only[ho,Bool.or_eq_true,Bool.and_eq_true]at h2
 rcases h2 with (((h2|h2)|h2)|h2)|h2
 ·have e1:y.2=[]:=by simpa using h2.1
  have e2:x.2=[]:=by simpa using h2.2
  rw[e1,e2];simp
 ·exfalso
  unfold after at h2;rw[← Array.any_toList,List.any_eq_true]at h2;obtain⟨e,he,hb⟩:=h2;have he:e∈oj.after:=by simpa using he
  simp only[Bool.and_eq_true,beq_iff_eq]at hb;exact hno (.one ho he hb.1 hb.2)
 ·exact .inl (by simpa using h2)
 ·exact .inr (xSo x y h2)
 ·exact absurd (yAg ops.toList [] (by simp) (fun j x hx=>by simp at hx) j i (by simpa using h2)) hno
theorem yCq{E:zBf}{ops:Array Oper}{base:Nat}{lg:Nat→Option LogE}{τ:Nat→Eff}{i j:Nat}{x y:LogE}(hi:lg i=some x)(hids:(τ i).ids=[])(hu:y.u=(τ j).upd)(h:zYu P x.p y.u):Comm (JL P ops base lg) ops τ i j:=by
 refine⟨fun k hk=>(by rw[hids]at hk;cases hk),fun oi oj s ho1 ho2 hap=>?_⟩
 obtain⟨a1,a2,a3⟩:=Oper.apart_spec hap
 refine⟨fun hJ=>(zRi P ops E base lg).loc j oj _ s _ hJ (Same.app s oi.dst (τ i) a1 (fun k hk=>by rw[hids]at hk;cases hk)).symm,fun hJ=>?_⟩
 unfold zYu at h
 split at h
 ·rename_i T id n i' o' v hp;obtain⟨q,q1,q2,q3,q4⟩:=(hJ.2 x hi).2.2 T _ v hp;have hev:(s.app oj.dst (τ j)).ev q=s.ev q:=by
   cases q with
   |tmp t=>
    show ((s.put oj.dst (τ j).val).sl t)=s.sl t
    rw[FSt.put_sl,if_neg];rintro⟨hd,_⟩
    exact a3 t hd (List.mem_append_left _ (List.mem_filterMap.2 ⟨.tmp t,by simp[q1,Op.operands],rfl⟩))
   |global g=>simp only[FSt.ev,FSt.app,FSt.put_gl]
   |_=>rfl
  refine⟨?_,fun x' hx'=>?_⟩
  ·have hJ1:=hJ.1;unfold J at hJ1 ⊢;rw[q2]at hJ1 ⊢;rcases hJ1 with ⟨t,ht,hs,he,hf⟩|hc
   ·have ht':=ht;unfold zOq at ht';rw[q1]at ht';simp only[Option.map_eq_some_iff]at ht';obtain⟨q',hq',hte⟩:=ht';unfold ldS at hq';rw[q3]at hq';simp only at hq';split at hq'
    ·rename_i ob hid;obtain⟨v',hv',hq''⟩:=Option.map_eq_some_iff.1 hq';subst hq'';subst hte;simp only at he hs;rw[← he]at q4;simp only at q4;subst q4;have hnew:∃ob',(s.app oj.dst (τ j)).hp id=some ob'∧zCt P T (nth ob'.xs i') o'=some v'∧n=ob'.xs.length∧i'<ob'.xs.length:=by
      have hh:(s.app oj.dst (τ j)).hp id=match look (τ j).upd id with|none=>s.hp id|some ob'=>some ob':=by
       show zCy (τ j).upd s.hp id=_
       have:∀(l:List (Nat × Obj)),zCy l s.hp id=match look l id with|none=>s.hp id|some ob'=>some ob':=by
        intro l;induction l with
        |nil=>rfl
        |cons p l ih=>
         obtain⟨k,o⟩:=p;simp only[zCy,look];by_cases hk:id=k
         ·simp[hk]
         ·simp only[hk,if_false];exact ih
       exact this _
      rw[← hu]at hh;cases hl:look y.u id with
      |none=>rw[hl]at hh;exact⟨ob,by rw[hh];exact hid,hv',hs.1⟩
      |some ob'=>
       rw[hl]at hh;rw[hl]at h;exact⟨ob',hh,h.1,h.2⟩
     obtain⟨ob',n1,n2,n3,n4⟩:=hnew;refine .inl ⟨⟨⟨v',[],[id]⟩,(n=ob'.xs.length∧i'<ob'.xs.length)∧0<P.cellsOf T⟩,?_,⟨⟨n3,n4⟩,hs.2⟩,he,fun hi'=>(by rw[hids]at hi';cases hi')⟩
     unfold zOq;rw[q1];simp only[hev,q3,ldS,n1,n2,Option.map_some]
    ·cases hq'
   ·exfalso
    rcases hc with ((hc|hc)|hc)|hc
    ·obtain⟨fo,args,tys,_,_,_,_,_,_,_,_,ho,_⟩:=hc.ex;rw[q1]at ho;cases ho
    ·obtain⟨fo,args,tys,_,_,_,_,_,_,_,_,_,_,_,ho,_⟩:=hc.ex;rw[q1]at ho;cases ho
    ·obtain⟨e1,hc,_⟩:=hc;obtain⟨fo,args,tys,_,_,_,_,_,_,_,_,_,_,_,ho,_⟩:=hc.ex;rw[q1]at ho;cases ho
    ·obtain⟨fo,args,tys,_,_,_,_,ho,_⟩:=hc;rw[q1]at ho;cases ho
  ·obtain⟨z1,z2,z3⟩:=hJ.2 x' hx';refine⟨z1,z2,fun T' pv' v' hp'=>?_⟩
   obtain⟨r,r1,r2,r3,r4⟩:=z3 T' pv' v' hp';have:r=q:=by rw[q1]at r1;cases r1;rfl
   subst this;exact⟨r,r1,r2,by rw[hev];exact r3,r4⟩
 ·exact h.elim
theorem Rel.more{s:FSt}{a:Act}{w:World}{η:Nat→Value}(h:Rel E s a w η){kn':Nat→Prop}(hk:∀i,s.kn i→kn' i):Rel E { s with kn:=kn' } a w η:=by
 have K:zGy (s.ctx E w η) (FSt.ctx E { s with kn:=kn' } w η):=⟨Nat.le_refl _,fun _ _ _ _=>rfl,fun _ _ h=>h,rfl,fun _=>hk,fun _ id _=>by
  unfold zMh;cases h1:s.hp id<;>simp[FSt.ctx,h1]⟩
 refine⟨fun t=>zBg K _ _ (h.slots t),⟨fun id o ho=>?_,h.laid.inj⟩,h.since,h.fresh,h.tmps,h.defers,⟨h.held.nb,fun i hi=>⟨hk i (h.held.at_ i hi).1,(h.held.at_ i hi).2⟩⟩,fun g p hp=>zBg K _ _ (h.glob g p hp),fun p hp=>zBg K.asData _ _ (h.ghost p hp)⟩
 obtain⟨p,l,n,⟨us,r1,r2⟩,hro,hown,hbox⟩:=h.laid.obj id o ho
 exact⟨p,hk _ l,n,⟨us,zCm (K.withData rfl _) _ _ r1,r2⟩,hro,hown,hbox⟩
theorem zId{n:Nat}:∀ {l:List Nat},exOk l n→∀k∈l,k<n
 |[],_,k,hk=>by simp at hk
 |x::r,h,k,hk=>by
  rcases List.mem_cons.1 hk with rfl|hk
  ·exact h.1
  ·exact zId h.2 k hk
theorem yAy(hm:P.follows .mixedOrders=true){id:Nat}{ops:Array Oper}{draw:Bool}{s:St}{Q:Exit→St→Prop}
  (h:walk P ops 0 ops.toList s [] fun s' log=>(draw=true→yPf P ops log)∧exOk s'.ex (s'.nx+16*ops.size)∧Q .normal (s'.next ops.size)):AW P E (.region id ops draw) s Q:=by
 intro a w η hr
 obtain⟨effs,lgs,s',q1,q1',q2,qN,q3,⟨q4,qx,q4'⟩,q6,q5⟩:=zNz (ops:=ops) s.nx ops.toList 0 s [] _ a w η rfl (by simp) h hr
 let τ:Nat→Eff:=fun j=>effs.getD j ⟨.bot,[],[]⟩
 have hτ:∀j e,effs[j]?=some e→τ (0+j)=e:=fun j e he=>by simp[τ,he]
 let lg:Nat→Option LogE:=fun j=>lgs[j]?
 have hlg:∀j,lg (0+j)=lgs[j]?:=fun j=>by simp[lg]
 have hseq:=q5 τ lg hτ hlg
 -- the numbers that a region lays are its own, or were known
 have hQ:∀f a w η,f=s'.F→Rel E f a w η→(fun e a' w'=>∃s'' η',Q e s''∧Rel E s''.F a' w' η') .normal a w:=fun f a w η hf hr'=>by
  subst hf;refine⟨s'.next ops.size,η,q4',?_⟩;have:=hr'.more (kn':=fun i=>i<s'.nx+16*ops.size∨i∈[]) (fun i hi=>?_)
  ·exact this
  ·rcases hi with hi|hi
   ·exact .inl (Nat.lt_of_lt_of_le hi (Nat.le_add_right _ _))
   ·exact .inl (zId qx i hi)
 cases draw with
 |false=>exact zXt (zRi P ops E s.nx lg) hQ hseq hr
 |true=>
  have hd:=q4 rfl;have hboth:∃L,zXd ops L (lgs.reverse++[])=true∧zKx P (lgs.reverse++[]).reverse L:=by
   rcases hd with hd|hd
   ·exact⟨[],hd,by simp[zKx]⟩
   ·exact hd
  obtain⟨L,hd,hlate⟩:=hboth;simp only[zXd,Bool.and_eq_true,List.append_nil,List.map_reverse,List.reverse_reverse]at hd hlate;refine zNq (zRi P ops E s.nx lg) hm hQ hd.1 (fun i j oj hij hoj hno=>?_) hseq hr
  have hsz:ops.toList.length=ops.size:=by simp
  have hjl:j<ops.size:=(Array.getElem?_eq_some_iff.1 hoj).1;have hj:effs[j]?=some effs[j]:=List.getElem?_eq_getElem (by omega)
  have hi:effs[i]?=some effs[i]:=List.getElem?_eq_getElem (by omega)
  have hj':lgs[j]?=some lgs[j]:=List.getElem?_eq_getElem (by omega)
  have hi':lgs[i]?=some lgs[i]:=List.getElem?_eq_getElem (by omega)
  have e1:τ i=effs[i]:=by simpa using hτ i _ hi
  have e2:τ j=effs[j]:=by simpa using hτ j _ hj
  obtain⟨f1,f2⟩:=q6 i _ _ hi hi';obtain⟨g1,g2⟩:=q6 j _ _ hj hj';rcases yBu hd.2 i j _ _ oj hij (by rw[List.getElem?_map,hi'];rfl) (by rw[List.getElem?_map,hj'];rfl) hoj hno with hl|hl
  ·obtain⟨x,y,hx,hy,hz,hl'⟩:=zNb hlate (i,j) hl;simp only at hx hy;rw[hi']at hx;cases hx;rw[hj']at hy;cases hy;rw[f1]at hz;exact yCq (E:=E) (x:=lgs[i]) (y:=lgs[j]) (by simp[lg]) (by rw[e1];exact hz) (by rw[e2];exact g2) hl'
  ·refine zPc (zRi P ops E s.nx lg) ?_;rw[e1,e2];rw[f1,g1]at hl;exact hl
theorem zDp(hm:P.follows .mixedOrders=true):∀(c:Code) (s:St) (Q:Exit→St→Prop),aev P E c s Q→AW P E c s Q
 | .skip,s,Q,h=>fun a w η hr=>wp_skip ⟨s,η,h,hr⟩
 | .label l,s,Q,h=>fun a w η hr=>wp_label ⟨s,η,h,hr⟩
 | .ret,s,Q,h=>fun a w η hr=>wp_ret ⟨s,η,h,hr⟩
 | .exit id,s,Q,h=>fun a w η hr=>wp_exit ⟨s,η,h,hr⟩
 | .region id ops draw,s,Q,h=>yAy hm h
 | .seq x y,s,Q,h=>by
  intro a w η hr;have h1:=zDp hm x s _ h a w η hr;refine wp_seq (wp_mono h1 ?_);rintro e a' w' ⟨s',η',q,r⟩
  cases e with
  |normal=>exact zDp hm y s' Q q a' w' η' r
  |_=>exact⟨s',η',q,r⟩
 | .cond c x y,s,Q,h=>by
  intro a w η hr;simp only[aev]at h;split at h
  ·rename_i t ht;have hv:=zAi hr c;rw[St.ev_F,ht]at hv;simp only[RV]at hv;cases t with
   |true=>exact wp_cond_true hv (zDp hm x s Q (h.1 rfl) a w η hr)
   |false=>exact wp_cond_false hv (zDp hm y s Q (h.2 rfl) a w η hr)
  ·exact h.elim
 | .block id c,s,Q,h=>by
  intro a w η hr;refine wp_block (wp_mono (zDp hm c s _ h a w η hr) ?_);rintro e a' w' ⟨s',η',q,r⟩
  cases e with
  |exit id'=>
   simp only[Exit.inBlock];simp only[zMm]at q;split
   ·rename_i hid;rw[if_pos hid]at q;exact⟨s',η',q,r⟩
   ·rename_i hid;rw[if_neg hid]at q;exact⟨s',η',q,r⟩
  |_=>exact⟨s',η',q,r⟩
 | .loop c,s,Q,h=>h
 | .rangeFunc ..,s,Q,h=>h
 | .scope c,s,Q,h=>by
  intro a w η hr;unfold aev at h;split at h
  ·exact h a w η hr
  ·refine wp_scope_straight (wp_mono (zDp hm c s _ h a w η hr) ?_);rintro e a' w' ⟨s',η',q,r⟩
   cases e with
   |goto l=>exact q.elim
   |_=>exact⟨s',η',q,r⟩
 | .goto l,s,Q,h=>fun a w η hr=>wp_goto ⟨s,η,h,hr⟩
 | .refuse _,s,Q,h=>h
def St.init(args:List V)(N:Nat)(gl:zCd):St:=⟨(List.range args.length).zip args,[],0,[],N,0,gl⟩
def resV(P:Program)(s:St):ResultVar→Option (V × Prop)
 | .tmp t=>some (s.get t,True)
 | .cell a T=>(ldS P (look s.hp) T (s.get a)).map fun q=>(q.e.val,q.side∧0<P.cellsOf T)
def zGk(P:Program)(s:St):List ResultVar→Option (List V × Prop)
 |[]=>some ([],True)
 |r::rs=>(resV P s r).bind fun x=>(zGk P s rs).map fun y=>(x.1::y.1,x.2∧y.2)
def oneV:List V→V
 |[x]=>x
 |xs=> .tup xs
def Fin(P:Program)(fn:Func)(res:V)(e:Exit)(s:St):Prop:=
 match e with
 | .normal | .ret=>∃x,zGk P s fn.results.toList=some x∧x.2∧zAx (look s.hp) (fun _=>True) V.pure 8 (oneV x.1) res
 |_=>False
def FinF(P:Program)(fn:Func)(res:V)(e:Exit)(s:St):Prop:=
 match e with
 | .normal | .ret=>∃x,zGk P s fn.results.toList=some x∧x.2∧zAx (look s.hp) (fun id=>∀ob,look s.hp id=some ob→ob.k≠ .ro) V.noRef 8 (oneV x.1) res
 |_=>False
theorem xEb{s:FSt}{a:Act}{w:World}{η:Nat→Value}(hr:Rel E s a w η){T:TypeId}{x:V}{q:Stp}(hq:ldS P s.hp T x=some q)(hs:q.side)(hc:0<P.cellsOf T){v:Value}(hx:RV (s.ctx E w η) x v) :
  ∃ad u,v= .pointer (some ad)∧(loadVar T ad).run P w= .ok u w∧RV (s.ctx E w η) q.e.val u:=by
 unfold ldS at hq
 split at hq
 ·rename_i id n i o';split at hq
  ·rename_i ob hid;obtain⟨y,hy,rfl⟩:=Option.map_eq_some_iff.1 hq;rw[zKs]at hy;simp only at hs;simp only[RV]at hx;obtain⟨_,_,_,h⟩:=hx;have hid':(s.ctx E w η).hp id=some ob:=hid;simp only[hid']at h;obtain⟨b,hb,hv⟩:=h.2.2 hs.1;obtain⟨hp,_,_,us,r1,r2,_,r4⟩:=zCu hr hid h.1;have hxi:ob.xs[i]?=some (ob.xs.getD i .bot):=by simp[hs.2]
   obtain⟨u,hu,hxu⟩:=zDa r1 i _ hxi;obtain⟨v',hrun,hyv⟩:=zLr (c:=s.ctx E w η) (off:=0) (b:=b) r2 (zEo r4 hb) hu hxu hy hp hc;simp only[Nat.zero_add]at hrun;exact⟨_,_,hv,hrun,hyv⟩
  ·cases hq
 ·rename_i e xs i o';obtain⟨y,hy,rfl⟩:=Option.map_eq_some_iff.1 hq;rw[zKs]at hy;simp only at hs;simp only[RV]at hx;obtain⟨b,off,us,r1,r2,_,_,r5,hv⟩:=hx;have r1':=zGe (c:=s.ctx E w η) _ _ r1;have hxi:xs[i]?=some (xs.getD i .bot):=by simp[hs.1]
  obtain⟨u,hu,hxu⟩:=zDa r1' i _ hxi;obtain⟨v',hrun,hyv⟩:=zLr (c:=s.ctx E w η) (off:=off) (b:=b) r2 r5 hu hxu hy hs.2 hc;exact⟨_,_,hv,hrun,hyv⟩
 ·cases hq
def xCq(tmps:Array Value):ResultVar→Sem Value
 | .tmp t=>pure (tmps.getD t undef)
 | .cell a t=>do loadVar t (← asAddr (tmps.getD a undef))
theorem zPx(fn:Func)(tmps:Array Value):results fn tmps=(do
  let vs ← fn.results.mapM (xCq tmps)
  pure (if h:vs.size=1 then vs[0]else .tuple vs)):=by
 unfold results
 congr 1
theorem zSz{s:St}{a:Act}{w:World}{η:Nat→Value}(hr:Rel E s.F a w η):∀(rs:List ResultVar) (x:List V × Prop),zGk P s rs=some x→x.2 →
  ∃us:List Value,(rs.mapM (xCq a.tmps)).run P w= .ok us w∧RVl (s.F.ctx E w η) x.1 us
 |[],x,h,hs=>by
  simp only[zGk,Option.some.injEq]at h;subst h;exact⟨[],by simp,by simp[RVl]⟩
 |r::rs,x,h,hs=>by
  simp only[zGk]at h;obtain⟨y,hy,h⟩:=Option.bind_eq_some_iff.1 h;obtain⟨z,hz,rfl⟩:=Option.map_eq_some_iff.1 h;obtain⟨us,h1,h2⟩:=zSz hr rs z hz hs.2;cases r with
  |tmp t=>
   simp only[resV,Option.some.injEq]at hy;subst hy;refine⟨a.tmps.getD t undef::us,?_,?_⟩
   ·simp[List.mapM_cons,xCq,h1]
   ·simp only[RVl];exact⟨_,_,rfl,hr.slots t,h2⟩
  |cell t T=>
   simp only[resV]at hy;obtain⟨q,hq,rfl⟩:=Option.map_eq_some_iff.1 hy;obtain⟨ad,u,e1,e2,e3⟩:=xEb hr hq hs.1.1 hs.1.2 (hr.slots t);refine⟨u::us,?_,?_⟩
   ·have e4:(asAddr (Value.pointer (some ad))).run P w= .ok ad w:=by simp[asAddr]
    simp[List.mapM_cons,xCq,h1,e1,e2,e4]
   ·simp only[RVl];exact⟨_,_,rfl,e3,h2⟩
theorem zFf{s:St}{a:Act}{w:World}{η:Nat→Value}(hr:Rel E s.F a w η){fn:Func}{x:List V × Prop}(hx:zGk P s fn.results.toList=some x)(hs:x.2) :
  ∃v,(results fn a.tmps).run P w= .ok v w∧RV (s.F.ctx E w η) (oneV x.1) v:=by
 obtain⟨us,h1,h2⟩:=zSz hr _ _ hx hs
 have h3:(results fn a.tmps).run P w= .ok (if h:us.toArray.size=1 then us.toArray[0]else .tuple us.toArray) w:=by
  rw[zPx,Array.mapM_eq_mapM_toList];simp[h1]
 refine⟨_,h3,?_⟩
 match x,us,h2 with
 |([],_),us,h2=>
  simp only[RVl]at h2;subst h2;simp only[oneV,RV];exact⟨_,rfl,by simp[RVl]⟩
 |([y],_),us,h2=>
  simp only[RVl]at h2;obtain⟨u,_,rfl,h2,rfl⟩:=h2;simpa[oneV] using h2
 |(y::z::r,_),us,h2=>
  have h4:=h2;simp only[RVl]at h2;obtain⟨u,_,rfl,h2,v,q,rfl,_⟩:=h2;simp only[oneV,RV];exact⟨_,rfl,by simpa using h4⟩
theorem zOk(args:List V):∀(k t:Nat),look ((List.range' k args.length).zip args) t=if k≤t then args[t-k]? else none:=by
 induction args with
 |nil=>intro k t;simp[look]
 |cons x r ih=>
  intro k t;simp only[List.length_cons,List.range'_succ,List.zip_cons_cons,look,ih];by_cases h:t=k
  ·subst h;simp
  ·simp only[h,if_false];by_cases h1:k≤t
   ·have h2:k+1≤t:=by omega
    simp only[h1,h2,if_true];rw[show t-k=(t-(k+1))+1 by omega];simp
   ·have h2:¬k+1≤t:=by omega
    simp[h1,h2]
theorem zTm{n0 D:Nat}{w:World}:∀(l:List Deferred),(∀d'∈l,d'≠{ target:= .collected D,args:= #[] })→zFr n0 w l→zFr n0 (putO w D (.deferred none)) l
 |[],_,_=>by simp[zFr]
 |d2::l,hn,hm=>by
  simp only[zFr]at hm ⊢;obtain⟨⟨D2,g1,g2,g3,g4⟩,g5⟩:=hm;refine⟨⟨D2,g1,g2,?_,g4⟩,zTm l (fun d' hd=>hn d' (by simp[hd])) g5⟩
  rw[zBl fun e=>hn d2 (by simp) (by rw[g1,e])]
  exact g3
theorem zQu{s:FSt}{η:Nat→Value}{fn:Func}{R:Ending→World→Prop}(tmps:Array Value):∀(ms:List Deferred) (w:World),(∀p∈E.fix,∀q,p.2≠ .deferred q)→zFr E.w0.heap.size w ms→Rel E s { tmps:=tmps,defers:=ms++E.dfr } w η →
  (∀w',Rel E s { tmps:=tmps,defers:=E.dfr } w' η→LeavesInM Fence.wide 0 P fn tmps R E.dfr .returning w')→LeavesInM Fence.wide 0 P fn tmps R (ms++E.dfr) .returning w
 |[],w,_,_,hr,h=>h w hr
 |d::r,w,hf,hm,hr,h=>by
  obtain⟨⟨D,h1,h2,h3,h4⟩,h5⟩:=hm;have hm2:=zTm r h4 h5;refine⟨by simp,.inl ⟨D,_,by rw[h1],run_takeDeferred h3,?_⟩⟩
  refine zQu tmps r _ hf hm2 (hr.turn (E':=E) (o':= .deferred none) h2 h3 rfl rfl hr.ghost rfl ⟨fun p hp=>⟨?_,(hr.defers.fix p hp).2⟩,r,rfl,hm2⟩) h
  have h6:=(hr.defers.fix p hp).1;rw[zBl fun e=>?_]
  ·exact h6
  ·rw[e,h3]at h6;exact hf p hp _ (Option.some.inj h6).symm
theorem zHj{s:FSt}{η:Nat→Value}{fn:Func}{R:Ending→World→Prop}(tmps:Array Value)(l:List Deferred)(w:World)(hf:∀p∈E.fix,∀q,p.2≠ .deferred q)(hr:Rel E s { tmps:=tmps,defers:=l } w η)
  (h:∀w',Rel E s { tmps:=tmps,defers:=[] } w' η→∃v,(results fn tmps).run P w'= .ok v w'∧R (.returned v) w') (hd:E.dfr=[]:=by rfl):LeavesInM Fence.wide 0 P fn tmps R l .returning w:=by
 obtain⟨ms,h1,h2⟩:=hr.defers.marks
 simp only at h1
 subst h1
 refine zQu tmps ms w hf h2 hr fun w' hr'=>?_
 rw[hd]at hr' ⊢
 exact h w' hr'
theorem zEt{f:FuncId}{fn:Func}{c:Code}{args:Array Value}{w:World}{R:Ending→World→Prop}(hf:P.funcs[f]?=some fn)(hb:fn.body=some c)
  (h:c.wp P (fun e a' w'=>(e= .normal∨e= .ret)∧LeavesInM Fence.wide 0 P fn a'.tmps R a'.defers .returning w') { tmps:=args++Array.replicate (fn.ntmps-args.size) undef,defers:=[] } w):Calls P f args w R:=by
 refine callsIn_wide.1 (callsIn_of_wp_marks (F:=Fence.wide) (n:=0) hf hb trivial (wpIn_wide.2 (wp_mono h ?_)))
 rintro e a' w' ⟨he,h⟩
 rcases he with rfl|rfl
 ·exact h
 ·exact h
theorem yJt{f:FuncId}{fn:Func}{c:Code}{args:List V}{F:Exit→St→Prop}{R:Value→World→Prop}{gl:zCd}(hm:P.follows .mixedOrders=true)(hf:P.funcs[f]?=some fn)(hb:fn.body=some c)(hN:args.length≤fn.ntmps)
  (h:wfs args→∀E,aev P E c (St.init args fn.ntmps gl) F) (w:World) (O:Nat→Prop) (cargs:Array Value) (hO:∀b,O b→b<w.heap.size) (hargs:RVl (dctx w O) args cargs.toList) (hgl:yDw w O gl)
  (hF:∀e s',F e s'→(e= .normal∨e= .ret)∧∃x,zGk P s' fn.results.toList=some x∧x.2∧∀(E:zBf) (a':Act) (w':World) (η':Nat→Value) (v:Value),E.w0=w→E.base=O→(∀b,¬E.own0 b)→Rel E s'.F a' w' η'→RV (s'.F.ctx E w' η') (oneV x.1) v→R v w') :
  Calls P f cargs w fun e w'=>∃v,e= .returned v∧R v w'∧w.grownBy w' none:=by
 let E:zBf:=⟨w,fun _=>False,O,fun b hb=>⟨hO b hb,fun h=>h⟩,0,fun _=>none,fun _=> .nilFunc,[],[],[]⟩
 have hlen:=zAp hargs
 have hwf:=zMn _ _ hargs
 refine zEt hf hb ?_
 have hr:Rel E (St.init args fn.ntmps gl).F { tmps:=cargs++Array.replicate (fn.ntmps-cargs.size) undef,defers:=[] } w (fun _=> .nilFunc):=by
  have hlen':cargs.size=args.length:=by simpa using hlen
  refine⟨fun t=>?_,⟨fun id o ho=>by simp[FSt.ctx,St.F,St.init,look]at ho,fun id id' o o' b ho=>by simp[FSt.ctx,St.F,St.init,look]at ho⟩,⟨rfl,rfl,rfl,Nat.le_refl _,fun _ _ _=>rfl⟩,
   fun b hb=>?_,?_,⟨(fun p hp=>nomatch hp),[],rfl,trivial⟩,⟨rfl,fun i hi=>absurd hi (Nat.not_lt_zero i)⟩,fun g p hp=>?_,fun p hp=>nomatch hp⟩
  ·have hget:(St.init args fn.ntmps gl).F.sl t=(args[t]?).getD .bot:=by
    simp only[St.F,St.get,St.init];rw[List.range_eq_range',zOk];simp
   rw[hget];cases ht:args[t]? with
   |none=>simp only[Option.getD_none,RV];rfl
   |some x=>
    obtain⟨u,hu,hx⟩:=zDa hargs t x ht;have ht':t<cargs.size:=by rw[hlen'];exact(List.getElem?_eq_some_iff.1 ht).1
    have hv:(cargs++Array.replicate (fn.ntmps-cargs.size) undef).getD t undef=u:=by
     have h1:cargs[t]?=some u:=by simpa using hu
     rw[Array.getElem?_eq_getElem ht']at h1;simp only[Option.some.injEq]at h1;simp[Array.getElem?_append,ht',h1]
    rw[hv];have hO':((St.init args fn.ntmps gl).F.ctx E w fun _=> .nilFunc).O=O:=by
     funext b
     simp only[FSt.ctx];refine propext ⟨fun h=>?_,.inl⟩
     rcases h with h|⟨id,o,ho,_⟩
     ·exact h
     ·simp[St.F,St.init,look]at ho
    have:=zPm (c:=(St.init args fn.ntmps gl).F.ctx E w fun _=> .nilFunc) rfl x u (by rw[hO'];exact hx)
    exact this
  ·obtain⟨id,o,ho,_⟩:=hb;simp[St.F,St.init,look]at ho
  ·simp[St.F,St.init];omega
  ·have hmem:∀ {l:zCd},look l g=some p→(g,p)∈l:=by
    intro l;induction l with
    |nil=>intro h;simp[look]at h
    |cons q l ih=>
     intro h;obtain⟨q1,q2⟩:=q;simp only[look]at h;split at h
     ·rename_i hi;cases h;subst hi;simp
     ·exact List.mem_cons_of_mem _ (ih h)
   have h1:=hgl (g,p) (hmem hp);have hO':((St.init args fn.ntmps gl).F.ctx E w fun _=> .nilFunc).O=O:=by
    funext b
    simp only[FSt.ctx];refine propext ⟨fun h=>?_,.inl⟩
    rcases h with h|⟨id,o,ho,_⟩
    ·exact h
    ·simp[St.F,St.init,look]at ho
   exact zPm (c:=(St.init args fn.ntmps gl).F.ctx E w fun _=> .nilFunc) rfl _ _ (by rw[hO'];exact h1)
 have hw:=zDp hm c _ _ (h hwf E) _ w _ hr
 refine wp_mono hw ?_
 rintro e a' w' ⟨s',η',hq,hr'⟩
 obtain⟨he,x,hx,hq,hR⟩:=hF e s' hq
 refine⟨he,zHj a'.tmps a'.defers w' (fun p hp=>by simp[E]at hp) hr' (fun w2 hr2=>?_)⟩
 have hg:w.grownBy w2 none:=⟨hr2.since.os,hr2.since.tape,hr2.since.output,hr2.since.size,fun b hb _=>hr2.since.block b hb (fun h=>h)⟩
 obtain⟨v,h1,h2⟩:=zFf hr2 hx hq
 exact⟨v,h1,v,rfl,hR E _ w2 η' v rfl rfl (fun _ h=>h) hr2 h2,hg⟩
theorem zAd {f : FuncId} {fn : Func} {c : Code} {args : List V} {res : V} {gl : zCd} (hm : P.follows .mixedOrders = true) (hf : P.funcs[f]? = some fn) (hb : fn.body = some c) (hn : (fn.name == "runtime.NumGoroutine") = false) (hN : args.length ≤ fn.ntmps)
  (h:wfs args→∀E,aev P E c (St.init args fn.ntmps gl) (Fin P fn res)):FnD P f args res gl:=by
 refine⟨⟨fn,hf,by simp[hb],hn⟩,fun w O cargs hO hargs hgl=>yJt hm hf hb hN h w O cargs hO hargs hgl fun e s' he=>?_⟩
 have key:(∃x,zGk P s' fn.results.toList=some x∧x.2∧zAx (look s'.hp) (fun _=>True) V.pure 8 (oneV x.1) res)→∃x,zGk P s' fn.results.toList=some x∧x.2∧∀(E:zBf) (a':Act) (w':World) (η':Nat→Value) (v:Value),E.w0=w→E.base=O→(∀b,¬E.own0 b)→Rel E s'.F a' w' η'→RV (s'.F.ctx E w' η') (oneV x.1) v→RV (dctx w' O) res v:=by
  rintro⟨x,h1,h2,h3⟩
  refine⟨x,h1,h2,fun E a' w' η' v e1 e2 e3 hr' hv=>zEy (c:=s'.F.ctx E w' η') (c':=dctx w' O) hr'.laid rfl rfl (fun x v hp hx=>?_) (fun id ob b _ hid hg hOb=>?_) 8 _ _ _ h3 hv⟩
  ·have h4:=zGo x v hp hx;exact zBg (c:={ s'.F.ctx E w' η' with data:=true }) (c':=dctx w' O) ⟨Nat.le_refl _,fun _ _ _ _=>rfl,fun b _ hb=> .inl (by rw[e2];exact hb),rfl,by simp[dctx,FSt.ctx],by simp[FSt.ctx]⟩ x v h4
  ·have hl:=hr'.laid.obj id ob hid;by_cases hk:ob.k= .ro
   ·exact hl.ro hk b hg (.inl (by rw[e2];exact hOb))
   ·rcases hr'.fresh b ⟨id,ob,hid,hk,hg⟩with h|h
    ·exact e3 b h
    ·rw[e1]at h;have:=hO b hOb;omega
 cases e with
 |normal=>exact⟨.inl rfl,key he⟩
 |ret=>exact⟨.inr rfl,key he⟩
 |_=>exact he.elim
theorem zWs {f : FuncId} {fn : Func} {c : Code} {args : List V} {res : V} {gl : zCd} (hm : P.follows .mixedOrders = true) (hf : P.funcs[f]? = some fn) (hb : fn.body = some c) (hn : (fn.name == "runtime.NumGoroutine") = false) (hN : args.length ≤ fn.ntmps)
  (h:wfs args→∀E,aev P E c (St.init args fn.ntmps gl) (FinF P fn res)):FnF P f args res gl:=by
 refine⟨⟨fn,hf,by simp[hb],hn⟩,fun w O cargs hO hargs hgl=>yJt hm hf hb hN h w O cargs hO hargs hgl fun e s' he=>?_⟩
 have key:(∃x,zGk P s' fn.results.toList=some x∧x.2∧zAx (look s'.hp) (fun id=>∀ob,look s'.hp id=some ob→ob.k≠ .ro) V.noRef 8 (oneV x.1) res)→∃x,zGk P s' fn.results.toList=some x∧x.2∧∀(E:zBf) (a':Act) (w':World) (η':Nat→Value) (v:Value),E.w0=w→E.base=O→(∀b,¬E.own0 b)→Rel E s'.F a' w' η'→RV (s'.F.ctx E w' η') (oneV x.1) v→RV (dctx w' fun b=>b<w.heap.size) res v:=by
  rintro⟨x,h1,h2,h3⟩
  refine⟨x,h1,h2,fun E a' w' η' v e1 e2 e3 hr' hv=>zEy (c:=s'.F.ctx E w' η') (c':=dctx w' fun b=>b<w.heap.size) hr'.laid rfl rfl (fun x v hp hx=>zDu x v hp hx) (fun id ob b hB hid hg hOb=>?_) 8 _ _ _ h3 hv⟩
  rcases hr'.fresh b ⟨id,ob,hid,hB ob hid,hg⟩with h|h
  ·exact e3 b h
  ·rw[e1]at h;have hOb':b<w.heap.size:=hOb;omega
 cases e with
 |normal=>exact⟨.inl rfl,key he⟩
 |ret=>exact⟨.inr rfl,key he⟩
 |_=>exact he.elim
def Le(s s':St):Prop:=∀(E:zBf) (a:Act) (w:World) (η:Nat→Value),Rel E s.F a w η→∃η',Rel E s'.F a w η'
def obsL(k:Nat)(l:List Obj):List (Nat × Obj):=(List.range' k l.length).zip l
def St.start(obs:List Obj)(args:List V)(N:Nat)(gl:zCd):St:=⟨(List.range args.length).zip args,obsL 0 obs,16,[],N,obs.length,gl⟩
def St.out(nb:Nat)(obs:List Obj)(res:V)(gl:zCd):St:=⟨[(0,res)],obsL 0 obs,obs.length,[],1,nb,gl⟩
def St.res(s:St)(v:V):St:=⟨[(0,v)],s.hp,s.nx,s.ex,1,s.nb,s.gl⟩
theorem zKu(l:List Obj):∀(k t:Nat),look (obsL k l) t=if k≤t then l[t-k]? else none:=by
 induction l with
 |nil=>intro k t;simp[obsL,look]
 |cons x r ih=>
  intro k t;have:obsL k (x::r)=(k,x)::obsL (k+1) r:=by simp[obsL,List.range'_succ]
  rw[this];simp only[look,ih];by_cases h:t=k
  ·subst h;simp
  ·simp only[h,if_false];by_cases h1:k≤t
   ·have h2:k+1≤t:=by omega
    simp only[h1,h2,if_true];rw[show t-k=(t-(k+1))+1 by omega];simp
   ·have h2:¬k+1≤t:=by omega
    simp[h1,h2]
def FinR(P:Program)(fn:Func)(nb:Nat)(obs':List Obj)(res:V)(gl:zCd)(e:Exit)(s:St):Prop:=
 match e with
 | .normal | .ret=>∃x,zGk P s fn.results.toList=some x∧x.2∧Le (s.res (oneV x.1)) (St.out nb obs' res gl)
 |_=>False
theorem zUr{E:zBf}{f:FuncId}{fn:Func}{c:Code}{obs:List Obj}{args:List V}{obs':List Obj}{res:V}{gl:zCd}(hf:P.funcs[f]?=some fn)(hb:fn.body=some c)(hN:args.length≤fn.ntmps)(ho:obs.length≤16)
  (hfix:∀p∈E.fix,∀q,p.2≠ .deferred q) (h:wfs args→AW P E c (St.start obs args fn.ntmps gl) (FinR P fn obs.length obs' res gl)) {cargs:Array Value} {η:Nat→Value} {w0:World} (hr0:Rel E (inF obs args gl) { tmps:=cargs,defers:=[] } w0 η) :
  Calls P f cargs w0 fun e w'=>∃v η',e= .returned v∧Rel E (outF obs.length obs' res gl) { tmps:= #[v],defers:=[] } w' η':=by
 have hlen:cargs.size=args.length:=hr0.tmps
 have hdfr:E.dfr=[]:=by
  obtain⟨ms,h1,_⟩:=hr0.defers.marks;simp only[List.nil_eq_append_iff]at h1;exact h1.2
 have hargs:RVl ((inF obs args gl).ctx E w0 η) args cargs.toList:=by
  refine zFb (by simpa using hlen) fun i x u hx hu=>?_
  have:=hr0.slots i;have h1:(inF obs args gl).sl i=x:=by simp[inF,hx]
  have h2:cargs.getD i undef=u:=by
   have:cargs[i]?=some u:=by simpa using hu
   rw[Array.getD_eq_getD_getElem?,this];rfl
  rw[h1]at this;have h3:({ tmps:=cargs,defers:=[] }:Act).tmps.getD i undef=u:=h2;rw[h3]at this;exact this
 have hwf:=zMn _ _ hargs
 refine zEt hf hb ?_
 have hhp:look (obsL 0 obs)=fun i=>obs[i]?:=by funext t;rw[zKu];simp
 have hr1:=hr0.more (kn':=fun i=>i<16∨i∈[]) (fun i hi=> .inl (Nat.lt_of_lt_of_le hi ho))
 have hr:Rel E (St.start obs args fn.ntmps gl).F { tmps:=cargs++Array.replicate (fn.ntmps-cargs.size) undef,defers:=[] } w0 η:=by
  have hF:(St.start obs args fn.ntmps gl).F={ ({ inF obs args gl with kn:=fun i=>i<16∨i∈[] }:FSt)with N:=fn.ntmps }:=by
   have hs:(St.start obs args fn.ntmps gl).get=(inF obs args gl).sl:=by
    funext t
    simp only[St.get,St.start,inF];rw[List.range_eq_range',zOk];simp
   simp only[St.F,hs];simp only[St.start,hhp];rfl
  rw[hF];refine⟨fun t=>?_,hr1.laid,hr1.since,hr1.fresh,by simp;omega,⟨hr1.defers.fix,hr1.defers.marks⟩,⟨hr1.held.nb,hr1.held.at_⟩,hr1.glob,hr1.ghost⟩
  have h1:=hr1.slots t;by_cases ht:t<cargs.size
  ·have:(cargs++Array.replicate (fn.ntmps-cargs.size) undef).getD t undef=cargs.getD t undef:=by
    simp[Array.getElem?_append,ht]
   show RV _ _ ((cargs++Array.replicate (fn.ntmps-cargs.size) undef).getD t undef)
   rw[this];exact h1
  ·have:(inF obs args gl).sl t= .bot:=by
    simp only[inF];rw[List.getElem?_eq_none (by omega)];rfl
   show RV _ ((inF obs args gl).sl t) _
   rw[this];simp only[RV];rfl
 refine wp_mono (h hwf _ _ _ hr) ?_
 rintro e a' w' ⟨s',η',hq,hr'⟩
 have key:(∃x,zGk P s' fn.results.toList=some x∧x.2∧Le (s'.res (oneV x.1)) (St.out obs.length obs' res gl))→LeavesInM Fence.wide 0 P fn a'.tmps (fun e w''=>∃v' η'',e= .returned v'∧Rel E (outF obs.length obs' res gl) { tmps:= #[v'],defers:=[] } w'' η'') a'.defers .returning w':=by
  rintro⟨x,hx,hs,hle⟩
  refine zHj a'.tmps a'.defers w' hfix hr' (fun w2 hr2=>?_) hdfr
  obtain⟨v,h1,h2⟩:=zFf hr2 hx hs;obtain⟨η'',h3⟩:=hle E { tmps:= #[v],defers:=[] } w2 η' ⟨fun t=>by
   show RV (s'.F.ctx E w2 η') ((look [(0,oneV x.1)] t).getD .bot) (#[v].getD t undef)
   simp only[look];by_cases ht:t=0
   ·subst ht;simpa using h2
   ·simp only[ht,if_false,Option.getD_none,RV];rfl,hr2.laid,hr2.since,hr2.fresh,rfl,⟨hr2.defers.fix,hr2.defers.marks⟩,⟨hr2.held.nb,hr2.held.at_⟩,hr2.glob,hr2.ghost⟩
  refine⟨v,h1,v,η'',rfl,?_⟩;have hF:(St.out obs.length obs' res gl).F=outF obs.length obs' res gl:=by
   have hs:(St.out obs.length obs' res gl).get=(outF obs.length obs' res gl).sl:=by
    funext t
    simp only[St.get,St.out,outF,look];by_cases ht:t=0<;>simp[ht]
   have hh:look (obsL 0 obs')=fun i=>obs'[i]?:=by funext t;rw[zKu];simp
   have hk:(fun i=>i<obs'.length∨i∈([]:List Nat))=fun i=>i<obs'.length:=by funext i;simp
   simp only[St.F,hs];simp only[St.out,hh,hk];rfl
  rw[← hF];exact h3
 cases e with
 |normal=>exact⟨.inl rfl,key hq⟩
 |ret=>exact⟨.inr rfl,key hq⟩
 |_=>exact hq.elim
theorem zAv {f : FuncId} {fn : Func} {c : Code} {obs : List Obj} {args : List V} {obs' : List Obj} {res : V} {gl : zCd} (hm : P.follows .mixedOrders = true) (hf : P.funcs[f]? = some fn) (hb : fn.body = some c) (hn : (fn.name == "runtime.NumGoroutine") = false) (hN : args.length ≤ fn.ntmps) (ho : obs.length ≤ 16)
  (h:wfs args→∀E,aev P E c (St.start obs args fn.ntmps gl) (FinR P fn obs.length obs' res gl)):FnR P f obs args obs' res gl:=
 ⟨⟨fn,hf,by simp[hb],hn⟩,fun E cargs η _ _ _ _ hfix _ hr0=>zUr hf hb hN ho (by rw[hfix];intro p hp;cases hp) (fun hwf=>zDp hm c _ _ (h hwf E)) hr0⟩
end
end Go.AM
