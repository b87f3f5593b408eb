/- The abstract machine: loops, and all as simp lemmas. -/
import Derived.Test.YtlgbdpabcbcmcaaGreatDoorLNAmD
import Derived.ScopeJumps
set_option linter.unusedSimpArgs false
set_option linter.unusedVariables false
namespace Go.AM
open Go.RowKit
def slLe(s:St)(σ:Ren)(live:List Nat):List (Nat × V)→Prop
 |[]=>True
 |(t,y)::r=>vLe (look s.hp) (σf σ) (· ∉ live) (s.get t) y∧slLe s σ live r
def hpLe(s:St)(σ:Ren)(live:List Nat):List (Nat × Obj)→Prop
 |[]=>True
 |(i,o)::r=>zEh (look s.hp) σ (· ∉ live) i o∧hpLe s σ live r
def zTc(n:Nat)(live:List Nat):Ren→Prop
 |[]=>True
 |(i,j)::r=>i<n∧(match j with|some j=>j∈live∧∀p∈r,p.2≠some j|none=>True)∧(∀p∈r,p.1≠i)∧zTc n live r
def zWl(σ:Ren)(hp:List (Nat × Obj)):Nat→Prop
 |0=>True
 |n+1=>look σ n=some (some n)∧(look hp n).isSome=true∧zWl σ hp n
theorem yBq{σ:Ren}{hp:List (Nat × Obj)}:∀ {n:Nat},zWl σ hp n→∀i,i<n→look σ i=some (some i)∧(look hp i).isSome=true
 |0,_,i,hi=>absurd hi (Nat.not_lt_zero i)
 |n+1,h,i,hi=>by
  simp only[zWl]at h;by_cases e:i=n
  ·subst e;exact⟨h.1,h.2.1⟩
  ·exact yBq h.2.2 i (by omega)
theorem zFg{n:Nat}{live:List Nat}:∀ {σ:Ren},zTc n live σ→(∀i x,look σ i=some x→i<n∧(∀j,x=some j→j∈live))∧(∀i i' j,look σ i=some (some j)→look σ i'=some (some j)→i=i')
 |[],_=>by simp[look]
 |(k,y)::r,h=>by
  simp only[zTc]at h;obtain⟨h1,h2,h3,h4⟩:=h;obtain⟨g1,g2⟩:=zFg h4;have mem:∀i x,look r i=some x→(i,x)∈r:=by
   intro i x;clear h1 h2 h3 h4 g1 g2;induction r with
   |nil=>intro h;simp[look]at h
   |cons p r ih=>
    obtain⟨a,b⟩:=p;intro h;simp only[look]at h;split at h
    ·rename_i hi;cases h;subst hi;simp
    ·exact List.mem_cons_of_mem _ (ih h)
  constructor
  ·intro i x hx;simp only[look]at hx;split at hx
   ·rename_i hi;cases hx;subst hi;refine⟨h1,fun j hj=>?_⟩
    subst hj;exact h2.1
   ·exact g1 i x hx
  ·intro i i' j hi hi';simp only[look]at hi hi';split at hi<;>split at hi'
   ·rename_i a b;rw[a,b]
   ·rename_i a b;cases hi;exact absurd rfl (h2.2 _ (mem _ _ hi'))
   ·rename_i a b;cases hi';exact absurd rfl (h2.2 _ (mem _ _ hi))
   ·exact g2 i i' j hi hi'
section
variable {E : zBf} {a : Act} {w : World} {η : Nat → Value} {s s' : St} {σ : Ren} {live : List Nat}
structure yHr(s s':St)(σ:Ren)(live:List Nat):Prop where
 ren:zTc s'.nx live σ
 hp:∀i o,look s'.hp i=some o→zEh (look s.hp) σ (· ∉ live) i o
theorem yHr.at_(L:yHr s s' σ live){i:Nat}{o:Obj}(ho:look s'.hp i=some o):(∃j o',look σ i=some (some j)∧look s.hp j=some o'∧o'.k=o.k∧o'.T=o.T∧o'.e=o.e∧o.k≠ .ro∧o.xs.length=o'.xs.length)∨(look σ i=some none∧o.xs=[]∧o.k= .arr∧0<o.e):=by
 have h1:=L.hp i o ho
 unfold zEh at h1
 cases hσ:look σ i with
 |none=>rw[hσ]at h1;exact h1.elim
 |some x=>
  rw[hσ]at h1;cases x with
  |none=>exact .inr ⟨rfl,h1⟩
  |some j=>
   obtain⟨o',q1,q2,q3,q4,q5,q6⟩:=h1;exact .inl ⟨j,o',rfl,q1,q2,q3,q4,q5,zJg q6⟩
theorem xMa(L:yHr s s' σ live){b:Nat}(h:Own s'.F.hp (η2 η σ) b):∃i j o o',look σ i=some (some j)∧look s'.hp i=some o∧look s.hp j=some o'∧o'.k=o.k∧o.k≠ .ro∧blk (η j)=some b:=by
 obtain⟨i,o,ho,hk,hb⟩:=h
 unfold η2 at hb
 rcases L.at_ ho with ⟨j,o',h1,h2,h3,_⟩|⟨h1,_⟩
 ·rw[h1]at hb;exact⟨i,j,o,o',h1,ho,h2,h3,hk,hb⟩
 ·rw[h1]at hb;simp[blk]at hb
theorem xLz(L:yHr s s' σ live){b:Nat}(h:Own s'.F.hp (η2 η σ) b):Own s.F.hp η b:=by
 obtain⟨i,j,o,o',h1,h2,h3,h4,h5,h6⟩:=xMa L h
 exact⟨j,o',h3,by rw[h4];exact h5,h6⟩
theorem yHr.tells(hr:Rel E s.F a w η)(L:yHr s s' σ live):zQn (s.F.ctx E w η) (s'.F.ctx E w (η2 η σ)) (σf σ) (· ∉ live):=by
 refine⟨hr.laid,rfl,rfl,rfl,fun b hb=>?_,fun id ob b hid hob hb hOb=>?_,fun i j hσ=>?_,fun i hσ=>?_⟩
 ·rcases hb with hb|hb
  ·exact .inl hb
  ·exact .inr (xLz L hb)
 ·rcases hOb with hOb|hOb
  ·by_cases hk:ob.k= .ro
   ·exact(hr.laid.obj id ob hob).ro hk b hb (.inl hOb)
   ·have h1:=E.hb b hOb;rcases hr.fresh b ⟨id,ob,hob,hk,hb⟩with h2|h2
    ·exact h1.2 h2
    ·omega
  ·obtain⟨i,j,o,o',q1,q2,q3,q4,q5,q6⟩:=xMa L hOb;have hko:o'.k≠ .ro:=by rw[q4];exact q5
   by_cases hk:ob.k= .ro
   ·exact(hr.laid.obj id ob hob).ro hk b hb (.inr ⟨j,o',q3,hko,q6⟩)
   ·have:=hr.laid.inj id j ob o' b hob q3 hk hko hb q6;subst this;exact hid (((zFg L.ren).1 i _ q1).2 _ rfl)
 ·have hσ':look σ i=some (some j):=hσ;refine⟨.inl ((zFg L.ren).1 i _ hσ').1,by show η2 η σ i=η j;unfold η2;rw[hσ'],fun o ho=>?_⟩
  rcases L.at_ ho with ⟨j',o',h1,h2,h3,h4,h5,h6,h7⟩|⟨h1,_⟩
  ·rw[hσ']at h1;cases h1;exact⟨o',h2,h7,h5.symm,by rw[h3]⟩
  ·rw[hσ']at h1;cases h1
 ·have hσ':look σ i=some none:=hσ;refine⟨.inl ((zFg L.ren).1 i _ hσ').1,by show η2 η σ i=_;unfold η2;rw[hσ'],fun o ho=>?_⟩
  rcases L.at_ ho with ⟨j',o',h1,_⟩|⟨_,_,h3,_⟩
  ·rw[hσ']at h1;cases h1
  ·rw[h3];simp
theorem xEa(hr:Rel E s.F a w η)(L:yHr s s' σ live)(hN:s'.N=s.N)(hnb:s'.nb=s.nb)(hgl:s'.gl=s.gl)(hko:zWl σ s'.hp s'.nb)(hsl:∀t,vLe (look s.hp) (σf σ) (· ∉ live) (s.get t) (s'.get t)):Rel E s'.F a w (η2 η σ):=by
 have T:=L.tells hr
 refine⟨fun t=>zKg T _ _ _ (hsl t) (hr.slots t),yJd T (fun i o ho=>L.hp i o ho) (zFg L.ren).2 (fun i=>rfl) (fun i o b ho hk hb=> .inr ⟨i,o,ho,hk,hb⟩),hr.since,fun b hb=>hr.fresh b (xLz L hb),by rw[show s'.F.N=s'.N from rfl,hN];exact hr.tmps,hr.defers,⟨hr.held.nb.trans hnb.symm,fun i hi=>?_⟩,fun g p hp=>T.plain _ _ _ ⟨rfl,by simp[V.pure]⟩ (hr.glob g p (by rw[show s.F.gl=look s.gl from rfl,← hgl];exact hp)),fun p hp=>zBg T.keepD _ _ (hr.ghost p hp)⟩
 obtain⟨k1,k2⟩:=yBq hko i hi
 obtain⟨o,ho⟩:=Option.isSome_iff_exists.1 k2
 rcases L.at_ ho with ⟨j,o',q0,q1,q2,q3,q4,q5,hl⟩|⟨h1,_⟩
 ·rw[k1]at q0;cases q0;obtain⟨_,o0,o1,g1,g2,g3,g4,g7,g8,g5,g6⟩:=hr.held.at_ i (by rw[show s.F.nb=s.nb from rfl,← hnb];exact hi)
  have g2':look s.hp i=some o1:=g2;rw[q1]at g2';cases g2';have he:η2 η σ i=η i:=by simp[η2,k1]
  refine⟨.inl ((zFg L.ren).1 i _ k1).1,o0,o,g1,ho,q5,q4.symm.trans g4,by rw[← q2];exact g7,fun h=>by rw[he];exact g8 h,by rw[hl];exact g5,fun e=>by rw[he];exact g6 (by rw[← hl];exact e)⟩
 ·rw[k1]at h1;cases h1
theorem yAs:∀ {l:List (Nat × V)},slLe s σ live l→∀t,vLe (look s.hp) (σf σ) (· ∉ live) (s.get t) ((look l t).getD .bot)
 |[],_,t=>by simp only[look,Option.getD_none];cases s.get t<;>simp[vLe]
 |(k,y)::r,h,t=>by
  simp only[slLe]at h;simp only[look];split
  ·rename_i ht;subst ht;exact h.1
  ·exact yAs h.2 t
theorem yBv:∀ {l:List (Nat × Obj)},hpLe s σ live l→∀i o,look l i=some o→zEh (look s.hp) σ (· ∉ live) i o
 |[],_,i,o,h=>by simp[look]at h
 |(k,y)::r,h,i,o,ho=>by
  simp only[hpLe]at h;simp only[look]at ho;split at ho
  ·rename_i hi;cases ho;subst hi;exact h.1
  ·exact yBv h.2 i o ho
theorem Le.mk(σ:Ren)(live:List Nat)(hN:s'.N=s.N∧s'.nb=s.nb∧s'.gl=s.gl)(hren:zTc s'.nx live σ)(hhp:hpLe s σ live s'.hp)(hsl:slLe s σ live s'.sl∧zWl σ s'.hp s'.nb):Le s s':=by
 intro E a w η hr
 exact⟨η2 η σ,xEa hr ⟨hren,yBv hhp⟩ hN.1 hN.2.1 hN.2.2 hsl.2 (yAs hsl.1)⟩
end
def zRg{ι:Type}(F:ι→St)(ok:ι→Prop)(m:ι→Nat)(i:ι)(Q:Exit→St→Prop)(e:Exit)(s:St):Prop:=
 match e with
 | .normal=>∃j,ok j∧m j<m i∧Le s (F j)
 |e=>Q e s
theorem xPh(p:Nat→Prop)(h:∃n,p n):∃n,p n∧∀k,p k→n≤k:=by
 obtain⟨n,hn⟩:=h
 induction n using Nat.strongRecOn with
 |_ n ih=>
  by_cases h:∃k,k<n∧p k
  ·obtain⟨k,hk,hp⟩:=h;exact ih k hk hp
  ·exact⟨n,hn,fun k hk=>Nat.le_of_not_lt fun hl=>h ⟨k,hl,hk⟩⟩
theorem xSw{P:Program}{E:zBf}{c:Code}{s:St}{Q:Exit→St→Prop}(hm:P.follows .mixedOrders=true){ι:Type}(F:ι→St)(ok:ι→Prop)(m:ι→Nat)(i0:ι)(h0:ok i0)(hle:Le s (F i0))
  (hstep:∀i,ok i→aev P E c (F i) (zRg F ok m i Q)):AW P E (.loop c) s Q:=by
 intro a w η hr
 obtain⟨η',hr'⟩:=hle E a w η hr
 let S:Act→World→Nat→Prop:=fun a w n=>∃i η,ok i∧m i=n∧Rel E (F i).F a w η
 let μ:Act→World→Nat:=fun a w=>Classical.epsilon (fun n=>S a w n∧∀k,S a w k→n≤k)
 have hμ:∀a w,(∃n,S a w n)→S a w (μ a w)∧∀k,S a w k→μ a w≤k:=fun a w h=>Classical.epsilon_spec (xPh _ h)
 refine wp_loop (fun a w=>∃n,S a w n) μ ⟨_,i0,η',h0,rfl,hr'⟩ fun a w hI=>?_
 obtain⟨⟨i,ηi,hok,hmi,hri⟩,hmin⟩:=hμ a w hI
 refine wp_mono (zDp hm c (F i) _ (hstep i hok) a w ηi hri) ?_
 rintro e a' w' ⟨s',η2,hq,hr2⟩
 cases e with
 |normal=>
  obtain⟨j,hj,hlt,hLe⟩:=hq;obtain⟨η3,hr3⟩:=hLe E a' w' η2 hr2;have hS:S a' w' (m j):=⟨j,η3,hj,rfl,hr3⟩;refine⟨⟨_,hS⟩,?_⟩;have:=(hμ a' w' ⟨_,hS⟩).2 _ hS;omega
 |_=>exact⟨s',η2,hq,hr2⟩
def xTg{ι:Type}(l:Nat)(F:ι→St)(ok:ι→Prop)(Q:Exit→St→Prop)(e:Exit)(s:St):Prop:=
 match e with
 | .goto l'=>l'=l∧∃j,ok j∧Le s (F j)
 |e=>Q e s
def xMr{ι:Type}(F:ι→St)(ok:ι→Prop)(Q:Exit→St→Prop)(e:Exit)(s:St):Prop:=
 match e with
 | .normal=>∃j,ok j∧Le s (F j)
 | .goto _=>False
 |e=>Q e s
end Go.AM
set_option linter.unusedSimpArgs false
set_option linter.unusedVariables false
namespace Go.AM
open Go.RowKit
section
variable {P : Program} {E : zBf}
def xUn(P:Program)(ops:Array Oper)(i:Nat)(o:Oper)(l:List Oper)(s:St)(log:List LogE)(K:St→List LogE→Prop)(e:Eff):Prop:=
 walk P ops (i+1) l (s.app o.dst e) (⟨(e.rd,e.ids),e.upd,ldE s o e⟩::log) K
def endK(P:Program)(draw:Bool)(ops:Array Oper)(Q:Exit→St→Prop)(s:St)(log:List LogE):Prop:=
 (draw=true→yPf P ops log)∧exOk s.ex (s.nx+16*ops.size)∧Q .normal (s.next ops.size)
def seqK(P:Program)(E:zBf)(b:Code)(Q:Exit→St→Prop)(e:Exit)(s:St):Prop:=
 match e with
 | .normal=>aev P E b s Q
 |e=>Q e s
def br(P:Program)(E:zBf)(a b:Code)(s:St)(Q:Exit→St→Prop)(t:Bool):Prop:=(t=true→aev P E a s Q)∧(t=false→aev P E b s Q)
def brV(P:Program)(E:zBf)(a b:Code)(s:St)(Q:Exit→St→Prop)(v:V):Prop:=
 match v with
 | .bool t=>br P E a b s Q t
 |_=>False
theorem xBb{ops:Array Oper}{i:Nat}{s:St}{log:List LogE}{K:St→List LogE→Prop}:walk P ops i [] s log K=K s log:=rfl
theorem yPp{ops:Array Oper}{i:Nat}{o:Oper}{l:List Oper}{s:St}{log:List LogE}{K:St→List LogE→Prop} :
  walk P ops i (o::l) s log K=yTu P ops i o s (xUn P ops i o l s log K):=rfl
theorem xLc{s:St}{Q:Exit→St→Prop}:aev P E .skip s Q=Q .normal s:=rfl
theorem xAp{l:Nat}{s:St}{Q:Exit→St→Prop}:aev P E (.label l) s Q=Q .normal s:=rfl
theorem xTb{s:St}{Q:Exit→St→Prop}:aev P E .ret s Q=Q .ret s:=rfl
theorem xLf{id:Nat}{s:St}{Q:Exit→St→Prop}:aev P E (.exit id) s Q=Q (.exit id) s:=rfl
theorem yPb{id:Nat}{ops:Array Oper}{draw:Bool}{s:St}{Q:Exit→St→Prop}:aev P E (.region id ops draw) s Q=walk P ops 0 ops.toList s [] (endK P draw ops Q):=rfl
theorem xTa{a b:Code}{s:St}{Q:Exit→St→Prop}:aev P E (.seq a b) s Q=aev P E a s (seqK P E b Q):=rfl
theorem xLg{c:Operand}{a b:Code}{s:St}{Q:Exit→St→Prop}:aev P E (.cond c a b) s Q=brV P E a b s Q (s.ev c):=rfl
theorem xAq{id:Nat}{c:Code}{s:St}{Q:Exit→St→Prop}:aev P E (.block id c) s Q=aev P E c s (zMm id Q):=rfl
def yAv(P:Program)(E:zBf)(c:Code)(s:St)(Q:Exit→St→Prop):Bool→Prop
 |true=>AW P E (.scope c) s Q
 |false=>aev P E c s (yAu Q)
theorem xAn{c:Code}{s:St}{Q:Exit→St→Prop}:aev P E (.scope c) s Q=yAv P E c s Q (zGm c):=by
 show (match zGm c with|true=>AW P E (.scope c) s Q|false=>aev P E c s (yAu Q))=_
 cases zGm c<;>rfl
theorem xCi{c:Code}{s:St}{Q:Exit→St→Prop}:yAv P E c s Q true=AW P E (.scope c) s Q:=rfl
theorem xCj{c:Code}{s:St}{Q:Exit→St→Prop}:yAv P E c s Q false=aev P E c s (yAu Q):=rfl
@[congr] theorem scopeB_congr{c:Code}{s:St}{Q:Exit→St→Prop}{b b':Bool}(h:b=b'):yAv P E c s Q b=yAv P E c s Q b':=by rw[h]
theorem xLe{l:Nat}{s:St}{Q:Exit→St→Prop}:aev P E (.goto l) s Q=Q (.goto l) s:=rfl
theorem yBr{ι:Type}{l:Nat}{F:ι→St}{ok:ι→Prop}{Q:Exit→St→Prop}{s:St}:xTg l F ok Q .normal s=Q .normal s:=rfl
theorem yNn{ι:Type}{l:Nat}{F:ι→St}{ok:ι→Prop}{Q:Exit→St→Prop}{s:St}{id:Nat}:xTg l F ok Q (.exit id) s=Q (.exit id) s:=rfl
theorem yTf{ι:Type}{l:Nat}{F:ι→St}{ok:ι→Prop}{Q:Exit→St→Prop}{s:St}:xTg l F ok Q .ret s=Q .ret s:=rfl
theorem yEo{ι:Type}{F:ι→St}{ok:ι→Prop}{Q:Exit→St→Prop}{s:St}{id:Nat}:xMr F ok Q (.exit id) s=Q (.exit id) s:=rfl
theorem yLo{ι:Type}{F:ι→St}{ok:ι→Prop}{Q:Exit→St→Prop}{s:St}:xMr F ok Q .ret s=Q .ret s:=rfl
theorem xLd{c:Code}{s:St}{Q:Exit→St→Prop}:aev P E (.loop c) s Q=AW P E (.loop c) s Q:=rfl
theorem ySj{ops:Array Oper}{i:Nat}{o:Oper}{l:List Oper}{s:St}{log:List LogE}{K:St→List LogE→Prop}{e:Eff} :
  xUn P ops i o l s log K e=walk P ops (i+1) l (s.app o.dst e) (⟨(e.rd,e.ids),e.upd,ldE s o e⟩::log) K:=rfl
theorem yYj{ops:Array Oper}{Q:Exit→St→Prop}{s:St}{log:List LogE}:endK P true ops Q s log=(yPf P ops log∧exOk s.ex (s.nx+16*ops.size)∧Q .normal (s.next ops.size)):=by simp[endK]
theorem yOd{ops:Array Oper}{Q:Exit→St→Prop}{s:St}{log:List LogE}:endK P false ops Q s log=(exOk s.ex (s.nx+16*ops.size)∧Q .normal (s.next ops.size)):=by simp[endK]
theorem yEr{b:Code}{Q:Exit→St→Prop}{s:St}:seqK P E b Q .normal s=aev P E b s Q:=rfl
theorem yQq{b:Code}{Q:Exit→St→Prop}{s:St}{id:Nat}:seqK P E b Q (.exit id) s=Q (.exit id) s:=rfl
theorem yQp{b:Code}{Q:Exit→St→Prop}{s:St}{id:Nat}:seqK P E b Q (.goto id) s=Q (.goto id) s:=rfl
theorem xCf{b:Code}{Q:Exit→St→Prop}{s:St}:seqK P E b Q .ret s=Q .ret s:=rfl
theorem xKm{a b:Code}{s:St}{Q:Exit→St→Prop}{t:Bool}:brV P E a b s Q (.bool t)=br P E a b s Q t:=rfl
theorem br_t{a b:Code}{s:St}{Q:Exit→St→Prop}:br P E a b s Q true=aev P E a s Q:=by simp[br]
theorem br_f{a b:Code}{s:St}{Q:Exit→St→Prop}:br P E a b s Q false=aev P E b s Q:=by simp[br]
theorem gbr_t{fid:Nat}{o:Oper}{s:St}{K:Eff→Prop}:gbr P fid o s K true=yBh P fid o (s.unw true) K:=by simp[gbr]
theorem gbr_f{fid:Nat}{o:Oper}{s:St}{K:Eff→Prop}:gbr P fid o s K false=K ⟨.tup [],[],[]⟩:=by simp[gbr]
theorem zAc{a b:Code}{s:St}{Q:Exit→St→Prop}{t:Bool}(h1:t=true→aev P E a s Q)(h2:t=false→aev P E b s Q):br P E a b s Q t:=⟨h1,h2⟩
theorem zBj{fid:Nat}{o:Oper}{s:St}{K:Eff→Prop}{g:Bool}(h1:g=true→yBh P fid o (s.unw true) K)(h2:g=false→K ⟨.tup [],[],[]⟩):gbr P fid o s K g:=⟨h1,h2⟩
theorem yYo{fid nx:Nat}{ex:List Nat}{K:Eff→Prop}:done none fid nx ex K=False:=rfl
theorem yMl{g:Bool}{K:Eff→Prop}:xDe none g K=(g=false∧K ⟨.tup [],[],[]⟩):=rfl
def scal(P:Program)(T:TypeId)(v:V)(r:Option Bool):Option V:=
 match r with
 |some false=>some v
 |_=>zCt P T v 0
theorem xTy{T:TypeId}{v:V}:scal P T v (some false)=some v:=rfl
theorem zDf{T:TypeId}{v:V}(h:zAn P T=some false→zCt P T v 0=some v):zCt P T v 0=scal P T v (zAn P T):=by
 unfold scal
 split
 ·rename_i h2;exact h h2
 ·rfl
theorem yRu{T:TypeId}{k:IntKind}{n:Int}:zCt P T (.int k n) 0=scal P T (.int k n) (zAn P T):=zDf fun h=>by simp[zCt,h,V.cl]
theorem yMt{T:TypeId}{b:Bool}:zCt P T (.bool b) 0=scal P T (.bool b) (zAn P T):=zDf fun h=>by simp[zCt,h,V.cl]
theorem yRr{T:TypeId}{b:ByteArray}:zCt P T (.str b) 0=scal P T (.str b) (zAn P T):=zDf fun h=>by simp[zCt,h,V.cl]
theorem yMp{T:TypeId}  : zCt P T .nilS 0=scal P T .nilS (zAn P T):=zDf fun h=>by simp[zCt,h,V.cl]
theorem yMq{T:TypeId}  : zCt P T .nilP 0=scal P T .nilP (zAn P T):=zDf fun h=>by simp[zCt,h,V.cl]
theorem yMr{T:TypeId}  : zCt P T .nilF 0=scal P T .nilF (zAn P T):=zDf fun h=>by simp[zCt,h,V.cl]
theorem xDf{T:TypeId}{e:TypeId}{xs:List V}:zCt P T (.sl e xs) 0=scal P T (.sl e xs) (zAn P T):=zDf fun h=>by simp[zCt,h,V.cl]
theorem yRt{T:TypeId}{id n:Nat}:zCt P T (.obj id n) 0=scal P T (.obj id n) (zAn P T):=zDf fun h=>by simp[zCt,h,V.cl]
theorem yRs{T:TypeId}{id n i o:Nat}:zCt P T (.ptr id n i o) 0=scal P T (.ptr id n i o) (zAn P T):=zDf fun h=>by simp[zCt,h,V.cl]
theorem xDg{T:TypeId}{id:Nat}:zCt P T (.mp id) 0=scal P T (.mp id) (zAn P T):=zDf fun h=>by simp[zCt,h,V.cl]
theorem yMs{T:TypeId}{f:Fn}{a b:List V}:zCt P T (.func f a b) 0=scal P T (.func f a b) (zAn P T):=zDf fun h=>by simp[zCt,h,V.cl]
theorem yRv{T o:Nat}{cs:List V}:zCt P T (.agg cs) o=match zAn P T with
  |some true=>if o=0∧cs.length=P.cellsOf T then some (.agg cs)else if o+P.cellsOf T≤cs.length then some (.agg ((cs.drop o).take (P.cellsOf T)))else none
  |some false=>cs[o]?
  |none=>none:=by
 cases hr:zAn P T with
 |none=>simp[zCt,hr]
 |some b=>cases b<;>simp[zCt,hr,V.cl]
mutual
theorem yHw{hp:Heap}{σ:Nat→Option (Option Nat)}{B:Nat→Prop}:∀(x:V),x.pure→vLe hp σ B x x
 | .bot,h=>by simp[vLe]
 | .bool b,h=>by simp[vLe,V.pure]
 | .int k n,h=>by simp[vLe,V.pure]
 | .str s,h=>by simp[vLe,V.pure]
 | .nilS,h=>by simp[vLe,V.pure]
 | .sl e xs,h=>by simp[vLe,V.pure]
 | .nl,h=>by simp[vLe,V.pure]
 | .sn e xs,h=>by simp[vLe,V.pure]
 | .win id n i o k,h=>by simp[V.pure]at h
 | .obj id n,h=>by simp[V.pure]at h
 | .ptr id n i o,h=>by simp[V.pure]at h
 | .mp id,h=>by simp[V.pure]at h
 | .tptr e xs i o,h=>by simp[vLe,V.pure]
 | .nilP,h=>by simp[vLe,V.pure]
 | .func fn f cs,h=>by
  simp only[V.pure]at h;simp only[vLe];exact⟨trivial,zEk f h.1,zEk cs h.2⟩
 | .nilF,h=>by simp[vLe,V.pure]
 | .agg cs,h=>by
  simp only[V.pure]at h;simp only[vLe];exact zEk cs h
 | .tup vs,h=>by
  simp only[V.pure]at h;simp only[vLe];exact zEk vs h
 | .opt g x,h=>by simp[V.pure]at h
theorem zEk{hp:Heap}{σ:Nat→Option (Option Nat)}{B:Nat→Prop}:∀(xs:List V),zBa xs→vsLe hp σ B xs xs
 |[],h=>by simp[vsLe]
 |x::xs,h=>by
  simp only[zBa]at h;simp only[vsLe];exact⟨x,xs,rfl,yHw x h.1,zEk xs h.2⟩
end
mutual
theorem yIj{τ:Nat→Nat}:∀(x:V),x.pure→x.ren τ=x
 | .bot,h=>by simp[V.pure]at h
 | .bool b,h=>rfl
 | .int k n,h=>rfl
 | .str s,h=>rfl
 | .nilS,h=>rfl
 | .sl e xs,h=>rfl
 | .nl,h=>rfl
 | .sn e xs,h=>rfl
 | .win id n i o k,h=>by simp[V.pure]at h
 | .obj id n,h=>by simp[V.pure]at h
 | .ptr id n i o,h=>by simp[V.pure]at h
 | .mp id,h=>by simp[V.pure]at h
 | .tptr e xs i o,h=>rfl
 | .nilP,h=>rfl
 | .func fn f cs,h=>by
  simp only[V.pure]at h;simp only[V.ren,zDe f h.1,zDe cs h.2]
 | .nilF,h=>rfl
 | .agg cs,h=>by
  simp only[V.pure]at h;simp only[V.ren,zDe cs h]
 | .tup vs,h=>by
  simp only[V.pure]at h;simp only[V.ren,zDe vs h]
 | .opt g x,h=>by simp[V.pure]at h
theorem zDe{τ:Nat→Nat}:∀(xs:List V),zBa xs→rens τ xs=xs
 |[],h=>rfl
 |x::xs,h=>by
  simp only[zBa]at h;simp only[rens,yIj x h.1,zDe xs h.2]
end
mutual
theorem zWf:∀(x:V),x.noRef→x.noSl
 | .bot,h=>by simp[V.noRef]at h
 | .bool b,h=>by simp[V.noSl]
 | .int k n,h=>by simp[V.noSl]
 | .str s,h=>by simp[V.noSl]
 | .nilS,h=>by simp[V.noSl]
 | .sl e xs,h=>by simp[V.noRef]at h
 | .nl,h=>by simp[V.noSl]
 | .sn e xs,h=>by simp[V.noRef]at h
 | .win id n i o k,h=>by simp[V.noSl]
 | .obj id n,h=>by simp[V.noSl]
 | .ptr id n i o,h=>by simp[V.noSl]
 | .mp id,h=>by simp[V.noSl]
 | .tptr e xs i o,h=>by simp[V.noRef]at h
 | .nilP,h=>by simp[V.noSl]
 | .func fn f cs,h=>by simp[V.noRef]at h
 | .nilF,h=>by simp[V.noSl]
 | .agg cs,h=>by
  simp only[V.noRef]at h;simp only[V.noSl];exact zHy cs h
 | .tup vs,h=>by
  simp only[V.noRef]at h;simp only[V.noSl];exact zHy vs h
 | .opt g x,h=>by simp[V.noRef]at h
theorem zHy:∀(xs:List V),zOf xs→zGv xs
 |[],h=>by simp[zGv]
 |x::xs,h=>by
  simp only[zOf]at h;simp only[zGv];exact⟨zWf x h.1,zHy xs h.2⟩
end
theorem zUy{R:V→V→Prop}:∀ {xs:List V},(∀x∈xs,R x x)→all2 R xs xs
 |[],_=>by simp only[all2]
 |x::xs,h=>by simp only[all2];exact⟨h x (by simp),zUy fun y hy=>h y (by simp[hy])⟩
theorem zTg:∀ {xs:List V},zBa xs→∀x∈xs,x.pure
 |y::ys,h,x,hx=>by
  simp only[zBa]at h;rcases List.mem_cons.1 hx with rfl|hx
  ·exact h.1
  ·exact zTg h.2 x hx
theorem zQl{hp:Heap}{B:Nat→Prop}:∀(n:Nat) (x:V),x.pure→zAx hp B V.pure n x x
 |0,x,h=>by simp only[zAx];exact⟨trivial,h⟩
 |n+1,x,h=>by
  have ih:=fun xs (h:zBa xs)=>zUy fun y hy=>zQl (hp:=hp) (B:=B) n y (zTg h y hy)
  cases x<;>simp only[V.pure]at h<;>simp only[zAx,V.pure]
  all_goals first
   |exact ih _ h
   |exact⟨trivial,ih _ h.1,ih _ h.2⟩
   |trivial
   |exact⟨trivial,trivial⟩
theorem zAt{hp:Heap}{B:Nat→Prop}{n:Nat}{xs:List V}(h:zBa xs):all2 (zAx hp B V.pure n) xs xs:=zUy fun y hy=>zQl n y (zTg h y hy)
theorem zJq{R:V→V→Prop}:∀ {xs ys xs' ys':List V},all2 R xs xs'→all2 R ys ys'→all2 R (xs++ys) (xs'++ys')
 |[],_,[],_,_,h=>h
 |x::xs,ys,x'::xs',ys',h,h'=>by
  simp only[all2]at h;simp only[List.cons_append,all2];exact⟨h.1,zJq h.2 h'⟩
 |[],_,_::_,_,h,_=>h.elim
 |_::_,_,[],_,h,_=>h.elim
theorem zCs:∀ {xs ys:List V},zBa (xs++ys)↔zBa xs∧zBa ys
 |[],ys=>by simp[zBa]
 |x::xs,ys=>by simp[zBa,zCs (xs:=xs),and_assoc]
end
theorem zZp(t:Bool):(t == true)=t:=by cases t<;>rfl
theorem zVk(t:Bool):(t == false)= !t:=by cases t<;>rfl
theorem St.next_mk(a:List (Nat × V))(b:List (Nat × Obj))(c n N m:Nat)(d:List Nat)(g:zCd):St.next ⟨a,b,c,d,N,m,g⟩ n=⟨a,b,c+16*n,[],N,m,g⟩:=rfl
theorem xBk(g:Bool)(x:V):V.unw g (.opt g x)=x:=by simp[V.unw]
theorem unw_t(g:Bool)(x:V):V.unw g (.opt true x)=x:=by simp[V.unw]
theorem unw_f(g:Bool)(x:V):V.unw false (.opt g x)=x:=by simp[V.unw]
theorem xNk(g h:Bool)(x:V):V.unw (g&&h) (.opt g x)=x:=by cases g<;>cases h<;>simp[V.unw]
theorem xBq(g h:Bool)(x:V):V.unw g (.opt (g&&h) x)=V.unw g (.opt h x):=by cases g<;>cases h<;>simp[V.unw]
theorem xOr(t x y:Bool):zRo t (.bool x) (.bool y)=some ⟨⟨.bool (if t then x else y),[],[]⟩,True⟩:=rfl
theorem xOq(t x g y:Bool):zRo t (.bool x) (.opt g (.bool y))=some ⟨⟨.bool (if t then x else y),[],[]⟩,t=false→g=true⟩:=rfl
theorem xOo(t x g y:Bool):zRo t (.opt g (.bool x)) (.bool y)=some ⟨⟨.bool (if t then x else y),[],[]⟩,t=true→g=true⟩:=rfl
theorem xOp(t x:Bool):zRo t (.bool x) (.tup [])=some ⟨⟨.bool x,[],[]⟩,t=true⟩:=rfl
theorem xOn(t y:Bool):zRo t (.tup []) (.bool y)=some ⟨⟨.bool y,[],[]⟩,t=false⟩:=rfl
theorem xDb(t x g h y:Bool):zRo t (.bool x) (V.unw g (.opt h (.bool y)))=some ⟨⟨.bool (if t then x else y),[],[]⟩,g=true→t=false→h=true⟩:=by
 cases g<;>cases h<;>simp[V.unw,zRo,just,zCv]
theorem yRp(t x g h y:Bool):zRo t (V.unw g (.opt h (.bool x))) (.bool y)=some ⟨⟨.bool (if t then x else y),[],[]⟩,g=true→t=true→h=true⟩:=by
 cases g<;>cases h<;>simp[V.unw,zRo,just,zCv]
theorem xNj(g:Bool):V.unw g .bot= .bot:=rfl
theorem xBp(g b:Bool):V.unw g (.bool b)= .bool b:=rfl
theorem xNi(g:Bool)(k:IntKind)(n:Int):V.unw g (.int k n)= .int k n:=rfl
theorem xNf(g:Bool)(s:ByteArray):V.unw g (.str s)= .str s:=rfl
theorem xBl(g:Bool):V.unw g .nilS= .nilS:=rfl
theorem xTr(g:Bool)(e:Nat)(xs:List V):V.unw g (.sl e xs)= .sl e xs:=rfl
theorem xNh(g:Bool)(id n:Nat):V.unw g (.obj id n)= .obj id n:=rfl
theorem xNg(g:Bool)(id n i o:Nat):V.unw g (.ptr id n i o)= .ptr id n i o:=rfl
theorem xBj(g:Bool)(e:Nat)(xs:List V)(i o:Nat):V.unw g (.tptr e xs i o)= .tptr e xs i o:=rfl
theorem xTt(g:Bool)(id:Nat):V.unw g (.mp id)= .mp id:=rfl
theorem xBm(g:Bool):V.unw g .nilP= .nilP:=rfl
theorem xBn(g:Bool):V.unw g .nilF= .nilF:=rfl
theorem xBo(g:Bool)(f:Fn)(a b:List V):V.unw g (.func f a b)= .func f a b:=rfl
theorem xNl(g:Bool)(cs:List V):V.unw g (.agg cs)= .agg cs:=rfl
theorem xNe(g:Bool)(cs:List V):V.unw g (.tup cs)= .tup cs:=rfl
theorem xNd(g:Bool)(id n i o k:Nat):V.unw g (.win id n i o k)= .win id n i o k:=rfl
theorem xTq(g:Bool)(e:Nat)(xs:List V):V.unw g (.sn e xs)= .sn e xs:=rfl
theorem xTs(g:Bool):V.unw g .nl= .nl:=rfl
attribute [go_sem] xNd xTq xTs xBk xNk xBq xDb yRp unw_t unw_f xNj xBp xNi xNf xBl xTr xNh xNg xTt xBj xBm xBn xBo xNl xNe
def yFx{α:Type}(b:Bool)(x:α)(r:List (Nat × α))(t:Nat):Option α:=match b with|true=>some x|false=>look r t
theorem xDu{α:Type}{t:Nat}:look ([]:List (Nat × α)) t=none:=rfl
theorem ySu{α:Type}{k t:Nat}{x:α}{r:List (Nat × α)}:look ((k,x)::r) t=yFx (t == k) x r t:=by
 by_cases h:t=k
 ·subst h;simp[look,yFx]
 ·have h2:(t == k)=false:=by simpa using h
  rw[h2];simp[look,yFx,h]
theorem xPd{α:Type}{t:Nat}{x:α}{r:List (Nat × α)}:yFx true x r t=some x:=rfl
theorem xPe{α:Type}{t:Nat}{x:α}{r:List (Nat × α)}:yFx false x r t=look r t:=rfl
@[congr] theorem lookB_congr{α:Type}{b b':Bool}{t:Nat}{x:α}{r:List (Nat × α)}(h:b=b'):yFx b x r t=yFx b' x r t:=by rw[h]
attribute [go_sem ↓] xDu ySu xPd xPe
theorem zQs{xs:List V}{i:Nat}(h:i<xs.length):nth xs i=xs[i]:=by rw[zKs];simp[h]
theorem zBt{α:Type}{f:α→V}{l:List α}{i:Nat}(h:i<l.length):nth (l.map f) i=f l[i]:=by rw[zKs];simp[h]
theorem xOv{xs:List V}{i j:Nat}{v:V}:nth (xs.set i v) j=if i=j∧i<xs.length then v else nth xs j:=by
 rw[zKs,zKs,List.getD_eq_getElem?_getD,List.getElem?_set]
 by_cases h:i=j
 ·subst h;by_cases h2:i<xs.length
  ·simp[h2]
  ·simp[h2]
 ·simp[h]
attribute [go_sem] nth zQs zBt List.getElem?_cons_zero List.getElem?_cons_succ
theorem xPj(v:V)(rd:List Nat):Eff.ids ⟨v,[],rd⟩=[]:=rfl
theorem xEl(v:V)(rd:List Nat)(i:Nat)(o:Obj)(r:List (Nat × Obj)):Eff.ids ⟨v,(i,o)::r,rd⟩=i::Eff.ids ⟨v,r,rd⟩:=rfl
theorem zDr{n:Int}(h1: -9223372036854775808≤n)(h2:n≤9223372036854775807):IntKind.i64.wrap n=n:=IntWalk.i64_in n ⟨h1,h2⟩
theorem zXx{n:Int}(h1:0≤n)(h2:n≤255):IntKind.u8.wrap n=n:=IntWalk.u8_in n ⟨h1,h2⟩
theorem zLl{n:Int}(h1:0≤n)(h2:n≤4294967295):IntKind.u32.wrap n=n:=IntWalk.u32_in n ⟨h1,h2⟩
theorem xBr{n:Int}(h1:0≤n)(h2:n≤18446744073709551615):IntKind.u64.wrap n=n:=IntWalk.u64_in n ⟨h1,h2⟩
attribute [go_sem] zDr zXx zLl xBr
theorem xPk:IntKind.i64.min= -9223372036854775808:=by decide
theorem xPl:IntKind.i64.max=9223372036854775807:=by decide
theorem xLt:IntKind.u8.min=0:=by decide
theorem xLu:IntKind.u8.max=255:=by decide
theorem xNo:IntKind.u32.min=0:=by decide
theorem xNp:IntKind.u32.max=4294967295:=by decide
theorem xNm:IntKind.u64.min=0:=by decide
theorem xNn:IntKind.u64.max=18446744073709551615:=by decide
attribute [go_sem ↓] xBb yPp xLc xAp xTb xLf yPb xTa xLg xAq xAn xLe xCi xCj yBr yNn yTf yEo yLo xLd ySj yYj yOd yEr yQq yQp xCf xKm br_t br_f gbr_t gbr_f zMm yAu yTu yTt yTs yBh
theorem xSz{a b:Nat}(ha:a<4294967296)(hb:b<4294967296):(BitVec.ofNat 32 a &&& BitVec.ofNat 32 b).toNat=a &&& b:=by
 rw[BitVec.toNat_and,BitVec.toNat_ofNat,BitVec.toNat_ofNat,Nat.mod_eq_of_lt ha,Nat.mod_eq_of_lt hb]
theorem xUi{a b:Nat}(ha:a<4294967296)(hb:b<4294967296):(BitVec.ofNat 32 a ||| BitVec.ofNat 32 b).toNat=a ||| b:=by
 rw[BitVec.toNat_or,BitVec.toNat_ofNat,BitVec.toNat_ofNat,Nat.mod_eq_of_lt ha,Nat.mod_eq_of_lt hb]
def zNo(a b:Nat):Nat:=(BitVec.ofNat 32 a &&& ~~~BitVec.ofNat 32 b).toNat
theorem zXp(a b:Nat):zNo a b<4294967296:=BitVec.isLt _
theorem xDi{a b:Nat}(ha:a<4294967296)(hb:b<4294967296):a ||| b<4294967296:=Nat.or_lt_two_pow (n:=32) ha hb
theorem xMp{a b:Nat}(ha:a<4294967296):a &&& b<4294967296:=Nat.lt_of_le_of_lt Nat.and_le_left ha
theorem zPi{a b:Nat}(ha:a<4294967296)(hb:b<4294967296):zDk .and .u32 (a:Int) (b:Int)=some (.int .u32 ((a &&& b:Nat):Int)):=by
 unfold zDk
 show some (V.int .u32 (IntKind.u32.wrap (((BitVec.ofInt 32 (a:Int) &&& BitVec.ofInt 32 (b:Int)).toNat:Nat):Int)))=_
 have:=xMp (b:=b) ha
 rw[BitVec.ofInt_natCast,BitVec.ofInt_natCast,xSz ha hb,IntWalk.u32_in _ ⟨by omega,by omega⟩]
theorem xSt{a b:Nat}(ha:a<4294967296)(hb:b<4294967296):zDk .or .u32 (a:Int) (b:Int)=some (.int .u32 ((a ||| b:Nat):Int)):=by
 unfold zDk
 show some (V.int .u32 (IntKind.u32.wrap (((BitVec.ofInt 32 (a:Int) ||| BitVec.ofInt 32 (b:Int)).toNat:Nat):Int)))=_
 have:=xDi ha hb
 rw[BitVec.ofInt_natCast,BitVec.ofInt_natCast,xUi ha hb,IntWalk.u32_in _ ⟨by omega,by omega⟩]
theorem yHf{a b:Nat}:zDk .andNot .u32 (a:Int) (b:Int)=some (.int .u32 (zNo a b:Int)):=by
 unfold zDk
 show some (V.int .u32 (IntKind.u32.wrap (((BitVec.ofInt 32 (a:Int) &&& ~~~BitVec.ofInt 32 (b:Int)).toNat:Nat):Int)))=_
 have:=zXp a b
 rw[BitVec.ofInt_natCast,BitVec.ofInt_natCast]
 show some (V.int .u32 (IntKind.u32.wrap (zNo a b:Int)))=_
 rw[IntWalk.u32_in _ ⟨by omega,by omega⟩]
theorem yHh{x:Int}(h0:0≤x)(h1:x<4294967296):zDk .and .u32 x 255=some (.int .u32 (x % 256)):=by
 obtain⟨a,rfl⟩:=Int.eq_ofNat_of_zero_le h0
 have:=zPi (a:=a) (b:=255) (by omega) (by omega)
 rw[show ((255:Nat):Int)=255 from rfl]at this
 rw[this,Nat.and_two_pow_sub_one_eq_mod a 8]
 rfl
theorem xOz{a:Nat}(h0:0<a)(h1:a<4294967296):IntKind.u32.wrap (-(a:Int))=((4294967296-a:Nat):Int):=by
 unfold IntKind.wrap
 simp[IntKind.bits,IntKind.signed]
 omega
attribute [go_sem] zGm ldE
attribute [go_sem] St.unw yTr zUb mayG yYo yMl yRy xOl xMd xPj xEl yYn yMk zZp zVk St.next_mk St.app St.get St.ev St.init zOq just zCv cst csts cst1 xOr xOq xOo xOp xOn binS cmpV zPi xSt yHf yHh xOz unS lenV ldS stS idxS yIb bnd zRk appS minV
 nilB strS zRd yYx scs ptrT yKe bslS ySq zOz yNy yKc
 V.pure zBa V.noRef zOf V.wf wfs xTy yRu yMt yRr yMp yMq yMr xDf yRt yRs xDg yMs yRv zSu zKb V.cl V.sc exOk Fin FinF resV zGk oneV xPk xPl xLt xLu xNo xNp xNm xNn
 yHw zEk zQl zAt zCs zTc hpLe slLe zWl σf zEh keyF xPa yMz mput keyB xDw xDr FinR St.start St.out St.res τr outU V.ren rens V.noSl zGv olds fzOk zZc yIj zDe zWf zHy
theorem yGv:zCg [] [] []=some true:=by simp[zCg]
theorem yGw{k:IntKind}{a b:Int}{ts:List Nat}{r r':List V}:zCg (1::ts) (.int k a::r) (.int k b::r')=(zCg ts r r').map fun t=>(a == b)&&t:=by simp[zCg]
theorem yCl{a b:Bool}{ts:List Nat}{r r':List V}:zCg (0::ts) (.bool a::r) (.bool b::r')=(zCg ts r r').map fun t=>(a == b)&&t:=by simp[zCg]
theorem yGu{a b:ByteArray}{ts:List Nat}{r r':List V}:zCg (2::ts) (.str a::r) (.str b::r')=(zCg ts r r').map fun t=>(a.toList == b.toList)&&t:=by simp[zCg]
theorem xSm{P:Program}{T:TypeId}{k j:IntKind}{a b a' b':Int}:eq2 P T [.int k a,.int j b] [.int k a',.int j b']=if xKy P T=true then some (a == a'&&b == b')else none:=by simp[eq2]
attribute [go_sem] yGv yGw yCl yGu xKf xSm
section
variable {ι : Type} {F : ι → St} {ok : ι → Prop} {m : ι → Nat} {i : ι} {Q : Exit → St → Prop} {s : St}
theorem yFi{id:Nat}:zRg F ok m i Q (.exit id) s=Q (.exit id) s:=rfl
theorem yFh{id:Nat}:zRg F ok m i Q (.goto id) s=Q (.goto id) s:=rfl
theorem yMf:zRg F ok m i Q .ret s=Q .ret s:=rfl
theorem zAb(j:ι)(h1:ok j)(h2:m j<m i)(h3:Le s (F j)):zRg F ok m i Q .normal s:=⟨j,h1,h2,h3⟩
end
attribute [go_sem ↓] yFi yFh yMf
section
variable {hp : Heap} {σ : Nat → Option (Option Nat)} {B : Nat → Prop}
theorem xNb{x:V}:vLe hp σ B x .bot=True:=by cases x<;>simp[vLe]
theorem yAf{id n:Nat}:vLe hp σ B .nilS (.obj id n)=(n=0∧σ id=some none):=by simp[vLe]
theorem yEd{e:Nat}{ys:List V}:vLe hp σ B .nilS (.sl e ys)=(ys=[]):=by simp[vLe]
theorem xBe:vLe hp σ B .nilS .nilS=True:=by simp[vLe,V.pure]
theorem xBf:vLe hp σ B .nilP .nilP=True:=by simp[vLe,V.pure]
theorem xBg:vLe hp σ B .nilF .nilF=True:=by simp[vLe,V.pure]
theorem xMz{id n id' n':Nat}:vLe hp σ B (.obj id n) (.obj id' n')=(n=n'∧σ id'=some (some id)):=by simp[vLe]
theorem yLb{id n e:Nat}{ys:List V}:vLe hp σ B (.obj id n) (.sl e ys)=(B id∧∃ob,hp id=some ob∧n=ob.xs.length∧e=ob.e∧all2 (zAx hp B V.pure 7) ob.xs ys):=by simp only[vLe,zAx]
theorem yEc{id n i o e i' o':Nat}{ys:List V}:vLe hp σ B (.ptr id n i o) (.tptr e ys i' o')=(B id∧∃ob,hp id=some ob∧n=ob.xs.length∧e=ob.e∧i=i'∧o=o'∧all2 (zAx hp B V.pure 7) ob.xs ys):=by simp only[vLe,zAx]
theorem xMu{id n i o k id' n' i' o' k':Nat}:vLe hp σ B (.win id n i o k) (.win id' n' i' o' k')=(n=n'∧i=i'∧o=o'∧k=k'∧σ id'=some (some id)):=by simp[vLe]
theorem xTm{e e':Nat}{xs ys:List V}:vLe hp σ B (.sn e xs) (.sn e' ys)=(e=e'∧xs=ys):=by simp[vLe,V.pure]
theorem xTo:vLe hp σ B .nl .nl=True:=by simp[vLe,V.pure]
theorem xTp{id id':Nat}:vLe hp σ B (.mp id) (.mp id')=(σ id'=some (some id)):=by simp[vLe]
theorem xMy{g:Bool}{x y:V}(h:y≠ .bot):vLe hp σ B (.opt g x) y=(g=true∧vLe hp σ B x y):=by cases y<;>simp_all [vLe]
theorem xMx{id n i o id' n' i' o':Nat}:vLe hp σ B (.ptr id n i o) (.ptr id' n' i' o')=(n=n'∧i=i'∧o=o'∧σ id'=some (some id)):=by simp[vLe]
theorem xNc{xs ys:List V}:vLe hp σ B (.agg xs) (.agg ys)=vsLe hp σ B xs ys:=by simp[vLe]
theorem xMv{xs ys:List V}:vLe hp σ B (.tup xs) (.tup ys)=vsLe hp σ B xs ys:=by simp[vLe]
theorem xBh{f g:Fn}{a b c d:List V}:vLe hp σ B (.func f a b) (.func g c d)=(f=g∧vsLe hp σ B a c∧vsLe hp σ B b d):=by simp[vLe]
theorem xNa{k k':IntKind}{n n':Int}:vLe hp σ B (.int k n) (.int k' n')=(k=k'∧n=n'):=by simp[vLe,V.pure]
theorem xBi{n n':Bool}:vLe hp σ B (.bool n) (.bool n')=(n=n'):=by simp[vLe,V.pure]
theorem xMw{n n':ByteArray}:vLe hp σ B (.str n) (.str n')=(n=n'):=by simp[vLe,V.pure]
theorem xTn{e e':Nat}{xs ys:List V}:vLe hp σ B (.sl e xs) (.sl e' ys)=(e=e'∧xs=ys):=by simp[vLe,V.pure]
theorem xBd{e i o e' i' o':Nat}{xs ys:List V}:vLe hp σ B (.tptr e xs i o) (.tptr e' ys i' o')=(e=e'∧xs=ys∧i=i'∧o=o'):=by simp[vLe,V.pure]
theorem xBc:vsLe hp σ B [] []=True:=by simp[vsLe]
theorem yPq{x y:V}{xs ys:List V}:vsLe hp σ B (x::xs) (y::ys)=(vLe hp σ B x y∧vsLe hp σ B xs ys):=by
 apply propext;simp only[vsLe]
 constructor
 ·rintro⟨y',r,h,h1,h2⟩;cases h;exact⟨h1,h2⟩
 ·rintro⟨h1,h2⟩;exact⟨y,ys,rfl,h1,h2⟩
end
section
variable {hp : Heap} {B : Nat → Prop} {D : V → Prop} {k : Nat}
theorem zZt{e:Nat}{ys:List V}:zAx hp B D (k+1) .nilS (.sl e ys)=(ys=[]):=by simp only[zAx]
theorem yDn{id n e:Nat}{ys:List V}:zAx hp B D (k+1) (.obj id n) (.sl e ys)=(B id∧∃ob,hp id=some ob∧n=ob.xs.length∧e=ob.e∧all2 (zAx hp B D k) ob.xs ys):=by simp only[zAx]
theorem zVn{id n i o e i' o':Nat}{ys:List V}:zAx hp B D (k+1) (.ptr id n i o) (.tptr e ys i' o')=(B id∧∃ob,hp id=some ob∧n=ob.xs.length∧e=ob.e∧i=i'∧o=o'∧all2 (zAx hp B D k) ob.xs ys):=by simp only[zAx]
theorem xAa{id m i o w e:Nat}{ys:List V}:zAx hp B D (k+1) (.win id m i o w) (.sl e ys)=(B id∧((∃ob cs,hp id=some ob∧m=ob.xs.length∧e=1∧ob.xs[i]?=some (.agg cs)∧o+w≤cs.length∧all2 (zAx hp B D k) ((cs.drop o).take w) ys)∨∃ob,hp id=some ob∧ob.k= .arr∧m=ob.xs.length∧e=ob.e∧o=0∧i+w≤m∧all2 (zAx hp B D k) ((ob.xs.drop i).take w) ys)):=by simp only[zAx]
theorem xAg{xs ys:List V}:zAx hp B D (k+1) (.agg xs) (.agg ys)=all2 (zAx hp B D k) xs ys:=by simp only[zAx]
theorem xAb{xs ys:List V}:zAx hp B D (k+1) (.tup xs) (.tup ys)=all2 (zAx hp B D k) xs ys:=by simp only[zAx]
theorem yOw{f g:Fn}{a b c d:List V}:zAx hp B D (k+1) (.func f a b) (.func g c d)=(f=g∧all2 (zAx hp B D k) a c∧all2 (zAx hp B D k) b d):=by simp only[zAx]
theorem xAd{g:Bool}{x y:V}:zAx hp B D (k+1) (.opt g x) y=(g=true∧zAx hp B D k x y):=by cases y<;>simp only[zAx]
theorem yOt:zAx hp B D (k+1) .nilS .nilS=D .nilS:=by simp[zAx]
theorem yOu:zAx hp B D (k+1) .nilP .nilP=D .nilP:=by simp[zAx]
theorem yOv:zAx hp B D (k+1) .nilF .nilF=D .nilF:=by simp[zAx]
theorem xAf{q q':IntKind}{n n':Int}:zAx hp B D (k+1) (.int q n) (.int q' n')=((q=q'∧n=n')∧D (.int q n)):=by simp[zAx]
theorem yOx{n n':Bool}:zAx hp B D (k+1) (.bool n) (.bool n')=(n=n'∧D (.bool n)):=by simp[zAx]
theorem xAc{n n':ByteArray}:zAx hp B D (k+1) (.str n) (.str n')=(n=n'∧D (.str n)):=by simp[zAx]
theorem xLa{e e':Nat}{xs ys:List V}:zAx hp B D (k+1) (.sl e xs) (.sl e' ys)=((e=e'∧xs=ys)∧D (.sl e xs)):=by simp[zAx]
theorem yOs{e i o e' i' o':Nat}{xs ys:List V}:zAx hp B D (k+1) (.tptr e xs i o) (.tptr e' ys i' o')=((e=e'∧xs=ys∧i=i'∧o=o')∧D (.tptr e xs i o)):=by simp[zAx]
theorem xLb{R:V→V→Prop}:all2 R [] []=True:=by simp only[all2]
theorem xAm{R:V→V→Prop}{x y:V}{xs ys:List V}:all2 R (x::xs) (y::ys)=(R x y∧all2 R xs ys):=by simp only[all2]
end
attribute [go_sem] xMu xTm xTo xNb yAf yEd xBe xBf xBg xMz yLb yEc xTp xMy xMx xNc xMv xBh xNa xBi xMw xTn xBd xBc yPq
 xAa zZt yDn zVn xAg xAd yOt yOu yOv xAf yOx xAc xLa xAb yOw yOs xLb xAm
theorem zAe{P:Program}{E:zBf}{c:Code}{s:St}{Q:Exit→St→Prop}(hm:P.follows .mixedOrders=true){ι:Type}(F:ι→St)(ok:ι→Prop)(m:ι→Nat)(i0:ι)(h0:ok i0)(hle:Le s (F i0))
  (hstep:∀i,ok i→aev P E c (F i) (zRg F ok m i Q)):AW P E (.loop c) s Q:=xSw hm F ok m i0 h0 hle hstep
def zGn(s:St):Op→Option (FuncId × List V)
 | .call { callee:= .value fo,args,.. }=>match s.ev fo with
  | .func (.func f) first caps=>some (f,first++args.toList.map s.ev++caps)
  |_=>none
 |_=>none
theorem zAa{P:Program}{fid:Nat}{o:Oper}{s:St}{K:Eff→Prop}{f:FuncId}{args0:List V}{res:V}{gl:zCd}(h:FnD P f args0 res gl)(bor:List Nat)
  (hc:∃args,zGn s o.op=some (f,args)∧all2 (zAx (look s.hp) (· ∈bor) V.pure 8) args args0)
  (hb:bor=[]∨res.noRef) (hp:res.pure) (hK:res.wf→K ⟨res,[],bor⟩) (hG:∀p∈gl,look s.gl p.1=some p.2:=by simp[go_sem]):yDa P fid o s K:=by
 obtain⟨args',h1,h2⟩:=hc
 unfold zGn at h1
 split at h1
 ·rename_i fo args tys ho;split at h1
  ·rename_i f' first caps hf;cases h1
   exact⟨_,.inl ⟨⟨fo,args,tys,f,first,caps,args0,res,bor,[],gl,ho,hf,h,hG,h2,.inl ⟨rfl,hb.imp_right .inl⟩,hp,rfl⟩⟩,hK⟩
  ·cases h1
 ·cases h1
theorem zHs{P:Program}{fid:Nat}{o:Oper}{s:St}{K:Eff→Prop}{f:FuncId}{args0:List V}{res:V}{gl:zCd}(h:FnF P f args0 res gl)(bor:List Nat)
  (hc:∃args,zGn s o.op=some (f,args)∧all2 (zAx (look s.hp) (· ∈bor) V.pure 8) args args0)
  (hp:res.pure) (hK:res.wf→K ⟨res,[],bor⟩) (hG:∀p∈gl,look s.gl p.1=some p.2:=by simp[go_sem]):yDa P fid o s K:=by
 obtain⟨args',h1,h2⟩:=hc
 unfold zGn at h1
 split at h1
 ·rename_i fo args tys ho;split at h1
  ·rename_i f' first caps hf;cases h1
   exact⟨_,.inl ⟨⟨fo,args,tys,f,first,caps,args0,res,bor,[],gl,ho,hf,h.data,hG,h2,.inl ⟨rfl,.inr (.inr h)⟩,hp,rfl⟩⟩,hK⟩
  ·cases h1
 ·cases h1
theorem zBx{P:Program}{fid:Nat}{o:Oper}{s:St}{K:Eff→Prop}{f:FuncId}{args0:List V}{res:V}{gl:zCd}(h:FnD P f args0 res gl)(bor:List Nat)(fz:List (Nat × Obj))
  (hc:∃args,zGn s o.op=some (f,args)∧all2 (zAx (look s.hp) (· ∈bor) V.pure 8) args args0)
  (hz:fzOk (look s.hp) bor s.nb fz∧zZc (look s.hp) bor fz) (hp:res.pure) (hK:res.wf→K ⟨res,fz,bor⟩) (hG:∀p∈gl,look s.gl p.1=some p.2:=by simp[go_sem]):yDa P fid o s K:=by
 obtain⟨args',h1,h2⟩:=hc
 unfold zGn at h1
 split at h1
 ·rename_i fo args tys ho;split at h1
  ·rename_i f' first caps hf;cases h1
   exact⟨_,.inl ⟨⟨fo,args,tys,f,first,caps,args0,res,bor,fz,gl,ho,hf,h,hG,h2,.inr hz,hp,rfl⟩⟩,hK⟩
  ·cases h1
 ·cases h1
mutual
theorem yPm{τ:Nat→Nat}:∀ {x:V},(x.ren τ).wf→x.wf
 | .bot,h=>by simp[V.wf]
 | .bool b,h=>by simp[V.wf]
 | .int k n,h=>h
 | .str s,h=>by simp[V.wf]
 | .nilS,h=>by simp[V.wf]
 | .sl e xs,h=>h
 | .nl,h=>by simp[V.wf]
 | .sn e xs,h=>h
 | .win id n i o k,h=>by simp[V.wf]
 | .obj id n,h=>by simp[V.wf]
 | .ptr id n i o,h=>by simp[V.wf]
 | .mp id,h=>by simp[V.wf]
 | .tptr e xs i o,h=>by simp[V.wf]
 | .nilP,h=>by simp[V.wf]
 | .func fn f cs,h=>by simp[V.wf]
 | .nilF,h=>by simp[V.wf]
 | .agg cs,h=>by
  simp only[V.ren,V.wf]at h ⊢;exact zXv h
 | .tup vs,h=>by
  simp only[V.ren,V.wf]at h ⊢;exact zXv h
 | .opt g x,h=>by simp[V.wf]
theorem zXv{τ:Nat→Nat}:∀ {xs:List V},wfs (rens τ xs)→wfs xs
 |[],h=>by simp[wfs]
 |x::xs,h=>by
  simp only[rens,wfs]at h ⊢;exact⟨yPm h.1,zXv h.2⟩
end
def zJo(hp:Heap)(σ:Ren)(B:Nat→Prop):Nat→List Obj→Prop
 |_,[]=>True
 |i,o::r=>zEh hp σ B i o∧zJo hp σ B (i+1) r
theorem zLt{hp:Heap}{σ:Ren}{B:Nat→Prop}:∀ {l:List Obj} {k:Nat},zJo hp σ B k l→∀i o,l[i]?=some o→zEh hp σ B (k+i) o
 |[],_,_,i,o,h=>by simp at h
 |x::l,k,h,i,o,ho=>by
  simp only[zJo]at h;cases i with
  |zero=>simp at ho;subst ho;exact h.1
  |succ i=>have:=zLt h.2 i o (by simpa using ho);rwa [show k+1+i=k+(i+1) by omega]at this
def noRo:List Obj→Prop
 |[]=>True
 |o::r=>o.k≠ .ro∧noRo r
theorem zRz:∀ {l:List Obj},noRo l→∀o∈l,o.k≠ .ro
 |x::l,h,o,ho=>by
  simp only[noRo]at h;rcases List.mem_cons.1 ho with rfl|ho
  ·exact h.1
  ·exact zRz h.2 o ho
def zPy:List Obj→Prop
 |[]=>True
 |o::r=>zGv o.xs∧zPy r
theorem zTk:∀ {l:List Obj},zPy l→∀o∈l,zGv o.xs
 |x::l,h,o,ho=>by
  simp only[zPy]at h;rcases List.mem_cons.1 ho with rfl|ho
  ·exact h.1
  ·exact zTk h.2 o ho
def disj:List Nat→List Nat→Prop
 |[],_=>True
 |x::r,l=>x ∉ l∧disj r l
theorem yJw:∀ {a l:List Nat},disj a l→∀x∈a,x ∉ l
 |y::a,l,h,x,hx=>by
  simp only[disj]at h;rcases List.mem_cons.1 hx with rfl|hx
  ·exact h.1
  ·exact yJw h.2 x hx
def zNi:List Nat→Nat→Nat→Prop
 |[],_,_=>True
 |x::r,fid,n=>(x<fid∨fid+n≤x)∧zNi r fid n
theorem zUl:∀ {l:List Nat} {fid n:Nat},zNi l fid n→∀x∈l,x<fid∨fid+n≤x
 |y::l,fid,n,h,x,hx=>by
  simp only[zNi]at h;rcases List.mem_cons.1 hx with rfl|hx
  ·exact h.1
  ·exact zUl h.2 x hx
theorem yKd{P:Program}{fid:Nat}{o:Oper}{s:St}{f:FuncId}{obs obs':List Obj}{args0:List V}{res:V}{gl:zCd}(h:FnR P f obs args0 obs' res gl)(σ:Ren)(live bor:List Nat)(fz:List (Nat × Obj))
  (hc:∃args,zGn s o.op=some (f,args)∧vsLe (look s.hp) (σf σ) (· ∈bor) args args0)
  (hh:zTc obs.length live σ∧disj live bor∧zJo (look s.hp) σ (· ∈bor) 0 obs)
  (hn:noRo obs'∧s.nx≤fid∧zNi s.ex fid obs'.length)
  (hs:(fz=[]∧(bor=[]∨(res.noSl∧zPy obs')))∨(fzOk (look s.hp) bor s.nb fz∧zZc (look s.hp) bor fz))
  (hG:gl=[]∨gl=s.gl):yDx P o s.ev (look s.hp) (fun i=>i<s.nx∨i∈s.ex) (look s.gl) s.nb fid ⟨res.ren (τr σ fid),outU (τr σ fid) 0 obs'++fz,bor++olds σ⟩:=by
 obtain⟨args',h1,h2⟩:=hc
 unfold zGn at h1
 split at h1
 ·rename_i fo args tys ho;split at h1
  ·rename_i f' first caps hf;cases h1
   have hj:=zFg hh.1;refine⟨⟨fo,args,tys,f,first,caps,obs,args0,obs',res,σ,bor,fz,gl,ho,hf,h,fun g p hg=>?_,h2,⟨fun i j hij=>?_,fun i hi=>(hj.1 i _ hi).1,hj.2,fun i o ho=>by have:=zLt hh.2.2 i o ho;rwa [Nat.zero_add]at this⟩,zRz hn.1,fun i hi _ hk=>?_,?_,rfl⟩⟩
   ·rcases hG with rfl|rfl
    ·simp[glf,look]at hg
    ·exact hg
   ·have:=hj.1 i _ hij;exact⟨this.1,yJw hh.2.1 j (this.2 j rfl)⟩
   ·rcases hk with hk|hk
    ·omega
    ·have:=zUl hn.2.2 _ hk;omega
   ·exact hs.imp_left fun h=>⟨h.1,h.2.imp_right fun h=>⟨h.1,zTk h.2⟩⟩
  ·cases h1
 ·cases h1
theorem zAf{P:Program}{fid:Nat}{o:Oper}{s:St}{K:Eff→Prop}{f:FuncId}{obs obs':List Obj}{args0:List V}{res:V}{gl:zCd}(h:FnR P f obs args0 obs' res gl)(σ:Ren)(live bor:List Nat)(fz:List (Nat × Obj))
  (hc:∃args,zGn s o.op=some (f,args)∧vsLe (look s.hp) (σf σ) (· ∈bor) args args0)
  (hh:zTc obs.length live σ∧disj live bor∧zJo (look s.hp) σ (· ∈bor) 0 obs)
  (hn:noRo obs'∧s.nx≤fid∧zNi s.ex fid obs'.length)
  (hs:(fz=[]∧(bor=[]∨(res.noSl∧zPy obs')))∨(fzOk (look s.hp) bor s.nb fz∧zZc (look s.hp) bor fz))
  (hK:res.wf→K ⟨res.ren (τr σ fid),outU (τr σ fid) 0 obs'++fz,bor++olds σ⟩) (hG:gl=[]∨gl=s.gl:=by simp[go_sem]):yDa P fid o s K:=
 ⟨_,.inr (.inl (yKd h σ live bor fz hc hh hn hs hG)),fun hw=>hK (yPm hw)⟩
theorem zBm{P:Program}{fid:Nat}{o:Oper}{s:St}{K:Eff→Prop}{f:FuncId}{obs:List Obj}{args0:List V}{res:V}{gl:zCd}(h:FnR P f obs args0 obs res gl)(σ:Ren)(live:List Nat)
  (hc:∃args,zGn s o.op=some (f,args)∧vsLe (look s.hp) (σf σ) (· ∈([]:List Nat)) args args0)
  (hh:zTc obs.length live σ∧disj live []∧zJo (look s.hp) σ (· ∈([]:List Nat)) 0 obs)
  (hn:noRo obs∧s.nx≤fid∧zNi s.ex fid obs.length)
  (hs:∀p∈outU (τr σ fid) 0 obs,look s.hp p.1=some p.2)
  (hK:res.wf→K ⟨res.ren (τr σ fid),[],olds σ++(outU (τr σ fid) 0 obs).map (·.1)⟩) (hG:gl=[]∨gl=s.gl:=by simp[go_sem]):yDa P fid o s K:=by
 have hr:=yKd h σ live [] [] hc hh hn (.inl ⟨rfl,.inl rfl⟩) hG
 refine⟨_,.inr (.inr (.inr ⟨_,hr,fun p hp=>hs p (by simpa using hp),rfl⟩)),fun hw=>?_⟩
 have:=hK (yPm hw)
 simpa[Eff.ids] using this
def yHd(s:St):Op→Option (FuncId × List V)
 | .call { callee:= .value fo,args,.. }=>match s.ev fo with
  | .func (.func f) [] []=>some (f,args.toList.map s.ev)
  |_=>none
 |_=>none
theorem yZe{P:Program}{fid:Nat}{o:Oper}{s:St}{K:Eff→Prop}{f:FuncId}{args0:List V}{res:V}(h:FnX P f args0 res)(bor:List Nat)(hc:∃args,yHd s o.op=some (f,args)∧all2 (zAx (look s.hp) (· ∈bor) V.pure 8) args args0)(hK:res.wf→K ⟨res,[],bor⟩):yDa P fid o s K:=by
 obtain⟨args',hc,h2⟩:=hc
 unfold yHd at hc
 split at hc
 ·rename_i fo args tys ho;split at hc
  ·rename_i f' hf;cases hc
   exact⟨_,.inr (.inr (.inl ⟨fo,args,tys,f,args0,res,bor,ho,hf,h,h2,rfl⟩)),hK⟩
  ·cases hc
 ·cases hc
attribute [go_sem] yHd
theorem xDn{k:Nat}:obsL k []=[]:=rfl
theorem ySe{k:Nat}{x:Obj}{r:List Obj}:obsL k (x::r)=(k,x)::obsL (k+1) r:=by simp[obsL,List.range'_succ]
attribute [go_sem] xDn ySe zGn zJo noRo zPy disj zNi
theorem zAj{P:Program}{fid:Nat}{o:Oper}{s:St}{K:Eff→Prop}{f:FuncId}{args0:List V}{b:Bool}{gl:zCd}(h:FnD P f args0 (.bool b) gl)(bor:List Nat)
  (hc:∃args,zGn s o.op=some (f,args)∧all2 (zAx (look s.hp) (· ∈bor) V.pure 8) args args0)
  (h1:b=true→K ⟨.bool true,[],bor⟩) (h2:b=false→K ⟨.bool false,[],bor⟩) (hG:∀p∈gl,look s.gl p.1=some p.2:=by simp[go_sem])   : yDa P fid o s K:=by
 refine zAa h bor hc (.inr (by simp[V.noRef])) (by simp[V.pure]) (fun _=>?_) hG
 cases b with
 |true=>exact h1 rfl
 |false=>exact h2 rfl
end Go.AM
