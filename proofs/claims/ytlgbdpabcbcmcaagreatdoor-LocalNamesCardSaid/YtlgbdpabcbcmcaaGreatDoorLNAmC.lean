/- The abstract machine: calls. -/
import Derived.Test.YtlgbdpabcbcmcaaGreatDoorLNAmB
set_option linter.unusedSimpArgs false
set_option linter.unusedVariables false
namespace Go.AM
open Go.RowKit
mutual
def V.pure:V→Prop
 | .bot | .obj _ _ | .ptr _ _ _ _ | .win _ _ _ _ _ | .opt _ _ | .mp _=>False
 | .func _ a b=>zBa a∧zBa b
 | .agg cs=>zBa cs
 | .tup vs=>zBa vs
 |_=>True
def zBa:List V→Prop
 |[]=>True
 |x::r=>x.pure∧zBa r
end
mutual
def V.noRef:V→Prop
 | .bool _ | .int _ _ | .str _ | .nilS | .nilP | .nilF=>True
 | .agg cs=>zOf cs
 | .tup vs=>zOf vs
 |_=>False
def zOf:List V→Prop
 |[]=>True
 |x::r=>x.noRef∧zOf r
end
mutual
def V.noSl:V→Prop
 | .sl _ _ | .sn _ _ | .tptr _ _ _ _=>False
 | .func _ a b=>zGv a∧zGv b
 | .agg cs=>zGv cs
 | .tup vs=>zGv vs
 | .opt _ x=>x.noSl
 |_=>True
def zGv:List V→Prop
 |[]=>True
 |x::r=>x.noSl∧zGv r
end
mutual
theorem zGo{c:Ctx}:∀(x:V) (v:Value),x.pure→RV c x v→RV { c with data:=true } x v
 | .bot,v,hp,h=>by simp[V.pure]at hp
 | .bool b,v,hp,h=>by simpa only[RV] using h
 | .int k n,v,hp,h=>by simpa only[RV] using h
 | .str s,v,hp,h=>by simpa only[RV] using h
 | .nilS,v,hp,h=>by simpa only[RV] using h
 | .sl e xs,v,hp,h=>by simpa only[RV] using h
 | .nl,v,hp,h=>by simpa only[RV] using h
 | .sn e xs,v,hp,h=>by simpa only[RV] using h
 | .win id n i o k,v,hp,h=>by simp[V.pure]at hp
 | .obj id n,v,hp,h=>by simp[V.pure]at hp
 | .ptr id n i o,v,hp,h=>by simp[V.pure]at hp
 | .mp id,v,hp,h=>by simp[V.pure]at hp
 | .tptr e xs i o,v,hp,h=>by simpa only[RV] using h
 | .nilP,v,hp,h=>by simpa only[RV] using h
 | .func fn f cs,v,hp,h=>by
  simp only[RV,V.pure]at h hp ⊢;obtain⟨f1,c1,hv,h1,h2⟩:=h;exact⟨f1,c1,hv,zPl _ _ hp.1 h1,zPl _ _ hp.2 h2⟩
 | .nilF,v,hp,h=>by simpa only[RV] using h
 | .agg cs,v,hp,h=>by
  simp only[RV,V.pure]at h hp ⊢;obtain⟨cv,hv,h1,h2⟩:=h;exact⟨cv,hv,zPl _ _ hp h1,h2⟩
 | .tup vs,v,hp,h=>by
  simp only[RV,V.pure]at h hp ⊢;obtain⟨cv,hv,h1⟩:=h;exact⟨cv,hv,zPl _ _ hp h1⟩
 | .opt g x,v,hp,h=>by simp[V.pure]at hp
theorem zPl{c:Ctx}:∀(xs:List V) (us:List Value),zBa xs→RVl c xs us→RVl { c with data:=true } xs us
 |[],us,hp,h=>by simpa only[RVl] using h
 |x::xs,us,hp,h=>by
  simp only[RVl,zBa]at h hp ⊢;obtain⟨u,r,hu,h1,h2⟩:=h;exact⟨u,r,hu,zGo x u hp.1 h1,zPl xs r hp.2 h2⟩
end
mutual
theorem zDu{c c':Ctx}:∀(x:V) (v:Value),x.noRef→RV c x v→RV c' x v
 | .bot,v,hp,h=>by simp[V.noRef]at hp
 | .bool b,v,hp,h=>by simpa only[RV] using h
 | .int k n,v,hp,h=>by simpa only[RV] using h
 | .str s,v,hp,h=>by simpa only[RV] using h
 | .nilS,v,hp,h=>by simpa only[RV] using h
 | .sl e xs,v,hp,h=>by simp[V.noRef]at hp
 | .nl,v,hp,h=>by simp[V.noRef]at hp
 | .sn e xs,v,hp,h=>by simp[V.noRef]at hp
 | .win id n i o k,v,hp,h=>by simp[V.noRef]at hp
 | .obj id n,v,hp,h=>by simp[V.noRef]at hp
 | .ptr id n i o,v,hp,h=>by simp[V.noRef]at hp
 | .mp id,v,hp,h=>by simp[V.noRef]at hp
 | .tptr e xs i o,v,hp,h=>by simp[V.noRef]at hp
 | .nilP,v,hp,h=>by simpa only[RV] using h
 | .func fn f cs,v,hp,h=>by simp[V.noRef]at hp
 | .nilF,v,hp,h=>by simpa only[RV] using h
 | .agg cs,v,hp,h=>by
  simp only[RV,V.noRef]at h hp ⊢;obtain⟨cv,hv,h1,h2⟩:=h;exact⟨cv,hv,zVc _ _ hp h1,h2⟩
 | .tup vs,v,hp,h=>by
  simp only[RV,V.noRef]at h hp ⊢;obtain⟨cv,hv,h1⟩:=h;exact⟨cv,hv,zVc _ _ hp h1⟩
 | .opt g x,v,hp,h=>by simp[V.noRef]at hp
theorem zVc{c c':Ctx}:∀(xs:List V) (us:List Value),zOf xs→RVl c xs us→RVl c' xs us
 |[],us,hp,h=>by simpa only[RVl] using h
 |x::xs,us,hp,h=>by
  simp only[RVl,zOf]at h hp ⊢;obtain⟨u,r,hu,h1,h2⟩:=h;exact⟨u,r,hu,zDu x u hp.1 h1,zVc xs r hp.2 h2⟩
end
def all2(R:V→V→Prop):List V→List V→Prop
 |[],[]=>True
 |x::xs,y::ys=>R x y∧all2 R xs ys
 |_,_=>False
def zAx(hp:Heap)(B:Nat→Prop)(D:V→Prop):Nat→V→V→Prop
 |0,x,y=>x=y∧D x
 |n+1,x,y=>match x,y with
  | .nilS,.sl _ ys=>ys=[]
  | .obj id m,.sl e ys=>B id∧∃ob,hp id=some ob∧m=ob.xs.length∧e=ob.e∧all2 (zAx hp B D n) ob.xs ys
  | .ptr id m i o,.tptr e ys i' o'=>B id∧∃ob,hp id=some ob∧m=ob.xs.length∧e=ob.e∧i=i'∧o=o'∧all2 (zAx hp B D n) ob.xs ys
  | .win id m i o k,.sl e ys=>B id∧((∃ob cs,hp id=some ob∧m=ob.xs.length∧e=1∧ob.xs[i]?=some (.agg cs)∧o+k≤cs.length∧all2 (zAx hp B D n) ((cs.drop o).take k) ys) ∨
    ∃ob,hp id=some ob∧ob.k= .arr∧m=ob.xs.length∧e=ob.e∧o=0∧i+k≤m∧all2 (zAx hp B D n) ((ob.xs.drop i).take k) ys)
  | .agg xs,.agg ys=>all2 (zAx hp B D n) xs ys
  | .tup xs,.tup ys=>all2 (zAx hp B D n) xs ys
  | .func f a b,.func g c d=>f=g∧all2 (zAx hp B D n) a c∧all2 (zAx hp B D n) b d
  | .opt g x,y=>g=true∧zAx hp B D n x y
  |x,y=>x=y∧D x
theorem zDq{c c':Ctx}{R:V→V→Prop}(h:∀x y v,R x y→RV c x v→RV c' y v):∀(xs ys:List V) (us:List Value),all2 R xs ys→RVl c xs us→RVl c' ys us
 |[],[],us,_,hx=>by simpa only[RVl] using hx
 |x::xs,y::ys,us,hr,hx=>by
  simp only[all2]at hr;simp only[RVl]at hx ⊢;obtain⟨u,r,rfl,h1,h2⟩:=hx;exact⟨u,r,rfl,h x y u hr.1 h1,zDq h xs ys r hr.2 h2⟩
 |[],_::_,us,hr,_=>hr.elim
 |_::_,[],us,hr,_=>hr.elim
theorem zDz{R:V→V→Prop}:∀ {xs ys:List V},all2 R xs ys→xs.length=ys.length
 |[],[],_=>rfl
 |_::_,_::_,h=>by simp only[all2]at h;simp[zDz h.2]
 |[],_::_,h=>h.elim
 |_::_,[],h=>h.elim
theorem zEy{c:Ctx}{c':Ctx}(hl:Laid c)(hcd:c.data=false)(hw:c'.w=c.w){B:Nat→Prop}{D:V→Prop}(hD:∀x v,D x→RV c x v→RV { c' with data:=true } x v)
  (hO:∀id ob b,B id→c.hp id=some ob→blk (c.η id)=some b→¬c'.O b):∀(n:Nat) (x y:V) (v:Value),zAx c.hp B D n x y→RV c x v→RV { c' with data:=true } y v
 |0,x,y,v,h,hx=>by
  simp only[zAx]at h;obtain⟨rfl,h⟩:=h;exact hD _ _ h hx
 |n+1,x,y,v,h,hx=>by
  have ih:=fun x y v=>zEy hl hcd hw hD hO n x y v
  unfold zAx at h;split at h
  ·subst h;simp only[RV]at hx ⊢;exact⟨none,0,[],by simpa using hx,by simp,by simp,by simp[RVl],by simp,by simp[flat],.inl trivial⟩
  ·rename_i id m e ys;obtain⟨hb,ob,hid,hn,rfl,hel⟩:=h;simp only[RV]at hx ⊢;obtain⟨_,_,_,hx⟩:=hx;simp only[hid]at hx;obtain⟨hpos,hkn,hlen,us,r1,r2,r3,r4⟩:=zKz hl hcd hid hx.1;have hη:=hx.2.2 hn;have hl:=zDz hel;have r1':=zDq ih _ _ us hel r1;have hkro:∀g,blk (c.η id)=some g→¬c'.O g:=fun g hg=>hO id ob g hb hid hg
   rcases r4.2 with ⟨h3,h4⟩|⟨g,cp,cur,h3,_,hg,hnc,_⟩
   ·have hxs:ob.xs=[]:=List.eq_nil_of_length_eq_zero h4;have hys:ys=[]:=List.eq_nil_of_length_eq_zero (by rw[← hl,hxs];rfl)
    exact⟨none,0,us,by rw[hη,h3,hys];rfl,by simp[hys],by simp[hys],r1',r2,r3,.inl hys⟩
   ·exact⟨some ⟨g,0,none⟩,cp,us,by rw[hη,h3,← hl],by rw[← hl];exact hnc,by rw[← hl];exact hlen,r1',r2,r3,.inr ⟨g,0,rfl,hkro g (by rw[h3];rfl),by rw[hw];exact(Array.getElem?_eq_some_iff.1 hg).1,by rw[hw];exact zEo r4 (by rw[h3];rfl)⟩⟩
  ·rename_i id m i o e ys i' o';obtain⟨hb,ob,hid,hn,rfl,rfl,rfl,hel⟩:=h;simp only[RV]at hx ⊢;obtain⟨_,_,_,hx⟩:=hx;simp only[hid]at hx;obtain⟨hpos,hkn,hlen,us,r1,r2,r3,r4⟩:=zKz hl hcd hid hx.1;obtain⟨g,hg,hv⟩:=hx.2.2 hn;have r1':=zDq ih _ _ us hel r1;have hlt:g<c.w.heap.size:=by rw[zIo r4]at hg;exact(r4.lt g hg).2
   exact⟨g,0,us,r1',r2,hO id ob g hb hid hg,by rw[hw];exact hlt,by rw[hw];exact zEo r4 hg,by rw[hv];simp⟩
  ·rename_i id m i o k e ys;obtain⟨hb,h⟩:=h;rcases h with ⟨ob,cs,hid,hn,rfl,hcs,hlk,hel⟩|⟨ob,hid,hka,hn,rfl,rfl,hik,hel⟩
   rotate_left
   ·simp only[RV]at hx ⊢;obtain⟨_,_,_,hx⟩:=hx;simp only[hid]at hx;obtain⟨hpos,hkn,hlen,us,r1,r2,r3,r4⟩:=zKz hl hcd hid hx.1;obtain⟨g,cp,hg,hv,hkc,hkl⟩:=hx.2.2 hn;have hl2:=zDz hel;have hul:=zAp r1;have hlt:g<c.w.heap.size:=by rw[zIo r4]at hg;exact(r4.lt g hg).2
    have hlk':((ob.xs.drop i).take k).length=k:=by rw[List.length_take,List.length_drop];omega
    have r1':=zDq ih _ _ ((us.drop i).take k) hel (zEf k (zFp i r1));have hys:ys.length=k:=by rw[← hl2,hlk']
    have hfd:flat ((us.drop i).take k)=((flat us).take ((i+k)*ob.e)).drop (i*ob.e):=by
     rw[← zCn r2 i (i+k),List.drop_take]
     congr 2;omega
    refine⟨some ⟨g,i*ob.e+0,none⟩,cp,(us.drop i).take k,by rw[hv,hys],by omega,by omega,r1',fun x hx=>r2 x (List.mem_of_mem_drop (List.mem_of_mem_take hx)),fun x hx=>?_,.inr ⟨g,i*ob.e+0,rfl,hO id ob g hb hid hg,by rw[hw];exact hlt,?_⟩⟩
    ·obtain⟨v,hv',hyv⟩:=List.mem_flatMap.1 hx;exact r3 x (zFh (List.mem_of_mem_drop (List.mem_of_mem_take hv')) hyv)
    ·rw[hw,hfd];intro j x hj;rw[List.getElem?_drop,List.getElem?_take]at hj;split at hj
     ·have:=zEo r4 hg _ x hj;rw[show i*ob.e+0+j=0+(i*ob.e+j) by omega]
      exact this
     ·cases hj
   simp only[RV]at hx ⊢;obtain⟨_,_,_,hx⟩:=hx;simp only[hid]at hx;obtain⟨hpos,hkn,hlen,us,r1,r2,r3,r4⟩:=zKz hl hcd hid hx.1;obtain⟨g,cp,hg,hv,hkc,hkl⟩:=hx.2.2 hn;have hl2:=zDz hel;have hlt:g<c.w.heap.size:=by rw[zIo r4]at hg;exact(r4.lt g hg).2
   obtain⟨u,hu,hru⟩:=zDa r1 i _ hcs;simp only[RV]at hru;obtain⟨cv,rfl,hc1,hc2⟩:=hru;have hcl:=zAp hc1;have hue:cv.size=ob.e:=r2 _ (List.mem_of_getElem? hu);have hlk':((cs.drop o).take k).length=k:=by rw[List.length_take,List.length_drop];omega
   have r1':=zDq ih _ _ ((cv.toList.drop o).take k) hel (zEf k (zFp o hc1));have hone:∀x∈(cv.toList.drop o).take k,x.oneCell'=true:=fun x hx=>hc2 x (List.mem_of_mem_drop (List.mem_of_mem_take hx))
   have hflat:flat ((cv.toList.drop o).take k)=(cv.toList.drop o).take k:=zEq hone;have hys:ys.length=k:=by rw[← hl2,hlk']
   refine⟨some ⟨g,i*ob.e+o,none⟩,cp,(cv.toList.drop o).take k,by rw[hv,hys],by omega,by omega,r1',fun x hx=>by rw[zEs (hone x hx)];rfl,by rw[hflat];exact hone,.inr ⟨g,i*ob.e+o,rfl,hO id ob g hb hid hg,by rw[hw];exact hlt,?_⟩⟩
   rw[hw,hflat];intro j x hj;have hrow:=zEo r4 hg;have hjk:j<k:=by
    have:=(List.getElem?_eq_some_iff.1 hj).1;rw[List.length_take,List.length_drop]at this;omega
   rw[List.getElem?_take,if_pos hjk,List.getElem?_drop]at hj;have hat:(flat us)[i*ob.e+(o+j)]?=some x:=by
    have hjo:=(List.getElem?_eq_some_iff.1 hj).1;rw[zOv r2 i _ hu (o+j) (by simp at hjo;omega)]
    simpa[Value.cells] using hj
   have:=hrow _ x hat
   rw[show 0+(i*ob.e+(o+j))=i*ob.e+o+j by omega]at this
   exact this
  ·rename_i xs ys;simp only[RV]at hx ⊢;obtain⟨cv,hv,h1,h2⟩:=hx;exact⟨cv,hv,zDq ih _ _ _ h h1,h2⟩
  ·rename_i xs ys;simp only[RV]at hx ⊢;obtain⟨cv,hv,h1⟩:=hx;exact⟨cv,hv,zDq ih _ _ _ h h1⟩
  ·rename_i f a1 b1 g c1 d1;obtain⟨rfl,h1,h2⟩:=h;simp only[RV]at hx ⊢;obtain⟨f1,g1,hv,g2,g3⟩:=hx;exact⟨f1,g1,hv,zDq ih _ _ _ h1 g2,zDq ih _ _ _ h2 g3⟩
  ·rename_i g x;simp only[RV]at hx;exact ih _ _ _ h.2 (hx.2.1 h.1)
  ·obtain⟨rfl,h⟩:=h;exact hD _ _ h hx
abbrev Ren:=List (Nat × Option Nat)
mutual
def vLe(hp:Heap)(σ:Nat→Option (Option Nat))(B:Nat→Prop):V→V→Prop
 |_,.bot=>True
 | .nilS,.obj id n=>n=0∧σ id=some none
 | .nilS,.sl _ ys=>ys=[]
 | .obj id n,.obj id' n'=>n=n'∧σ id'=some (some id)
 | .obj id n,.sl e ys=>zAx hp B V.pure 8 (.obj id n) (.sl e ys)
 | .ptr id n i o,.ptr id' n' i' o'=>n=n'∧i=i'∧o=o'∧σ id'=some (some id)
 | .ptr id n i o,.tptr e ys i' o'=>zAx hp B V.pure 8 (.ptr id n i o) (.tptr e ys i' o')
 | .win id n i o k,.win id' n' i' o' k'=>n=n'∧i=i'∧o=o'∧k=k'∧σ id'=some (some id)
 | .win id n i o k,.sl e ys=>zAx hp B V.pure 8 (.win id n i o k) (.sl e ys)
 | .mp id,.mp id'=>σ id'=some (some id)
 | .agg xs,.agg ys=>vsLe hp σ B xs ys
 | .tup xs,.tup ys=>vsLe hp σ B xs ys
 | .func f a b,.func g c d=>f=g∧vsLe hp σ B a c∧vsLe hp σ B b d
 | .opt g x,y=>g=true∧vLe hp σ B x y
 |x,y=>x=y∧x.pure
def vsLe(hp:Heap)(σ:Nat→Option (Option Nat))(B:Nat→Prop):List V→List V→Prop
 |[],ys=>ys=[]
 |x::xs,ys=>∃y r,ys=y::r∧vLe hp σ B x y∧vsLe hp σ B xs r
end
def look{α:Type}:List (Nat × α)→Nat→Option α
 |[],_=>none
 |(k,x)::r,t=>if t=k then some x else look r t
def σf(l:Ren)(id:Nat):Option (Option Nat):=look l id
theorem zJg{hp:Heap}{σ:Nat→Option (Option Nat)}{B:Nat→Prop}:∀ {xs ys:List V},vsLe hp σ B xs ys→ys.length=xs.length
 |[],ys,h=>by simp only[vsLe]at h;simp[h]
 |x::xs,ys,h=>by
  simp only[vsLe]at h;obtain⟨y,r,rfl,_,h2⟩:=h;simp[zJg h2]
structure zQn(c c':Ctx)(σ:Nat→Option (Option Nat))(B:Nat→Prop):Prop where
 laid:Laid c
 w:c'.w=c.w
 d:c.data=false
 d':c'.data=false
 O:∀b,c'.O b→c.O b
 B:∀id ob b,B id→c.hp id=some ob→blk (c.η id)=some b→¬c'.O b
 ren:∀i j,σ i=some (some j)→c'.kn i∧c'.η i=c.η j∧∀o',c'.hp i=some o'→∃o,c.hp j=some o∧o'.xs.length=o.xs.length∧o'.e=o.e∧(o'.k= .map↔o.k= .map)
 new:∀i,σ i=some none→c'.kn i∧c'.η i= .slice none 0 0∧∀o',c'.hp i=some o'→o'.k≠ .map
theorem zEu{c:Ctx}(hc:c.data=false){v:Value}:RV c .bot v:=by simp only[RV];exact hc
section
variable {c c' : Ctx} {σ : Nat → Option (Option Nat)} {B : Nat → Prop}
theorem zQn.keepD(T:zQn c c' σ B):zGy { c with data:=true } { c' with data:=true }:=
 ⟨by rw[T.w];exact Nat.le_refl _,fun _ _ _ _=>by rw[T.w],fun b _ hO=>T.O b hO,rfl,by simp,by simp⟩
theorem zQn.ofD(T:zQn c c' σ B){x:V}{v:Value}(h:RV { c' with data:=true } x v):RV c' x v:=by
 have:=zLi (c:=c') x v h
 have hc:({ c' with data:=false }:Ctx)=c':=by have:=T.d';cases c';simp_all
 rwa [hc]at this
theorem zQn.plain(T:zQn c c' σ B)(x y:V)(v:Value)(h:x=y∧x.pure)(hx:RV c x v):RV c' y v:=by
 obtain⟨rfl,hp⟩:=h
 exact T.ofD (zBg T.keepD _ _ (zGo x v hp hx))
theorem zQn.arg(T:zQn c c' σ B){n:Nat}(x y:V)(v:Value)(h:zAx c.hp B V.pure n x y)(hx:RV c x v):RV c' y v:=
 T.ofD (zEy T.laid T.d T.w (fun x v hp hx=>zBg T.keepD _ _ (zGo x v hp hx)) T.B n x y v h hx)
mutual
theorem zKg(T:zQn c c' σ B):∀(x y:V) (v:Value),vLe c.hp σ B x y→RV c x v→RV c' y v
 | .nilS,y,v,h,hx=>by
  cases y with
  |bot=>exact zEu T.d'
  |obj id n=>
   simp only[vLe]at h;obtain⟨rfl,h⟩:=h;obtain⟨h1,h2,h3⟩:=T.new id h;simp only[RV]at hx ⊢;refine⟨⟨_,_,_,hx⟩,T.d',h1,?_⟩;cases ho:c'.hp id with
   |none=>trivial
   |some o'=>exact⟨h3 o' ho,Nat.zero_le _,fun _=>by rw[hx,h2]⟩
  |sl e ys=>
   simp only[vLe]at h;subst h;simp only[RV]at hx ⊢;exact⟨none,0,[],by simpa using hx,by simp,by simp,by simp[RVl],by simp,by simp[flat],.inl trivial⟩
  |_=>exact T.plain _ _ v (by simpa only[vLe] using h) hx
 | .obj id n,y,v,h,hx=>by
  cases y with
  |bot=>exact zEu T.d'
  |obj id' n'=>
   simp only[vLe]at h;obtain⟨rfl,h⟩:=h;obtain⟨h1,h2,h3⟩:=T.ren id' id h;simp only[RV]at hx ⊢;obtain⟨hz,_,_,hx⟩:=hx;refine⟨hz,T.d',h1,?_⟩;cases ho:c'.hp id' with
   |none=>trivial
   |some o'=>
    obtain⟨o,g1,g2,g3,g4⟩:=h3 o' ho;rw[g1]at hx;exact⟨fun hk=>hx.1 (g4.1 hk),by rw[g2];exact hx.2.1,fun hn=>by rw[h2];exact hx.2.2 (by rw[← g2];exact hn)⟩
  |sl e ys=>exact T.arg _ _ v (by simpa only[vLe] using h) hx
  |_=>exact T.plain _ _ v (by simpa only[vLe] using h) hx
 | .ptr id n i o,y,v,h,hx=>by
  cases y with
  |bot=>exact zEu T.d'
  |ptr id' n' i' o'=>
   simp only[vLe]at h;obtain⟨rfl,rfl,rfl,h⟩:=h;obtain⟨h1,h2,h3⟩:=T.ren id' id h;simp only[RV]at hx ⊢;obtain⟨hz,_,_,hx⟩:=hx;refine⟨hz,T.d',h1,?_⟩;cases ho:c'.hp id' with
   |none=>trivial
   |some o'=>
    obtain⟨o,g1,g2,g3,g4⟩:=h3 o' ho;rw[g1]at hx;exact⟨fun hk=>hx.1 (g4.1 hk),by rw[g2];exact hx.2.1,fun hn=>by rw[h2,g3];exact hx.2.2 (by rw[← g2];exact hn)⟩
  |tptr e ys i' o'=>exact T.arg _ _ v (by simpa only[vLe] using h) hx
  |_=>exact T.plain _ _ v (by simpa only[vLe] using h) hx
 | .win id n i o k,y,v,h,hx=>by
  cases y with
  |bot=>exact zEu T.d'
  |win id' n' i' o' k'=>
   simp only[vLe]at h;obtain⟨rfl,rfl,rfl,rfl,h⟩:=h;obtain⟨h1,h2,h3⟩:=T.ren id' id h;simp only[RV]at hx ⊢;obtain⟨hz,_,_,hx⟩:=hx;refine⟨hz,T.d',h1,?_⟩;cases ho:c'.hp id' with
   |none=>trivial
   |some o'=>
    obtain⟨o,g1,g2,g3,g4⟩:=h3 o' ho;rw[g1]at hx;exact⟨fun hk=>hx.1 (g4.1 hk),by rw[g2];exact hx.2.1,fun hn=>by rw[h2,g3];exact hx.2.2 (by rw[← g2];exact hn)⟩
  |sl e ys=>exact T.arg _ _ v (by simpa only[vLe] using h) hx
  |_=>exact T.plain _ _ v (by simpa only[vLe] using h) hx
 | .mp id,y,v,h,hx=>by
  cases y with
  |bot=>exact zEu T.d'
  |mp id'=>
   simp only[vLe]at h;obtain⟨h1,h2,h3⟩:=T.ren id' id h;simp only[RV]at hx ⊢;obtain⟨hz,_,_,hx⟩:=hx;refine⟨hz,T.d',h1,?_⟩;cases ho:c'.hp id' with
   |none=>trivial
   |some o'=>
    obtain⟨o,g1,g2,g3,g4⟩:=h3 o' ho;rw[g1]at hx;exact⟨g4.2 hx.1,by rw[h2];exact hx.2⟩
  |_=>exact T.plain _ _ v (by simpa only[vLe] using h) hx
 | .agg xs,y,v,h,hx=>by
  cases y with
  |bot=>exact zEu T.d'
  |agg ys=>
   simp only[vLe]at h;simp only[RV]at hx ⊢;obtain⟨cv,hv,h1,h2⟩:=hx;exact⟨cv,hv,zFt T xs ys _ h h1,h2⟩
  |_=>exact T.plain _ _ v (by simpa only[vLe] using h) hx
 | .tup xs,y,v,h,hx=>by
  cases y with
  |bot=>exact zEu T.d'
  |tup ys=>
   simp only[vLe]at h;simp only[RV]at hx ⊢;obtain⟨cv,hv,h1⟩:=hx;exact⟨cv,hv,zFt T xs ys _ h h1⟩
  |_=>exact T.plain _ _ v (by simpa only[vLe] using h) hx
 | .func f p q,y,v,h,hx=>by
  cases y with
  |bot=>exact zEu T.d'
  |func g c d=>
   simp only[vLe]at h;obtain⟨rfl,h1,h2⟩:=h;simp only[RV]at hx ⊢;obtain⟨f1,c1,hv,g1,g2⟩:=hx;exact⟨f1,c1,hv,zFt T p c _ h1 g1,zFt T q d _ h2 g2⟩
  |_=>exact T.plain _ _ v (by simpa only[vLe] using h) hx
 | .opt g x,y,v,h,hx=>by
  simp only[RV]at hx;cases y with
  |bot=>exact zEu T.d'
  |_=>
   simp only[vLe]at h;exact zKg T x _ v h.2 (hx.2.1 h.1)
 | .bot,y,v,h,hx=>by
  cases y with
  |bot=>exact zEu T.d'
  |_=>exact T.plain _ _ v (by simpa only[vLe] using h) hx
 | .bool _,y,v,h,hx=>by
  cases y with
  |bot=>exact zEu T.d'
  |_=>exact T.plain _ _ v (by simpa only[vLe] using h) hx
 | .int _ _,y,v,h,hx=>by
  cases y with
  |bot=>exact zEu T.d'
  |_=>exact T.plain _ _ v (by simpa only[vLe] using h) hx
 | .str _,y,v,h,hx=>by
  cases y with
  |bot=>exact zEu T.d'
  |_=>exact T.plain _ _ v (by simpa only[vLe] using h) hx
 | .sl _ _,y,v,h,hx=>by
  cases y with
  |bot=>exact zEu T.d'
  |_=>exact T.plain _ _ v (by simpa only[vLe] using h) hx
 | .nl,y,v,h,hx=>by
  cases y with
  |bot=>exact zEu T.d'
  |_=>exact T.plain _ _ v (by simpa only[vLe] using h) hx
 | .sn _ _,y,v,h,hx=>by
  cases y with
  |bot=>exact zEu T.d'
  |_=>exact T.plain _ _ v (by simpa only[vLe] using h) hx
 | .tptr _ _ _ _,y,v,h,hx=>by
  cases y with
  |bot=>exact zEu T.d'
  |_=>exact T.plain _ _ v (by simpa only[vLe] using h) hx
 | .nilP,y,v,h,hx=>by
  cases y with
  |bot=>exact zEu T.d'
  |_=>exact T.plain _ _ v (by simpa only[vLe] using h) hx
 | .nilF,y,v,h,hx=>by
  cases y with
  |bot=>exact zEu T.d'
  |_=>exact T.plain _ _ v (by simpa only[vLe] using h) hx
theorem zFt(T:zQn c c' σ B):∀(xs ys:List V) (us:List Value),vsLe c.hp σ B xs ys→RVl c xs us→RVl c' ys us
 |[],ys,us,h,hx=>by
  simp only[vsLe]at h;subst h;simpa only[RVl] using hx
 |x::xs,ys,us,h,hx=>by
  simp only[vsLe]at h;obtain⟨y,r,rfl,h1,h2⟩:=h;simp only[RVl]at hx ⊢;obtain⟨u,q,hu,g1,g2⟩:=hx;exact⟨u,q,hu,zKg T x y u h1 g1,zFt T xs r q h2 g2⟩
end
end
mutual
def V.ren(τ:Nat→Nat):V→V
 | .obj id n=> .obj (τ id) n
 | .ptr id n i o=> .ptr (τ id) n i o
 | .win id n i o k=> .win (τ id) n i o k
 | .mp id=> .mp (τ id)
 | .func f a b=> .func f (rens τ a) (rens τ b)
 | .agg cs=> .agg (rens τ cs)
 | .tup vs=> .tup (rens τ vs)
 | .opt g x=> .opt g (x.ren τ)
 |x=>x
def rens(τ:Nat→Nat):List V→List V
 |[]=>[]
 |x::r=>x.ren τ::rens τ r
end
theorem zDx(τ:Nat→Nat):∀xs:List V,(rens τ xs).length=xs.length
 |[]=>rfl
 |x::r=>by simp[rens,zDx τ r]
structure Rens(c c':Ctx)(τ:Nat→Nat):Prop where
 w:c'.w=c.w
 d:c.data=false
 d':c'.data=false
 at_:∀i,c.kn i→c'.kn (τ i)∧c'.η (τ i)=c.η i∧(∀o',c'.hp (τ i)=some o'→∃o,c.hp i=some o∧o'.xs.length=o.xs.length∧o'.e=o.e∧(o'.k= .map↔o.k= .map))
section
variable {c c' : Ctx} {τ : Nat → Nat}
mutual
theorem zTb(T:Rens c c' τ):∀(x:V) (v:Value),(x.noSl∨∀b,c'.O b→c.O b)→RV c x v→RV c' (x.ren τ) v
 | .bot,v,hO,h=>by simp only[V.ren,RV];exact T.d'
 | .bool b,v,hO,h=>by simpa only[V.ren,RV] using h
 | .int k n,v,hO,h=>by simpa only[V.ren,RV] using h
 | .str s,v,hO,h=>by simpa only[V.ren,RV] using h
 | .nilS,v,hO,h=>by simpa only[V.ren,RV] using h
 | .nilP,v,hO,h=>by simpa only[V.ren,RV] using h
 | .nilF,v,hO,h=>by simpa only[V.ren,RV] using h
 | .sl e xs,v,hO,h=>by
  have hO:=hO.resolve_left (by simp[V.noSl])
  have K:zGy { c with data:=true } { c' with data:=true }:=⟨by rw[T.w];exact Nat.le_refl _,fun _ _ _ _=>by rw[T.w],fun b _=>hO b,rfl,by simp,by simp⟩
  have:=zLi (c:=c') _ _ (zBg K _ _ (zGo (c:=c) (.sl e xs) v (by simp[V.pure]) h))
  have hc:({ c' with data:=false }:Ctx)=c':=by have:=T.d';cases c';simp_all
  rwa [hc]at this
 | .sn e xs,v,hO,h=>by
  have hO:=hO.resolve_left (by simp[V.noSl])
  have K:zGy { c with data:=true } { c' with data:=true }:=⟨by rw[T.w];exact Nat.le_refl _,fun _ _ _ _=>by rw[T.w],fun b _=>hO b,rfl,by simp,by simp⟩
  have:=zLi (c:=c') _ _ (zBg K _ _ (zGo (c:=c) (.sn e xs) v (by simp[V.pure]) h))
  have hc:({ c' with data:=false }:Ctx)=c':=by have:=T.d';cases c';simp_all
  rwa [hc]at this
 | .nl,v,hO,h=>by simpa only[V.ren,RV] using h
 | .tptr e xs i o,v,hO,h=>by
  have hO:=hO.resolve_left (by simp[V.noSl])
  have K:zGy { c with data:=true } { c' with data:=true }:=⟨by rw[T.w];exact Nat.le_refl _,fun _ _ _ _=>by rw[T.w],fun b _=>hO b,rfl,by simp,by simp⟩
  have:=zLi (c:=c') _ _ (zBg K _ _ (zGo (c:=c) (.tptr e xs i o) v (by simp[V.pure]) h))
  have hc:({ c' with data:=false }:Ctx)=c':=by have:=T.d';cases c';simp_all
  rwa [hc]at this
 | .obj id n,v,hO,h=>by
  simp only[V.ren,RV]at h ⊢;obtain⟨hz,_,hk,h⟩:=h;obtain⟨h1,h2,h3⟩:=T.at_ id hk;refine⟨hz,T.d',h1,?_⟩;cases ho:c'.hp (τ id)with
  |none=>trivial
  |some o'=>
   obtain⟨o,g1,g2,g3,g4⟩:=h3 o' ho;rw[g1]at h;exact⟨fun hk=>h.1 (g4.1 hk),by rw[g2];exact h.2.1,fun hn=>by rw[h2];exact h.2.2 (by rw[← g2];exact hn)⟩
 | .ptr id n i o,v,hO,h=>by
  simp only[V.ren,RV]at h ⊢;obtain⟨hz,_,hk,h⟩:=h;obtain⟨h1,h2,h3⟩:=T.at_ id hk;refine⟨hz,T.d',h1,?_⟩;cases ho:c'.hp (τ id)with
  |none=>trivial
  |some o'=>
   obtain⟨o,g1,g2,g3,g4⟩:=h3 o' ho;rw[g1]at h;exact⟨fun hk=>h.1 (g4.1 hk),by rw[g2];exact h.2.1,fun hn=>by rw[h2,g3];exact h.2.2 (by rw[← g2];exact hn)⟩
 | .win id n i o k,v,hO,h=>by
  simp only[V.ren,RV]at h ⊢;obtain⟨hz,_,hk,h⟩:=h;obtain⟨h1,h2,h3⟩:=T.at_ id hk;refine⟨hz,T.d',h1,?_⟩;cases ho:c'.hp (τ id)with
  |none=>trivial
  |some o'=>
   obtain⟨o,g1,g2,g3,g4⟩:=h3 o' ho;rw[g1]at h;exact⟨fun hk=>h.1 (g4.1 hk),by rw[g2];exact h.2.1,fun hn=>by rw[h2,g3];exact h.2.2 (by rw[← g2];exact hn)⟩
 | .mp id,v,hO,h=>by
  simp only[V.ren,RV]at h ⊢;obtain⟨hz,_,hk,h⟩:=h;obtain⟨h1,h2,h3⟩:=T.at_ id hk;refine⟨hz,T.d',h1,?_⟩;cases ho:c'.hp (τ id)with
  |none=>trivial
  |some o'=>
   obtain⟨o,g1,g2,g3,g4⟩:=h3 o' ho;rw[g1]at h;exact⟨g4.2 h.1,by rw[h2];exact h.2⟩
 | .func f a b,v,hO,h=>by
  simp only[V.ren,RV,V.noSl]at h hO ⊢;obtain⟨f1,c1,hv,g1,g2⟩:=h;exact⟨f1,c1,hv,zHb T a _ (hO.imp_left (·.1)) g1,zHb T b _ (hO.imp_left (·.2)) g2⟩
 | .agg cs,v,hO,h=>by
  simp only[V.ren,RV,V.noSl]at h hO ⊢;obtain⟨cv,hv,h1,h2⟩:=h;exact⟨cv,hv,zHb T cs _ hO h1,h2⟩
 | .tup cs,v,hO,h=>by
  simp only[V.ren,RV,V.noSl]at h hO ⊢;obtain⟨cv,hv,h1⟩:=h;exact⟨cv,hv,zHb T cs _ hO h1⟩
 | .opt g x,v,hO,h=>by
  simp only[V.ren,RV,V.noSl]at h hO ⊢;exact⟨T.d',fun hg=>zTb T x v hO (h.2.1 hg),h.2.2⟩
theorem zHb(T:Rens c c' τ):∀(xs:List V) (us:List Value),(zGv xs∨∀b,c'.O b→c.O b)→RVl c xs us→RVl c' (rens τ xs) us
 |[],us,hO,h=>by simpa only[rens,RVl] using h
 |x::xs,us,hO,h=>by
  simp only[rens,RVl,zGv]at h hO ⊢;obtain⟨u,r,hu,h1,h2⟩:=h;exact⟨u,r,hu,zTb T x u (hO.imp_left (·.1)) h1,zHb T xs r (hO.imp_left (·.2)) h2⟩
end
end
end Go.AM
set_option linter.unusedSimpArgs false
set_option linter.unusedVariables false
namespace Go.AM
open Go.RowKit
def dctx(w:World)(O:Nat→Prop):Ctx:=⟨w,O,fun _=>none,fun _=> .nilFunc,fun _=>False,true⟩
theorem zPm{c:Ctx}(hc:c.data=false)(x:V)(v:Value)(h:RV (dctx c.w c.O) x v):RV c x v:=by
 have:=zBg (c:=dctx c.w c.O) (c':={ c with data:=true }) ⟨Nat.le_refl _,fun _ _ _ _=>rfl,fun _ _ h=>h,rfl,by simp[dctx],by simp[dctx]⟩ x v h
 have h2:=zLi (c:=c) x v this
 have:({ c with data:=false }:Ctx)=c:=by cases c;simp_all
 rwa [this]at h2
abbrev zCd:=List (Nat × Nat × List V)
def yDw(w:World)(O:Nat→Prop)(gl:zCd):Prop:=∀p∈gl,RV (dctx w O) (.tptr p.2.1 p.2.2 0 0) (.pointer (some ⟨p.1,0,none⟩))
def FnD(P:Program)(f:FuncId)(args:List V)(res:V)(gl:zCd:=[]):Prop:=
 (∃ fn, P.funcs[f]? = some fn ∧ fn.body.isSome = true ∧ (fn.name == "runtime.NumGoroutine") = false) ∧
 ∀(w:World) (O:Nat→Prop) (cargs:Array Value),(∀b,O b→b<w.heap.size)→RVl (dctx w O) args cargs.toList→yDw w O gl →
  Calls P f cargs w fun e w'=>∃v,e= .returned v∧RV (dctx w' O) res v∧w.grownBy w' none
def FnF(P:Program)(f:FuncId)(args:List V)(res:V)(gl:zCd:=[]):Prop:=
 (∃ fn, P.funcs[f]? = some fn ∧ fn.body.isSome = true ∧ (fn.name == "runtime.NumGoroutine") = false) ∧
 ∀(w:World) (O:Nat→Prop) (cargs:Array Value),(∀b,O b→b<w.heap.size)→RVl (dctx w O) args cargs.toList→yDw w O gl →
  Calls P f cargs w fun e w'=>∃v,e= .returned v∧RV (dctx w' fun b=>b<w.heap.size) res v∧w.grownBy w' none
theorem FnF.data{P:Program}{f:FuncId}{args:List V}{res:V}{gl:zCd}(h:FnF P f args res gl):FnD P f args res gl:=
 ⟨h.1,fun w O cargs hO hargs hgl=>(h.2 w O cargs hO hargs hgl).mono fun e w' ⟨v,he,hv,hg⟩=>
  ⟨v,he,zBg (c:=dctx w' fun b=>b<w.heap.size) (c':=dctx w' O) ⟨Nat.le_refl _,fun _ _ _ _=>rfl,fun b _ hb=>hO b hb,rfl,by simp[dctx],by simp[dctx]⟩ _ _ hv,hg⟩⟩
section
variable {P : Program} {E : zBf} {s : FSt} {a : Act} {w : World} {η : Nat → Value} {o : Oper}
def Bor(η:Nat→Value)(bor:List Nat)(b:Nat):Prop:=∃id∈bor,blk (η id)=some b
theorem lend{bor:List Nat}:zGy ({ s.ctx E w η with data:=true }) (dctx w fun b=>(s.ctx E w η).O b∧¬Bor η bor b):=
 ⟨Nat.le_refl _,fun _ _ _ _=>rfl,fun _ _ h=>h.1,rfl,by simp,by simp⟩
theorem zJc(hr:Rel E s a w η){bor:List Nat}{n:Nat}{xs ys:List V}{us:List Value}(h:all2 (zAx s.hp (· ∈bor) V.pure n) xs ys)(hx:RVl (s.ctx E w η) xs us) :
  RVl (dctx w fun b=>(s.ctx E w η).O b∧¬Bor η bor b) ys us:=
 zDq (c:=s.ctx E w η) (zEy (c:=s.ctx E w η) (c':=dctx w fun b=>(s.ctx E w η).O b∧¬Bor η bor b) hr.laid rfl rfl (fun x v hp hx=>zBg lend _ _ (zGo x v hp hx)) (fun id _ _ hb _ hg h=>h.2 ⟨id,hb,hg⟩) n) _ _ _ h hx
theorem RV_gl{c:Ctx}{e:Nat}{xs:List V}{v:Value}(h:RV c (.tptr e xs 0 0) v):RV { c with data:=true } (.tptr e xs 0 0) v:=by simpa only[RV] using h
def fzOk(hp:Heap)(bor:List Nat)(nb:Nat):List (Nat × Obj)→Prop
 |[]=>True
 |(i,o)::r=>(i∈bor∧¬i<nb∧∃ob,hp i=some ob∧ob.k≠ .map∧o.k= .ro∧o.T=ob.T∧o.e=ob.e∧all2 (zAx hp (· ∈bor) V.pure 8) ob.xs o.xs∧zBa o.xs)∧(∀p∈r,p.1≠i)∧fzOk hp bor nb r
def zZc(hp:Heap)(bor:List Nat)(fz:List (Nat × Obj)):Prop:=∀i∈bor,i∈fz.map (·.1)∨∃ob,hp i=some ob∧ob.k= .ro
theorem yGm{hp:Heap}{bor:List Nat}{nb:Nat}:∀ {fz:List (Nat × Obj)},fzOk hp bor nb fz→∀i,i∈fz.map (·.1)→∃o ob,zCy fz hp i=some o∧i∈bor∧¬i<nb∧hp i=some ob∧ob.k≠ .map∧o.k= .ro∧o.T=ob.T∧o.e=ob.e∧all2 (zAx hp (· ∈bor) V.pure 8) ob.xs o.xs∧zBa o.xs
 |[],_,i,hi=>by simp at hi
 |(k,o)::r,h,i,hi=>by
  simp only[fzOk]at h;simp only[zCy];by_cases hik:i=k
  ·subst hik;simp only[if_true];obtain⟨⟨h1,h2,ob,h3⟩,_⟩:=h;exact⟨o,ob,rfl,h1,h2,h3⟩
  ·simp only[hik,if_false];exact yGm h.2.2 i (by simpa[hik] using hi)
def FSt.upd(s:FSt)(l:List (Nat × Obj)):FSt:={ s with hp:=zCy l s.hp,kn:=fun i=>i∈l.map (·.1)∨s.kn i }
theorem Rel.freeze(hr:Rel E s a w η){bor:List Nat}{fz:List (Nat × Obj)}(h:fzOk s.hp bor s.nb fz)(hall:zZc s.hp bor fz):Rel E (s.upd fz) a w η∧∀b,((s.upd fz).ctx E w η).O b↔((s.ctx E w η).O b∧¬Bor η bor b):=by
 have hat:=fun i hi=>yGm h i hi
 have hnot:∀i,i ∉ fz.map (·.1)→zCy fz s.hp i=s.hp i:=fun i hi=>zFc _ _ _ hi
 have hone:∀b,E.base b→∀i o,s.hp i=some o→blk (η i)=some b→False:=fun b hb i o ho hbi=>by
  by_cases hk:o.k= .ro
  ·exact(hr.laid.obj i o ho).ro hk b hbi (.inl hb)
  ·have h1:=E.hb b hb;rcases hr.fresh b ⟨i,o,ho,hk,hbi⟩with h2|h2
   ·exact h1.2 h2
   ·omega
 have hO:∀b,((s.upd fz).ctx E w η).O b↔((s.ctx E w η).O b∧¬Bor η bor b):=by
  intro b;constructor
  ·rintro(hb|⟨i,o,ho,hk,hbi⟩)
   ·refine⟨.inl hb,?_⟩;rintro⟨id,hid,hbi⟩
    rcases hall id hid with hz|⟨ob,hob,_⟩
    ·obtain⟨_,ob,_,_,_,hob,_⟩:=hat id hz;exact hone b hb id ob hob hbi
    ·exact hone b hb id ob hob hbi
   ·have hi:i ∉ fz.map (·.1):=fun hi=>by
     obtain⟨o',ob,h1,_,_,_,_,h2,_⟩:=hat i hi;have ho':zCy fz s.hp i=some o:=ho;rw[h1]at ho';cases ho';exact hk h2
    have ho':s.hp i=some o:=by rw[← hnot i hi];exact ho
    refine⟨.inr ⟨i,o,ho',hk,hbi⟩,?_⟩;rintro⟨id,hid,hbid⟩
    rcases hall id hid with hz|⟨ob,hob,hro⟩
    ·obtain⟨_,ob,_,_,_,hob,_⟩:=hat id hz;by_cases hko:ob.k= .ro
     ·exact(hr.laid.obj id ob hob).ro hko b hbid (.inr ⟨i,o,ho',hk,hbi⟩)
     ·have:=hr.laid.inj i id o ob b ho' hob hk hko hbi hbid;subst this;exact hi hz
    ·exact(hr.laid.obj id ob hob).ro hro b hbid (.inr ⟨i,o,ho',hk,hbi⟩)
  ·rintro⟨hb|⟨i,o,ho,hk,hbi⟩,hn⟩
   ·exact .inl hb
   ·have hi:i ∉ fz.map (·.1):=fun hi=>by
     obtain⟨_,_,_,h1,_⟩:=hat i hi;exact hn ⟨i,h1,hbi⟩
    exact .inr ⟨i,o,by show zCy fz s.hp i=_;rw[hnot i hi];exact ho,hk,hbi⟩
 refine⟨?_,hO⟩
 have hlen:∀i,i∈fz.map (·.1)→∀o,zCy fz s.hp i=some o→∃ob,s.hp i=some ob∧o.e=ob.e∧o.xs.length=ob.xs.length∧ob.k≠ .map∧o.k= .ro:=fun i hi o ho=>by
  obtain⟨o',ob,h1,_,_,h2,h3,h4,_,h5,h6,_⟩:=hat i hi;rw[h1]at ho;cases ho;exact⟨ob,h2,h5,(zDz h6).symm,h3,h4⟩
 have K:zGy (s.ctx E w η) ((s.upd fz).ctx E w η):=by
  refine⟨Nat.le_refl _,fun _ _ _ _=>rfl,fun b _ hb=>((hO b).1 hb).1,rfl,fun _ _ h=> .inr h,fun _ i hi=>?_⟩
  unfold zMh;simp only[FSt.ctx,FSt.upd];by_cases hz:i∈fz.map (·.1)
  ·obtain⟨o',ob,h1,_,_,h2,h3,h4,_,h5,h6,_⟩:=hat i hz;rw[h1,h2];refine⟨h5,⟨fun h=>(by rw[h4]at h;cases h),fun h=>absurd h h3⟩,fun h=>absurd h h3,by rw[zDz h6];exact Nat.le_refl _,fun _=>by trivial⟩
  ·rw[hnot i hz];cases s.hp i<;>simp
 refine⟨fun t=>zBg K _ _ (hr.slots t),⟨fun i o ho=>?_,fun i j o1 o2 b h1 h2 k1 k2 b1 b2=>?_⟩,hr.since,fun b hb=>?_,hr.tmps,hr.defers,⟨hr.held.nb,fun i hi=>?_⟩,fun g p hp=>zBg K _ _ (hr.glob g p hp),fun p hp=>zBg K.asData _ _ (hr.ghost p hp)⟩
 ·have ho':zCy fz s.hp i=some o:=ho;by_cases hz:i∈fz.map (·.1)
  ·obtain⟨o',ob,h1,h0,_,h2,h3,h4,h7,h5,h6,h8⟩:=hat i hz;rw[h1]at ho';cases ho';obtain⟨p,l,n,⟨us,r1,r2⟩,hro,hown,hbx⟩:=hr.laid.obj i ob h2;obtain⟨_,_,_,us,q1,q2,q3,q4⟩:=zCu hr h2 h3;refine⟨by rw[h5];exact p,.inr l,by rw[← zDz h6];exact n,⟨us,?_,?_⟩,fun _ b hb hOb=>?_,fun hk=>absurd h4 hk,fun hk=>by rw[h4]at hk;cases hk⟩
   ·rw[show decide (o.k=Kind.ro)=true by simpa using h4]
    have:=zJc hr h6 q1;exact zCm (c:=dctx w fun b=>(s.ctx E w η).O b∧¬Bor η bor b) (c':={ (s.upd fz).ctx E w η with data:=true }) ⟨Nat.le_refl _,fun _ _ _ _=>rfl,fun b _ hb=>(hO b).1 hb,rfl,by simp[dctx],by simp[dctx]⟩ _ _ this
   ·unfold zGw;rw[if_neg (by rw[h4];simp),h5,h7,← zDz h6]
    exact⟨q2,q3,q4⟩
   ·exact((hO b).1 hOb).2 ⟨i,h0,hb⟩
  ·rw[hnot i hz]at ho';obtain⟨p,l,n,⟨us,r1,r2⟩,hro,hown,hbx⟩:=hr.laid.obj i o ho';refine⟨p,.inr l,n,⟨us,zCm (K.withData rfl _) _ _ r1,r2⟩,fun hk b hb hOb=>hro hk b hb ((hO b).1 hOb).1,fun hk b hb=> .inr ⟨i,o,ho,hk,hb⟩,hbx⟩
 ·have key:∀i o,zCy fz s.hp i=some o→o.k≠ .ro→s.hp i=some o:=fun i o ho hk=>by
   by_cases hz:i∈fz.map (·.1)
   ·obtain⟨_,_,_,_,_,h4⟩:=hlen i hz o ho;exact absurd h4 hk
   ·rwa [hnot i hz]at ho
  exact hr.laid.inj i j o1 o2 b (key i o1 h1 k1) (key j o2 h2 k2) k1 k2 b1 b2
 ·obtain⟨i,o,ho,hk,hbi⟩:=hb;have ho':zCy fz s.hp i=some o:=ho;by_cases hz:i∈fz.map (·.1)
  ·obtain⟨_,_,_,_,_,h4⟩:=hlen i hz o ho';exact absurd h4 hk
  ·rw[hnot i hz]at ho';exact hr.fresh b ⟨i,o,ho',hk,hbi⟩
 ·obtain⟨h1,o0,o,h2,h3,h4⟩:=hr.held.at_ i hi;have hz:i ∉ fz.map (·.1):=fun hz=>by
   obtain⟨_,_,_,_,h5,_⟩:=hat i hz;exact h5 hi
  exact⟨.inr h1,o0,o,h2,by show zCy fz s.hp i=_;rw[hnot i hz];exact h3,h4⟩
structure xTh(P:Program)(o:Oper)(ρ:Operand→V)(hp:Heap)(G:Nat→Option (Nat × List V))(nb:Nat)(e:Eff):Prop where
 ex:∃fo args tys f first caps args0 res bor fz gl,o.op= .call { callee:= .value fo,args:=args,argTypes:=tys }∧ρ fo= .func (.func f) first caps∧FnD P f args0 res gl∧(∀p∈gl,G p.1=some p.2) ∧
  all2 (zAx hp (· ∈bor) V.pure 8) (first++args.toList.map ρ++caps) args0∧((fz=[]∧(bor=[]∨res.noRef∨FnF P f args0 res gl))∨(fzOk hp bor nb fz∧zZc hp bor fz))∧res.pure∧e=⟨res,fz,bor⟩
theorem zGq(hr:Rel E s a w η):∀b,(s.ctx E w η).O b→b<w.heap.size:=fun b hb=>by
 rcases hb with hb|⟨id,ob,hid,_,hb⟩
 ·exact Nat.lt_of_lt_of_le (E.hb b hb).1 hr.since.size
 ·obtain⟨us,_,r⟩:=(hr.laid.obj id ob hid).row;exact r.lt hb
theorem yCm(hr:Rel E s a w η){fo:Operand}{args:Array Operand}{tys:Array TypeId}{f:FuncId}{first caps:List V}(ho:o.op= .call { callee:= .value fo,args:=args,argTypes:=tys })(hf:s.ev fo= .func (.func f) first caps)
  (hfn : ∃ fn, P.funcs[f]? = some fn ∧ fn.body.isSome = true ∧ (fn.name == "runtime.NumGoroutine") = false) :
  ∃cargs:Array Value,RVl (s.ctx E w η) (first++args.toList.map s.ev++caps) cargs.toList∧(execOp a.eval o).run P w= .ok (.enter f cargs) w:=by
 obtain⟨fn,hfn,hbody,hname⟩:=hfn
 have hfv:=zAi hr fo
 rw[hf]at hfv
 simp only[RV]at hfv
 obtain⟨f1,c1,hfv,hf1,hc1⟩:=hfv
 refine⟨f1++args.map a.eval++c1,?_,?_⟩
 ·have:=zCb (zCb hf1 (zHp hr args.toList)) hc1;simpa using this
 ·unfold execOp;have hb:¬fn.body=none:=fun h=>by simp[h]at hbody
  have hn : ¬ fn.name = "runtime.NumGoroutine" := by simpa using hname
  simp[ho,hfv,resolve,Deferred.ofValue,invoke,callFunc,hfn,hn,hb]
theorem FSt.app_upd(s:FSt)(d:Option Tmp)(v:V)(l:List (Nat × Obj))(rd:List Nat):s.app d ⟨v,l,rd⟩=(s.upd l).put d v:=by
 unfold FSt.app FSt.put FSt.upd Eff.ids
 cases d with
 |none=>rfl
 |some d=>by_cases hd:d<s.N<;>simp[hd]
theorem yZf(hr:Rel E s a w η){e:Eff}(h:xTh P o s.ev s.hp s.gl s.nb e):∃f cargs v0,e.val=v0∧(execOp a.eval o).run P w= .ok (.enter f cargs) w∧Calls P f cargs w fun e' w'=>∃v,e'= .returned v∧RV ((s.upd e.upd).ctx E w' η) e.val v∧Rel E (s.upd e.upd) a w' η:=by
 obtain⟨fo,args,tys,f,first,caps,args0,res,bor,fz,gl,ho,hf,⟨hex,hfd⟩,hG,hargs,hbor,hpure,rfl⟩:=h.ex
 obtain⟨cargs,hall,hrun⟩:=yCm hr ho hf hex
 have hOs:=zGq hr
 have hgl:yDw w (fun b=>(s.ctx E w η).O b∧¬Bor η bor b) gl:=fun p hp=>by
  have h1:=hr.glob p.1 p.2 (hG p hp);exact zBg lend _ _ (RV_gl h1)
 refine⟨f,cargs,res,rfl,hrun,?_⟩
 rcases hbor with ⟨rfl,hbor⟩|⟨hz,hza⟩
 ·have hu:s.upd []=s:=by unfold FSt.upd;simp[zCy]
  simp only[hu];have key:bor=[]∨res.noRef→Calls P f cargs w fun e w'=>∃v,e= .returned v∧RV (s.ctx E w' η) res v∧Rel E s a w' η:=fun hbor=>
   (hfd w (fun b=>(s.ctx E w η).O b∧¬Bor η bor b) _ (fun b hb=>hOs b hb.1) (zJc hr hargs hall) hgl).mono fun e' w' ⟨v,he,hv,hg⟩=>by
    refine⟨v,he,?_,hr.grow hg⟩;rcases hbor with hbor|hbor
    ·subst hbor;have hO:(fun b=>(s.ctx E w η).O b∧¬Bor η [] b)=(s.ctx E w' η).O:=by
      funext b
      simp[Bor,FSt.ctx]
     rw[hO]at hv;exact zPm (c:=s.ctx E w' η) rfl res v hv
    ·exact zDu res v hbor hv
  rcases hbor with hbor|hbor|hff
  ·exact key (.inl hbor)
  ·exact key (.inr hbor)
  ·refine(hff.2 w (fun b=>(s.ctx E w η).O b∧¬Bor η bor b) _ (fun b hb=>hOs b hb.1) (zJc hr hargs hall) hgl).mono fun e' w' ⟨v,he,hv,hg⟩=>⟨v,he,?_,hr.grow hg⟩
   exact zPm (c:=s.ctx E w' η) rfl res v (zBg (c:=dctx w' fun b=>b<w.heap.size) (c':=dctx w' (s.ctx E w' η).O) ⟨Nat.le_refl _,fun _ _ _ _=>rfl,fun b _ hb=>hOs b hb,rfl,by simp[dctx],by simp[dctx]⟩ _ _ hv)
 ·obtain⟨hr2,hO⟩:=hr.freeze hz hza;refine(hfd w (fun b=>(s.ctx E w η).O b∧¬Bor η bor b) _ (fun b hb=>hOs b hb.1) (zJc hr hargs hall) hgl).mono fun e' w' ⟨v,he,hv,hg⟩=>⟨v,he,?_,hr2.grow hg⟩
  have hO':(fun b=>(s.ctx E w η).O b∧¬Bor η bor b)=((s.upd fz).ctx E w' η).O:=by
   funext b
   exact(propext (hO b)).symm
  rw[hO']at hv;exact zPm (c:=(s.upd fz).ctx E w' η) rfl res v hv
end
end Go.AM
set_option linter.unusedSimpArgs false
set_option linter.unusedVariables false
namespace Go.AM
open Go.RowKit
def glf(gl:zCd):Nat→Option (Nat × List V):=look gl
def inF(obs:List Obj)(args:List V)(gl:zCd):FSt:=⟨fun t=>(args[t]?).getD .bot,fun i=>obs[i]?,fun i=>i<obs.length,args.length,obs.length,glf gl⟩
def outF(nb:Nat)(obs:List Obj)(res:V)(gl:zCd):FSt:=⟨fun t=>if t=0 then res else .bot,fun i=>obs[i]?,fun i=>i<obs.length,1,nb,glf gl⟩
def FnR(P:Program)(f:FuncId)(obs:List Obj)(args:List V)(obs':List Obj)(res:V)(gl:zCd:=[]):Prop:=
 (∃ fn, P.funcs[f]? = some fn ∧ fn.body.isSome = true ∧ (fn.name == "runtime.NumGoroutine") = false) ∧
 ∀(E:zBf) (cargs:Array Value) (η:Nat→Value),E.nb=obs.length→E.hp0=(fun i=>obs[i]?)→E.hd0=η→(∀b,E.own0 b↔Own (fun i=>obs[i]?) η b)→E.fix=[]→E.gh=[]→Rel E (inF obs args gl) { tmps:=cargs,defers:=[] } E.w0 η →
  Calls P f cargs E.w0 fun e w'=>∃v η',e= .returned v∧Rel E (outF obs.length obs' res gl) { tmps:= #[v],defers:=[] } w' η'
def zEh(hp:Heap)(σ:Ren)(B:Nat→Prop)(i:Nat)(o:Obj):Prop:=match look σ i with
 |some (some j)=>∃o',hp j=some o'∧o'.k=o.k∧o'.T=o.T∧o'.e=o.e∧o.k≠ .ro∧vsLe hp (σf σ) B o'.xs o.xs
 |some none=>o.xs=[]∧o.k= .arr∧0<o.e
 |none=>False
def η2(η:Nat→Value)(σ:Ren)(i:Nat):Value:=match look σ i with
 |some (some j)=>η j
 |_=> .slice none 0 0
theorem yJd{c c':Ctx}{σ:Ren}{B:Nat→Prop}(T:zQn c c' (σf σ) B)(hob:∀i o,c'.hp i=some o→zEh c.hp σ B i o)(hinj:∀i i' j,look σ i=some (some j)→look σ i'=some (some j)→i=i')
  (hη:∀i,c'.η i=η2 c.η σ i) (hown:∀i o b,c'.hp i=some o→o.k≠ .ro→blk (c'.η i)=some b→c'.O b):Laid c':=by
 refine⟨fun i o ho=>?_,fun i i' o o' b ho ho' hk hk' hb hb'=>?_⟩
 ·have h1:=hob i o ho;unfold zEh at h1;have hηi:=hη i;unfold η2 at hηi;cases hσ:look σ i with
  |none=>rw[hσ]at h1;exact h1.elim
  |some x=>
   rw[hσ]at h1 hηi;cases x with
   |none=>
    obtain⟨hx,hk,he⟩:=h1;obtain⟨hkn,_⟩:=T.new i hσ;simp only at hηi;refine⟨he,hkn,by simp[hx],⟨[],by rw[hx];simp[RVl],?_⟩,(fun h=>by rw[hk]at h;cases h),(fun h b hb=>by rw[hηi]at hb;simp[blk]at hb),(fun h=>by rw[hk]at h;cases h)⟩
    unfold zGw;rw[if_neg (by rw[hk];simp),hηi,hx]
    exact⟨by simp,by simp[flat],World.ownsRow_nil _ _ _ _⟩
   |some j=>
    obtain⟨o',q1,q2,q3,q4,q5,q6⟩:=h1;obtain⟨hkn,_⟩:=T.ren i j hσ;simp only at hηi;obtain⟨p,l,n,⟨us,r1,r2⟩,hro,hw,hbox⟩:=T.laid.obj j o' q1;have hl:=zJg q6;have hk':o'.k≠ .ro:=by rw[q2];exact q5
    have hcd:({ c with data:=false }:Ctx)=c:=by have:=T.d;cases c;simp_all
    have hcd':({ c' with data:=false }:Ctx)=c':=by have:=T.d';cases c';simp_all
    rw[show decide (o'.k=Kind.ro)=false by simpa using hk',hcd]at r1
    refine⟨by rw[← q4];exact p,hkn,by rw[hl];exact n,⟨us,?_,?_⟩,fun h=>absurd h q5,fun hk b hb=>hown i o b ho hk hb,fun h=>?_⟩
    ·rw[show decide (o.k=Kind.ro)=false by simpa using q5,hcd']
     exact zFt T _ _ us q6 r1
    ·rw[hηi,T.w];unfold zGw at r2 ⊢;rw[q2,q4,q3,← hl]at r2;exact r2
    ·rw[hηi];exact hbox (by rw[q2];exact h)
 ·have key:∀i o,c'.hp i=some o→blk (c'.η i)=some b→o.k≠ .ro→∃j o',look σ i=some (some j)∧c.hp j=some o'∧o'.k≠ .ro∧blk (c.η j)=some b:=fun i o ho hb hk=>by
   have h1:=hob i o ho;unfold zEh at h1;have hηi:=hη i;unfold η2 at hηi;cases hσ:look σ i with
   |none=>rw[hσ]at h1;exact h1.elim
   |some x=>
    rw[hσ]at h1 hηi;cases x with
    |none=>rw[hηi]at hb;simp[blk]at hb
    |some j=>
     obtain⟨o',q1,q2,_⟩:=h1;have hηi':c'.η i=c.η j:=hηi;exact⟨j,o',rfl,q1,by rw[q2];exact hk,by rw[← hηi'];exact hb⟩
  obtain⟨j,q,a1,a2,a3,a4⟩:=key i o ho hb hk;obtain⟨j',q',b1,b2,b3,b4⟩:=key i' o' ho' hb' hk';have:j=j':=T.laid.inj j j' q q' b a2 b2 a3 b3 a4 b4;subst this;exact hinj i i' j a1 b1
theorem yAh:∀ {l:List (Nat × Obj)} {h:Heap} {k:Nat} {o:Obj},(k,o)∈l→(∀o',(k,o')∈l→o'=o)→zCy l h k=some o
 |[],_,_,_,hm,_=>by simp at hm
 |(i,x)::r,h,k,o,hm,hu=>by
  simp only[zCy];by_cases hk:k=i
  ·subst hk;simp only[if_true];rw[hu x (by simp)]
  ·simp only[hk,if_false];refine yAh ?_ fun o' ho'=>hu o' (by simp[ho'])
   rcases List.mem_cons.1 hm with h1|h1
   ·cases h1;exact absurd rfl hk
   ·exact h1
theorem yAi(l r:List (Nat × Obj))(h:Heap):zCy (l++r) h=zCy l (zCy r h):=by
 funext k
 induction l with
 |nil=>rfl
 |cons p l ih=>simp only[List.cons_append,zCy,ih]
def τr(σ:Ren)(fid i:Nat):Nat:=match look σ i with|some (some j)=>j|_=>fid+i
def outU(τ:Nat→Nat):Nat→List Obj→List (Nat × Obj)
 |_,[]=>[]
 |i,o::r=>(τ i,{ o with xs:=rens τ o.xs })::outU τ (i+1) r
theorem zLo{τ:Nat→Nat}:∀ {l:List Obj} {k:Nat} {p:Nat × Obj},p∈outU τ k l↔∃i o,l[i]?=some o∧p=(τ (k+i),{ o with xs:=rens τ o.xs })
 |[],k,p=>by simp[outU]
 |x::l,k,p=>by
  simp only[outU,List.mem_cons,zLo (l:=l)];constructor
  ·rintro(rfl|⟨i,o,h,rfl⟩)
   ·exact⟨0,x,by simp,rfl⟩
   ·exact⟨i+1,o,by simpa using h,by rw[show k+(i+1)=k+1+i by omega]⟩
  ·rintro⟨i,o,h,rfl⟩
   cases i with
   |zero=>simp at h;subst h;exact .inl rfl
   |succ i=>exact .inr ⟨i,o,by simpa using h,by rw[show k+(i+1)=k+1+i by omega]⟩
section
variable {P : Program} {E : zBf} {s : FSt} {a : Act} {w : World} {η : Nat → Value} {o : Oper}
structure xLn(hp:Heap)(σ:Ren)(bor:List Nat)(obs:List Obj):Prop where
 old:∀i j,look σ i=some (some j)→i<obs.length∧j ∉ bor
 inj:∀i i' j,look σ i=some (some j)→look σ i'=some (some j)→i=i'
 tot:∀i o,obs[i]?=some o→∃x,look σ i=some x
 at_:∀i j,look σ i=some (some j)→∃o o',obs[i]?=some o∧hp j=some o'∧o'.k=o.k∧o'.T=o.T∧o'.e=o.e∧o.k≠ .ro∧o.xs.length=o'.xs.length
structure Hand(hp:Heap)(σ:Ren)(bor:List Nat)(obs:List Obj):Prop where
 old:∀i j,look σ i=some (some j)→i<obs.length∧j ∉ bor
 new:∀i,look σ i=some none→i<obs.length
 inj:∀i i' j,look σ i=some (some j)→look σ i'=some (some j)→i=i'
 ob:∀i o,obs[i]?=some o→zEh hp σ (· ∈bor) i o
theorem Hand.at_{hp:Heap}{σ:Ren}{bor:List Nat}{obs:List Obj}(h:Hand hp σ bor obs)(i j:Nat)(hj:look σ i=some (some j)):∃o o',obs[i]?=some o∧hp j=some o'∧o'.k=o.k∧o'.T=o.T∧o'.e=o.e∧o.k≠ .ro∧o.xs.length=o'.xs.length:=by
 obtain⟨h1,_⟩:=h.old i j hj
 have:=h.ob i obs[i] (by simp[h1])
 unfold zEh at this
 rw[hj]at this
 obtain⟨o',q1,q2,q3,q4,q5,q6⟩:=this
 exact⟨obs[i],o',by simp[h1],q1,q2,q3,q4,q5,zJg q6⟩
theorem Hand.light{hp:Heap}{σ:Ren}{bor:List Nat}{obs:List Obj}(h:Hand hp σ bor obs):xLn hp σ bor obs:=
 ⟨h.old,h.inj,fun i o ho=>by
  have:=h.ob i o ho;unfold zEh at this;split at this
  ·exact⟨_,‹_›⟩
  ·exact⟨_,‹_›⟩
  ·exact this.elim,h.at_⟩
def refE(E:zBf)(s:FSt)(w:World)(η:Nat→Value)(σ:Ren)(bor:List Nat)(obs:List Obj)(hr:∀b,(s.ctx E w η).O b→b<w.heap.size):zBf:=
 { w0:=w,own0:=Own (fun i=>obs[i]?) (η2 η σ),base:=fun b=>(s.ctx E w η).O b∧¬Bor η bor b∧¬Own (fun i=>obs[i]?) (η2 η σ) b,hb:=fun b hb=>⟨hr b hb.1,hb.2.2⟩,nb:=obs.length,hp0:=fun i=>obs[i]?,hd0:=η2 η σ }
theorem zHz{σ:Ren}{bor:List Nat}{obs:List Obj}(H:xLn s.hp σ bor obs){b:Nat}(h:Own (fun i=>obs[i]?) (η2 η σ) b):∃i j o,look σ i=some (some j)∧s.hp j=some o∧o.k≠ .ro∧blk (η j)=some b:=by
 obtain⟨i,o,ho,hk,hb⟩:=h
 obtain⟨x,hσ⟩:=H.tot i o ho
 unfold η2 at hb
 rw[hσ]at hb
 cases x with
 |none=>simp[blk]at hb
 |some j=>
  obtain⟨o1,o',q0,q1,q2,_,_,q5,_⟩:=H.at_ i j hσ;exact⟨i,j,o',hσ,q1,by rw[q2];exact q5,hb⟩
theorem zSn(hr:Rel E s a w η){σ:Ren}{bor:List Nat}{obs:List Obj}(H:Hand s.hp σ bor obs)(args0:List V)(gl:zCd) :
  zQn (s.ctx E w η) ((inF obs args0 gl).ctx (refE E s w η σ bor obs (zGq hr)) w (η2 η σ)) (σf σ) (· ∈bor):=by
 let E':=refE E s w η σ bor obs (zGq hr)
 have hO:∀b,((inF obs args0 gl).ctx E' w (η2 η σ)).O b→(s.ctx E w η).O b:=fun b hb=>by
  rcases hb with hb|hb
  ·exact hb.1
  ·obtain⟨i,j,o,_,h2,h3,h4⟩:=zHz H.light hb;exact .inr ⟨j,o,h2,h3,h4⟩
 refine⟨hr.laid,rfl,rfl,rfl,hO,fun id ob b hid hob hb hOb=>?_,fun i j hσ=>?_,fun i hσ=>?_⟩
 ·rcases hOb with hOb|hOb
  ·exact hOb.2.1 ⟨id,hid,hb⟩
  ·obtain⟨i,j,o,h1,h2,h3,h4⟩:=zHz H.light hOb;by_cases hk:ob.k= .ro
   ·exact(hr.laid.obj id ob hob).ro hk b hb (.inr ⟨j,o,h2,h3,h4⟩)
   ·have:=hr.laid.inj id j ob o b hob h2 hk h3 hb h4;subst this;exact(H.old i id h1).2 hid
 ·obtain⟨o,o',h1,h2,h3,h4,h5,h6,h7⟩:=H.at_ _ _ hσ;refine⟨(H.old i j hσ).1,by show η2 η σ i=η j;unfold η2;rw[show look σ i=_ from hσ],fun o1 ho1=>?_⟩
  have ho1':obs[i]?=some o1:=ho1;rw[h1]at ho1';cases ho1';exact⟨o',h2,h7,h5.symm,by rw[h3]⟩
 ·refine⟨H.new i hσ,by show η2 η σ i=_;unfold η2;rw[show look σ i=_ from hσ],fun o1 ho1=>?_⟩
  have:=H.ob i o1 ho1;unfold zEh at this;rw[show look σ i=_ from hσ]at this
  rw[this.2.1];simp
theorem zUm(hr:Rel E s a w η){σ:Ren}{bor:List Nat}{obs:List Obj}(H:Hand s.hp σ bor obs){xs args0:List V}{cargs:Array Value}(hx:RVl (s.ctx E w η) xs cargs.toList)(hargs:vsLe s.hp (σf σ) (· ∈bor) xs args0){gl:zCd}(hG:∀g p,glf gl g=some p→s.gl g=some p) :
  Rel (refE E s w η σ bor obs (zGq hr)) (inF obs args0 gl) { tmps:=cargs,defers:=[] } w (η2 η σ):=by
 have T:=zSn hr H args0 gl
 have hsl:=zFt T _ _ _ hargs hx
 have hlen:=zAp hsl
 refine⟨fun t=>?_,yJd T (fun i o ho=>H.ob i o ho) H.inj (fun i=>rfl) (fun i o b ho hk hb=> .inr ⟨i,o,ho,hk,hb⟩),⟨rfl,rfl,rfl,Nat.le_refl _,fun _ _ _=>rfl⟩,fun b hb=> .inl hb,by simpa[inF] using hlen,⟨by simp[FixW,refE],[],rfl,by simp[zFr]⟩,⟨rfl,fun i hi=>?_⟩,fun g p hp=>T.plain _ _ _ ⟨rfl,by simp[V.pure]⟩ (hr.glob g p (hG g p hp)),by simp[refE]⟩
 ·show RV _ ((args0[t]?).getD .bot) _
  cases ht:args0[t]? with
  |none=>exact zEu rfl
  |some x=>
   obtain⟨u,hu,hx⟩:=zDa hsl t x ht;have:cargs.getD t undef=u:=by
    have h1:cargs[t]?=some u:=by simpa using hu
    rw[Array.getD_eq_getD_getElem?,h1];rfl
   show RV _ _ (cargs.getD t undef)
   rw[this];exact hx
 ·have hi':i<obs.length:=hi;have:=H.ob i obs[i] (by simp[hi'])
  have hk:obs[i].k≠ .ro:=by
   unfold zEh at this;split at this
   ·obtain⟨_,_,_,_,_,h,_⟩:=this;exact h
   ·rw[this.2.1];simp
   ·exact this.elim
  exact⟨hi',obs[i],obs[i],by show obs[i]?=_;simp[hi'],by show obs[i]?=_;simp[hi'],hk,rfl,Iff.rfl,fun _=>rfl,Nat.le_refl _,fun _=>rfl⟩
theorem zOm(hr:Rel E s a w η){σ:Ren}{bor:List Nat}{obs obs':List Obj}(H:xLn s.hp σ bor obs){E':zBf}(hw0:E'.w0=w)(hE0:∀b,E'.own0 b↔Own (fun i=>obs[i]?) (η2 η σ) b)(hEh:E'.hp0=fun i=>obs[i]?)(hEd:E'.hd0=η2 η σ)
  {res:V} {v:Value} {w':World} {η':Nat→Value} {gl:zCd} {fid:Nat} (hk':∀o∈obs',o.k≠ .ro) (hfr:∀i,i<obs'.length→(∀j,look σ i≠some (some j))→¬s.kn (fid+i))
  (hsh:(res.noSl∧∀o∈obs',zGv o.xs)∨∀b,(s.ctx E w η).O b→¬E'.own0 b→E'.base b)
  (ho:Rel E' (outF obs.length obs' res gl) { tmps:= #[v],defers:=[] } w' η') :
  ∃η1,Rel E (s.upd (outU (τr σ fid) 0 obs')) a w' η1∧RV ((s.upd (outU (τr σ fid) 0 obs')).ctx E w' η1) (res.ren (τr σ fid)) v:=by
 generalize hτ:τr σ fid=τ
 have hτs:∀i j,look σ i=some (some j)→τ i=j:=fun i j h=>by rw[← hτ];simp[τr,h]
 have hτn:∀i,(∀j,look σ i≠some (some j))→τ i=fid+i:=fun i h=>by
  rw[← hτ];unfold τr;split
  ·rename_i j hj;exact absurd hj (h j)
  ·rfl
 have hcase:∀i,(∃j,look σ i=some (some j))∨∀j,look σ i≠some (some j):=fun i=>by
  by_cases h:∃j,look σ i=some (some j)
  ·exact .inl h
  ·exact .inr fun j hj=>h ⟨j,hj⟩
 have hkn:∀i j,look σ i=some (some j)→s.kn j:=fun i j h=>by
  obtain⟨_,o',_,h2,_⟩:=H.at_ _ _ h;exact(hr.laid.obj j o' h2).lt
 have hinj:∀i i',i<obs'.length→i'<obs'.length→τ i=τ i'→i=i':=fun i i' hi hi' he=>by
  rcases hcase i with ⟨j,hj⟩|hn<;>rcases hcase i' with ⟨j',hj'⟩|hn'
  ·rw[hτs i j hj,hτs i' j' hj']at he;subst he;exact H.inj i i' j hj hj'
  ·rw[hτs i j hj,hτn i' hn']at he;exact absurd (he▸hkn i j hj) (hfr i' hi' hn')
  ·rw[hτn i hn,hτs i' j' hj']at he;exact absurd (he▸hkn i' j' hj') (hfr i hi hn)
  ·rw[hτn i hn,hτn i' hn']at he;omega
 -- the new memory
 obtain⟨η1,hη1,hη0⟩:∃η1:Nat→Value,(∀i,i<obs'.length→η1 (τ i)=η' i)∧∀k,(∀i,i<obs'.length→τ i≠k)→η1 k=η k:=by
  classical
  refine⟨fun k=>if h:∃i,i<obs'.length∧τ i=k then η' h.choose else η k,fun i hi=>?_,fun k hk=>?_⟩
  ·have h:∃i',i'<obs'.length∧τ i'=τ i:=⟨i,hi,rfl⟩;simp only[dif_pos h];rw[hinj _ i h.choose_spec.1 hi h.choose_spec.2]
  ·have h:¬ ∃i',i'<obs'.length∧τ i'=k:=fun⟨i,hi,he⟩=>hk i hi he
   simp only[dif_neg h]
 let s1:=s.upd (outU τ 0 obs')
 have hp1:∀i o,obs'[i]?=some o→s1.hp (τ i)=some { o with xs:=rens τ o.xs }:=fun i o h=>by
  have hi:i<obs'.length:=(List.getElem?_eq_some_iff.1 h).1;refine yAh (zLo.2 ⟨i,o,h,by simp⟩) fun o' ho'=>?_
  obtain⟨i',o2,h2,he⟩:=zLo.1 ho';simp only[Nat.zero_add,Prod.mk.injEq]at he;have hi':i'<obs'.length:=(List.getElem?_eq_some_iff.1 h2).1;have:=hinj i i' hi hi' he.1;subst this;rw[h]at h2;cases h2;exact he.2
 have hids:∀k,k∈(outU τ 0 obs').map (·.1)↔∃i,i<obs'.length∧τ i=k:=fun k=>by
  simp only[List.mem_map];constructor
  ·rintro⟨p,hp,rfl⟩
   obtain⟨i,o,h,rfl⟩:=zLo.1 hp;exact⟨i,(List.getElem?_eq_some_iff.1 h).1,by simp⟩
  ·rintro⟨i,hi,rfl⟩
   exact⟨_,zLo.2 ⟨i,obs'[i],by simp[hi],rfl⟩,by simp⟩
 have hp0:∀k,(∀i,i<obs'.length→τ i≠k)→s1.hp k=s.hp k:=fun k hk=>zFc _ _ _ fun h=>by
  obtain⟨i,hi,he⟩:=(hids k).1 h;exact hk i hi he
 have hspl:∀k,(∃i,i<obs'.length∧τ i=k)∨∀i,i<obs'.length→τ i≠k:=fun k=>by
  by_cases h:∃i,i<obs'.length∧τ i=k
  ·exact .inl h
  ·exact .inr fun i hi he=>h ⟨i,hi,he⟩
 have hnb:obs.length≤obs'.length:=by
  rcases Nat.lt_or_ge obs'.length obs.length with h|h
  ·obtain⟨hk,_⟩:=ho.held.at_ obs'.length h;exact absurd hk (Nat.lt_irrefl _)
  ·exact h
 have hheld:∀i j,look σ i=some (some j)→∃o o' o1,obs[i]?=some o∧s.hp j=some o'∧obs'[i]?=some o1∧o'.k=o.k∧o'.e=o.e∧o.xs.length=o'.xs.length∧o1.k≠ .ro∧o1.e=o.e∧(o1.k= .map↔o.k= .map)∧(o.k= .map→η' i=η j)∧o.xs.length≤o1.xs.length∧(o.xs.length=o1.xs.length→η' i=η j)∧i<obs'.length:=fun i j h=>by
  obtain⟨o,o',h1,h2,h3,_,h5,h6,h7⟩:=H.at_ _ _ h;obtain⟨hi,_⟩:=H.old i j h;obtain⟨_,o0,o1,g1,g2,g3,g4,g5,g6,g7,g8⟩:=ho.held.at_ i hi;rw[hEh]at g1;have g1':obs[i]?=some o0:=g1;rw[h1]at g1';cases g1';have hd:E'.hd0 i=η j:=by rw[hEd];unfold η2;rw[h]
  rw[hd]at g6 g8;exact⟨o,o',o1,h1,h2,g2,h3,h5,h7,g3,g4,g5,g6,g7,g8,Nat.lt_of_lt_of_le hi hnb⟩
 -- blocks
 have hown0:∀b,E'.own0 b→Own s.hp η b:=fun b hb=>by
  obtain⟨i,j,o,_,h2,h3,h4⟩:=zHz H ((hE0 b).1 hb);exact⟨j,o,h2,h3,h4⟩
 have hOlt:=zGq hr
 have hblk:∀b,b<w.heap.size→¬E'.own0 b→w'.heap[b]?=w.heap[b]?:=fun b hb hn=>by
  have:=ho.since.block b (by rw[hw0];exact hb) hn
  rw[hw0]at this;exact this
 have hsize:w.heap.size≤w'.heap.size:=by have:=ho.since.size;rwa [hw0]at this
 have hO1:∀b,(s1.ctx E w' η1).O b→E.base b∨(∃k o,(∀i,i<obs'.length→τ i≠k)∧s.hp k=some o∧o.k≠ .ro∧blk (η k)=some b)∨(∃i o,obs'[i]?=some o∧o.k≠ .ro∧blk (η' i)=some b):=fun b hb=>by
  rcases hb with hb|⟨k,o,h1,h2,h3⟩
  ·exact .inl hb
  ·rcases hspl k with ⟨i,hi,rfl⟩|hk
   ·have h4:=hp1 i obs'[i] (by simp[hi])
    have h1':s1.hp (τ i)=some o:=h1;rw[h4]at h1';cases h1';exact .inr (.inr ⟨i,obs'[i],by simp[hi],h2,by rw[← hη1 i hi];exact h3⟩)
   ·have h1':s1.hp k=some o:=h1;rw[hp0 k hk]at h1';exact .inr (.inl ⟨k,o,hk,h1',h2,by rw[← hη0 k hk];exact h3⟩)
 have hnot0:∀k o b,(∀i,i<obs'.length→τ i≠k)→s.hp k=some o→blk (η k)=some b→¬E'.own0 b:=fun k o b hk hko hb h0=>by
  obtain⟨i,j,o',h1,h2,h3,h4⟩:=zHz H ((hE0 b).1 h0);by_cases hr':o.k= .ro
  ·exact(hr.laid.obj k o hko).ro hr' b hb (.inr ⟨j,o',h2,h3,h4⟩)
  ·have:=hr.laid.inj k j o o' b hko h2 hr' h3 hb h4;subst this;obtain⟨_,_,_,_,_,_,_,_,_,_,_,_,_,_,_,hi⟩:=hheld i k h1;exact hk i hi (hτs i k h1)
 have hEb:∀b,E.base b→¬E'.own0 b:=fun b hb h0=>by
  obtain⟨j,o,h2,h3,h4⟩:=hown0 b h0;have h1:=E.hb b hb;rcases hr.fresh b ⟨j,o,h2,h3,h4⟩with h|h
  ·exact h1.2 h
  ·omega
 have hnew:∀i o b,obs'[i]?=some o→o.k≠ .ro→blk (η' i)=some b→E'.own0 b∨w.heap.size≤b:=fun i o b h1 h2 h3=>by
  have:=ho.fresh b ⟨i,o,h1,h2,h3⟩;rwa [hw0]at this
 have K:zGy (s.ctx E w η) (s1.ctx E w' η1):=by
  refine⟨hsize,fun b hb hn _=>hblk b hb fun h0=>hn (.inr (hown0 b h0)),fun b hb h=>?_,rfl,fun _ i hi=> .inr hi,fun _ k hk=>?_⟩
  ·rcases hO1 b h with h|⟨k,o,_,h2,h3,h4⟩|⟨i,o,h1,h2,h3⟩
   ·exact .inl h
   ·exact .inr ⟨k,o,h2,h3,h4⟩
   ·rcases hnew i o b h1 h2 h3 with h|h
    ·exact .inr (hown0 b h)
    ·have:b<w.heap.size:=hb;omega
  ·unfold zMh;show match s.hp k with|none=>s1.hp k=none|some o=>match s1.hp k with|none=>True|some o'=>_
   rcases hspl k with ⟨i,hi,rfl⟩|hk'
   ·rcases hcase i with ⟨j,hj⟩|hn
    ·have hij:=hτs i j hj;obtain⟨o,o',o1,h1,h2,h3,h4,h5,h6,h7,h8,h9,h10,h11,h12,_⟩:=hheld i j hj;rw[hp1 i o1 h3,hij,h2];simp only;have he1:(s1.ctx E w' η1).η j=η' i:=by rw[← hij];exact hη1 i hi
     rw[he1];refine⟨by rw[h8,h5],by rw[h9,h4],fun hm=>h10 (by rw[← h4];exact hm),by rw[zDx];omega,fun hl=>?_⟩
     rw[zDx]at hl;exact h12 (by omega)
    ·rw[hτn i hn]at hk;exact absurd hk (hfr i hi hn)
   ·rw[hp0 k hk'];cases s.hp k with
    |none=>simp
    |some o=>simp[FSt.ctx,hη0 k hk']
 have R:Rens ((outF obs.length obs' res gl).ctx E' w' η') (s1.ctx E w' η1) τ:=by
  refine⟨rfl,rfl,rfl,fun i hi=>?_⟩
  have hi':i<obs'.length:=hi;refine⟨.inl ((hids _).2 ⟨i,hi',rfl⟩),hη1 i hi',fun o1 h1=>?_⟩
  have h2:=hp1 i obs'[i] (by simp[hi'])
  have h1':s1.hp (τ i)=some o1:=h1;rw[h2]at h1';cases h1';exact⟨obs'[i],by show obs'[i]?=_;simp[hi'],by rw[zDx],rfl,Iff.rfl⟩
 have hOO:(∀b,(s.ctx E w η).O b→¬E'.own0 b→E'.base b)→∀b,(s1.ctx E w' η1).O b→((outF obs.length obs' res gl).ctx E' w' η').O b:=fun hsh b hb=>by
  rcases hO1 b hb with h|⟨k,o,h1,h2,h3,h4⟩|⟨i,o,h1,h2,h3⟩
  ·exact .inl (hsh b (.inl h) (hEb b h))
  ·exact .inl (hsh b (.inr ⟨k,o,h2,h3,h4⟩) (hnot0 k o b h1 h2 h4))
  ·exact .inr ⟨i,o,h1,h2,h3⟩
 have hslot:=ho.slots 0
 have hkq:zPn w w':=fun b o2 hb hq=>by
  rw[hblk b (Array.getElem?_eq_some_iff.1 hb).1 fun h0=>?_]
  ·exact hb
  ·obtain⟨j,o3,h2,_,h4⟩:=hown0 b h0;obtain⟨us3,_,r3⟩:=(hr.laid.obj j o3 h2).row;rw[r3.notOpq h4 hb]at hq;cases hq
 refine⟨η1,⟨fun t=>zBg K _ _ (hr.slots t),⟨fun k o hko=>?_,fun k1 k2 o1 o2 b h1 h2 n1 n2 b1 b2=>?_⟩,?_,fun b hb=>?_,hr.tmps,hr.defers.keep hkq,⟨hr.held.nb,fun k hk=>?_⟩,fun g p hp=>zBg K _ _ (hr.glob g p hp),fun p hp=>zBg K.asData _ _ (hr.ghost p hp)⟩,?_⟩
 ·rcases hspl k with ⟨i,hi,rfl⟩|hk
  ·obtain⟨oi,hoi,hmem⟩:∃oi,obs'[i]?=some oi∧oi∈obs':=⟨obs'[i],by simp[hi],List.getElem_mem hi⟩
   have h4:=hp1 i oi hoi;have h1':s1.hp (τ i)=some o:=hko;rw[h4]at h1';cases h1';have hkr:=hk' oi hmem;obtain⟨p,l,n,⟨us,r1,r2⟩,_,_,hbx⟩:=ho.laid.obj i oi hoi;have hdec:decide (oi.k=Kind.ro)=false:=decide_eq_false hkr;rw[hdec]at r1;have hη1i:(s1.ctx E w' η1).η (τ i)=η' i:=hη1 i hi;refine⟨p,.inl ((hids _).2 ⟨i,hi,rfl⟩),by rw[zDx];exact n,⟨us,?_,?_⟩,fun h=>absurd h hkr,fun _ b hb=> .inr ⟨τ i,_,h4,hkr,hb⟩,fun h=>by rw[hη1i];exact hbx h⟩
   ·show RVl { s1.ctx E w' η1 with data:=decide (oi.k=Kind.ro) } (rens τ oi.xs) us
    rw[hdec];exact zHb R _ _ (hsh.imp (fun h=>h.2 _ hmem) hOO) r1
   ·rw[hη1i];unfold zGw at r2 ⊢;simp only[zDx];exact r2
  ·have hko':s1.hp k=some o:=hko;rw[hp0 k hk]at hko';obtain⟨p,l,n,⟨us,r1,r2⟩,hro,hown,hbx⟩:=hr.laid.obj k o hko';have hη1k:(s1.ctx E w' η1).η k=η k:=hη0 k hk;refine⟨p,.inr l,n,⟨us,zCm (K.withData rfl _) _ _ r1,by rw[hη1k];exact r2.keep fun b hb=>hblk b (r2.lt hb) (hnot0 k o b hk hko' hb)⟩,fun hkk b hb hOb=>?_,fun hkk b hb=> .inr ⟨k,o,hko,hkk,hb⟩,fun h=>by rw[hη1k];exact hbx h⟩
   rw[hη1k]at hb;have hbw:b<w.heap.size:=r2.lt hb;rcases hO1 b hOb with h|⟨k2,o2,_,h2,h3,h4⟩|⟨i,o2,h1,h2,h3⟩
   ·exact hro hkk b hb (.inl h)
   ·exact hro hkk b hb (.inr ⟨k2,o2,h2,h3,h4⟩)
   ·rcases hnew i o2 b h1 h2 h3 with h|h
    ·exact hnot0 k o b hk hko' hb h
    ·omega
 ·-- distinct
  have e1:s1.hp k1=some o1:=h1;have e2:s1.hp k2=some o2:=h2;have b1':blk (η1 k1)=some b:=b1;have b2':blk (η1 k2)=some b:=b2;rcases hspl k1 with ⟨i,hi,rfl⟩|hk1<;>rcases hspl k2 with ⟨i',hi',rfl⟩|hk2
  ·rw[hp1 i obs'[i] (by simp[hi])]at e1
   rw[hp1 i' obs'[i'] (by simp[hi'])]at e2
   cases e1;cases e2
   rw[hη1 i hi]at b1';rw[hη1 i' hi']at b2';rw[ho.laid.inj i i' obs'[i] obs'[i'] b (by show obs'[i]?=_;simp[hi]) (by show obs'[i']?=_;simp[hi']) n1 n2 b1' b2']
  ·rw[hp1 i obs'[i] (by simp[hi])]at e1
   cases e1
   rw[hη1 i hi]at b1';rw[hp0 k2 hk2]at e2;rw[hη0 k2 hk2]at b2';have hbw:b<w.heap.size:=hOlt b (.inr ⟨k2,o2,e2,n2,b2'⟩);rcases hnew i obs'[i] b (by simp[hi]) n1 b1' with h|h
   ·exact absurd h (hnot0 k2 o2 b hk2 e2 b2')
   ·omega
  ·rw[hp1 i' obs'[i'] (by simp[hi'])]at e2
   cases e2
   rw[hη1 i' hi']at b2';rw[hp0 k1 hk1]at e1;rw[hη0 k1 hk1]at b1';have hbw:b<w.heap.size:=hOlt b (.inr ⟨k1,o1,e1,n1,b1'⟩);rcases hnew i' obs'[i'] b (by simp[hi']) n2 b2' with h|h
   ·exact absurd h (hnot0 k1 o1 b hk1 e1 b1')
   ·omega
  ·rw[hp0 k1 hk1]at e1;rw[hp0 k2 hk2]at e2;rw[hη0 k1 hk1]at b1';rw[hη0 k2 hk2]at b2';exact hr.laid.inj k1 k2 o1 o2 b e1 e2 n1 n2 b1' b2'
 ·have hs:=ho.since;refine⟨by rw[hs.os,hw0];exact hr.since.os,by rw[hs.tape,hw0];exact hr.since.tape,by rw[hs.output,hw0];exact hr.since.output,Nat.le_trans hr.since.size hsize,fun b hb hn=>?_⟩
  have hbw:=Nat.lt_of_lt_of_le hb hr.since.size;rw[hblk b hbw fun h0=>?_]
  ·exact hr.since.block b hb hn
  ·rcases hr.fresh b (hown0 b h0)with h|h
   ·exact hn h
   ·omega
 ·rcases hO1 b (.inr hb)with h|⟨k,o,_,h2,h3,h4⟩|⟨i,o,h1,h2,h3⟩
  ·obtain⟨k,o,h1,h2,h3⟩:=hb;by_cases hbw:b<w.heap.size
   ·have:=(K.own b hbw (.inr ⟨k,o,h1,h2,h3⟩));rcases this with h'|h'
    ·rcases hspl k with ⟨i,hi,rfl⟩|hk
     ·have e1:s1.hp (τ i)=some o:=h1;rw[hp1 i obs'[i] (by simp[hi])]at e1
      cases e1
      rw[hη1 i hi]at h3;rcases hnew i obs'[i] b (by simp[hi]) h2 h3 with h|h
      ·exact hr.fresh b (hown0 b h)
      ·omega
     ·have e1:s1.hp k=some o:=h1;rw[hp0 k hk]at e1;rw[hη0 k hk]at h3;exact hr.fresh b ⟨k,o,e1,h2,h3⟩
    ·exact hr.fresh b h'
   ·exact .inr (Nat.le_trans hr.since.size (by omega))
  ·exact hr.fresh b ⟨k,o,h2,h3,h4⟩
  ·rcases hnew i o b h1 h2 h3 with h|h
   ·exact hr.fresh b (hown0 b h)
   ·exact .inr (Nat.le_trans hr.since.size h)
 ·obtain⟨hkk,o0,o,h1,h2,h3,h4,h5,h6,h7,h8⟩:=hr.held.at_ k hk;refine⟨.inr hkk,?_⟩;rcases hspl k with ⟨i,hi,rfl⟩|hk2
  ·rcases hcase i with ⟨j,hj⟩|hn
   ·have hij:=hτs i j hj;obtain⟨p,o',o1,g1,g2,g3,g4,g5,g6,g7,g8,g9,g10,g11,g12,_⟩:=hheld i j hj;rw[hij]at h2 h6 h8 h1;rw[g2]at h2;cases h2;refine⟨o0,_,by rw[hij];exact h1,hp1 i o1 g3,g7,by show o1.e=_;rw[g8,← g5,h4],by show o1.k= .map↔_;rw[g9,← g4,h5],fun hm=>?_,by rw[zDx];omega,fun hl=>?_⟩
    ·rw[hη1 i hi,g10 (by rw[← g4];exact h5.2 hm),h6 hm,hij]
    ·rw[zDx]at hl;rw[hη1 i hi,g12 (by omega),h8 (by omega),hij]
   ·rw[hτn i hn]at hkk;exact absurd hkk (hfr i hi hn)
  ·exact⟨o0,o,h1,by rw[hp0 k hk2];exact h2,h3,h4,h5,by rw[hη0 k hk2];exact h6,h7,by rw[hη0 k hk2];exact h8⟩
 ·exact zTb R _ _ (hsh.imp (·.1) hOO) hslot
def olds:Ren→List Nat
 |[]=>[]
 |(_,some j)::r=>j::olds r
 |(_,none)::r=>olds r
theorem yIq:∀ {σ:Ren} {i j:Nat},look σ i=some (some j)→j∈olds σ
 |[],i,j,h=>by simp[look]at h
 |(k,x)::r,i,j,h=>by
  simp only[look]at h;split at h
  ·cases h;simp[olds]
  ·have:=yIq h;cases x<;>simp[olds,this]
structure yDx(P:Program)(o:Oper)(ρ:Operand→V)(hp:Heap)(kn:Nat→Prop)(G:Nat→Option (Nat × List V))(nb fid:Nat)(e:Eff):Prop where
 ex:∃fo args tys f first caps obs args0 obs' res σ bor fz gl,o.op= .call { callee:= .value fo,args:=args,argTypes:=tys }∧ρ fo= .func (.func f) first caps∧FnR P f obs args0 obs' res gl∧(∀g p,glf gl g=some p→G g=some p) ∧
  vsLe hp (σf σ) (· ∈bor) (first++args.toList.map ρ++caps) args0∧Hand hp σ bor obs∧(∀o∈obs',o.k≠ .ro)∧(∀i,i<obs'.length→(∀j,look σ i≠some (some j))→¬kn (fid+i)) ∧
  ((fz=[]∧(bor=[]∨(res.noSl∧∀o∈obs',zGv o.xs)))∨(fzOk hp bor nb fz∧zZc hp bor fz))∧e=⟨res.ren (τr σ fid),outU (τr σ fid) 0 obs'++fz,bor++olds σ⟩
theorem FSt.upd_append(s:FSt)(l r:List (Nat × Obj)):(s.upd r).upd l=s.upd (l++r):=by
 have h1:((s.upd r).upd l).hp=(s.upd (l++r)).hp:=(yAi l r s.hp).symm
 have h2:((s.upd r).upd l).kn=(s.upd (l++r)).kn:=by
  funext k
  simp only[FSt.upd,List.map_append,List.mem_append];exact propext or_assoc.symm
 generalize hx:(s.upd r).upd l=x at *
 generalize hy:s.upd (l++r)=y at *
 have h3:x.sl=y.sl:=by rw[← hx,← hy];rfl
 have h4:x.N=y.N:=by rw[← hx,← hy];rfl
 have h5:x.nb=y.nb:=by rw[← hx,← hy];rfl
 have h6:x.gl=y.gl:=by rw[← hx,← hy];rfl
 cases x;cases y
 simp_all
theorem yCy(hr:Rel E s a w η){fid:Nat}{e:Eff}(h:yDx P o s.ev s.hp s.kn s.gl s.nb fid e):∃f cargs,(execOp a.eval o).run P w= .ok (.enter f cargs) w ∧
  Calls P f cargs w fun e' w'=>∃v η1,e'= .returned v∧RV ((s.upd e.upd).ctx E w' η1) e.val v∧Rel E (s.upd e.upd) a w' η1:=by
 obtain⟨fo,args,tys,f,first,caps,obs,args0,obs',res,σ,bor,fz,gl,ho,hf,⟨hex,hfr⟩,hG,hargs,H,hk',hnew,hsh,rfl⟩:=h.ex
 obtain⟨cargs,hall,hrun⟩:=yCm hr ho hf hex
 have hin:=zUm hr H hall hargs hG
 refine⟨f,cargs,hrun,?_⟩
 have hcall:=hfr (refE E s w η σ bor obs (zGq hr)) cargs (η2 η σ) rfl rfl rfl (fun b=>Iff.rfl) rfl rfl hin
 refine Calls.mono hcall fun e' w' ⟨v,η',he,hout⟩=>?_
 rcases hsh with ⟨rfl,hsh⟩|⟨hz,hza⟩
 ·obtain⟨η1,h1,h2⟩:=zOm hr H.light (E':=refE E s w η σ bor obs (zGq hr)) rfl (fun b=>Iff.rfl) rfl rfl hk' hnew (by
   rcases hsh with hb|hsh
   ·subst hb;exact .inr fun b hb hn=>⟨hb,by simp[Bor],hn⟩
   ·exact .inl hsh) hout
  simp only[List.append_nil];exact⟨v,η1,he,h2,h1⟩
 ·obtain⟨hr2,hO⟩:=hr.freeze hz hza;have hzn:∀i,i∈fz.map (·.1)→i∈bor∧s.kn i:=fun i hi=>by
   obtain⟨_,ob,_,h1,_,h2,_⟩:=yGm hz i hi;exact⟨h1,(hr.laid.obj i ob h2).lt⟩
  have HL:xLn (s.upd fz).hp σ bor obs:=⟨H.light.old,H.light.inj,H.light.tot,fun i j hj=>by
   obtain⟨o1,o2,q1,q2,q3⟩:=H.light.at_ i j hj;refine⟨o1,o2,q1,?_,q3⟩;show zCy fz s.hp j=_
   rw[zFc _ _ _ fun hi=>(H.old i j hj).2 (hzn j hi).1]
   exact q2⟩
  obtain⟨η1,h1,h2⟩:=zOm hr2 HL (E':=refE E s w η σ bor obs (zGq hr)) (fid:=fid) rfl (fun b=>Iff.rfl) rfl rfl hk' (fun i hi hj hkn=>by
   rcases hkn with hkn|hkn
   ·exact hnew i hi hj (hzn _ hkn).2
   ·exact hnew i hi hj hkn) (.inr fun b hb hn=>by
    obtain⟨q1,q2⟩:=(hO b).1 hb;exact⟨q1,q2,hn⟩) hout
  rw[FSt.upd_append]at h1 h2;exact⟨v,η1,he,h2,h1⟩
end
end Go.AM
