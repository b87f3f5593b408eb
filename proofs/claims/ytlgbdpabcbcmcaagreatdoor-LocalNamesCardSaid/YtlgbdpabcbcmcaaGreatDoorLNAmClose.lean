/- Out of the reading of the arguments: what is known of them, as abstract values. -/
import Derived.Test.YtlgbdpabcbcmcaaGreatDoorLNAmSimp
import Derived.ProofKit
import Derived.OpenShut
import Derived.SizedLaws
import Derived.ChangeCalls
set_option linter.unusedSimpArgs false
set_option linter.unusedVariables false
namespace Go.AM
open Go.RowKit Go.ChangeShapes Go.WideShapes
def yQc(P:Program):Nat→List Field→Option Nat
 |k,[]=>some k
 |k,f::fs=>if f.offset=k then yQc P (k+P.cellsOf f.type) fs else none
def zRr(P:Program):Nat→TypeId→Bool
 |0,_=>false
 |n+1,t=>match P.underlying t with
  |some .bool|some (.int _)|some .string=>decide (P.cellsOf t=1)
  |some (.slice e)=>decide (P.cellsOf t=1)&&decide (0<P.cellsOf e)&&decide (0<P.bytesOf e)&&zRr P n e
  |some (.struct fs)=>decide (yQc P 0 fs.toList=some (P.cellsOf t))&&fs.toList.all fun f=>zRr P n f.type
  |some (.array k e)=>decide (P.cellsOf t=k*P.cellsOf e)&&zRr P n e
  |_=>false
def one(P:Program)(R:TypeId→List V→Prop)(e:TypeId)(y:V):Prop:=
 match zAn P e with
 |some true=>∃cs,y= .agg cs∧R e cs
 |_=>R e [y]
def zIw(R:TypeId→List V→Prop):List Field→List V→Prop
 |[],xs=>xs=[]
 |f::fs,xs=>∃ys zs,xs=ys++zs∧R f.type ys∧zIw R fs zs
def sh(P:Program):Nat→TypeId→List V→Prop
 |0,_,_=>False
 |n+1,t,xs=>match P.underlying t with
  |some .bool=>∃b,xs=[.bool b]
  |some (.int k)=>if k.signed=true then ∃m,xs=[.int k m]else ∃m:Nat,xs=[.int k m]
  |some .string=>∃s,xs=[.str s]∧s.size≤140737488355328
  |some (.slice e)=>∃ys,xs=[.sl (P.cellsOf e) ys]∧ys.length*P.bytesOf e≤140737488355328∧∀y∈ys,one P (sh P n) e y
  |some (.struct fs)=>zIw (sh P n) fs.toList xs
  |some (.array k e)=>∃yss:List (List V),yss.length=k∧xs=yss.flatten∧∀ys∈yss,sh P n e ys
  |_=>False
theorem ySw{α:Type}(Q:Nat→α→Prop):∀(n:Nat),(∀i,i<n→∃z,Q i z)→∃l:List α,l.length=n∧∀i z,l[i]?=some z→Q i z
 |0,_=>⟨[],rfl,by simp⟩
 |n+1,h=>by
  obtain⟨l,h1,h2⟩:=ySw Q n fun i hi=>h i (by omega)
  obtain⟨z,hz⟩:=h n (by omega)
  refine⟨l++[z],by simp[h1],fun i x hx=>?_⟩
  by_cases hi:i<l.length
  ·rw[List.getElem?_append_left hi]at hx;exact h2 i x hx
  ·rw[List.getElem?_append_right (by omega)]at hx
   have:i-l.length=0:=by
    have:=(List.getElem?_eq_some_iff.1 hx).1;simp at this;omega
   rw[this]at hx;simp at hx;subst hx;have:i=n:=by omega
   rw[this];exact hz
section
variable {H : Type} {enc : TypeId × Value → H} {P : Program} {w : World} {sp : Nat → Bool} {hd : Bool}
def Read(P:Program)(w:World)(n:Nat)(t:TypeId)(cs:List Value):Prop:=
 ∃xs,RVl (dctx w fun _=>False) xs cs∧(∀c∈cs,c.oneCell'=true)∧cs.length=P.cellsOf t∧sh P n t xs
theorem zWa{n:Nat}:∀(fs:List Field) (k m:Nat) (cs:List Value),yQc P k fs=some m→m≤cs.length→(∀f∈fs,Read P w n f.type ((cs.drop f.offset).take (P.cellsOf f.type))) →
  k≤m∧∃xs,RVl (dctx w fun _=>False) xs ((cs.drop k).take (m-k))∧(∀c∈(cs.drop k).take (m-k),c.oneCell'=true)∧zIw (sh P n) fs xs
 |[],k,m,cs,ht,hm,_=>by
  simp only[yQc,Option.some.injEq]at ht;subst ht;exact⟨Nat.le_refl _,[],by simp[RVl],by simp,by simp[zIw]⟩
 |f::fs,k,m,cs,ht,hm,h=>by
  simp only[yQc]at ht;split at ht
  ·rename_i ho;obtain⟨h1,zs,h2,h3,h4⟩:=zWa fs _ m cs ht hm fun g hg=>h g (by simp[hg])
   obtain⟨ys,g1,g2,g3,g4⟩:=h f (by simp)
   rw[ho]at g1 g2 g3;have e:(cs.drop k).take (m-k)=(cs.drop k).take (P.cellsOf f.type)++(cs.drop (k+P.cellsOf f.type)).take (m-(k+P.cellsOf f.type)):=by
    rw[show m-k=P.cellsOf f.type+(m-(k+P.cellsOf f.type)) by omega,List.take_add,List.drop_drop]
   refine⟨by omega,ys++zs,?_,?_,ys,zs,rfl,g4,h4⟩
   ·rw[e];exact zCb g1 h2
   ·rw[e];intro c hc;rcases List.mem_append.1 hc with hc|hc
    ·exact g2 c hc
    ·exact h3 c hc
  ·cases ht
theorem yAz{n:Nat}{e:TypeId}:∀(k:Nat) (cs:List Value),cs.length=k*P.cellsOf e→(∀i,i<k→Read P w n e ((cs.drop (i*P.cellsOf e)).take (P.cellsOf e))) →
  ∃yss:List (List V),yss.length=k∧(∀ys∈yss,sh P n e ys)∧RVl (dctx w fun _=>False) yss.flatten cs∧(∀c∈cs,c.oneCell'=true)
 |0,cs,hl,_=>by
  have:cs=[]:=by simpa using hl
  subst this;exact⟨[],rfl,by simp,by simp[RVl],by simp⟩
 |k+1,cs,hl,h=>by
  obtain⟨ys,g1,g2,g3,g4⟩:=h 0 (by omega)
  simp only[Nat.zero_mul,List.drop_zero]at g1 g2 g3;obtain⟨yss,h1,h2,h3,h4⟩:=yAz (n:=n) (e:=e) k (cs.drop (P.cellsOf e)) (by rw[List.length_drop,hl,Nat.succ_mul];omega) fun i hi=>by
   have:=h (i+1) (by omega)
   rw[List.drop_drop];rwa [Nat.succ_mul,Nat.add_comm]at this
  refine⟨ys::yss,by simp[h1],?_,?_,?_⟩
  ·intro z hz;rcases List.mem_cons.1 hz with rfl|hz
   ·exact g4
   ·exact h2 z hz
  ·rw[List.flatten_cons,← List.take_append_drop (P.cellsOf e) cs];exact zCb g1 h3
  ·intro c hc;rw[← List.take_append_drop (P.cellsOf e) cs]at hc;rcases List.mem_append.1 hc with hc|hc
   ·exact g2 c hc
   ·exact h4 c hc
def yLa(P:Program)(e:TypeId)(cs:List Value):Value:=
 match zAn P e with
 |some true=> .agg cs.toArray
 |_=>cs.headD undef
theorem xNw{n:Nat}{e:TypeId}(hr:zAn P e≠some true){xs:List V}(h:sh P n e xs):∃x,xs=[x]:=by
 cases n with
 |zero=>simp[sh]at h
 |succ n=>
  unfold sh at h;unfold zAn at hr;split at h
  ·obtain⟨b,rfl⟩:=h;exact⟨_,rfl⟩
  ·split at h<;>(obtain⟨b,rfl⟩:=h;exact⟨_,rfl⟩)
  ·obtain⟨b,rfl,_⟩:=h;exact⟨_,rfl⟩
  ·obtain⟨b,rfl,_⟩:=h;exact⟨_,rfl⟩
  ·simp_all
  ·simp_all
  ·exact h.elim
theorem yIk{n:Nat}{e:TypeId}{cs:List Value}(h:Read P w n e cs):∃y,RV (dctx w fun _=>False) y (yLa P e cs)∧one P (sh P n) e y∧(yLa P e cs).cells.toList=cs:=by
 obtain⟨xs,h1,h2,h3,h4⟩:=h
 unfold yLa one
 by_cases hr:zAn P e=some true
 ·rw[hr];simp only;refine⟨.agg xs,?_,⟨xs,rfl,h4⟩,rfl⟩;simp only[RV];exact⟨_,rfl,by simpa using h1,by simpa using h2⟩
 ·obtain⟨x,rfl⟩:=xNw hr h4;simp only[RVl]at h1;obtain⟨u,_,rfl,h1,rfl⟩:=h1;have hu:=h2 u (by simp)
  refine⟨x,?_,?_,?_⟩
  ·split
   ·exact absurd ‹_› hr
   ·exact h1
  ·split
   ·exact absurd ‹_› hr
   ·exact h4
  ·split
   ·exact absurd ‹_› hr
   ·simp only[List.headD_cons];cases u<;>simp_all [Value.cells,Value.oneCell']
theorem zHe{e:TypeId}:∀ {ds:List (DataW H)} {d:DataW H},d∈ds→∀n∈d.weights P e,n∈DataW.weightsAll P e ds
 |d0::ds,d,hd,n,hn=>by
  simp only[DataW.weightsAll,List.mem_append];rcases List.mem_cons.1 hd with rfl|hd
  ·exact .inl hn
  ·exact .inr (zHe hd n hn)
theorem yPy{n:Nat}:∀ {t:TypeId},zRr P n t=true→∀ {fuel:Nat} {cs:List Value} {x:DataW H × List MemPlace},DataW.trod enc P w 0 sp hd fuel t cs=some x→(∀m∈x.1.weights P t,m≤140737488355328)→Read P w n t cs:=by
 induction n with
 |zero=>intro t h;simp[zRr]at h
 |succ n ih=>
  intro t hT fuel cs x h hw;unfold zRr at hT;split at hT
  ·rename_i ht;obtain⟨b,rfl,_⟩:=DataW.trod_bool ht h;exact⟨[.bool b],by simp[RVl,RV],by simp[Value.oneCell'],by simpa using(of_decide_eq_true hT).symm,by simp[sh,ht]⟩
  ·rename_i k ht;obtain⟨m,rfl,_,hi⟩:=DataW.trod_int ht h;have hk:k.has m:=by simpa[Lit.wf,IntKind.has] using hi
   have hsh:sh P (n+1) t [.int k m]:=by
    simp only[sh,ht];split
    ·exact⟨m,rfl⟩
    ·rename_i hs;have h0:0≤m:=by
      have h1:=hk.1;cases k<;>first|exact absurd rfl hs|simpa[IntKind.min,IntKind.signed] using h1
     obtain⟨j,rfl⟩:=Int.eq_ofNat_of_zero_le h0;exact⟨j,rfl⟩
   refine⟨[.int k m],?_,by simp[Value.oneCell'],by simpa using(of_decide_eq_true hT).symm,hsh⟩
   simp[RVl,RV,hk]
  ·rename_i ht;obtain⟨s,rfl,rfl,_⟩:=DataW.trod_string ht h;have hs:s.size≤140737488355328:=hw _ (by simp[DataW.weights])
   refine⟨[.str s],?_,by simp[Value.oneCell'],by simpa using(of_decide_eq_true hT).symm,by simp[sh,ht,hs]⟩
   simp[RVl,RV]
  ·rename_i e ht;simp only[Bool.and_eq_true,decide_eq_true_eq]at hT;obtain⟨⟨⟨hc,he⟩,hby⟩,hd'⟩:=hT;rcases DataW.trod_slice ht h with ⟨rfl,_⟩|⟨a,len,cap,elems,rest,m,_,rfl,rfl,_,hl,hm,hlen,hel,_⟩
   ·refine⟨[.sl (P.cellsOf e) []],?_,by simp[Value.oneCell'],by simpa using hc.symm,by simp[sh,ht]⟩
    simp only[RVl,RV];exact⟨_,[],rfl,⟨none,0,[],rfl,by simp,by simp,rfl,by simp,by simp[flat],.inl trivial⟩,rfl⟩
   ·simp only[DataW.weights,ht,List.length_map,List.mem_cons,List.mem_append]at hw;have hwl:elems.length*P.bytesOf e≤140737488355328:=by
     have:=hw _ (.inl rfl);rw[Nat.add_mul]at this;omega
    have hwe:∀z∈elems,∀q∈z.1.weights P e,q≤140737488355328:=fun z hz q hq=>
     hw q (.inr (.inl (zHe (List.mem_map.2 ⟨z,hz,rfl⟩) q hq)))
    have hR:∀i,i<len→∃z:V × Value × List Value,(w.cells? 0 (a.add (i*P.cellsOf e)) (P.cellsOf e)=some z.2.2)∧z.2.2.length=P.cellsOf e∧(∀c∈z.2.2,c.oneCell'=true)∧RV (dctx w fun _=>False) z.1 z.2.1∧one P (sh P n) e z.1∧z.2.1.cells.toList=z.2.2:=by
     intro i hi;have h1:=hel i hi;have hi':i<elems.length:=by omega
     rw[List.getElem?_eq_getElem hi']at h1;obtain⟨ci,h2,h3⟩:=Option.bind_eq_some_iff.1 h1;have hr:=ih hd' h3 (hwe _ (List.getElem_mem hi'));obtain⟨y,g1,g2,g3⟩:=yIk hr;obtain⟨_,_,g4,g5,_⟩:=hr;exact⟨(y,yLa P e ci,ci),h2,g5,g4,g1,g2,g3⟩
    obtain⟨l,l1,l2⟩:=ySw _ len hR;refine⟨[.sl (P.cellsOf e) (l.map (·.1))],?_,by simp[Value.oneCell'],by simpa using hc.symm,?_⟩
    ·have hsz:∀u∈l.map (·.2.1),u.cells.size=P.cellsOf e:=by
      intro u hu;obtain⟨z,hz,rfl⟩:=List.mem_map.1 hu;obtain⟨i,hi⟩:=List.mem_iff_getElem?.1 hz;obtain⟨_,g1,_,_,_,g5⟩:=l2 i z hi;rw[← g1,← g5];simp
     have hone:∀x∈flat (l.map (·.2.1)),x.oneCell'=true:=by
      intro x hx;obtain⟨u,hu,hx⟩:=List.mem_flatMap.1 hx;obtain⟨z,hz,rfl⟩:=List.mem_map.1 hu;obtain⟨i,hi⟩:=List.mem_iff_getElem?.1 hz;obtain⟨_,_,g2,_,_,g5⟩:=l2 i z hi;rw[g5]at hx;exact g2 x hx
     have hml:l.length≤140737488355328:=by
      rw[l1,← hlen];exact Nat.le_trans (Nat.le_mul_of_pos_right _ hby) hwl
     simp only[RVl,RV];refine⟨_,[],rfl,⟨some a,cap,l.map (·.2.1),by simp[l1],by simpa[l1] using hl,by simpa using hml,?_,hsz,hone,?_⟩,rfl⟩
     ·refine zFb (by simp) fun i y u hy hu=>?_
      simp only[List.getElem?_map,Option.map_eq_some_iff]at hy hu;obtain⟨z,hz,rfl⟩:=hy;obtain⟨z',hz',rfl⟩:=hu;rw[hz]at hz';cases hz';exact(l2 i z hz).2.2.2.1
     ·by_cases h0:l=[]
      ·exact .inl (by simp[h0])
      ·right
       obtain⟨z0,hz0⟩:∃z,l[0]?=some z:=by
        cases l with
        |nil=>exact absurd rfl h0
        |cons z _=>exact⟨z,rfl⟩
       have c0:=(l2 0 z0 hz0).1;obtain⟨_,k0,c1⟩:=World.cells?_some c0;have hb:=World.cells?_block c0 he;have hsp:a.spot=none:=by
        have c2:=c1 0 he;rw[List.getElem?_eq_getElem (by omega)]at c2
        unfold World.cell? at c2;split at c2
        ·simp only[Addr.add]at c2;cases hs:a.spot with
         |none=>rfl
         |some _=>simp[hs]at c2
        ·cases c2
       obtain⟨b,off,spot⟩:=a;rw[block_add]at hb;simp only at hsp hb;subst hsp;refine⟨b,off,rfl,fun h=>h,hb,fun j v hj=>?_⟩
       have hjl:=(List.getElem?_eq_some_iff.1 hj).1;rw[zBi hsz]at hjl;have hi:j / P.cellsOf e<(l.map (·.2.1)).length:=Nat.div_lt_of_lt_mul (by rwa [Nat.mul_comm])
       have hi':j / P.cellsOf e<l.length:=by simpa using hi
       have hz:l[j / P.cellsOf e]?=some l[j / P.cellsOf e]:=List.getElem?_eq_getElem hi';obtain⟨g0,g1,_,_,_,g5⟩:=l2 _ _ hz;have hm':j % P.cellsOf e<P.cellsOf e:=Nat.mod_lt _ he;have hf:=zOv hsz (j / P.cellsOf e) _ (by rw[List.getElem?_map,hz];rfl) (j % P.cellsOf e) hm'
       rw[Nat.mul_comm,Nat.div_add_mod]at hf;rw[hf]at hj;obtain⟨_,_,c3⟩:=World.cells?_some g0;have c4:=c3 _ hm';rw[← g5]at c4;have:(⟨b,off+j,none⟩:Addr)=((⟨b,off,none⟩:Addr).add (j / P.cellsOf e*P.cellsOf e)).add (j % P.cellsOf e):=by
        have:=Nat.div_add_mod j (P.cellsOf e);rw[Nat.mul_comm]at this;rw[Addr.add_lit,Addr.add_lit,Nat.add_assoc,this]
       show w.cell? _=_
       rw[this,c4];simpa using hj
    ·simp only[sh,ht];refine⟨_,rfl,by simpa[l1,← hlen] using hwl,fun y hy=>?_⟩
     obtain⟨z,hz,rfl⟩:=List.mem_map.1 hy;obtain⟨i,hi⟩:=List.mem_iff_getElem?.1 hz;exact(l2 i z hi).2.2.2.2.1
  ·rename_i fs ht;simp only[Bool.and_eq_true,decide_eq_true_eq,List.all_eq_true]at hT;obtain⟨ht1,ht2⟩:=hT;obtain⟨xs,m,_,rfl,hl,hn,hf⟩:=DataW.trod_struct ht h;simp only[DataW.weights,ht]at hw;obtain⟨_,ys,h1,h2,h3⟩:=zWa fs.toList 0 _ cs ht1 (by omega) fun f hfm=>by
    obtain⟨i,hi⟩:=List.mem_iff_getElem?.1 hfm;have hi':fs[i]?=some f:=by simpa using hi
    have h4:=hf i f hi';have:i<xs.length:=by rw[hn];exact(Array.getElem?_eq_some_iff.1 hi').1
    rw[List.getElem?_eq_getElem this]at h4;exact ih (ht2 f hfm) h4 fun q hq=>hw q (DataW.weights_mem_each (j:=i) (t:=f.type) (by simp[hi']) (by simp[this]) q hq)
   simp only[List.drop_zero,Nat.sub_zero]at h1 h2;rw[← hl,List.take_length]at h1 h2;exact⟨ys,h1,h2,hl,by simpa[sh,ht] using h3⟩
  ·rename_i k e ht;simp only[Bool.and_eq_true,decide_eq_true_eq]at hT;obtain⟨xs,m,_,rfl,hl,hn,hf⟩:=DataW.trod_array ht h;simp only[DataW.weights,ht]at hw;obtain⟨yss,h1,h2,h3,h4⟩:=yAz (n:=n) (e:=e) (w:=w) k cs (by rw[hl,hT.1]) fun i hi=>by
    have h4:=hf i hi;rw[List.getElem?_eq_getElem (by omega)]at h4
    exact ih hT.2 h4 fun q hq=>hw q (zHe (List.mem_map.2 ⟨_,List.getElem_mem _,rfl⟩) q hq)
   exact⟨_,h3,h4,hl,by simp only[sh,ht];exact⟨yss,h1,rfl,h2⟩⟩
  ·cases hT
def yZz(P:Program)(n:Nat):List TypeId→List V→Prop
 |[],xs=>xs=[]
 |t::ts,xs=>∃y r,xs=y::r∧one P (sh P n) t y∧yZz P n ts r
theorem xKz{n:Nat}{b0:Nat}{t:TypeId}{v:Value}{d:DataW H}{ps:List MemPlace}(hT:zRr P n t=true)(hval:Value.okWide P w .any b0 t v)(h:DataW.Trod enc P w 0 sp hd t v d ps)
  (hw:∀m∈d.weights P t,m≤140737488355328):∃x,RV (dctx w fun _=>False) x v∧one P (sh P n) t x:=by
 obtain⟨fuel,hf⟩:=h
 obtain⟨y,h1,h2,_⟩:=yIk (yPy hT hf hw)
 have:yLa P t v.cells.toList=v:=by
  unfold yLa zAn;cases n with
  |zero=>simp[zRr]at hT
  |succ n=>
   unfold zRr at hT;split at hT
   ·rename_i ht;obtain⟨b,rfl⟩:=okWide_bool ht hval;simp[ht,Value.cells]
   ·rename_i k ht;obtain⟨b,rfl⟩:=okWide_int ht hval;simp[ht,Value.cells]
   ·rename_i ht;obtain⟨b,rfl⟩:=okWide_string ht hval;simp[ht,Value.cells]
   ·rename_i e ht;obtain⟨a,l,c,rfl⟩:=okWide_slice ht hval;simp[ht,Value.cells]
   ·rename_i fs ht;obtain⟨cs,rfl,_⟩:=okWide_struct ht hval;simp[ht,Value.cells]
   ·rename_i k e ht;simp only[Value.okWide,ht]at hval;obtain⟨cs,rfl,_⟩:=hval;simp[ht,Value.cells]
   ·cases hT
 rw[this]at h1
 exact⟨y,h1,h2⟩
theorem yDm{n b0:Nat}:∀ {ts:List TypeId} {vs:List Value} {ds:List (DataW H)} {ps:List MemPlace},(∀t∈ts,zRr P n t=true)→(∀(j:Nat) t v,ts[j]?=some t→vs[j]?=some v→Value.okWide P w .any b0 t v) →
  DataW.TrodAll enc P w 0 sp hd ts vs ds ps→(∀m∈DataW.weightsEach P ts ds,m≤140737488355328)→∃xs,RVl (dctx w fun _=>False) xs vs∧yZz P n ts xs
 |[],vs,ds,ps,_,_,h,_=>by
  obtain⟨rfl,_,_⟩:=trodAll_nil h;exact⟨[],by simp[RVl],rfl⟩
 |t::ts,vs,ds,ps,hT,hval,h,hw=>by
  obtain⟨v,vs',d,ds',p,q,rfl,rfl,rfl,h1,h2⟩:=trodAll_cons h;simp only[DataW.weightsEach,List.mem_append]at hw;obtain⟨x,g1,g2⟩:=xKz (hT t (by simp)) (hval 0 t v rfl rfl) h1 fun m hm=>hw m (.inl hm)
  obtain⟨xs,g3,g4⟩:=yDm (fun t ht=>hT t (by simp[ht])) (fun j t v ht hv=>hval (j+1) t v (by simpa using ht) (by simpa using hv)) h2 fun m hm=>hw m (.inr hm)
  exact⟨x::xs,by simp only[RVl];exact⟨v,vs',rfl,g1,g3⟩,x,xs,rfl,g2,g4⟩
theorem yDl{W W':World}{sp':Nat→Bool}(hl:laidOutB P=true):∀ {ts:List TypeId} {vs:List Value} {ds:List (DataW H)} {ps:List MemPlace},(∀t∈ts,P.readableRec t=true∧t<P.types.size) →
  DataW.TrodAll enc P W 0 (fun _=>true) true ts vs ds ps→(∀p∈ps,W.sameAt W' p)→(∀p∈ps,sp' p.block=true)→DataW.TrodAll enc P W' 0 sp' true ts vs ds ps
 |[],vs,ds,ps,_,h,_,_=>by
  obtain⟨rfl,rfl,rfl⟩:=trodAll_nil h;exact trodAll_mk0
 |t::ts,vs,ds,ps,hT,h,hs,hp=>by
  obtain⟨v,vs',d,ds',p,q,rfl,rfl,rfl,h1,h2⟩:=trodAll_cons h;exact⟨p,q,WideElems.Trod_stays hl (hT t (by simp)).1 (hT t (by simp)).2 h1 (fun x hx=>hs x (by simp[hx])) (fun x hx=>hp x (by simp[hx])),
   yDl hl (fun t ht=>hT t (by simp[ht])) h2 (fun x hx=>hs x (by simp[hx])) (fun x hx=>hp x (by simp[hx])),rfl⟩
theorem yCr{f:FuncId}{fn:Func}{s:ChangeSpec}{tb:TypeId}{apart fresh handsOn again:Bool}{gl:zCd}(n:Nat)(hl:laidOutB P=true)(hv:s.vars=[])
  (hts:(fn.params.toList.all fun t=>zRr P n t&&(P.readableRec t&&decide (t<P.types.size)))=true) (hres:fn.resultTypes= #[tb]) (htb:P.underlying tb=some .bool)
  (hs:∀(H:Type) (ds:List (DataW H)),ds.length=fn.params.toList.length→s.fn H ds={ results:=[.lit (.bool true)],args:=ds })
  (law:∀xs,yZz P n fn.params.toList xs→FnD P f xs (.bool true) gl) (W:World) (hgl:yDw W (fun _=>False) gl) (base:Nat) (args:Array Value) (ds gs:List (DataW H)) (before:List MemPlace)
  (hval:∀(j:Nat) t v,fn.params[j]?=some t→args[j]?=some v→Value.okWide P W .any base t v) (hW:DataW.Whole enc P fn.params.toList s.vars apart W args.toList ds gs before)
  (hwt:(DataW.weightsEach P (fn.params.toList++s.plain.varTypes P) (ds++gs)).all (· ≤reachBytes)=true) :
  Calls P f args W fun e W'=>∃v,e= .returned v∧s.post enc P fn apart fresh handsOn again W args v W':=by
 have hW0:=hW
 obtain⟨p,q,hA,hV,rfl,hfz,hnd⟩:=hW
 rw[hv]at hV
 obtain⟨rfl,rfl⟩:=trodVars_none hV
 simp only[List.append_nil]at hW0 hwt
 have hvt:s.plain.varTypes P=[]:=by simp[ChangeSpec.plain,DataSpec.varTypes,hv]
 rw[hvt,List.append_nil]at hwt
 have hT:∀t∈fn.params.toList,zRr P n t=true∧P.readableRec t=true∧t<P.types.size:=fun t ht=>by
  have:=List.all_eq_true.1 hts t ht;simpa using this
 have hwm:∀m∈DataW.weightsEach P fn.params.toList ds,m≤140737488355328:=fun m hm=>by
  have:=List.all_eq_true.1 hwt m hm;have:m≤reachBytes:=by simpa using this
  unfold reachBytes at this;omega
 obtain⟨xs,h1,h2⟩:=yDm (fun t ht=>(hT t ht).1) (fun j t v ht hj=>hval j t v (by simpa using ht) (by simpa using hj)) hA hwm
 have hlen:=(trodAll_length hA).2
 have hfn:=hs H ds hlen
 refine((law xs h2).2 W (fun _=>False) args (fun _ h=>h.elim) h1 hgl).mono fun e W' he=>?_
 obtain⟨v,rfl,hb,hg⟩:=he
 simp only[RV]at hb
 subst hb
 have hlt:∀x∈p,x.block<W.heap.size:=fun x hx=>hW0.lt x hx
 have hB:Below W.heap.size W W':=⟨hg.os,hg.tape,hg.output,hg.size,fun k hk=>hg.block k hk (by simp)⟩
 have hrs:∀(b:Nat) (sp:Nat→Bool) (hd:Bool),DataW.TrodAll enc P W' b sp hd fn.resultTypes.toList ((Value.bool true).resultList fn.resultTypes.size) (s.fn H (ds++[])).results []:=fun b sp hd=>by
  rw[List.append_nil,hfn,hres];exact trodAll_mk1 (shut_bool htb true)
 have hargs:∀sp:Nat→Bool,(∀x∈p,sp x.block=true)→DataW.TrodAll enc P W' 0 sp true fn.params.toList args.toList (s.fn H (ds++[])).args p:=fun sp hsp=>by
  rw[List.append_nil,hfn];exact yDl hl (fun t ht=>(hT t ht).2) hA (fun x hx=>hB.same (hlt x hx)) hsp
 have hvars:∀sp:Nat→Bool,DataW.TrodVars enc P W' sp s.vars (s.fn H (ds++[])).vars []:=fun sp=>by
  rw[List.append_nil,hfn,hv];rfl
 have hold:∀x∈p,(fun b=>decide (b<W.heap.size)) x.block=true:=fun x hx=>by simpa using hlt x hx
 refine⟨_,rfl,ds,[],p,[],p,[],hW0,hrs _ _ _,hargs _ hold,hvars _,World.keptBut_mono (fun x hx=>⟨hx,.inr (.inl hx)⟩) (hB.frame (· ∈p)),fun _=>?_⟩
 refine⟨ok_one hres rfl (okWide_bool_mk htb true),_,_,([]++p)++[],⟨[]++p,[],trodAll_append (hargs _ (fun _ _=>rfl)) (hrs _ _ _),hvars _,rfl,?_,?_⟩,?_⟩
 ·intro b off hp;have hp':MemPlace.cell b off∈p:=by simpa using hp
  rw[hB.frozen (p:=⟨b,off,none⟩) (hlt _ hp')];exact hfz b off (by simpa using hp')
 ·intro ha;simpa using hnd ha
 ·intro x hx _;simpa using hx
end
end Go.AM
