/- Contracts and laws beneath the statement, in build order. -/
import Derived.Test.YtlgbdpabcbcmcaaGreatDoorLN2
set_option linter.unusedSimpArgs false
set_option linter.unusedVariables false
namespace Go.Proofs.YtlgbdpabcbcmcaaGreatDoor
open Go.AM Go.RowKit
set_option maxRecDepth 100000
section
theorem zUp(l:List Seen)(hb:l.length≤1048576):FnR Tryz.prog 71 [] [.sl 3 (l.map zBb)] [⟨.arr,127,3,l.map zBb⟩] (.obj 0 l.length):=by
 have hp:=zEc l
 refine zJa (fun hx=>?_) ?_
 ·have hl:l=[]:=by simpa using hx
  subst hl;refine zAv mixed Tryz.func71 rfl rfl (by simp[Tryz.ntmps71]) (by simp) fun hwf E=>?_
  simp(disch:=omega)[Tryz.ntmps71,go_sem];refine Le.mk [(0,none)] [] ⟨rfl,rfl,rfl⟩ ?_ ?_ ?_<;>simp[go_sem]
 ·refine zAv mixed Tryz.func71 rfl rfl (by simp[Tryz.ntmps71]) (by simp) fun hwf E=>?_
  simp(disch:=omega)[go_sem,List.length_map]at hwf;simp(disch:=omega)[Tryz.ntmps71,go_sem,List.length_map];refine⟨⟨by omega,by omega⟩,Le.mk [(0,some 64)] [64] ⟨rfl,rfl,rfl⟩ ?_ ?_ ?_⟩<;>simp[go_sem,hp]
theorem yMg(τ:Nat→Nat)(l:List Seen):rens τ (l.map zBb)=l.map zBb:=zDe _ (zEc l)
attribute [go_sem] yMg
def bhK(s:Sit)(g:List Seen)(l:List Int)(k:Nat):List Seen:=(List.range g.length).map fun i=>if i<k then zYo (sAt g i) (lAt l i)else sAt g i
theorem zUt(s:Sit)(g:List Seen)(l:List Int)(k:Nat):(bhK s g l k).length=g.length:=by simp[bhK]
theorem xKq(s:Sit)(g:List Seen)(l:List Int):bhK s g l 0=g:=by
 apply List.ext_getElem (by simp[bhK])
 intro i h1 h2
 simp[bhK,sAt,h2]
theorem xMn{s:Sit}{g:List Seen}{l:List Int}{k:Nat}(h:k<g.length):sAt (bhK s g l k) k=sAt g k:=by simp[bhK,sAt,h]
theorem xSu{s:Sit}{g:List Seen}{l:List Int}{k:Nat}(h:k<g.length):((bhK s g l k).map zBb).set k (zBb (zYo (sAt g k) (lAt l k)))=(bhK s g l (k+1)).map zBb:=by
 apply List.ext_getElem (by simp[bhK])
 intro i h1 h2
 simp only[bhK,List.getElem_set,List.getElem_map,List.getElem_range]
 by_cases e:k=i
 ·subst e;simp
 ·rw[if_neg e];by_cases e2:i<k
  ·rw[if_pos e2,if_pos (by omega)]
  ·rw[if_neg e2,if_neg (by omega)]
theorem yTw{s:Sit}(hs:Shp s){a:Nat}(ha:a<s.groups.length){m:Int}(hm:0≤m∧m≤1048576):∀k,k≤s.groups.length→0≤grK2 s a m k∧grK2 s a m k≤1048576
 |0,_=>hm
 |k+1,hk=>by
  have ih:=yTw hs ha hm k (by omega)
  have hb:=hs.bt a k ha (by omega)
  have h2:=xPb (grK2 s a m k) (betw s a k);have e:grK2 s a m (k+1)=if isAp s a k=true then maxI (grK2 s a m k) (betw s a k)else grK2 s a m k:=rfl
  rw[e];split<;>omega
theorem xMg{s:Sit}(hs:Shp s):∀k,k≤s.groups.length→0≤grK s k∧grK s k≤1048576
 |0,_=>⟨Int.le_refl 0,by show (0:Int)≤_;decide⟩
 |k+1,hk=>yTw hs (by omega) (xMg hs k (by omega)) _ (by omega)
theorem zZa{s:Sit}(hs:Shp s):0≤zQd s∧zQd s≤1048576:=xMg hs _ (by omega)
def bhG(s:Sit)(g:List Seen)(l:List Int):List Seen:=bhK s g l g.length
def bhT(s:Sit)(st:Int)(fl:Bool)(l:List Int):Int:=if zDo l=true then zQd s else if fl=true then maxI 0 (zQd s-1)else maxI 0 (st-1)
def zBe(s:Sit)(w:SafN)(l:List Int):SafN:=⟨bhG s w.groups l,bhT s w.start w.flashed l,zDo l⟩
set_option maxHeartbeats 4000000 in
theorem yHj(s:Sit)(g:List Seen)(st:Int)(fl:Bool)(l:List Int)(hs:Shp s)(hg:g.length=s.groups.length)(hl:l.length=s.groups.length)(hst:0≤st∧st≤1048576):FnD Tryz.prog 29 [sitV s,safV ⟨g,st,fl⟩,.sl 1 (lts l)] (safV (zBe s ⟨g,st,fl⟩ l)):=by
 have hsv:=zAr s
 have h16:=hs.g16
 have hz:=zZa hs
 have q1:=zUp g (by omega)
 have q2:=zNf l
 have q3:=zOt s hs
 have hbt:bhT s st fl l=if zDo l=true then zQd s else if fl=true then maxI 0 (zQd s-1)else maxI 0 (st-1):=rfl
 have hpl:zBa ((bhG s g l).map zBb):=zEc _
 rw[hsv]at q3 ⊢
 unfold zBe safV
 simp only
 rw[hbt]
 generalize zDo l=f at *
 generalize zQd s=z at *
 clear hbt
 refine zAd mixed Tryz.func29 rfl rfl (by simp[Tryz.ntmps29]) fun hwf E=>?_
 clear hwf
 simp(disch:=omega)[Tryz.ntmps29,go_sem]
 refine zAf q1 [] [] [] [] ?_ ?_ ?_ (.inl ⟨rfl,.inl rfl⟩) (fun _=>?_)
 iterate 3 (· simp[go_sem])
 simp(disch:=omega)[go_sem]
 refine zAa q2 [] (by simp[go_sem]) (.inl rfl) (by simp[go_sem]) (fun _=>?_)
 simp(disch:=omega)[go_sem]
 refine⟨.inl (by kernel_rfl),?_⟩
 refine zAe mixed (fun k:Nat=>siS s [(23,.int .i64 k),(22,.int .i64 g.length),(21,.obj 80 g.length),(7,.ptr 208 1 0 0),(6,.ptr 32 1 0 0),(4,.ptr 16 1 0 0),(3,.ptr 0 1 0 0),(2,.sl 1 (lts l))] [(208,⟨.box,47,3,[.agg [.obj 80 g.length,.int .i64 (maxI 0 (st-1)),.bool f]]⟩),(80,⟨.arr,127,3,(bhK s g l k).map zBb⟩),(32,⟨.box,47,3,[.agg [.nilS,.int .i64 0,.bool false]]⟩),(16,safB g st fl)] 1024 59) (fun k=>k≤g.length) (fun k=>g.length-k) 0 ?_ ?_ ?_
 ·omega
 ·rw[xKq];refine Le.mk [(0,some 0),(16,some 16),(32,some 32),(80,some 80),(208,some 208)] [0,16,32,80,208] ⟨rfl,rfl,rfl⟩ ?_ ?_ ?_<;>simp[go_sem,siS,sitV,safB,maxI]
 ·intro k hk;have e1:=zUt s g l k;simp(disch:=omega)[go_sem,siS,sitV,safB];refine zAc (fun h=>?_) (fun h=>?_)<;>simp at h
  ·have hkl:k<l.length:=by omega
   have hkg:k<s.groups.length:=by omega
   have hm:=nthL hkl;have hm2:=getL hkl;have hgn:=nthG hkg;have hn:=nthS (l:=bhK s g l k) (k:=k) (by rw[e1];exact h)
   rw[xMn h]at hn;have q6:=yMw (gAt s k) (sAt g k) (lAt l k);have e2:=xSu (s:=s) (l:=l) h;have e3:=zUt s g l (k+1);simp only[zBb,grpV]at q6;simp(disch:=omega)[go_sem,hn,h,hm,hkl,hkg,hgn,zBb,grpV,e1];have hb:∀h',(bhK s g l k)[k]'h'=sAt g k:=fun h'=>by rw[← xMn h];exact(yIg h').symm
   have hse:V.agg [.int .u8 (zYo (sAt g k) (lAt l k)).aspect,.int .i64 (zYo (sAt g k) (lAt l k)).since,.int .i64 (zYo (sAt g k) (lAt l k)).ended]=zBb (zYo (sAt g k) (lAt l k)):=rfl;refine zAa q6 [] (by simp[go_sem]) (.inl rfl) (by simp[go_sem]) (fun _=>?_)
   simp(disch:=omega)[go_sem];simp(disch:=omega)[go_sem,hb,h,e1,zBb];refine⟨.inl (by kernel_rfl),?_⟩
   rw[hse,e2];refine zAb (k+1) (by omega) (by omega) (Le.mk [(0,some 0),(16,some 16),(32,some 32),(80,some 80),(208,some 208)] [0,16,32,80,208] ⟨rfl,rfl,rfl⟩ ?_ ?_ ?_)<;>simp[go_sem]
  ·have hkk:k=g.length:=by omega
   subst hkk;have hG:bhK s g l g.length=bhG s g l:=rfl;have hGl:(bhG s g l).length=g.length:=zUt s g l _;rw[hG]at *;simp(disch:=omega)[go_sem];refine zAc (fun h5=>?_) (fun h5=>?_)
   ·subst h5;simp(disch:=omega)[go_sem];refine zAa q3 [] (by simp[go_sem]) (.inl rfl) (by simp[go_sem]) (fun _=>?_)
    simp(disch:=omega)[go_sem];exact hGl.symm
   ·subst h5;simp(disch:=omega)[go_sem];refine zAc (fun h6=>?_) (fun h6=>?_)
    ·subst h6;simp(disch:=omega)[go_sem];refine zAa q3 [] (by simp[go_sem]) (.inl rfl) (by simp[go_sem]) (fun _=>?_)
     simp(disch:=omega)[go_sem];exact⟨hGl.symm,by unfold maxI;split<;>split<;>omega⟩
    ·subst h6;simp(disch:=omega)[go_sem];exact hGl.symm
def saf0:SafN:=⟨[],0,false⟩
noncomputable def zIb(s:Sit)(w:SafN)(l:List Int):V:=
 if zAl s≠0 then .tup [safV saf0,.int .u8 0,.int .i64 (zAl s)]
 else if mayS s w=false then .tup [safV saf0,.int .u8 0,.int .i64 8]
 else if zCk s w.groups w.start w.flashed l≠0 then .tup [safV w,.int .u8 (zCk s w.groups w.start w.flashed l),.int .i64 0]
 else .tup [safV (zBe s w l),.int .u8 0,.int .i64 0]
theorem zXa{s:Sit}{g:List Seen}{st:Int}{fl:Bool}{l:List Int}(h:zCk s g st fl l=0):l.length=s.groups.length:=by
 by_cases e:l.length=s.groups.length
 ·exact e
 ·unfold zCk at h;rw[if_pos e]at h;exact absurd h (by decide)
theorem zGb{s:Sit}{w:SafN}(h:mayS s w=true):w.groups.length=s.groups.length∧0≤w.start∧w.start≤1048576:=by
 unfold mayS at h
 simp only[Bool.and_eq_true,beq_iff_eq,decide_eq_true_eq]at h
 exact⟨h.1.1.1,h.1.1.2,h.1.2⟩
set_option maxHeartbeats 4000000 in
theorem zXc(s:Sit)(w:SafN)(l:List Int)(hw:w.groups.length≤1048576):FnD Tryz.prog 46 [sitV s,safV w,.sl 1 (lts l)] (zIb s w l) tabG:=by
 have hsv:=zAr s
 have qc:=zCc s
 by_cases h:zAk s
 ·have hs:=zJx h;have e:zAl s=0:=by unfold zAl;rw[if_pos h]
  rw[e]at qc;have qm:=yUk s w hs hw;have hv:mayS s w=false→zIb s w l= .tup [safV saf0,.int .u8 0,.int .i64 8]:=fun h=>by unfold zIb;rw[if_neg (by rw[e];simp),if_pos h]
  have hv2:mayS s w=true→zCk s w.groups w.start w.flashed l≠0→zIb s w l= .tup [safV w,.int .u8 (zCk s w.groups w.start w.flashed l),.int .i64 0]:=fun h h2=>by unfold zIb;rw[if_neg (by rw[e];simp),if_neg (by rw[h];simp),if_pos h2]
  have hv3:mayS s w=true→zCk s w.groups w.start w.flashed l=0→zIb s w l= .tup [safV (zBe s w l),.int .u8 0,.int .i64 0]:=fun h h2=>by unfold zIb;rw[if_neg (by rw[e];simp),if_neg (by rw[h];simp),if_neg (by rw[h2];simp)]
  have qf:=fun h1=>yNz s w.groups w.start w.flashed l hs h1
  have qb:=fun h1 h2 h3=>yHj s w.groups w.start w.flashed l hs h1 h2 h3
  have qk:=zUp w.groups hw;have hlen:=fun h=>zGb (s:=s) (w:=w) h
  have hfl:=fun h=>zXa (s:=s) (g:=w.groups) (st:=w.start) (fl:=w.flashed) (l:=l) h
  have hbw:=yQv (zBe s w l);obtain⟨g,st,fl⟩:=w;simp only at *;generalize zIb s ⟨g,st,fl⟩ l=res at *;generalize hmm:mayS s ⟨g,st,fl⟩=mm at *;generalize hff:zCk s g st fl l=ff at *;have hbv:safV (zBe s ⟨g,st,fl⟩ l)= .agg [.sl 3 ((zBe s ⟨g,st,fl⟩ l).groups.map zBb),.int .i64 (zBe s ⟨g,st,fl⟩ l).start,.bool (zBe s ⟨g,st,fl⟩ l).flashed]:=rfl;rw[hbv]at qb hv3;generalize zBe s ⟨g,st,fl⟩ l=bs at *;rw[hsv]at qc qm qf qb ⊢;unfold safV saf0 at *;refine zAd mixed Tryz.func46 rfl rfl (by simp[Tryz.ntmps46]) fun hwf E=>?_
  clear hwf;simp(disch:=omega)[Tryz.ntmps46,go_sem];refine zAa qc [] (by simp[go_sem]) (.inl rfl) (by simp[go_sem]) (fun _=>?_) (by simp[tabG,go_sem])
  simp(disch:=omega)[go_sem];refine zAj qm [] (by simp[go_sem]) (fun h1=>?_) (fun h1=>?_)<;>try simp[inN]at h1
  ·subst h1;obtain⟨l1,l2,l3⟩:=hlen rfl;simp(disch:=omega)[go_sem];refine zAa (qf l1) [] (by simp[go_sem]) (.inl rfl) (by simp[go_sem]) (fun _=>?_)
   simp(disch:=omega)[go_sem];refine zAc (fun h2=>?_) (fun h2=>?_)<;>simp at h2
   ·rw[hv2 rfl h2];simp(disch:=omega)[go_sem];refine zAf qk [] [] [] [] ?_ ?_ ?_ (.inl ⟨rfl,.inl rfl⟩) (fun _=>?_)
    iterate 3 (· simp[go_sem])
    simp(disch:=omega)[go_sem];exact zAt (by simp[go_sem])
   ·rw[hv3 rfl h2];simp(disch:=omega)[go_sem];refine zAa (qb l1 (hfl h2) ⟨l2,l3⟩) [] (by simp[go_sem]) (.inl rfl) (by simp[go_sem]) (fun _=>?_)
    simp(disch:=omega)[go_sem]
  ·subst h1;rw[hv rfl];simp(disch:=omega)[go_sem]
 ·have e:zAl s=50:=by unfold zAl;rw[if_neg h]
  rw[e]at qc;have hv:zIb s w l= .tup [safV saf0,.int .u8 0,.int .i64 50]:=by unfold zIb;rw[if_pos (by rw[e];decide),e]
  rw[hv];unfold safV saf0 sitV at *;refine zAd mixed Tryz.func46 rfl rfl (by simp[Tryz.ntmps46]) fun hwf E=>?_
  clear hwf;simp(disch:=omega)[Tryz.ntmps46,go_sem];refine zAa qc [] (by simp[go_sem]) (.inl rfl) (by simp[go_sem]) (fun _=>?_) (by simp[tabG,go_sem])
  simp(disch:=omega)[go_sem]
def ltss(t:List (List Int)):List V:=t.map fun l=> .sl 1 (lts l)
theorem zTn(t:List (List Int)):zBa (ltss t):=zBc _ (fun c=>by simp[go_sem]) t
theorem zYr(t:List (List Int)):(ltss t).length=t.length:=by simp[ltss]
attribute [go_sem] zTn zYr
def tAt(t:List (List Int))(k:Nat):List Int:=t[k]?.getD []
theorem nthT{t:List (List Int)}{k:Nat}(h:k<t.length):nth (ltss t) k= .sl 1 (lts (tAt t k)):=by
 rw[ltss,zBt h];simp[tAt,h]
theorem getT{t:List (List Int)}{k:Nat}(h:k<t.length):∀h',(ltss t)[k]'h'= .sl 1 (lts (tAt t k)):=fun h'=>by rw[← nthT h,zQs h']
theorem yZo{s:Sit}{w:SafN}{l:List Int}(hs:Shp s)(h:w.groups.length=s.groups.length∧0≤w.start∧w.start≤1048576):(zBe s w l).groups.length=s.groups.length∧0≤(zBe s w l).start∧(zBe s w l).start≤1048576:=by
 have hz:=zZa hs
 obtain⟨h1,h2,h3⟩:=h
 refine⟨by rw[← h1];exact zUt s w.groups l _,?_⟩
 show 0≤bhT s w.start w.flashed l∧bhT s w.start w.flashed l≤1048576
 unfold bhT maxI
 (repeat' split)<;>omega
end
section
structure RunN where
 mode:Int
 well:Int
 lat:Bool
structure FacN where
 fresh:Bool
 plan:Bool
 eyes:Bool
 lights:Bool
def runV(r:RunN):V:= .agg [.int .u8 r.mode,.int .i64 r.well,.bool r.lat]
def facV(f:FacN):V:= .agg [.bool f.fresh,.bool f.plan,.bool f.eyes,.bool f.lights]
def mayR(lat:Bool)(f:FacN):Int:=if lat=true∨f.lights=false then 0 else if f.fresh=true∧f.plan=true∧f.eyes=true then 3 else if f.plan=true then 2 else 1
theorem ySo(r:RunN)(f:FacN):FnD Tryz.prog 159 [runV r,facV f] (.int .u8 (mayR r.lat f)):=by
 obtain⟨m,w,l⟩:=r
 obtain⟨f1,f2,f3,f4⟩:=f
 unfold runV facV
 cases l<;>cases f1<;>cases f2<;>cases f3<;>cases f4<;>(
  refine zAd mixed Tryz.func159 rfl rfl (by simp[Tryz.ntmps159]) fun hwf E=>?_
  clear hwf;simp(disch:=omega)[Tryz.ntmps159,go_sem,mayR])
theorem ySp(l:Bool)(f:FacN):0≤mayR l f∧mayR l f≤3:=by unfold mayR;(repeat' split)<;>omega
def zJh(s:Sit)(r:RunN)(f:FacN):RunN:=
 if mayR (r.lat|| !f.lights) f≤r.mode then⟨mayR (r.lat|| !f.lights) f,0,r.lat|| !f.lights⟩
 else if s.heal≤r.well+1 then⟨r.mode+1,0,r.lat|| !f.lights⟩else⟨r.mode,r.well+1,r.lat|| !f.lights⟩
set_option maxHeartbeats 1000000 in
theorem yLn(s:Sit)(r:RunN)(f:FacN)(hm:0≤r.mode∧r.mode≤3)(hw:0≤r.well∧r.well≤1048576):FnD Tryz.prog 100 [sitV s,runV r,facV f] (runV (zJh s r f)):=by
 obtain⟨m,w,l⟩:=r
 obtain⟨f1,f2,f3,f4⟩:=f
 have hL:FnD Tryz.prog 159 [.agg [.int .u8 m,.int .i64 w,.bool (l|| !f4)],.agg [.bool f1,.bool f2,.bool f3,.bool f4]] (.int .u8 (mayR (l|| !f4) ⟨f1,f2,f3,f4⟩)):=ySo ⟨m,w,l|| !f4⟩ ⟨f1,f2,f3,f4⟩
 have hin:=ySp (l|| !f4) ⟨f1,f2,f3,f4⟩
 have hres:∀l2,l2=(l|| !f4)→runV (zJh s ⟨m,w,l⟩ ⟨f1,f2,f3,f4⟩)=if mayR l2 ⟨f1,f2,f3,f4⟩≤m then .agg [.int .u8 (mayR l2 ⟨f1,f2,f3,f4⟩),.int .i64 0,.bool l2]else if s.heal≤w+1 then .agg [.int .u8 (m+1),.int .i64 0,.bool l2]else .agg [.int .u8 m,.int .i64 (w+1),.bool l2]:=by
  intro l2 h;subst h;unfold zJh runV;simp only;split
  ·rfl
  ·split<;>rfl
 generalize runV (zJh s ⟨m,w,l⟩ ⟨f1,f2,f3,f4⟩)=res at *
 unfold runV facV sitV
 simp only at *
 cases l<;>cases f4
 all_goals
  simp only[Bool.false_or,Bool.true_or,Bool.not_true,Bool.not_false]at hL hin hres;have hr:=hres _ rfl;clear hres;generalize mayR _ _=x at *;refine zAd mixed Tryz.func100 rfl rfl (by simp[Tryz.ntmps100]) fun hwf E=>?_
  clear hwf;simp(disch:=omega)[Tryz.ntmps100,go_sem];refine zAa hL [] (by simp[go_sem]) (.inl rfl) (by simp[go_sem]) (fun _=>?_)
  simp(disch:=omega)[go_sem];refine⟨.inl (by kernel_rfl),?_⟩
  refine zAc (fun h1=>?_) (fun h1=>?_)<;>simp at h1
  ·rw[if_pos h1]at hr;simp(disch:=omega)[go_sem,hr]
  ·rw[if_neg (by omega)]at hr
   simp(disch:=omega)[go_sem];refine zAc (fun h2=>?_) (fun h2=>?_)<;>simp at h2
   ·rw[if_pos h2]at hr;simp(disch:=omega)[go_sem,hr]
   ·rw[if_neg (by omega)]at hr
    simp(disch:=omega)[go_sem,hr]
noncomputable def zPw(s:Sit)(r:RunN):Int:=if zAl s≠0 then zAl s else if 3<r.mode∨r.well<0∨1048576<r.well∨(r.lat=true∧(r.mode≠0∨r.well≠0))then 8 else 0
theorem yMe(s:Sit)(r:RunN):FnD Tryz.prog 99 [sitV s,runV r] (.int .i64 (zPw s r)) tabG:=by
 obtain⟨m,w,l⟩:=r
 have qc:=zCc s
 unfold zPw runV sitV at *
 simp only
 generalize zAl s=c at *
 refine zAd mixed Tryz.func99 rfl rfl (by simp[Tryz.ntmps99]) fun hwf E=>?_
 clear hwf
 simp(disch:=omega)[Tryz.ntmps99,go_sem]
 cases l
 all_goals
  repeat' first
   |(refine zAc (fun hb=>?_) (fun hb=>?_)<;>simp at hb)
   |(refine zBj (fun hb=>?_) (fun hb=>?_)<;>(try simp only[hb])<;>(try simp at hb)<;>try simp(disch:=omega)[go_sem,hb])
   |(refine zAa qc [] ?_ ?_ ?_ (fun _=>?_) (by simp[tabG,go_sem]);(focus (simp[go_sem];done));(focus (exact .inl rfl));(focus (simp[go_sem];done)))
   |refine⟨.inl (by kernel_rfl),?_⟩
   |simp(disch:=omega)[go_sem]
  all_goals first|omega|(simp_all [];done)|(simp_all [];omega)|((repeat' split)<;>first|omega|(simp_all [];done)|(simp_all [];omega))|skip
noncomputable def zYn(s:Sit)(r:RunN)(f:FacN):RunN:=if zPw s r=0 then zJh s r f else⟨0,0,false⟩
theorem xCm{s:Sit}{r:RunN}(h:zPw s r=0):zAl s=0∧r.mode≤3∧0≤r.well∧r.well≤1048576:=by
 unfold zPw at h
 split at h
 ·omega
 ·split at h<;>omega
theorem zQw(s:Sit)(r:RunN)(f:FacN):FnD Tryz.prog 43 [sitV s,runV r,facV f] (.tup [runV (zYn s r f),.int .i64 (zPw s r)]) tabG:=by
 obtain⟨m,w,l⟩:=r
 obtain⟨f1,f2,f3,f4⟩:=f
 have qc:=yMe s ⟨m,w,l⟩
 have hok:=xCm (s:=s) (r:=⟨m,w,l⟩)
 have qs:=fun h1 h2=>yLn s ⟨m,w,l⟩ ⟨f1,f2,f3,f4⟩ h1 h2
 unfold zYn
 generalize zPw s ⟨m,w,l⟩=e at *
 generalize zJh s ⟨m,w,l⟩ ⟨f1,f2,f3,f4⟩=r2 at *
 obtain⟨a1,a2,a3⟩:=r2
 unfold runV facV sitV at *
 simp only at *
 refine zAd mixed Tryz.func43 rfl rfl (by simp[Tryz.ntmps43]) fun hwf E=>?_
 simp(disch:=omega)[go_sem]at hwf
 simp(disch:=omega)[Tryz.ntmps43,go_sem]
 refine zAa qc [] (by simp[go_sem]) (.inl rfl) (by simp[go_sem]) (fun _=>?_) (by simp[tabG,go_sem])
 simp(disch:=omega)[go_sem]
 refine zAc (fun h1=>?_) (fun h1=>?_)<;>simp at h1
 ·rw[if_neg h1];simp(disch:=omega)[go_sem]
 ·subst h1;obtain⟨_,o1,o2,o3⟩:=hok rfl;rw[if_pos rfl];simp(disch:=omega)[go_sem];refine zAa (qs ⟨by omega,o1⟩ ⟨o2,o3⟩) [] (by simp[go_sem]) (.inl rfl) (by simp[go_sem]) (fun _=>?_)
  simp(disch:=omega)[go_sem]
def zHm(k:Int):RunN:=if k=2∨k=3 then⟨2,0,false⟩else⟨1,0,false⟩
theorem zYv(k:Int):FnD Tryz.prog 62 [.int .u8 k] (runV (zHm k)):=by
 unfold zHm
 by_cases h:k=2∨k=3
 ·rw[if_pos h];unfold runV;refine zAd mixed Tryz.func62 rfl rfl (by simp[Tryz.ntmps62]) fun hwf E=>?_
  clear hwf;simp(disch:=omega)[Tryz.ntmps62,go_sem];repeat' first
   |(refine zAc (fun hb=>?_) (fun hb=>?_)<;>simp at hb)
   |(refine zBj (fun hb=>?_) (fun hb=>?_)<;>(try simp only[hb])<;>(try simp at hb)<;>try simp(disch:=omega)[go_sem,hb,h])
   |refine⟨.inl (by kernel_rfl),?_⟩
   |simp(disch:=omega)[go_sem]
  all_goals first|omega|(simp_all [];done)|(simp_all [];omega)|((repeat' split)<;>first|omega|(simp_all [];done)|(simp_all [];omega))|skip
 ·rw[if_neg h];unfold runV;refine zAd mixed Tryz.func62 rfl rfl (by simp[Tryz.ntmps62]) fun hwf E=>?_
  clear hwf;simp(disch:=omega)[Tryz.ntmps62,go_sem];repeat' first
   |(refine zAc (fun hb=>?_) (fun hb=>?_)<;>simp at hb)
   |(refine zBj (fun hb=>?_) (fun hb=>?_)<;>(try simp only[hb])<;>(try simp at hb)<;>try simp(disch:=omega)[go_sem,hb,h])
   |refine⟨.inl (by kernel_rfl),?_⟩
   |simp(disch:=omega)[go_sem]
  all_goals first|omega|(simp_all [];done)|(simp_all [];omega)|((repeat' split)<;>first|omega|(simp_all [];done)|(simp_all [];omega))|skip
structure GapN where
 up:Bool
 held:Int
 opn:Int
 came:Int
 last:Int
def gapV(g:GapN):V:= .agg [.bool g.up,.int .i64 g.held,.int .i64 g.opn,.int .i64 g.came,.int .u64 g.last]
theorem zNs(x:Int):0≤IntKind.u64.wrap x∧IntKind.u64.wrap x<18446744073709551616:=by
 unfold IntKind.wrap
 simp[IntKind.bits,IntKind.signed]
 omega
theorem yPu{x:Int}(h:0≤x∧x<18446744073709551616):IntKind.u64.wrap x=x:=by
 unfold IntKind.wrap
 simp[IntKind.bits,IntKind.signed]
 omega
theorem xAk{x:Int}(h0:0≤x)(h1:x<18446744073709551616):zDk .and .u64 x 1=some (.int .u64 (x % 2)):=by
 obtain⟨a,rfl⟩:=Int.eq_ofNat_of_zero_le h0
 unfold zDk
 show some (V.int .u64 (IntKind.u64.wrap (((BitVec.ofInt 64 (a:Int) &&& BitVec.ofInt 64 ((1:Nat):Int)).toNat:Nat):Int)))=_
 rw[BitVec.ofInt_natCast,BitVec.ofInt_natCast,BitVec.toNat_and,BitVec.toNat_ofNat,BitVec.toNat_ofNat,Nat.mod_eq_of_lt (by omega),Nat.mod_eq_of_lt (by omega),Nat.and_one_is_mod,yPu ⟨by omega,by omega⟩]
 rfl
def or1(x:Int):Int:=((x.toNat ||| 1:Nat):Int)
theorem yRz{x:Int}(h0:0≤x)(h1:x<18446744073709551616):zDk .or .u64 x 1=some (.int .u64 (or1 x)):=by
 obtain⟨a,rfl⟩:=Int.eq_ofNat_of_zero_le h0
 unfold zDk or1
 show some (V.int .u64 (IntKind.u64.wrap (((BitVec.ofInt 64 (a:Int) ||| BitVec.ofInt 64 ((1:Nat):Int)).toNat:Nat):Int)))=_
 have hlt:a ||| 1<18446744073709551616:=Nat.or_lt_two_pow (n:=64) (by omega) (by omega)
 rw[BitVec.ofInt_natCast,BitVec.ofInt_natCast,BitVec.toNat_or,BitVec.toNat_ofNat,BitVec.toNat_ofNat,Nat.mod_eq_of_lt (by omega),Nat.mod_eq_of_lt (by omega),yPu ⟨by omega,by omega⟩]
 rfl
def yPd(g:GapN):Prop:=0≤g.held∧0≤g.opn∧0≤g.came∧g.held≤1048576∧g.opn≤1048576∧g.came≤1073741824∧(g.up=true→g.opn=0)∧(g.up=false→g.held=0)∧(g.up=true↔g.last % 2=1)
noncomputable def gapE(g:GapN):Int:=open Classical in if yPd g then 0 else 8
theorem xEv{g:GapN}(h:yPd g):gapE g=0:=by unfold gapE;rw[if_pos h]
theorem yUd{g:GapN}(h:¬yPd g):gapE g=8:=by unfold gapE;rw[if_neg h]
set_option maxHeartbeats 2000000 in
theorem zUe(g:GapN):FnD Tryz.prog 150 [gapV g] (.int .i64 (gapE g)):=by
 obtain⟨u,h,o,c,l⟩:=g
 have hy:=xEv (g:=⟨u,h,o,c,l⟩)
 have hn:=yUd (g:=⟨u,h,o,c,l⟩)
 generalize gapE ⟨u,h,o,c,l⟩=r at *
 unfold yPd at *
 simp only at *
 obtain⟨mn,hmn⟩:∃mn,(if c<if o<h then o else h then c else if o<h then o else h)=mn:=⟨_,rfl⟩
 obtain⟨mx,hmx⟩:∃mx,(if h<o then o else h)=mx:=⟨_,rfl⟩
 have hmn2:mn≤c∧mn≤o∧mn≤h∧(mn=c∨mn=o∨mn=h):=by rw[← hmn];(repeat' split)<;>omega
 have hmx2:h≤mx∧o≤mx∧(mx=h∨mx=o):=by rw[← hmx];split<;>omega
 unfold gapV
 simp only
 cases u
 all_goals
  simp only[reduceCtorEq,forall_const,false_implies,Bool.false_eq_true,true_iff,false_iff,true_and]at hy hn;refine zAd mixed Tryz.func150 rfl rfl (by simp[Tryz.ntmps150]) fun hwf E=>?_
  simp(disch:=omega)[go_sem]at hwf;simp(disch:=omega)[Tryz.ntmps150,go_sem];repeat' first
   |(refine zAc (fun hb=>?_) (fun hb=>?_)<;>simp at hb)
   |(refine zBj (fun hb=>?_) (fun hb=>?_)<;>(try simp only[hb])<;>(try simp at hb)<;>try simp(disch:=omega)[go_sem,hb,hmn,hmx,xAk])
   |refine⟨.inl (by kernel_rfl),?_⟩
   |simp(disch:=omega)[go_sem,hmn,hmx,xAk]
  all_goals (try simp only[hmn,hmx]at *)
  all_goals omega
def addO(x m:Int):Int:=if m<x+1 then m else x+1
noncomputable def zLv(g:GapN)(up:Bool):GapN:=
 if gapE g≠0 then⟨false,0,0,0,0⟩
 else if up=false then⟨false,0,addO g.opn 1048576,g.came,IntKind.u64.wrap (g.last*2)⟩
 else⟨true,addO g.held 1048576,0,if g.up=true then g.came else addO g.came 1073741824,or1 (IntKind.u64.wrap (g.last*2))⟩
theorem xPt{g:GapN}(h:gapE g=0):yPd g:=by
 apply Classical.byContradiction
 intro hn
 rw[yUd hn]at h
 exact absurd h (by decide)
set_option maxHeartbeats 2000000 in
theorem yCb(g:GapN)(up:Bool):FnD Tryz.prog 92 [gapV g,.bool up] (.tup [gapV (zLv g up),.int .i64 (gapE g)]):=by
 have qc:=zUe g
 have hok:=xPt (g:=g)
 unfold zLv
 obtain⟨u,h,o,c,l⟩:=g
 generalize gapE ⟨u,h,o,c,l⟩=e at *
 have hb:=zNs (l*2)
 unfold gapV at *
 unfold yPd at hok
 simp only at *
 by_cases he:e=0
 ·subst he;obtain⟨k1,k2,k3,k4,k5,k6,_,_,_⟩:=hok rfl;clear hok;cases u<;>cases up
  all_goals
   refine zAd mixed Tryz.func92 rfl rfl (by simp[Tryz.ntmps92]) fun hwf E=>?_
   simp(disch:=omega)[go_sem]at hwf;simp(disch:=omega)[Tryz.ntmps92,go_sem];refine zAa qc [] (by simp[go_sem]) (.inl rfl) (by simp[go_sem]) (fun _=>?_)
   simp(disch:=omega)[go_sem];try simp(disch:=omega)[go_sem,yRz,addO]
   try rfl
 ·cases u<;>cases up
  all_goals
   refine zAd mixed Tryz.func92 rfl rfl (by simp[Tryz.ntmps92]) fun hwf E=>?_
   clear hwf;simp(disch:=omega)[Tryz.ntmps92,go_sem];refine zAa qc [] (by simp[go_sem]) (.inl rfl) (by simp[go_sem]) (fun _=>?_)
   simp(disch:=omega)[go_sem];refine zAc (fun h9=>?_) (fun h9=>?_)<;>simp at h9
   ·simp(disch:=omega)[go_sem,he]
   ·exact absurd h9 he
noncomputable def zLu(g:GapN)(n:Int):V:=
 if gapE g≠0 then .tup [.bool false,.int .i64 (gapE g)]else if n<0∨1048576<n then .tup [.bool false,.int .i64 2]
 else .tup [.bool (!g.up&&decide (n≤g.opn)),.int .i64 0]
theorem zQx(g:GapN)(n:Int):FnD Tryz.prog 162 [gapV g,.int .i64 n] (zLu g n):=by
 have qc:=zUe g
 unfold zLu
 obtain⟨u,h,o,c,l⟩:=g
 generalize gapE ⟨u,h,o,c,l⟩=e at *
 unfold gapV at *
 simp only at *
 by_cases he:e=0
 ·subst he;rw[if_neg (by simp)]
  by_cases hn:n<0∨1048576<n
  ·rw[if_pos hn];refine zAd mixed Tryz.func162 rfl rfl (by simp[Tryz.ntmps162]) fun hwf E=>?_
   clear hwf;simp(disch:=omega)[Tryz.ntmps162,go_sem];refine zAa qc [] (by simp[go_sem]) (.inl rfl) (by simp[go_sem]) (fun _=>?_)
   simp(disch:=omega)[go_sem];repeat' first
    |(refine zAc (fun hb=>?_) (fun hb=>?_)<;>simp at hb)
    |(refine zBj (fun hb=>?_) (fun hb=>?_)<;>(try simp only[hb])<;>(try simp at hb)<;>try simp(disch:=omega)[go_sem,hb,hn])
    |refine⟨.inl (by kernel_rfl),?_⟩
    |simp(disch:=omega)[go_sem]
   all_goals first|omega|(simp_all [];done)|(simp_all [];omega)|((repeat' split)<;>first|omega|(simp_all [];done)|(simp_all [];omega))|skip
  ·rw[if_neg hn];cases u
   all_goals
    refine zAd mixed Tryz.func162 rfl rfl (by simp[Tryz.ntmps162]) fun hwf E=>?_
    clear hwf;simp(disch:=omega)[Tryz.ntmps162,go_sem];refine zAa qc [] (by simp[go_sem]) (.inl rfl) (by simp[go_sem]) (fun _=>?_)
    simp(disch:=omega)[go_sem];repeat' first
     |(refine zAc (fun hb=>?_) (fun hb=>?_)<;>simp at hb)
     |(refine zBj (fun hb=>?_) (fun hb=>?_)<;>(try simp only[hb])<;>(try simp at hb)<;>try simp(disch:=omega)[go_sem,hb,hn])
     |refine⟨.inl (by kernel_rfl),?_⟩
     |simp(disch:=omega)[go_sem]
    all_goals first|omega|(simp_all [];done)|(simp_all [];omega)|((repeat' split)<;>first|omega|(simp_all [];done)|(simp_all [];omega))|skip
 ·rw[if_pos he];refine zAd mixed Tryz.func162 rfl rfl (by simp[Tryz.ntmps162]) fun hwf E=>?_
  clear hwf;simp(disch:=omega)[Tryz.ntmps162,go_sem];refine zAa qc [] (by simp[go_sem]) (.inl rfl) (by simp[go_sem]) (fun _=>?_)
  simp(disch:=omega)[go_sem];refine zAc (fun h9=>?_) (fun h9=>?_)<;>simp at h9
  ·simp(disch:=omega)[go_sem]
  ·exact absurd h9 he
end
section
def ltQ(l:List Int)(i:Nat):Bool:=decide (4<lAt l i)
def zDy(s:Sit)(l:List Int):Int:=if l.length≠s.groups.length then 4 else if anyR l.length (ltQ l)=true then 2 else 0
theorem zRe(s:Sit)(l:List Int):FnD Tryz.prog 201 [sitV s,.sl 1 (lts l)] (.int .i64 (zDy s l)):=by
 unfold sitV
 refine zAd mixed Tryz.func201 rfl rfl (by simp[Tryz.ntmps201]) fun hwf E=>?_
 simp(disch:=omega)[go_sem]at hwf
 simp(disch:=omega)[Tryz.ntmps201,go_sem]
 refine zAc (fun h1=>?_) (fun h1=>?_)<;>simp at h1
 ·have e:zDy s l=4:=by unfold zDy;rw[if_pos (by omega)]
  simp(disch:=omega)[go_sem,e]
 ·have e:zDy s l=if anyR l.length (ltQ l)=true then 2 else 0:=by unfold zDy;rw[if_neg (by omega)]
  simp(disch:=omega)[go_sem];refine zAe mixed (fun k:Nat=>⟨[(15,.int .i64 k),(14,.int .i64 l.length),(13,.sl 1 (lts l))],[],1024,[],22,0,[]⟩) (fun k=>k≤l.length∧∀i,i<k→ltQ l i=false) (fun k=>l.length-k) 0 ?_ ?_ ?_
  ·exact⟨by omega,fun i hi=>absurd hi (Nat.not_lt_zero i)⟩
  ·refine Le.mk [] [] ⟨rfl,rfl,rfl⟩ ?_ ?_ ?_<;>simp[go_sem]
  ·rintro k ⟨hk,hno⟩
   simp(disch:=omega)[go_sem];refine zAc (fun h=>?_) (fun h=>?_)<;>simp at h
   ·have hm:=nthL h;have hm2:=getL h;simp(disch:=omega)[go_sem,hm,h];refine zAc (fun h5=>?_) (fun h5=>?_)<;>simp at h5
    ·rw[zFn h (by simpa[ltQ] using h5),if_pos rfl]at e
     simp(disch:=omega)[go_sem,e]
    ·have hno2:=zKh hno (by simpa[ltQ] using h5:ltQ l k=false)
     simp(disch:=omega)[go_sem];refine zAb (k+1) (⟨by omega,hno2⟩) (by omega) (Le.mk [] [] ⟨rfl,rfl,rfl⟩ ?_ ?_ ?_)<;>simp[go_sem]
   ·have hkk:k=l.length:=by omega
    subst hkk;rw[zHu hno,if_neg (by decide)]at e
    simp(disch:=omega)[go_sem,e]
theorem zTq{s:Sit}{l:List Int}(h:zDy s l=0):l.length=s.groups.length:=by
 by_cases e:l.length=s.groups.length
 ·exact e
 ·unfold zDy at h;rw[if_pos e]at h;exact absurd h (by decide)
noncomputable def zEg(s:Sit)(n:Int):Int:=if zAl s≠0 then zAl s else if n<0∨1048576<n then 2 else 0
theorem zUu(s:Sit)(n:Int):FnD Tryz.prog 155 [sitV s,.int .i64 n] (.int .i64 (zEg s n)) tabG:=by
 have qc:=zCc s
 unfold zEg sitV at *
 generalize zAl s=c at *
 refine zAd mixed Tryz.func155 rfl rfl (by simp[Tryz.ntmps155]) fun hwf E=>?_
 clear hwf
 simp(disch:=omega)[Tryz.ntmps155,go_sem]
 repeat' first
  |(refine zAc (fun hb=>?_) (fun hb=>?_)<;>simp at hb)
  |(refine zBj (fun hb=>?_) (fun hb=>?_)<;>(try simp only[hb])<;>(try simp at hb)<;>try simp(disch:=omega)[go_sem,hb])
  |(refine zAa qc [] ?_ ?_ ?_ (fun _=>?_) (by simp[tabG,go_sem]);(focus (simp[go_sem];done));(focus (exact .inl rfl));(focus (simp[go_sem];done)))
  |refine⟨.inl (by kernel_rfl),?_⟩
  |simp(disch:=omega)[go_sem]
 all_goals first|omega|(simp_all [];done)|(simp_all [];omega)|((repeat' split)<;>first|omega|(simp_all [];done)|(simp_all [];omega))|skip
def wrQ(w l:List Int)(i:Nat):Bool:=lAt w i != lAt l i
def zGf(s:Sit)(w l:List Int):Bool × Int:=
 if zDy s w≠0 then(false,zDy s w)else if l.length≠0∧zDy s l≠0 then(false,zDy s l)
 else(anyR l.length (wrQ w l),0)
def wrI(s:Sit)(w l:List Int)(k:Nat):Prop:=k≤2∧(1≤k→zDy s w=0)∧(2≤k→l.length=0∨zDy s l=0)
set_option maxHeartbeats 2000000 in
theorem yKv(s:Sit)(w l:List Int):FnD Tryz.prog 156 [sitV s,.sl 1 (lts w),.sl 1 (lts l)] (.tup [.bool (zGf s w l).1,.int .i64 (zGf s w l).2]):=by
 have hsv:=zAr s
 have q1:=zRe s w
 have q2:=zRe s l
 rw[hsv]at q1 q2 ⊢
 refine zAd mixed Tryz.func156 rfl rfl (by simp[Tryz.ntmps156]) fun hwf E=>?_
 simp(disch:=omega)[go_sem]at hwf
 simp(disch:=omega)[Tryz.ntmps156,go_sem]
 refine zAe mixed (fun k:Nat=>siS s [(19,.int .i64 k),(18,.int .i64 2),(17,.obj 80 2),(3,.ptr 0 1 0 0),(2,.sl 1 (lts l)),(1,.sl 1 (lts w))] [(80,⟨.arr,30,1,[.sl 1 (lts w),.sl 1 (lts l)]⟩)] 1024 52) (fun k=>wrI s w l k) (fun k=>2-k) 0 ?_ ?_ ?_
 ·exact⟨by omega,fun h=>by omega,fun h=>by omega⟩
 ·refine Le.mk [(0,some 0),(80,some 80)] [0,80] ⟨rfl,rfl,rfl⟩ ?_ ?_ ?_<;>simp[go_sem,siS,sitV]
 ·rintro k ⟨hk,hi1,hi2⟩
  rcases(show k=0∨k=1∨k=2 by omega)with hk0|hk0|hk0<;>subst hk0
  ·simp(disch:=omega)[go_sem,siS,sitV];refine zAa q1 [] (by simp[go_sem]) (.inl rfl) (by simp[go_sem]) (fun _=>?_)
   simp(disch:=omega)[go_sem];refine zAc (fun h5=>?_) (fun h5=>?_)<;>simp at h5
   ·have e:zGf s w l=(false,zDy s w):=by unfold zGf;rw[if_pos h5]
    simp(disch:=omega)[go_sem,e]
   ·simp(disch:=omega)[go_sem];refine zAb 1 (⟨by omega,fun _=>h5,fun h=>by omega⟩) (by omega) (Le.mk [(0,some 0),(80,some 80)] [0,80] ⟨rfl,rfl,rfl⟩ ?_ ?_ ?_)<;>simp[go_sem]
  ·have hw0:=hi1 (by omega)
   simp(disch:=omega)[go_sem,siS,sitV];refine zAc (fun h5=>?_) (fun h5=>?_)<;>simp at h5
   ·have h6:l.length=0:=by simpa using h5
    simp(disch:=omega)[go_sem];refine zAb 2 (⟨by omega,fun _=>hw0,fun _=> .inl h6⟩) (by omega) (Le.mk [(0,some 0),(80,some 80)] [0,80] ⟨rfl,rfl,rfl⟩ ?_ ?_ ?_)<;>simp[go_sem]
   ·have h6:¬l.length=0:=by simpa using h5
    simp(disch:=omega)[go_sem];refine zAa q2 [] (by simp[go_sem]) (.inl rfl) (by simp[go_sem]) (fun _=>?_)
    simp(disch:=omega)[go_sem];refine zAc (fun h7=>?_) (fun h7=>?_)<;>simp at h7
    ·have e:zGf s w l=(false,zDy s l):=by unfold zGf;rw[if_neg (by omega),if_pos ⟨h6,h7⟩]
     simp(disch:=omega)[go_sem,e]
    ·simp(disch:=omega)[go_sem];refine zAb 2 (⟨by omega,fun _=>hw0,fun _=> .inr h7⟩) (by omega) (Le.mk [(0,some 0),(80,some 80)] [0,80] ⟨rfl,rfl,rfl⟩ ?_ ?_ ?_)<;>simp[go_sem]
  ·have hw0:=hi1 (by omega)
   have hl0:=hi2 (by omega)
   have e:zGf s w l=(anyR l.length (wrQ w l),0):=by
    unfold zGf;rw[if_neg (by omega),if_neg]
    rintro⟨c1,c2⟩
    omega
   have hwl:∀i,i<l.length→i<w.length:=fun i hi=>by
    have:=zTq hw0;rcases hl0 with h|h
    ·omega
    ·have:=zTq h;omega
   simp(disch:=omega)[go_sem,siS,sitV];refine zAe mixed (fun k:Nat=>⟨[(40,.int .i64 k),(39,.int .i64 l.length),(38,.sl 1 (lts l)),(1,.sl 1 (lts w))],[],2048,[],52,0,[]⟩) (fun k=>k≤l.length∧∀i,i<k→wrQ w l i=false) (fun k=>l.length-k) 0 ?_ ?_ ?_
   ·exact⟨by omega,fun i hi=>absurd hi (Nat.not_lt_zero i)⟩
   ·refine Le.mk [] [] ⟨rfl,rfl,rfl⟩ ?_ ?_ ?_<;>simp[go_sem]
   ·rintro k ⟨hk,hno⟩
    simp(disch:=omega)[go_sem];refine zAc (fun h=>?_) (fun h=>?_)<;>simp at h
    ·have hkw:=hwl k h;have hm:=nthL h;have hm2:=getL h;have hn:=nthL hkw;have hn2:=getL hkw;simp(disch:=omega)[go_sem,hm,h,hn,hkw];refine zAc (fun h5=>?_) (fun h5=>?_)<;>simp at h5
     ·rw[zFn h (by simpa[wrQ] using h5)]at e
      simp(disch:=omega)[go_sem,e]
     ·have hno2:=zKh hno (by simpa[wrQ] using h5:wrQ w l k=false)
      simp(disch:=omega)[go_sem];refine zAb (k+1) (⟨by omega,hno2⟩) (by omega) (Le.mk [] [] ⟨rfl,rfl,rfl⟩ ?_ ?_ ?_)<;>simp[go_sem]
    ·have hkk:k=l.length:=by omega
     subst hkk;rw[zHu hno]at e;simp(disch:=omega)[go_sem,e]
noncomputable def zMg(s:Sit)(n:Int)(w l:List Int):Int × Int:=
 if zEg s n≠0 then(0,zEg s n)else if(zGf s w l).2≠0∨(zGf s w l).1=false then(0,(zGf s w l).2)else(addO n 1048576,0)
theorem yYw{s:Sit}{n:Int}(h:zEg s n=0):zAl s=0∧0≤n∧n≤1048576:=by
 unfold zEg at h
 split at h
 ·omega
 ·split at h<;>omega
theorem zZr(s:Sit)(n:Int)(w l:List Int):FnD Tryz.prog 95 [sitV s,.int .i64 n,.sl 1 (lts w),.sl 1 (lts l)] (.tup [.int .i64 (zMg s n w l).1,.int .i64 (zMg s n w l).2]) tabG:=by
 have qc:=zUu s n
 have qw:=yKv s w l
 have hok:=yYw (s:=s) (n:=n)
 have hb:zMg s n w l=if zEg s n≠0 then(0,zEg s n)else if(zGf s w l).2≠0∨(zGf s w l).1=false then(0,(zGf s w l).2)else(addO n 1048576,0):=rfl
 generalize zMg s n w l=r at *
 generalize zEg s n=c at *
 generalize zGf s w l=wr at *
 obtain⟨w1,w2⟩:=wr
 unfold sitV at *
 simp only at *
 refine zAd mixed Tryz.func95 rfl rfl (by simp[Tryz.ntmps95]) fun hwf E=>?_
 clear hwf
 simp(disch:=omega)[Tryz.ntmps95,go_sem]
 refine zAa qc [] (by simp[go_sem]) (.inl rfl) (by simp[go_sem]) (fun _=>?_) (by simp[tabG,go_sem])
 simp(disch:=omega)[go_sem]
 refine zAc (fun h1=>?_) (fun h1=>?_)<;>simp at h1
 ·rw[if_pos h1]at hb;simp(disch:=omega)[go_sem,hb]
 ·rw[if_neg (by omega)]at hb
  obtain⟨_,k1,k2⟩:=hok h1;simp(disch:=omega)[go_sem];refine zAa qw [] (by simp[go_sem]) (.inl rfl) (by simp[go_sem]) (fun _=>?_)
  simp(disch:=omega)[go_sem];cases w1
  ·rw[if_pos (.inr rfl)]at hb;repeat' first
    |(refine zAc (fun hb=>?_) (fun hb=>?_)<;>simp at hb)
    |(refine zBj (fun hb=>?_) (fun hb=>?_)<;>(try simp only[hb])<;>(try simp at hb)<;>try simp(disch:=omega)[go_sem,hb,hb])
    |refine⟨.inl (by kernel_rfl),?_⟩
    |simp(disch:=omega)[go_sem]
   all_goals first|omega|(simp_all [];done)|(simp_all [];omega)|((repeat' split)<;>first|omega|(simp_all [];done)|(simp_all [];omega))|skip
  ·by_cases h2:w2=0
   ·subst h2;rw[if_neg (by simp)]at hb
    simp(disch:=omega)[go_sem,hb,addO]
   ·rw[if_pos (.inl h2)]at hb;repeat' first
     |(refine zAc (fun hb=>?_) (fun hb=>?_)<;>simp at hb)
     |(refine zBj (fun hb=>?_) (fun hb=>?_)<;>(try simp only[hb])<;>(try simp at hb)<;>try simp(disch:=omega)[go_sem,hb,hb])
     |refine⟨.inl (by kernel_rfl),?_⟩
     |simp(disch:=omega)[go_sem,hb]
    all_goals first|omega|(simp_all [];done)|(simp_all [];omega)|((repeat' split)<;>first|omega|(simp_all [];done)|(simp_all [];omega))|skip
noncomputable def zQv(s:Sit)(n:Int):V:=if zEg s n≠0 then .tup [.bool false,.int .i64 (zEg s n)]else .tup [.bool (decide (s.feed≤n)),.int .i64 0]
theorem yNk(s:Sit)(n:Int):FnD Tryz.prog 96 [sitV s,.int .i64 n] (zQv s n) tabG:=by
 have qc:=zUu s n
 have hv1:zEg s n≠0→zQv s n= .tup [.bool false,.int .i64 (zEg s n)]:=fun h=>by unfold zQv;rw[if_pos h]
 have hv2:zEg s n=0→zQv s n= .tup [.bool (decide (s.feed≤n)),.int .i64 0]:=fun h=>by unfold zQv;rw[if_neg (by omega)]
 generalize zQv s n=r at *
 generalize zEg s n=c at *
 unfold sitV at *
 refine zAd mixed Tryz.func96 rfl rfl (by simp[Tryz.ntmps96]) fun hwf E=>?_
 clear hwf
 simp(disch:=omega)[Tryz.ntmps96,go_sem]
 refine zAa qc [] (by simp[go_sem]) (.inl rfl) (by simp[go_sem]) (fun _=>?_) (by simp[tabG,go_sem])
 simp(disch:=omega)[go_sem]
 refine zAc (fun h1=>?_) (fun h1=>?_)<;>simp at h1
 ·rw[hv1 h1];simp(disch:=omega)[go_sem]
 ·rw[hv2 h1];simp(disch:=omega)[go_sem]
end
section
theorem zZm(l:List Int)(hb:l.length≤1048576):FnR Tryz.prog 61 [] [.sl 1 (lts l)] [⟨.arr,5,1,lts l⟩] (.obj 0 l.length):=by
 have hp:=zCl l
 refine zJa (fun hx=>?_) ?_
 ·have hl:l=[]:=by simpa[lts] using hx
  subst hl;refine zAv mixed Tryz.func61 rfl rfl (by simp[Tryz.ntmps61]) (by simp) fun hwf E=>?_
  simp(disch:=omega)[Tryz.ntmps61,go_sem];refine Le.mk [(0,none)] [] ⟨rfl,rfl,rfl⟩ ?_ ?_ ?_<;>simp[go_sem,lts]
 ·refine zAv mixed Tryz.func61 rfl rfl (by simp[Tryz.ntmps61]) (by simp) fun hwf E=>?_
  simp(disch:=omega)[go_sem,zMx]at hwf;simp(disch:=omega)[Tryz.ntmps61,go_sem,zMx];refine⟨by omega,Le.mk [(0,some 64)] [64] ⟨rfl,rfl,rfl⟩ ?_ ?_ ?_⟩<;>simp[go_sem,hp]
theorem xCt(τ:Nat→Nat)(l:List Int):rens τ (lts l)=lts l:=zDe _ (zCl l)
attribute [go_sem] xCt
def fiA(n:Nat)(a:Int)(k:Nat):List Int:=(List.range n).map fun i=>if i<k then a else 0
theorem zZg(n:Nat)(a:Int)(k:Nat):(fiA n a k).length=n:=by simp[fiA]
theorem yJp(n:Nat)(a:Int):lts (fiA n a 0)=List.replicate n (.int .u8 0):=by simp[lts,fiA,List.map_const']
theorem yUr{n k:Nat}{a:Int}(h:k<n):(lts (fiA n a k)).set k (.int .u8 a)=lts (fiA n a (k+1)):=by
 apply List.ext_getElem (by simp[lts,fiA])
 intro i h1 h2
 simp only[lts,fiA,List.getElem_set,List.getElem_map,List.getElem_range]
 by_cases e:k=i
 ·subst e;simp
 ·rw[if_neg e];by_cases e2:i<k
  ·rw[if_pos e2,if_pos (by omega)]
  ·rw[if_neg e2,if_neg (by omega)]
theorem yUs(n:Nat)(a:Int):fiA n a n=List.replicate n a:=by
 apply List.ext_getElem (by simp[fiA])
 intro i h1 h2
 have h:i<n:=by simpa using h2
 simp[fiA,h]
theorem yJk(n:Nat)(a:Int)(hn:n≤1048576):FnR Tryz.prog 169 [] [.int .i64 n,.int .u8 a] [⟨.arr,5,1,lts (List.replicate n a)⟩] (.obj 0 n):=by
 refine zAv mixed Tryz.func169 rfl rfl (by simp[Tryz.ntmps169]) (by simp) fun hwf E=>?_
 simp(disch:=omega)[go_sem]at hwf
 simp(disch:=omega)[Tryz.ntmps169,go_sem]
 refine⟨by omega,?_⟩
 rw[← yJp n a]
 refine zAe mixed (fun k:Nat=>⟨[(11,.int .i64 k),(10,.int .i64 n),(5,.obj 32 n),(1,.int .u8 a)],[(32,⟨.arr,5,1,lts (fiA n a k)⟩)],1024,[],20,0,[]⟩) (fun k=>k≤n) (fun k=>n-k) 0 ?_ ?_ ?_
 ·omega
 ·refine Le.mk [(32,some 48)] [48] ⟨rfl,rfl,rfl⟩ ?_ ?_ ?_<;>simp[go_sem]
 ·intro k hk;have e1:=zZg n a k;simp(disch:=omega)[go_sem];refine zAc (fun h=>?_) (fun h=>?_)<;>simp at h
  ·have e2:=yUr (a:=a) h;have e3:=zZg n a (k+1);have en:=nthL (l:=fiA n a k) (k:=k) (by rw[e1];exact h)
   simp(disch:=omega)[go_sem,e1,h,en];refine zAb (k+1) (by omega) (by omega) (Le.mk [(32,some 32)] [32] ⟨rfl,rfl,rfl⟩ ?_ ?_ ?_)<;>simp[go_sem,e2]
  ·have hkk:k=n:=by omega
   subst hkk;rw[yUs];simp(disch:=omega)[go_sem];refine Le.mk [(0,some 32)] [32] ⟨rfl,rfl,rfl⟩ ?_ ?_ ?_<;>simp[go_sem]
def zQe(w:SafN)(x:Seen):Bool:=if w.flashed=true then x.aspect != 4 else(decide (x.aspect<1)||decide (3<x.aspect))||(decide (0<w.start)&&x.aspect != 1)
theorem yNu(w:SafN)(x:Seen):FnD Tryz.prog 205 [zBb x,.tptr 3 [safV w] 0 0] (.bool (zQe w x)):=by
 obtain⟨g,st,fl⟩:=w
 obtain⟨a,b,c⟩:=x
 have hq:zQe ⟨g,st,fl⟩ ⟨a,b,c⟩=if fl=true then a != 4 else(decide (a<1)||decide (3<a))||(decide (0<st)&&a != 1):=rfl
 rw[hq]
 unfold safV zBb
 simp only
 cases fl
 ·refine zAd mixed Tryz.func205 rfl rfl (by simp[Tryz.ntmps205]) fun hwf E=>?_
  clear hwf;simp(disch:=omega)[Tryz.ntmps205,go_sem]
 ·refine zAd mixed Tryz.func205 rfl rfl (by simp[Tryz.ntmps205]) fun hwf E=>?_
  clear hwf;simp(disch:=omega)[Tryz.ntmps205,go_sem]
noncomputable def zWr(s:Sit)(w:SafN):Int:=if zAl s≠0 then zAl s else if mayS s w=false then 8 else 0
theorem yUg(s:Sit)(w:SafN)(l:List Int):∃b f,zIb s w l= .tup [safV b,.int .u8 f,.int .i64 (zWr s w)]:=by
 unfold zIb zWr
 split
 ·exact⟨_,_,rfl⟩
 ·split
  ·exact⟨_,_,rfl⟩
  ·split<;>exact⟨_,_,rfl⟩
noncomputable def zZb(s:Sit)(w:SafN):Bool:=w.groups.length == s.groups.length&&(decide (zWr s w=0)&& !w.groups.any (zQe w))
set_option maxHeartbeats 2000000 in
theorem yTy(s:Sit)(w:SafN)(hs:s.groups.length≤16):FnD Tryz.prog 167 [sitV s,safV w] (.bool (zZb s w)) tabG:=by
 have hsv:=zAr s
 have hgs:zZb s w=(w.groups.length == s.groups.length&&(decide (zWr s w=0)&& !w.groups.any (zQe w))):=rfl
 have q1:=fun h=>zXc s w (List.replicate w.groups.length 4) h
 obtain⟨nb,nf,hnv⟩:=yUg s w (List.replicate w.groups.length 4)
 rw[hnv]at q1
 have q2:=zPb w.groups 205 [] [.tptr 3 [safV w] 0 0] (zQe w) (by simp[go_sem]) (by simp[go_sem]) (fun x _=>yNu w x)
 generalize zWr s w=e at *
 generalize w.groups.any (zQe w)=an at *
 generalize zZb s w=res at *
 obtain⟨g,st,fl⟩:=w
 obtain⟨g2,st2,fl2⟩:=nb
 rw[hsv]at q1 ⊢
 unfold safV at *
 simp only at *
 refine zAd mixed Tryz.func167 rfl rfl (by simp[Tryz.ntmps167]) fun hwf E=>?_
 clear hwf
 simp(disch:=omega)[Tryz.ntmps167,go_sem]
 refine zAc (fun h1=>?_) (fun h1=>?_)<;>simp at h1
 ·have e1:res=false:=by rw[hgs];simp;intro h;omega
  simp(disch:=omega)[go_sem,e1]
 ·have h1':g.length=s.groups.length:=by omega
  have e1:res=(decide (e=0)&& !an):=by rw[hgs];simp[h1']
  have q3:=q1 (by omega)
  simp(disch:=omega)[go_sem];refine⟨by omega,?_⟩
  rw[← yJp g.length 4];refine zAe mixed (fun k:Nat=>siS s [(23,.int .i64 k),(22,.int .i64 g.length),(5,.obj 208 g.length),(3,.ptr 16 1 0 0),(2,.ptr 0 1 0 0)] [(208,⟨.arr,5,1,lts (fiA g.length 4 k)⟩),(16,safB g st fl)] 1024 45 tabG) (fun k=>k≤g.length) (fun k=>g.length-k) 0 ?_ ?_ ?_
  ·omega
  ·refine Le.mk [(0,some 0),(16,some 16),(208,some 208)] [0,16,208] ⟨rfl,rfl,rfl⟩ ?_ ?_ ?_<;>simp[go_sem,siS,sitV,safB]
  ·intro k hk;have e2:=zZg g.length 4 k;simp(disch:=omega)[go_sem,siS,sitV,safB];refine zAc (fun h=>?_) (fun h=>?_)<;>simp at h
   ·have e3:=yUr (a:=4) h;have e4:=zZg g.length 4 (k+1);have en:=nthL (l:=fiA g.length 4 k) (k:=k) (by rw[e2];exact h)
    simp(disch:=omega)[go_sem,e2,h,en];refine zAb (k+1) (by omega) (by omega) (Le.mk [(0,some 0),(16,some 16),(208,some 208)] [0,16,208] ⟨rfl,rfl,rfl⟩ ?_ ?_ ?_)<;>simp[go_sem,e3]
   ·have hkk:k=g.length:=by omega
    subst hkk;rw[yUs]at *;simp(disch:=omega)[go_sem];refine zBx q3 [208] [(208,⟨.ro,5,1,lts (List.replicate g.length 4)⟩)] (by simp[go_sem]) (by simp[go_sem]) (by simp[go_sem]) (fun _=>?_) (by simp[tabG,go_sem])
    simp(disch:=omega)[go_sem];refine zAc (fun h5=>?_) (fun h5=>?_)<;>simp at h5
    ·have e5:res=false:=by rw[e1];simp[h5]
     simp(disch:=omega)[go_sem,e5]
    ·have e5:res= !an:=by rw[e1];simp[h5]
     simp(disch:=omega)[go_sem];refine zAa q2 [16] (by simp[go_sem]) (.inr (by simp[go_sem])) (by simp[go_sem]) (fun _=>?_)
     simp(disch:=omega)[go_sem];simp(disch:=omega)[go_sem,e5]
noncomputable def zKd(s:Sit)(w:SafN):Int:=if zAl s≠0 then zAl s else if zZb s w=false then 8 else 0
theorem yBz(s:Sit)(w:SafN):FnD Tryz.prog 105 [sitV s,safV w] (.int .i64 (zKd s w)) tabG:=by
 have qc:=zCc s
 have hok:zAl s=0→s.groups.length≤16:=fun h=>by
  by_cases hs:zAk s
  ·exact(zJx hs).g16
  ·unfold zAl at h;rw[if_neg hs]at h;exact absurd h (by decide)
 have qg:=fun h=>yTy s w h
 unfold zKd
 generalize zAl s=c at *
 generalize zZb s w=g at *
 obtain⟨a,b,d⟩:=w
 unfold safV sitV at *
 simp only at *
 by_cases hc:c=0
 ·subst hc;have q2:=qg (hok rfl);cases g
  all_goals
   refine zAd mixed Tryz.func105 rfl rfl (by simp[Tryz.ntmps105]) fun hwf E=>?_
   clear hwf;simp(disch:=omega)[Tryz.ntmps105,go_sem];refine zAa qc [] (by simp[go_sem]) (.inl rfl) (by simp[go_sem]) (fun _=>?_) (by simp[tabG,go_sem])
   simp(disch:=omega)[go_sem];refine zAa q2 [] (by simp[go_sem]) (.inl rfl) (by simp[go_sem]) (fun _=>?_) (by simp[tabG,go_sem])
   simp(disch:=omega)[go_sem]
 ·refine zAd mixed Tryz.func105 rfl rfl (by simp[Tryz.ntmps105]) fun hwf E=>?_
  clear hwf;simp(disch:=omega)[Tryz.ntmps105,go_sem];repeat' first
   |(refine zAc (fun hb=>?_) (fun hb=>?_)<;>simp at hb)
   |(refine zBj (fun hb=>?_) (fun hb=>?_)<;>(try simp only[hb])<;>(try simp at hb)<;>try simp(disch:=omega)[go_sem,hb])
   |(refine zAa qc [] ?_ ?_ ?_ (fun _=>?_) (by simp[tabG,go_sem]);(focus (simp[go_sem];done));(focus (exact .inl rfl));(focus (simp[go_sem];done)))
   |refine⟨.inl (by kernel_rfl),?_⟩
   |simp(disch:=omega)[go_sem]
  all_goals first|omega|(simp_all [];done)|(simp_all [];omega)|((repeat' split)<;>first|omega|(simp_all [];done)|(simp_all [];omega))|skip
end
section
def blkB(s:Sit)(g:List Seen)(out:List Int)(i k:Nat):Bool:=isAp s i k&&(lAt out k != 1||decide ((sAt g k).ended<betw s k i))
def blkN(s:Sit)(g:List Seen)(out:List Int)(i:Nat):Bool:=anyR g.length (blkB s g out i)
set_option maxHeartbeats 2000000 in
theorem yHo(s:Sit)(g:List Seen)(st:Int)(fl:Bool)(out:List Int)(i:Nat)(hs:Shp s)(hap:∀a,(h:a<s.apart.length)→s.apart[a]<4294967296)(hg:g.length=s.groups.length)(ho:out.length=s.groups.length)(hi:i<s.groups.length):FnD Tryz.prog 171 [.int .i64 i,.tptr 3 [safV ⟨g,st,fl⟩] 0 0,.tptr 12 [sitV s] 0 0,.tptr 1 [.sl 1 (lts out)] 0 0] (.bool (blkN s g out i)):=by
 obtain⟨h1,h2,h3,h4,_⟩:=hs
 unfold safV sitV
 simp only
 refine zAd mixed Tryz.func171 rfl rfl (by simp[Tryz.ntmps171]) fun hwf E=>?_
 clear hwf
 simp(disch:=omega)[Tryz.ntmps171,go_sem]
 have ha:i<s.apart.length:=by omega
 have hlt:=hap i ha
 refine zAe mixed (fun k:Nat=>⟨[(11,.int .i64 k),(10,.int .i64 g.length),(9,.sl 3 (g.map zBb)),(0,.int .i64 i),(1,.tptr 3 [.agg [.sl 3 (g.map zBb),.int .i64 st,.bool fl]] 0 0),(2,.tptr 12 [sitV s] 0 0),(3,.tptr 1 [.sl 1 (lts out)] 0 0)],[],1024,[],46,0,[]⟩) (fun k=>k≤g.length∧∀j,j<k→blkB s g out i j=false) (fun k=>g.length-k) 0 ?_ ?_ ?_
 ·exact⟨by omega,fun j hj=>absurd hj (Nat.not_lt_zero j)⟩
 ·refine Le.mk [] [] ⟨rfl,rfl,rfl⟩ ?_ ?_ ?_<;>simp[go_sem,sitV]
 ·rintro k ⟨hk,hno⟩
  simp(disch:=omega)[go_sem,sitV];refine zAc (fun h=>?_) (fun h=>?_)<;>simp at h
  ·have hn:=nthS h;have hkl:k<out.length:=by omega
   have hm:=nthL hkl;have hm2:=getL hkl;have hkb:k<s.between.length:=by omega
   have hib:i<s.between[k].length:=by rw[h3];omega
   have i3:s.between[k][i]=betw s k i:=by simp[betw,hkb,hib]
   obtain⟨m,hb2,hr⟩:=zMb (b:=k) hlt;rw[show s.apart[i].testBit k=isAp s i k by simp[isAp,ha]]at hr
   have hB:blkB s g out i k=(isAp s i k&&(lAt out k != 1||decide ((sAt g k).ended<betw s k i))):=rfl
   by_cases hm1:m=1
   ·rw[hr.1 hm1]at hB;subst hm1;simp(disch:=omega)[go_sem,hn,h,zBb,zGu,zEv,ha,zGd,hb2,hm,hkl,zLp,zGa,hkb,zAz,zAh,hib,i3];refine⟨.inl (by kernel_rfl),?_⟩
    refine zAc (fun h5=>?_) (fun h5=>?_)<;>simp at h5
    ·have e:blkB s g out i k=true:=by rw[hB];simpa using h5
     simp(disch:=omega)[go_sem];exact zFn h e
    ·have e:blkB s g out i k=false:=by rw[hB];simpa using h5
     have hno2:=zKh hno e;simp(disch:=omega)[go_sem];refine zAb (k+1) (⟨by omega,hno2⟩) (by omega) (Le.mk [] [] ⟨rfl,rfl,rfl⟩ ?_ ?_ ?_)<;>simp[go_sem]
   ·have hf:isAp s i k=false:=by
     cases hx:isAp s i k
     ·rfl
     ·exact absurd (hr.2 hx) hm1
    rw[hf,Bool.false_and]at hB;have hmf:((m:Int) == 1)=false:=by simp;omega
    have hno2:=zKh hno hB;simp(disch:=omega)[go_sem,hn,h,zBb,zGu,zEv,ha,zGd,hb2,hmf,hm,hkl,zLp,zGa,hkb,zAz,zAh,hib,i3];refine⟨.inl (by kernel_rfl),?_⟩
    try simp(disch:=omega)[go_sem,hmf]
    refine zAb (k+1) (⟨by omega,hno2⟩) (by omega) (Le.mk [] [] ⟨rfl,rfl,rfl⟩ ?_ ?_ ?_)<;>simp[go_sem]
  ·have hkk:k=g.length:=by omega
   subst hkk;simp(disch:=omega)[go_sem];exact zHu hno
def ad1A(s:Sit)(g:List Seen)(l:List Int)(i:Nat):Int:=if(sAt g i).aspect≠1 then zVe (gAt s i) (sAt g i) (lAt l i)else 1
def ad1(s:Sit)(g:List Seen)(l:List Int)(k:Nat):List Int:=(List.range g.length).map fun i=>if i<k then ad1A s g l i else 1
theorem zZw(s:Sit)(g:List Seen)(l:List Int)(k:Nat):(ad1 s g l k).length=g.length:=by simp[ad1]
theorem xLi(s:Sit)(g:List Seen)(l:List Int):ad1 s g l 0=List.replicate g.length 1:=by simp[ad1,List.map_const']
theorem xTc{s:Sit}{g:List Seen}{l:List Int}{k:Nat}(h:k<g.length):(lts (ad1 s g l k)).set k (.int .u8 (ad1A s g l k))=lts (ad1 s g l (k+1)):=by
 apply List.ext_getElem (by simp[lts,ad1])
 intro i h1 h2
 simp only[lts,ad1,List.getElem_set,List.getElem_map,List.getElem_range]
 by_cases e:k=i
 ·subst e;simp
 ·rw[if_neg e];by_cases e2:i<k
  ·rw[if_pos e2,if_pos (by omega)]
  ·rw[if_neg e2,if_neg (by omega)]
theorem xLj{s:Sit}{g:List Seen}{l:List Int}{k:Nat}(h:k<g.length)(ha:(sAt g k).aspect=1):ad1 s g l (k+1)=ad1 s g l k:=by
 apply List.ext_getElem (by simp[ad1])
 intro i h1 h2
 simp only[ad1,List.getElem_map,List.getElem_range]
 by_cases e:i=k
 ·subst e;rw[if_pos (by omega),if_neg (by omega)]
  unfold ad1A;rw[if_neg (by omega)]
 ·by_cases e2:i<k
  ·rw[if_pos e2,if_pos (by omega)]
  ·rw[if_neg e2,if_neg (by omega)]
def ad2(s:Sit)(g:List Seen)(l:List Int):Nat→List Int
 |0=>ad1 s g l g.length
 |k+1=>if((sAt g k).aspect=1∧lAt l k=2)∧blkN s g (ad2 s g l k) k=false then(ad2 s g l k).set k 2 else ad2 s g l k
theorem zVa(s:Sit)(g:List Seen)(l:List Int):∀k,(ad2 s g l k).length=g.length
 |0=>zZw _ _ _ _
 |k+1=>by
  have ih:=zVa s g l k;show (if _ then _ else _:List Int).length=_
  split
  ·rw[List.length_set];exact ih
  ·exact ih
def admG(s:Sit)(g:List Seen)(l:List Int):List Int:=ad2 s g l g.length
def zBz(s:Sit)(g:List Seen)(st:Int)(fl:Bool)(l:List Int):List Int:=
 if zDo l=true then l else if fl=true∨0<st then List.replicate l.length 1 else admG s g l
theorem ySr(l:List Int)(k:Nat)(x:Int):(lts l).set k (.int .u8 x)=lts (l.set k x):=by simp[lts,List.map_set]
theorem yHp(a:Int):FnD Tryz.prog 168 [.int .u8 a] (.bool (a != 4)):=by
 refine zAd mixed Tryz.func168 rfl rfl (by simp[Tryz.ntmps168]) fun hwf E=>?_
 clear hwf
 simp(disch:=omega)[Tryz.ntmps168,go_sem]
set_option maxHeartbeats 8000000 in
theorem zXr(s:Sit)(g:List Seen)(st:Int)(fl:Bool)(l:List Int)(hs:Shp s)(hg:g.length=s.groups.length)(hl:l.length=s.groups.length):FnD Tryz.prog 106 [sitV s,safV ⟨g,st,fl⟩,.sl 1 (lts l)] (.sl 1 (lts (zBz s g st fl l))):=by
 have hsv:=zAr s
 have h16:=hs.g16
 have q1:=zHq l 168 [] [] (fun a=>a != 4) (by simp[go_sem]) (by simp[go_sem]) (fun x _=>yHp x)
 have q2:=zZm l (by omega)
 have q3:=yJk l.length 1 (by omega)
 have hv1:(l.any fun a=>a != 4)=false→zBz s g st fl l=l:=fun h=>by unfold zBz zDo;rw[h];rfl
 have hv2:(l.any fun a=>a != 4)=true→(fl=true∨0<st)→zBz s g st fl l=List.replicate l.length 1:=fun h h2=>by unfold zBz zDo;rw[h,if_neg (by decide),if_pos h2]
 have hv3:(l.any fun a=>a != 4)=true→¬(fl=true∨0<st)→zBz s g st fl l=admG s g l:=fun h h2=>by unfold zBz zDo;rw[h,if_neg (by decide),if_neg h2]
 have qb:=fun out i hap ho hi=>yHo s g st fl out i hs hap hg ho hi
 rw[hsv]at qb
 unfold safV at *
 simp only at *
 generalize hres:zBz s g st fl l=res at *
 clear hres
 generalize (l.any fun a=>a != 4)=an at *
 rw[hsv]
 refine zAd mixed Tryz.func106 rfl rfl (by simp[Tryz.ntmps106]) fun hwf E=>?_
 simp(disch:=omega)[go_sem]at hwf
 simp(disch:=omega)[Tryz.ntmps106,go_sem]
 refine zAj q1 [] (by simp[go_sem]) (fun h1=>?_) (fun h1=>?_)<;>try simp[inN]at h1
 ·simp(disch:=omega)[go_sem];cases fl
  ·simp(disch:=omega)[go_sem];refine zAc (fun h2=>?_) (fun h2=>?_)<;>simp at h2
   ·rw[hv2 h1 (.inr h2)];simp(disch:=omega)[go_sem];refine zAf q3 [] [] [] [] ?_ ?_ ?_ (.inl ⟨rfl,.inl rfl⟩) (fun _=>?_)
    iterate 3 (· simp[go_sem])
    simp(disch:=omega)[go_sem];try exact zAt (by simp[go_sem])
   ·have hv:=hv3 h1 (by simp;omega)
    have hap:∀a,(h:a<s.apart.length)→s.apart[a]<4294967296:=fun a ha=>yHv (s:=s) (by simp_all) a ha
    rw[hv];simp(disch:=omega)[go_sem];refine zAf q3 [] [] [] [] ?_ ?_ ?_ (.inl ⟨rfl,.inl rfl⟩) (fun _=>?_)
    iterate 3 (· simp[go_sem])
    simp(disch:=omega)[go_sem];rw[hl,← hg,← xLi s g l];refine zAe mixed (fun k:Nat=>siS s [(36,.int .i64 k),(35,.int .i64 g.length),(34,.sl 3 (g.map zBb)),(8,.ptr 304 1 0 0),(4,.ptr 16 1 0 0),(3,.ptr 0 1 0 0),(2,.sl 1 (lts l))] [(304,⟨.box,30,1,[.obj 288 g.length]⟩),(288,⟨.arr,5,1,lts (ad1 s g l k)⟩),(16,safB g st false)] 1024 89) (fun k=>k≤g.length) (fun k=>g.length-k) 0 ?_ ?_ ?_
    ·omega
    ·refine Le.mk [(0,some 0),(16,some 16),(288,some 288),(304,some 304)] [0,16,288,304] ⟨rfl,rfl,rfl⟩ ?_ ?_ ?_<;>simp[go_sem,siS,sitV,safB]
    ·intro k hk;have e1:=zZw s g l k;simp(disch:=omega)[go_sem,siS,sitV,safB];refine zAc (fun h=>?_) (fun h=>?_)<;>simp at h
     ·have hn:=nthS h;have hkl:k<l.length:=by omega
      have hkg:k<s.groups.length:=by omega
      have hm:=nthL hkl;have hm2:=getL hkl;have hgn:=nthG hkg;have e2:=xTc (s:=s) (l:=l) h;have e3:=zZw s g l (k+1);have en:=nthL (l:=ad1 s g l k) (k:=k) (by rw[e1];exact h)
      simp(disch:=omega)[go_sem,hn,h,zBb];refine zAc (fun h5=>?_) (fun h5=>?_)<;>simp at h5
      ·have q4:=yKy (gAt s k) (sAt g k) (lAt l k);have ha1:ad1A s g l k=zVe (gAt s k) (sAt g k) (lAt l k):=by unfold ad1A;rw[if_pos h5]
       rw[ha1]at e2;simp only[zBb,grpV]at q4;simp(disch:=omega)[go_sem,hm,hkl,hkg,hgn,grpV];refine zAa q4 [] (by simp[go_sem]) (.inl rfl) (by simp[go_sem]) (fun _=>?_)
       simp(disch:=omega)[go_sem];simp(disch:=omega)[go_sem,e1,h,en];refine⟨.inl (by kernel_rfl),?_⟩
       refine zAb (k+1) (by omega) (by omega) (Le.mk [(0,some 0),(16,some 16),(288,some 288),(304,some 304)] [0,16,288,304] ⟨rfl,rfl,rfl⟩ ?_ ?_ ?_)<;>simp[go_sem,e2]
      ·have e4:=xLj (s:=s) (l:=l) h h5;rw[← e4]at *;simp(disch:=omega)[go_sem];refine zAb (k+1) (by omega) (by omega) (Le.mk [(0,some 0),(16,some 16),(288,some 288),(304,some 304)] [0,16,288,304] ⟨rfl,rfl,rfl⟩ ?_ ?_ ?_)<;>simp[go_sem]
     ·have hkk:k=g.length:=by omega
      subst hkk;have h20:ad1 s g l g.length=ad2 s g l 0:=rfl;rw[h20]at *;simp(disch:=omega)[go_sem];refine zAe mixed (fun k:Nat=>siS s [(63,.int .i64 k),(62,.int .i64 g.length),(61,.sl 3 (g.map zBb)),(11,.func (.func 171) [] [.ptr 16 1 0 0,.ptr 0 1 0 0,.ptr 304 1 0 0]),(8,.ptr 304 1 0 0),(2,.sl 1 (lts l))] [(304,⟨.box,30,1,[.obj 288 g.length]⟩),(288,⟨.arr,5,1,lts (ad2 s g l k)⟩),(16,safB g st false)] 2048 89) (fun k=>k≤g.length) (fun k=>g.length-k) 0 ?_ ?_ ?_
      ·omega
      ·refine Le.mk [(0,some 0),(16,some 16),(288,some 288),(304,some 304)] [0,16,288,304] ⟨rfl,rfl,rfl⟩ ?_ ?_ ?_<;>simp[go_sem,siS,sitV,safB]
      ·intro k hk;have e1:=zVa s g l k;simp(disch:=omega)[go_sem,siS,sitV,safB];refine zAc (fun h=>?_) (fun h=>?_)<;>simp at h
       ·have hn:=nthS h;have hkl:k<l.length:=by omega
        have hm:=nthL hkl;have hm2:=getL hkl;have e5:ad2 s g l (k+1)=if((sAt g k).aspect=1∧lAt l k=2)∧blkN s g (ad2 s g l k) k=false then(ad2 s g l k).set k 2 else ad2 s g l k:=rfl
        have e3:=zVa s g l (k+1);have en:=nthL (l:=ad2 s g l k) (k:=k) (by rw[e1];exact h)
        have q5:=qb (ad2 s g l k) k hap (by omega) (by omega)
        by_cases h5:(sAt g k).aspect=1
        ·by_cases h6:lAt l k=2
         ·simp(disch:=omega)[go_sem,hn,h,zBb,h5,hm,hkl,h6];refine zAj q5 [0,16,288,304] (by simp[go_sem,e1]) (fun h7=>?_) (fun h7=>?_)<;>try simp[inN]at h7
          ·rw[if_neg (by rw[h7];simp)]at e5
           rw[← e5]at *;simp(disch:=omega)[go_sem];refine zAb (k+1) (by omega) (by omega) (Le.mk [(0,some 0),(16,some 16),(288,some 288),(304,some 304)] [0,16,288,304] ⟨rfl,rfl,rfl⟩ ?_ ?_ ?_)<;>simp[go_sem]
          ·rw[if_pos ⟨⟨h5,h6⟩,h7⟩]at e5;simp(disch:=omega)[go_sem,e1,h,en];refine zAb (k+1) (by omega) (by omega) (Le.mk [(0,some 0),(16,some 16),(288,some 288),(304,some 304)] [0,16,288,304] ⟨rfl,rfl,rfl⟩ ?_ ?_ ?_)<;>simp[go_sem,e5,ySr]
         ·rw[if_neg (by omega)]at e5
          have h6f:(lAt l k == 2)=false:=by simpa using h6
          rw[← e5]at *;simp(disch:=omega)[go_sem,hn,h,zBb,h5,hm,hkl,h6f];refine zAb (k+1) (by omega) (by omega) (Le.mk [(0,some 0),(16,some 16),(288,some 288),(304,some 304)] [0,16,288,304] ⟨rfl,rfl,rfl⟩ ?_ ?_ ?_)<;>simp[go_sem]
        ·rw[if_neg (by omega)]at e5
         rw[← e5]at *;simp(disch:=omega)[go_sem,hn,h,zBb,h5,hm,hkl];refine zAb (k+1) (by omega) (by omega) (Le.mk [(0,some 0),(16,some 16),(288,some 288),(304,some 304)] [0,16,288,304] ⟨rfl,rfl,rfl⟩ ?_ ?_ ?_)<;>simp[go_sem]
       ·have hkk:k=g.length:=by omega
        subst hkk;have h21:ad2 s g l g.length=admG s g l:=rfl;rw[h21]at *;simp(disch:=omega)[go_sem];exact⟨e1.symm,zAt (by simp[go_sem])⟩
  ·rw[hv2 h1 (.inl rfl)];simp(disch:=omega)[go_sem];refine zAf q3 [] [] [] [] ?_ ?_ ?_ (.inl ⟨rfl,.inl rfl⟩) (fun _=>?_)
   iterate 3 (· simp[go_sem])
   simp(disch:=omega)[go_sem];exact zAt (by simp[go_sem])
 ·rw[hv1 h1];simp(disch:=omega)[go_sem];refine zAf q2 [] [] [] [] ?_ ?_ ?_ (.inl ⟨rfl,.inl rfl⟩) (fun _=>?_)
  iterate 3 (· simp[go_sem])
  simp(disch:=omega)[go_sem];try exact zAt (by simp[go_sem])
noncomputable def zRj(s:Sit)(w:SafN)(l:List Int):Int:=if zKd s w≠0 then zKd s w else if l.length≠s.groups.length then 90 else 0
theorem yJj{s:Sit}{w:SafN}(h:zKd s w=0):zAk s∧w.groups.length=s.groups.length:=by
 unfold zKd at h
 by_cases hs:zAk s
 ·refine⟨hs,?_⟩;have e:zAl s=0:=by unfold zAl;rw[if_pos hs]
  rw[if_neg (by omega)]at h
  cases hg:zZb s w
  ·rw[hg,if_pos rfl]at h;exact absurd h (by decide)
  ·unfold zZb at hg;simp only[Bool.and_eq_true,beq_iff_eq]at hg;exact hg.1
 ·have e:zAl s=50:=by unfold zAl;rw[if_neg hs]
  rw[e,if_pos (by decide)]at h
  exact absurd h (by decide)
noncomputable def zPo(s:Sit)(w:SafN)(l:List Int):List Int:=if zRj s w l=0 then zBz s w.groups w.start w.flashed l else[]
theorem yPg(s:Sit)(w:SafN)(l:List Int):FnD Tryz.prog 45 [sitV s,safV w,.sl 1 (lts l)] (.tup [.sl 1 (lts (zPo s w l)),.int .i64 (zRj s w l)]) tabG:=by
 have qc:=yBz s w
 have hok:=yJj (s:=s) (w:=w)
 have qa:=fun hs h1 h2=>zXr s w.groups w.start w.flashed l hs h1 h2
 have hE:zRj s w l=if zKd s w≠0 then zKd s w else if l.length≠s.groups.length then 90 else 0:=rfl
 have hL:zPo s w l=if zRj s w l=0 then zBz s w.groups w.start w.flashed l else[]:=rfl
 generalize zPo s w l=rl at *
 generalize zRj s w l=re at *
 generalize zKd s w=c at *
 obtain⟨g,st,fl⟩:=w
 unfold safV sitV at *
 simp only at *
 by_cases hc:c=0
 ·subst hc;obtain⟨hs,hg⟩:=hok rfl;by_cases hl:l.length=s.groups.length
  ·rw[if_neg (by simp),if_neg (by omega)]at hE
   subst hE;rw[if_pos rfl]at hL;subst hL;have q2:=qa (zJx hs) hg hl;refine zAd mixed Tryz.func45 rfl rfl (by simp[Tryz.ntmps45]) fun hwf E=>?_
   clear hwf;simp(disch:=omega)[Tryz.ntmps45,go_sem];refine zAa qc [] (by simp[go_sem]) (.inl rfl) (by simp[go_sem]) (fun _=>?_) (by simp[tabG,go_sem])
   simp(disch:=omega)[go_sem];refine zAc (fun h1=>?_) (fun h1=>?_)<;>simp at h1
   ·exact absurd hl (by omega)
   ·simp(disch:=omega)[go_sem];refine zAa q2 [] (by simp[go_sem]) (.inl rfl) (by simp[go_sem]) (fun _=>?_)
    simp(disch:=omega)[go_sem]
  ·rw[if_neg (by simp),if_pos hl]at hE
   subst hE;rw[if_neg (by decide)]at hL
   subst hL;refine zAd mixed Tryz.func45 rfl rfl (by simp[Tryz.ntmps45]) fun hwf E=>?_
   clear hwf;simp(disch:=omega)[Tryz.ntmps45,go_sem];refine zAa qc [] (by simp[go_sem]) (.inl rfl) (by simp[go_sem]) (fun _=>?_) (by simp[tabG,go_sem])
   simp(disch:=omega)[go_sem];refine zAc (fun h1=>?_) (fun h1=>?_)<;>simp at h1
   ·simp(disch:=omega)[go_sem,lts]
   ·exact absurd h1 (by omega)
 ·rw[if_pos hc]at hE;subst hE;rw[if_neg hc]at hL;subst hL;refine zAd mixed Tryz.func45 rfl rfl (by simp[Tryz.ntmps45]) fun hwf E=>?_
  clear hwf;simp(disch:=omega)[Tryz.ntmps45,go_sem];refine zAa qc [] (by simp[go_sem]) (.inl rfl) (by simp[go_sem]) (fun _=>?_) (by simp[tabG,go_sem])
  simp(disch:=omega)[go_sem];refine zAc (fun h1=>?_) (fun h1=>?_)<;>simp at h1
  ·simp(disch:=omega)[go_sem,lts]
  ·exact absurd h1 hc
end
section
def zVo(s:Sit)(w:SafN):Prop:=mayS s w=true∧∀x∈w.groups,zQe w x=false
theorem yFf{l:List Seen}{i:Nat}(h:i<l.length):sAt l i∈l:=by rw[yIg h];exact List.getElem_mem h
theorem xDo{s:Sit}{w:SafN}(hs:zAk s)(h:zVo s w):zZb s w=true:=by
 obtain⟨h1,h2⟩:=h
 have h3:=zGb h1
 have e:zAl s=0:=by unfold zAl;rw[if_pos hs]
 unfold zZb zWr
 rw[e,if_neg (by simp),if_neg (by rw[h1];simp)]
 simp[h3.1]
 intro x hx
 exact h2 x hx
theorem zOi{s:Sit}{l:List Int}:zOj s l=false↔∀a,a<l.length→∀b,b<a→lAt l a≠1→lAt l b≠1→isAp s a b=false:=by
 unfold zOj
 rw[zDm]
 constructor
 ·intro h a ha b hb h1 h2;have:=h a ha;unfold mtA ySn at this;rw[show (lAt l a != 1)=true by simpa using h1,Bool.true_and,zDm]at this
  have:=this b hb;unfold mtB at this;rw[show (lAt l b != 1)=true by simpa using h2,Bool.true_and]at this
  exact this
 ·intro h a ha;unfold mtA ySn;by_cases h1:lAt l a=1
  ·simp[h1]
  ·rw[show (lAt l a != 1)=true by simpa using h1,Bool.true_and,zDm]
   intro b hb;unfold mtB;by_cases h2:lAt l b=1
   ·simp[h2]
   ·rw[show (lAt l b != 1)=true by simpa using h2,Bool.true_and]
    exact h a ha b hb h1 h2
theorem zXf{s:Sit}{g:List Seen}{l:List Int}:zPd s g l=false↔∀a,a<g.length→lAt l a=2→(sAt g a).aspect≠2→∀k,k<g.length→isAp s k a=true→betw s k a≤(sAt g k).ended:=by
 unfold zPd
 rw[zDm]
 constructor
 ·intro h a ha h1 h2 k hk h3;have:=h a ha;unfold clA clT at this;rw[show (lAt l a != 2)=false by simpa using h1,show ((sAt g a).aspect == 2)=false by simpa using h2]at this
  simp only[Bool.or_self,Bool.not_false,Bool.true_and]at this;unfold clI at this;rw[zDm]at this;have:=this k hk;unfold clB at this;rw[h3,Bool.true_and,decide_eq_false_iff_not]at this;omega
 ·intro h a ha;unfold clA clT;by_cases h1:lAt l a=2
  ·by_cases h2:(sAt g a).aspect=2
   ·simp[h2]
   ·rw[show (lAt l a != 2)=false by simpa using h1,show ((sAt g a).aspect == 2)=false by simpa using h2]
    simp only[Bool.or_self,Bool.not_false,Bool.true_and];unfold clI;rw[zDm];intro k hk;unfold clB;cases h3:isAp s k a
    ·rfl
    ·have:=h a ha h1 h2 k hk h3;rw[Bool.true_and,decide_eq_false_iff_not];omega
  ·simp[h1]
theorem zZh{s:Sit}{g:List Seen}{l:List Int}:∀n,(∀k,k<n→zMf (gAt s k) (sAt g k) (lAt l k)=0)→ffK s g l n=0
 |0,_=>rfl
 |n+1,h=>by
  have ih:=zZh n (fun k hk=>h k (by omega))
  show (if ffK s g l n≠0 then _ else _)=_
  rw[if_neg (by rw[ih];simp)]
  exact h n (by omega)
def newg(s:Sit)(g:List Seen)(l:List Int)(j:Nat):Prop:=((sAt g j).aspect=1∧lAt l j=2)∧blkN s g (ad2 s g l j) j=false
theorem xPi{l:List Int}{k:Nat}{x:Int}(h:k<l.length)(j:Nat):lAt (l.set k x) j=if j=k then x else lAt l j:=by
 unfold lAt
 by_cases e:j=k
 ·subst e;simp[h]
 ·rw[if_neg e,List.getElem?_set_ne (by omega)]
theorem xAt{s:Sit}{g:List Seen}{l:List Int}:∀k,k≤g.length→∀j,(j<k→newg s g l j→lAt (ad2 s g l k) j=2)∧(¬(j<k∧newg s g l j)→lAt (ad2 s g l k) j=lAt (ad1 s g l g.length) j)
 |0,_,j=>⟨fun h=>absurd h (Nat.not_lt_zero j),fun _=>rfl⟩
 |k+1,hk,j=>by
  obtain⟨h1,h2⟩:=xAt (s:=s) (g:=g) (l:=l) k (by omega) j
  have hl:=zVa s g l k;have hstep:ad2 s g l (k+1)=if((sAt g k).aspect=1∧lAt l k=2)∧blkN s g (ad2 s g l k) k=false then(ad2 s g l k).set k 2 else ad2 s g l k:=rfl
  by_cases hn:newg s g l k
  ·have hn2:=hn;unfold newg at hn2;rw[if_pos hn2]at hstep;rw[hstep,xPi (by omega)]
   by_cases e:j=k
   ·subst e;rw[if_pos rfl];exact⟨fun _ _=>rfl,fun h=>absurd ⟨by omega,hn⟩ h⟩
   ·rw[if_neg e];exact⟨fun h a=>h1 (by omega) a,fun h=>h2 (fun h3=>h ⟨by omega,h3.2⟩)⟩
  ·have hn2:=hn;unfold newg at hn2;rw[if_neg hn2]at hstep;rw[hstep];by_cases e:j=k
   ·subst e;exact⟨fun _ h=>absurd h hn,fun h=>h2 (fun h3=>hn h3.2)⟩
   ·exact⟨fun h a=>h1 (by omega) a,fun h=>h2 (fun h3=>h ⟨by omega,h3.2⟩)⟩
theorem xMq{s:Sit}{g:List Seen}{l:List Int}{j:Nat}(h:j<g.length):lAt (ad1 s g l g.length) j=ad1A s g l j:=by
 have hl:=zZw s g l g.length
 rw[zOo (by omega)]
 simp[ad1,h]
theorem zSh(s:Sit)(g:List Seen)(l:List Int):(admG s g l).length=g.length:=zVa s g l _
theorem yKs{s:Sit}{g:List Seen}{l:List Int}{j:Nat}(h:(sAt g j).aspect=1):ad1A s g l j=1:=by
 unfold ad1A;rw[if_neg (by simpa using h)]
theorem xBa(g:Grp)(s:Seen)(a:Int):1≤zVe g s a∧zVe g s a≤3:=by unfold zVe;(repeat' split)<;>omega
theorem xTd{s:Sit}{g:List Seen}{l:List Int}(j:Nat):1≤ad1A s g l j∧ad1A s g l j≤3:=by
 unfold ad1A;split
 ·exact xBa _ _ _
 ·omega
theorem zLh{s:Sit}{g:List Seen}{l:List Int}{j:Nat}(hj:j<g.length):(newg s g l j∧lAt (admG s g l) j=2)∨(¬newg s g l j∧lAt (admG s g l) j=ad1A s g l j):=by
 obtain⟨h1,h2⟩:=xAt (s:=s) (g:=g) (l:=l) g.length (Nat.le_refl _) j
 by_cases h:newg s g l j
 ·exact .inl ⟨h,h1 hj h⟩
 ·exact .inr ⟨h,by rw[← xMq hj];exact h2 (fun h3=>h h3.2)⟩
theorem xPf{g:Grp}{s:Seen}{a:Int}(h1:1≤s.aspect∧s.aspect≤3)(h2:s.aspect≠1):zMf g s (zVe g s a)=0:=by
 obtain⟨sp,si,en⟩:=s
 simp only at h1 h2
 have h3:sp=2∨sp=3:=by omega
 unfold zMf zVe yBx yGo
 rcases h3 with rfl|rfl
 ·simp only[show ((2:Int)=1)=False by simp,if_false,if_true]
  by_cases hc:a=2∨zNc si<g.min
  ·rw[if_pos hc];simp
  ·rw[if_neg hc];simp;omega
 ·simp only[show ((3:Int)=1)=False by simp,show ((3:Int)=2)=False by simp,if_false,if_true]
  by_cases hc:zNc si<g.yellow
  ·rw[if_pos hc];simp;omega
  ·rw[if_neg hc];simp;omega
theorem yKh{s:Sit}{g:List Seen}{out:List Int}{i:Nat}:blkN s g out i=false↔∀k,k<g.length→isAp s i k=true→lAt out k=1∧betw s k i≤(sAt g k).ended:=by
 unfold blkN
 rw[zDm]
 constructor
 ·intro h k hk h1;have:=h k hk;unfold blkB at this;rw[h1,Bool.true_and]at this;simp at this;exact⟨this.1,by omega⟩
 ·intro h k hk;unfold blkB;cases h1:isAp s i k
  ·rfl
  ·obtain⟨h2,h3⟩:=h k hk h1;simp[h2];omega
theorem xSy{s:Sit}(hA:zHv s){a b:Nat}(ha:a<s.groups.length)(hb:b<s.groups.length):isAp s a b=isAp s b a:=((hA a ha).2 b hb).1
theorem xAr{s:Sit}(hs:zAk s){g:List Seen}{l:List Int}(hg:g.length=s.groups.length)(hm:zOj s (zBu g)=false)(ha:∀x∈g,1≤x.aspect∧x.aspect≤3) :
  (∀k,k<g.length→zMf (gAt s k) (sAt g k) (lAt (admG s g l) k)=0)∧zOj s (admG s g l)=false∧zPd s g (admG s g l)=false:=by
 have hsy:∀a b,a<g.length→b<g.length→isAp s a b=isAp s b a:=fun a b h1 h2=>xSy hs.apart (by omega) (by omega)
 rw[zOi,zEb]at hm
 have hsh:∀k,k<g.length→lAt (zBu g) k=(sAt g k).aspect:=fun k hk=>by
  rw[zOo (by rw[zEb];exact hk),yIg hk];simp[zBu]
 refine⟨fun k hk=>?_,?_,?_⟩
 ·have h1:=ha _ (yFf hk);rcases zLh (s:=s) (l:=l) hk with ⟨h2,h3⟩|⟨h2,h3⟩
  ·rw[h3];obtain⟨⟨h4,_⟩,_⟩:=h2;unfold zMf yBx yGo;rw[h4];simp
  ·rw[h3];by_cases h4:(sAt g k).aspect=1
   ·rw[yKs h4];unfold zMf yBx yGo;rw[h4];simp
   ·unfold ad1A;rw[if_pos h4];exact xPf h1 h4
 ·rw[zOi,zSh];intro a ha2 b hb h1 h2;have hbl:b<g.length:=by omega
  -- what was not red was not red before, unless it is new
  have key:∀j,j<g.length→lAt (admG s g l) j≠1→¬newg s g l j→(sAt g j).aspect≠1:=fun j hj h3 h4 h5=>by
   rcases zLh (s:=s) (l:=l) hj with ⟨h6,_⟩|⟨_,h6⟩
   ·exact h4 h6
   ·rw[h6,yKs h5]at h3;exact h3 rfl
  have new:∀i j,i<g.length→j<g.length→i≠j→newg s g l i→lAt (admG s g l) j≠1→(newg s g l j→j<i)→isAp s i j=false:=fun i j hi hj hij h3 h4 h5=>by
   have h6:=h3.2;rw[yKh]at h6;cases hap:isAp s i j
   ·rfl
   ·exfalso
    have h7:=(h6 j hj hap).1;obtain⟨e1,e2⟩:=xAt (s:=s) (g:=g) (l:=l) i (by omega) j
    by_cases hn:newg s g l j
    ·rw[e1 (h5 hn) hn]at h7;exact absurd h7 (by decide)
    ·rw[e2 (fun h=>hn h.2),xMq hj]at h7
     rcases zLh (s:=s) (l:=l) hj with ⟨h8,_⟩|⟨_,h8⟩
     ·exact hn h8
     ·rw[h8]at h4;exact h4 h7
  by_cases na:newg s g l a
  ·exact new a b ha2 hbl (by omega) na h2 (fun _=>hb)
  ·by_cases nb:newg s g l b
   ·rw[hsy a b ha2 hbl];exact new b a hbl ha2 (by omega) nb h1 (fun h=>absurd h na)
   ·have k1:=key a ha2 h1 na;have k2:=key b hbl h2 nb;exact hm a ha2 b hb (by rw[hsh a ha2];exact k1) (by rw[hsh b hbl];exact k2)
 ·rw[zXf];intro a ha2 h1 h2 k hk h3;rcases zLh (s:=s) (l:=l) ha2 with ⟨h4,_⟩|⟨h4,h5⟩
  ·have h6:=h4.2;rw[yKh]at h6;exact(h6 k hk (by rw[hsy a k ha2 hk];exact h3)).2
  ·exfalso
   rw[h5]at h1;unfold ad1A zVe at h1;have h7:=ha _ (yFf ha2);have h8:(sAt g a).aspect=1∨(sAt g a).aspect=3:=by omega
   rcases h8 with h8|h8
   ·rw[if_neg (by simpa using h8)]at h1;exact absurd h1 (by decide)
   ·rw[if_pos (by omega),if_neg (by omega),if_neg (by omega),if_pos h8]at h1
    split at h1<;>exact absurd h1 (by decide)
theorem zUf{l:List Int}(h:zDo l=true):∀x∈l,x=4:=by
 unfold zDo at h
 simpa using h
theorem yHq{s:Sit}{g:List Seen}{l:List Int}:∀x∈admG s g l,1≤x∧x≤3:=by
 intro x hx
 obtain⟨j,hj,rfl⟩:=List.getElem_of_mem hx
 have hj2:j<g.length:=by rw[zSh]at hj;exact hj
 rw[← zOo hj]
 rcases zLh (s:=s) (l:=l) hj2 with ⟨_,h⟩|⟨_,h⟩
 ·rw[h];omega
 ·rw[h];exact xTd j
theorem yJm{l:List Int}(h0:0<l.length)(h:∀x∈l,x≠4):zDo l=false:=by
 cases hf:zDo l
 ·rfl
 ·have:=zUf hf _ (List.getElem_mem h0);exact absurd this (h _ (List.getElem_mem h0))
theorem zYd(n k:Nat)(h:k<n):lAt (List.replicate n 1) k=1:=by rw[zOo (by simpa using h)];simp
theorem zUz{s:Sit}{w:SafN}{l:List Int}(hl:l.length=s.groups.length)(hw:w.groups.length=s.groups.length):(zBz s w.groups w.start w.flashed l).length=s.groups.length:=by
 unfold zBz
 split
 ·exact hl
 ·split
  ·simpa using hl
  ·rw[zSh];exact hw
theorem zQg{s:Sit}(hs:zAk s){w:SafN}{l:List Int}(hw:zVo s w)(hl:l.length=s.groups.length):zCk s w.groups w.start w.flashed (zBz s w.groups w.start w.flashed l)=0:=by
 obtain⟨hm,hq⟩:=hw
 have hlen:=zGb hm
 have h1:1≤s.groups.length:=hs.shaped.1.1
 have hal:=zUz (w:=w) hl hlen.1
 unfold zCk
 rw[if_neg (by omega)]
 by_cases hf:zDo l=true
 ·have:zBz s w.groups w.start w.flashed l=l:=by unfold zBz;rw[if_pos hf]
  rw[this,if_pos hf]
 ·by_cases h2:w.flashed=true∨0<w.start
  ·have e:zBz s w.groups w.start w.flashed l=List.replicate l.length 1:=by unfold zBz;rw[if_neg hf,if_pos h2]
   rw[e,if_neg (by rw[yJm (by simp;omega) (by simp)];simp),if_neg (by simp),if_neg (by simp)]
   have hmt:zOj s (List.replicate l.length 1)=false:=by
    rw[zOi];intro a ha b hb h3;rw[zYd _ _ (by simpa using ha)]at h3
    exact absurd rfl h3
   have hcl:zPd s w.groups (List.replicate l.length 1)=false:=by
    rw[zXf];intro a ha h3;rw[zYd _ _ (by omega)]at h3
    exact absurd h3 (by decide)
   unfold zJy;rw[if_neg,if_neg (by rw[hmt];simp),if_neg (by rw[hcl];simp)]
   rintro⟨h3,h4⟩
   have h5:0<w.start:=by
    rcases h2 with h2|h2
    ·rw[h2]at h3;cases h3
    ·exact h2
   refine h4 (zZh _ fun k hk=>?_)
   have h6:=hq _ (yFf hk);unfold zQe at h6;rw[h3]at h6;simp[h5]at h6;rw[zYd _ _ (by omega)]
   unfold zMf yBx yGo;rw[h6.2];simp
  ·have e:zBz s w.groups w.start w.flashed l=admG s w.groups l:=by unfold zBz;rw[if_neg hf,if_neg h2]
   have hfl:w.flashed=false:=by
    cases h:w.flashed
    ·rfl
    ·exact absurd (.inl h) h2
   have ha:∀x∈w.groups,1≤x.aspect∧x.aspect≤3:=fun x hx=>by
    have h6:=hq x hx;unfold zQe at h6;rw[hfl]at h6;simp at h6;omega
   have hmS:zOj s (zBu w.groups)=false:=by
    unfold mayS at hm;simp only[Bool.and_eq_true,Bool.or_eq_true,Bool.not_eq_true']at hm;rcases hm.2 with h|h
    ·have h7:0<(zBu w.groups).length:=by rw[zEb];omega
     have h8:=zUf h _ (List.getElem_mem h7);have h9:=ha (w.groups[0]'(by omega)) (List.getElem_mem _)
     simp[zBu]at h8;omega
    ·exact h
   obtain⟨g1,g2,g3⟩:=xAr (l:=l) hs hlen.1 hmS ha;rw[e,if_neg (by rw[yJm (by rw[zSh];omega) (fun x hx=>by have:=yHq x hx;omega)];simp),if_neg (fun h=>by have:=yHq _ h;omega)]
   rw[if_neg (by rw[hfl];simp;intro h;exact absurd (.inr h) h2)]
   unfold zJy;rw[if_neg (fun h=>h.2 (zZh _ g1)),if_neg (by rw[g2];simp),if_neg (by rw[g3];simp)]
theorem yKi(s:Sit){w:SafN}{l:List Int}(hl:l.length=w.groups.length):zBu (zBe s w l).groups=l:=by
 apply List.ext_getElem (by rw[zEb];show (bhK s w.groups l _).length=_;rw[zUt];omega)
 intro i h1 h2
 have hi:i<w.groups.length:=by omega
 simp only[zBe,bhG,bhK,zBu,List.getElem_map,List.getElem_range]
 rw[if_pos hi]
 simp[zYo,lAt,h2]
theorem zXl{s:Sit}(hs:zAk s){w:SafN}{l:List Int}(hm:mayS s w=true)(hf:zCk s w.groups w.start w.flashed l=0):mayS s (zBe s w l)=true:=by
 have hlen:=zGb hm
 have hl:=zXa hf
 obtain⟨b1,b2,b3⟩:=yZo (l:=l) (zJx hs) hlen
 unfold mayS
 rw[yKi s (by omega)]
 simp only[Bool.and_eq_true,beq_iff_eq,decide_eq_true_eq,Bool.or_eq_true,Bool.not_eq_true']
 refine⟨⟨⟨b1,b2⟩,b3⟩,?_⟩
 unfold zCk at hf
 rw[if_neg (by omega)]at hf
 by_cases h1:zDo l=true
 ·exact .inl h1
 ·right
  rw[if_neg h1]at hf;split at hf
  ·exact absurd hf (by decide)
  ·split at hf
   ·exact absurd hf (by decide)
   ·unfold zJy at hf;split at hf
    ·rename_i h;exact absurd hf h.2
    ·split at hf
     ·exact absurd hf (by decide)
     ·rename_i h;simpa using h
theorem xMm{s:Sit}{w:SafN}{l:List Int}(hl:l.length=w.groups.length){x:Seen}(hx:x∈(zBe s w l).groups):x.aspect∈l:=by
 have h:=yKi s (w:=w) (l:=l) hl
 rw[← h]
 exact List.mem_map_of_mem hx
theorem yUn{s:Sit}(hs:zAk s){w:SafN}(hw:mayS s w=true):zVo s (zBe s w (List.replicate s.groups.length 4)):=by
 have hlen:=zGb hw
 have hfl:zDo (List.replicate s.groups.length 4)=true:=by unfold zDo;simp
 have hf:zCk s w.groups w.start w.flashed (List.replicate s.groups.length 4)=0:=by
  unfold zCk;rw[if_neg (by simp),if_pos hfl]
 refine⟨zXl hs hw hf,fun x hx=>?_⟩
 have h1:=xMm (by simpa using hlen.1.symm) hx
 have h2:x.aspect=4:=by simpa using(List.mem_replicate.1 h1).2
 unfold zQe
 rw[show (zBe s w (List.replicate s.groups.length 4)).flashed=true from hfl]
 simp[h2]
theorem zUg{s:Sit}(w:SafN):zCk s w.groups w.start w.flashed (List.replicate s.groups.length 4)=0:=by
 have hfl:zDo (List.replicate s.groups.length 4)=true:=by unfold zDo;simp
 unfold zCk;rw[if_neg (by simp),if_pos hfl]
theorem yUo{s:Sit}(hs:zAk s):zVo s (zHl s):=by
 have hz:=zZa (zJx hs)
 have h1:zBu (zHl s).groups=List.replicate s.groups.length 1:=by simp[zHl,zBu]
 refine⟨?_,fun x hx=>?_⟩
 ·unfold mayS;rw[h1];simp only[Bool.and_eq_true,beq_iff_eq,decide_eq_true_eq,Bool.or_eq_true,Bool.not_eq_true'];refine⟨⟨⟨by simp[zHl],hz.1⟩,hz.2⟩,.inr ?_⟩
  rw[zOi];intro a ha b hb h3;rw[zYd _ _ (by simpa using ha)]at h3
  exact absurd rfl h3
 ·have h2:x=⟨1,1,1048576⟩:=(List.mem_replicate.1 hx).2;subst h2;unfold zQe zHl;simp
theorem xEs{s:Sit}(hs:zAk s){w:SafN}{l:List Int}(hw:zVo s w)(hl:l.length=s.groups.length):zVo s (zBe s w (zBz s w.groups w.start w.flashed l)):=by
 have hlen:=zGb hw.1
 have hal:=zUz (w:=w) hl hlen.1
 refine⟨zXl hs hw.1 (zQg hs hw hl),fun x hx=>?_⟩
 have h1:=xMm (by omega) hx
 unfold zQe
 cases hf:zDo (zBz s w.groups w.start w.flashed l)with
 |true=>
  rw[show (zBe s w (zBz s w.groups w.start w.flashed l)).flashed=true from hf]
  simp[zUf hf _ h1]
 |false=>
  rw[show (zBe s w (zBz s w.groups w.start w.flashed l)).flashed=false from hf]
  have hst:(zBe s w (zBz s w.groups w.start w.flashed l)).start=bhT s w.start w.flashed (zBz s w.groups w.start w.flashed l):=rfl;rw[hst];have hfl:zDo l≠true:=fun h=>by
   have e:zBz s w.groups w.start w.flashed l=l:=by unfold zBz;rw[if_pos h]
   rw[e,h]at hf;cases hf
  by_cases h2:w.flashed=true∨0<w.start
  ·have e:zBz s w.groups w.start w.flashed l=List.replicate l.length 1:=by unfold zBz;rw[if_neg hfl,if_pos h2]
   rw[e]at h1;have h3:=(List.mem_replicate.1 h1).2;simp[h3]
  ·have e:zBz s w.groups w.start w.flashed l=admG s w.groups l:=by unfold zBz;rw[if_neg hfl,if_neg h2]
   rw[e]at h1;have h3:=yHq _ h1;have h4:bhT s w.start w.flashed (zBz s w.groups w.start w.flashed l)≤0:=by
    unfold bhT;rw[if_neg (by rw[hf];simp),if_neg (fun h=>h2 (.inl h))]
    have:=fun h=>h2 (.inr h)
    unfold maxI;split<;>omega
   simp;omega
theorem xLh{s:Sit}(hs:zAk s){w:SafN}{l:List Int}(hw:zVo s w)(hl:l.length=s.groups.length):zPo s w l=zBz s w.groups w.start w.flashed l:=by
 have e:zAl s=0:=by unfold zAl;rw[if_pos hs]
 have hg:=xDo hs hw
 have hk:zKd s w=0:=by unfold zKd;rw[e,if_neg (by simp),if_neg (by simp[hg])]
 have hE:zRj s w l=0:=by unfold zRj;rw[hk,if_neg (by simp),if_neg (by simp[hl])]
 unfold zPo
 rw[if_pos hE]
end
section
structure zCx where
 up:Bool
 same:Int
 turns:Int
 bad:Bool
 well:Int
def zCp(x:zCx):V:= .agg [.bool x.up,.int .i64 x.same,.int .u64 x.turns,.bool x.bad,.int .i64 x.well]
theorem zQa(l:List zCx):zBa (l.map zCp):=zBc _ (fun c=>by simp[zCp,go_sem]) l
attribute [go_sem] zQa
def kAt(l:List zCx)(i:Nat):zCx:=l[i]?.getD ⟨false,0,0,false,0⟩
theorem xMc{l:List zCx}{i:Nat}(h:i<l.length):kAt l i=l[i]:=by simp[kAt,h]
theorem nthK{l:List zCx}{k:Nat}(h:k<l.length):nth (l.map zCp) k=zCp (kAt l k):=by rw[xMc h];exact zBt h
def yDt(x:zCx):Prop:=0≤x.same∧0≤x.well∧x.same≤1048576∧x.well≤1048576∧(x.bad=true∨x.well=0)
noncomputable def mayK(x:zCx):Bool:=open Classical in decide (yDt x)
theorem yIv{x:zCx}:mayK x=true↔yDt x:=by unfold mayK;simp
theorem zZq(x:zCx):FnD Tryz.prog 158 [zCp x] (.bool (!x.bad)):=by
 unfold zCp
 refine zAd mixed Tryz.func158 rfl rfl (by simp[Tryz.ntmps158]) fun hwf E=>?_
 clear hwf
 simp(disch:=omega)[Tryz.ntmps158,go_sem]
theorem yKw(x:zCx):FnD Tryz.prog 200 [zCp x] (.bool (x.up||x.bad)):=by
 unfold zCp
 refine zAd mixed Tryz.func200 rfl rfl (by simp[Tryz.ntmps200]) fun hwf E=>?_
 clear hwf
 simp(disch:=omega)[Tryz.ntmps200,go_sem]
theorem yYk(x:zCx):FnD Tryz.prog 198 [zCp x] (.bool (mayK x)):=by
 have hi:=yIv (x:=x)
 generalize mayK x=r at *
 obtain⟨u,s,t,b,w⟩:=x
 unfold yDt at hi
 unfold zCp
 simp only at *
 obtain⟨mn,hmn⟩:∃mn,(if w<s then w else s)=mn:=⟨_,rfl⟩
 obtain⟨mx,hmx⟩:∃mx,(if s<w then w else s)=mx:=⟨_,rfl⟩
 have hmn2:mn≤w∧mn≤s∧(mn=w∨mn=s):=by rw[← hmn];split<;>omega
 have hmx2:w≤mx∧s≤mx∧(mx=w∨mx=s):=by rw[← hmx];split<;>omega
 refine zAd mixed Tryz.func198 rfl rfl (by simp[Tryz.ntmps198]) fun hwf E=>?_
 clear hwf
 simp(disch:=omega)[Tryz.ntmps198,go_sem]
 rw[hmn,hmx,Bool.eq_iff_iff,hi]
 cases b<;>simp<;>omega
def zHd(s:Nat)(i:Int):Nat:=s ||| bitN i
theorem zJe{s:Nat}(hs:s<4294967296)(i:Int):zHd s i<4294967296:=xDi hs (zFy i)
theorem yAc(s:Nat)(i:Int)(hs:s<4294967296):FnD Tryz.prog 157 [.int .u32 s,.int .i64 i] (.int .u32 (zHd s i)):=by
 have q:=zZo i
 have hb:=zFy i
 unfold zHd
 refine zAd mixed Tryz.func157 rfl rfl (by simp[Tryz.ntmps157]) fun hwf E=>?_
 clear hwf
 simp(disch:=omega)[Tryz.ntmps157,go_sem]
 refine zAa q [] (by simp[go_sem]) (.inl rfl) (by simp[go_sem]) (fun _=>?_)
 simp(disch:=omega)[go_sem]
noncomputable def zFm(s:Sit)(l:List zCx):Int:=if zAl s≠0 then zAl s else if l.length≠s.eyes.length then 4 else if anyR l.length (fun i=> !mayK (kAt l i))=true then 8 else 0
theorem yCn(s:Sit)(l:List zCx):FnD Tryz.prog 151 [sitV s,.sl 5 (l.map zCp)] (.int .i64 (zFm s l)) tabG:=by
 have qc:=zCc s
 have hE:zFm s l=if zAl s≠0 then zAl s else if l.length≠s.eyes.length then 4 else if anyR l.length (fun i=> !mayK (kAt l i))=true then 8 else 0:=rfl
 generalize zFm s l=r at *
 generalize zAl s=c at *
 have hq:∃Q:Nat→Bool,Q=(fun i=> !mayK (kAt l i)):=⟨_,rfl⟩
 obtain⟨Q,hQ⟩:=hq
 rw[← hQ]at hE
 have hQk:∀k,Q k= !mayK (kAt l k):=fun k=>by rw[hQ]
 clear hQ
 unfold sitV at *
 refine zAd mixed Tryz.func151 rfl rfl (by simp[Tryz.ntmps151]) fun hwf E=>?_
 simp(disch:=omega)[go_sem]at hwf
 simp(disch:=omega)[Tryz.ntmps151,go_sem]
 refine zAa qc [] (by simp[go_sem]) (.inl rfl) (by simp[go_sem]) (fun _=>?_) (by simp[tabG,go_sem])
 simp(disch:=omega)[go_sem]
 refine zAc (fun h1=>?_) (fun h1=>?_)<;>simp at h1
 ·rw[if_pos h1]at hE;simp(disch:=omega)[go_sem,hE]
 ·rw[if_neg (by omega)]at hE
  simp(disch:=omega)[go_sem];refine zAc (fun h2=>?_) (fun h2=>?_)<;>simp at h2
  ·rw[if_pos (by omega)]at hE
   simp(disch:=omega)[go_sem,hE]
  ·rw[if_neg (by omega)]at hE
   simp(disch:=omega)[go_sem];refine zAe mixed (fun k:Nat=>⟨[(21,.int .i64 k),(20,.int .i64 l.length),(19,.sl 5 (l.map zCp))],[],1024,[],29,0,tabG⟩) (fun k=>k≤l.length∧∀i,i<k→Q i=false) (fun k=>l.length-k) 0 ?_ ?_ ?_
   ·exact⟨by omega,fun i hi=>absurd hi (Nat.not_lt_zero i)⟩
   ·refine Le.mk [] [] ⟨rfl,rfl,rfl⟩ ?_ ?_ ?_<;>simp[go_sem]
   ·rintro k ⟨hk,hno⟩
    simp(disch:=omega)[go_sem];refine zAc (fun h=>?_) (fun h=>?_)<;>simp at h
    ·have hn:=nthK h;have q2:=yYk (kAt l k);simp only[zCp]at q2;simp(disch:=omega)[go_sem,hn,h,zCp];refine zAj q2 [] (by simp[go_sem]) (fun h5=>?_) (fun h5=>?_)<;>try simp[inN]at h5
     ·simp(disch:=omega)[go_sem];have hno2:=zKh hno (by rw[hQk,h5];rfl:Q k=false)
      refine zAb (k+1) (⟨by omega,hno2⟩) (by omega) (Le.mk [] [] ⟨rfl,rfl,rfl⟩ ?_ ?_ ?_)<;>simp[go_sem]
     ·rw[zFn h (by rw[hQk,h5];rfl),if_pos rfl]at hE
      simp(disch:=omega)[go_sem,hE]
    ·have hkk:k=l.length:=by omega
     subst hkk;rw[zHu hno,if_neg (by decide)]at hE
     simp(disch:=omega)[go_sem,hE]
end
section
def eAt(s:Sit)(i:Nat):Eye:=s.eyes[i]?.getD ⟨0,0,0,0⟩
theorem yYm{s:Sit}{i:Nat}(h:i<s.eyes.length):eAt s i=s.eyes[i]:=by simp[eAt,h]
theorem nthE{s:Sit}{k:Nat}(h:k<s.eyes.length):nth (s.eyes.map eyeV) k=eyeV (eAt s k):=by rw[yYm h];exact zBt h
def hasK(s:Sit):Nat→Nat
 |0=>0
 |k+1=>zHd (hasK s k) (eAt s k).phase
def belK(s:Sit)(l:List zCx):Nat→Nat
 |0=>0
 |k+1=>if(kAt l k).bad=true then belK s l k else zHd (belK s l k) (eAt s k).phase
theorem yTq(s:Sit):∀k,hasK s k<4294967296
 |0=>by show (0:Nat)<_;decide
 |k+1=>zJe (yTq s k) _
theorem yZn(s:Sit)(l:List zCx):∀k,belK s l k<4294967296
 |0=>by show (0:Nat)<_;decide
 |k+1=>by
  have ih:=yZn s l k;show (if _ then _ else _:Nat)<_
  split
  ·exact ih
  ·exact zJe ih _
noncomputable def zXw(s:Sit)(l:List zCx):Bool × Int:=if zFm s l≠0 then(false,zFm s l)else(hasK s l.length == belK s l l.length,0)
theorem zSg{s:Sit}{l:List zCx}(h:zFm s l=0):zAk s∧l.length=s.eyes.length∧∀k,k<l.length→yDt (kAt l k):=by
 unfold zFm at h
 by_cases hs:zAk s
 ·have e:zAl s=0:=by unfold zAl;rw[if_pos hs]
  rw[if_neg (by omega)]at h
  by_cases hl:l.length=s.eyes.length
  ·rw[if_neg (by omega)]at h
   refine⟨hs,hl,fun k hk=>?_⟩
   by_cases ha:anyR l.length (fun i=> !mayK (kAt l i))=true
   ·rw[if_pos ha]at h;exact absurd h (by decide)
   ·have:=zDm.1 (by simpa using ha) k hk
    exact yIv.1 (by simpa using this)
  ·rw[if_pos hl]at h;exact absurd h (by decide)
 ·have e:zAl s=50:=by unfold zAl;rw[if_neg hs]
  rw[e,if_pos (by decide)]at h
  exact absurd h (by decide)
set_option maxHeartbeats 2000000 in
theorem yAd(s:Sit)(l:List zCx):FnD Tryz.prog 97 [sitV s,.sl 5 (l.map zCp)] (.tup [.bool (zXw s l).1,.int .i64 (zXw s l).2]) tabG:=by
 have hsv:=zAr s
 have qc:=yCn s l
 have hok:=zSg (s:=s) (l:=l)
 have hW:zXw s l=if zFm s l≠0 then(false,zFm s l)else(hasK s l.length == belK s l l.length,0):=rfl
 generalize zXw s l=r at *
 generalize zFm s l=c at *
 rw[hsv]at qc ⊢
 refine zAd mixed Tryz.func97 rfl rfl (by simp[Tryz.ntmps97]) fun hwf E=>?_
 simp(disch:=omega)[go_sem]at hwf
 simp(disch:=omega)[Tryz.ntmps97,go_sem]
 refine zAa qc [] (by simp[go_sem]) (.inl rfl) (by simp[go_sem]) (fun _=>?_) (by simp[tabG,go_sem])
 simp(disch:=omega)[go_sem]
 refine zAc (fun h1=>?_) (fun h1=>?_)<;>simp at h1
 ·rw[if_pos h1]at hW;simp(disch:=omega)[go_sem,hW]
 ·rw[if_neg (by omega)]at hW
  obtain⟨_,hl,_⟩:=hok h1;simp(disch:=omega)[go_sem];refine zAe mixed (fun k:Nat=>siS s [(20,.int .i64 k),(19,.int .i64 l.length),(18,.sl 5 (l.map zCp)),(8,.int .u32 (belK s l k)),(7,.int .u32 (hasK s k)),(2,.ptr 0 1 0 0)] [] 1024 43 tabG) (fun k=>k≤l.length) (fun k=>l.length-k) 0 ?_ ?_ ?_
  ·omega
  ·refine Le.mk [(0,some 0)] [0] ⟨rfl,rfl,rfl⟩ ?_ ?_ ?_<;>simp[go_sem,siS,sitV,hasK,belK]
  ·intro k hk;simp(disch:=omega)[go_sem,siS,sitV];refine zAc (fun h=>?_) (fun h=>?_)<;>simp at h
   ·have hke:k<s.eyes.length:=by omega
    have hn:=nthK h;have hm:=nthE hke;have q2:=yAc (hasK s k) (eAt s k).phase (yTq s k);have q3:=zZq (kAt l k);have q4:=yAc (belK s l k) (eAt s k).phase (yZn s l k);have e1:hasK s (k+1)=zHd (hasK s k) (eAt s k).phase:=rfl;have e2:belK s l (k+1)=if(kAt l k).bad=true then belK s l k else zHd (belK s l k) (eAt s k).phase:=rfl
    simp only[zCp]at q3;simp(disch:=omega)[go_sem,hn,h,zCp,hm,hke,eyeV];refine zAa q2 [] (by simp[go_sem]) (.inl rfl) (by simp[go_sem]) (fun _=>?_)
    simp(disch:=omega)[go_sem];refine zAj q3 [] (by simp[go_sem]) (fun h5=>?_) (fun h5=>?_)<;>try simp[]at h5
    ·rw[h5,if_neg (by decide)]at e2
     simp(disch:=omega)[go_sem];refine zAa q4 [] (by simp[go_sem]) (.inl rfl) (by simp[go_sem]) (fun _=>?_)
     simp(disch:=omega)[go_sem];refine zAb (k+1) (by omega) (by omega) (Le.mk [(0,some 0)] [0] ⟨rfl,rfl,rfl⟩ ?_ ?_ ?_)<;>simp[go_sem,e1,e2]
    ·rw[h5,if_pos rfl]at e2;simp(disch:=omega)[go_sem];refine zAb (k+1) (by omega) (by omega) (Le.mk [(0,some 0)] [0] ⟨rfl,rfl,rfl⟩ ?_ ?_ ?_)<;>simp[go_sem,e1,e2]
   ·have hkk:k=l.length:=by omega
    subst hkk;simp(disch:=omega)[go_sem,hW];rw[Bool.eq_iff_iff,beq_iff_eq,beq_iff_eq];omega
def pAt(s:Sit)(i:Nat):Pha:=s.phases[i]?.getD ⟨0,0,0,0,false⟩
theorem yIp{s:Sit}{i:Nat}(h:i<s.phases.length):pAt s i=s.phases[i]:=by simp[pAt,h]
theorem nthP{s:Sit}{k:Nat}(h:k<s.phases.length):nth (s.phases.map phaV) k=phaV (pAt s k):=by rw[yIp h];exact zBt h
def alwK(s:Sit):Nat→Nat
 |0=>0
 |k+1=>if(pAt s k).always=true then zHd (alwK s k) k else alwK s k
def zOa(s:Sit)(l:List zCx):Nat→Nat
 |0=>alwK s s.phases.length
 |k+1=>if((kAt l k).up||(kAt l k).bad)=true then zHd (zOa s l k) (eAt s k).phase else zOa s l k
theorem yHn(s:Sit):∀k,alwK s k<4294967296
 |0=>by show (0:Nat)<_;decide
 |k+1=>by
  have ih:=yHn s k;show (if _ then _ else _:Nat)<_
  split
  ·exact zJe ih _
  ·exact ih
theorem zYe(s:Sit)(l:List zCx):∀k,zOa s l k<4294967296
 |0=>yHn s _
 |k+1=>by
  have ih:=zYe s l k;show (if _ then _ else _:Nat)<_
  split
  ·exact zJe ih _
  ·exact ih
noncomputable def yMh(s:Sit)(l:List zCx):Nat × Int:=if zFm s l≠0 then(0,zFm s l)else(zOa s l l.length,0)
theorem zPu{k:Nat}(hk:k<32):IntKind.u32.wrap (2 ^ k)=((bitN k:Nat):Int):=by
 have hb:=zFy (k:Int)
 have e:bitN (k:Int)=2 ^ k:=by unfold bitN;rw[if_neg (by omega)];simp
 rw[e]at hb ⊢
 have e2:(2:Int) ^ k=((2 ^ k:Nat):Int):=by simp
 rw[e2]
 generalize 2 ^ k=q at hb ⊢
 exact zLl (by omega) (by omega)
theorem xWt{s:Sit}(hs:zAk s){k:Nat}(h:k<s.eyes.length):0≤(eAt s k).phase∧(eAt s k).phase<s.phases.length:=by
 have h3:=hs 3 (by decide)
 have h4:=List.all_eq_true.1 h3 s.eyes[k] (List.getElem_mem h)
 rw[yYm h]
 simp only[yOb,inN,Bool.and_eq_true,decide_eq_true_eq]at h4
 omega
set_option maxHeartbeats 2000000 in
theorem yRh(s:Sit)(l:List zCx):FnD Tryz.prog 153 [sitV s,.sl 5 (l.map zCp)] (.tup [.int .u32 ((yMh s l).1:Nat),.int .i64 (yMh s l).2]) tabG:=by
 have hsv:=zAr s
 have qc:=yAd s l
 have hok:=zSg (s:=s) (l:=l)
 have hR:yMh s l=if zFm s l≠0 then(0,zFm s l)else(zOa s l l.length,0):=rfl
 have hW:(zXw s l).2=zFm s l:=by
  unfold zXw;split
  ·rfl
  ·show 0=_;omega
 rw[hW]at qc
 generalize yMh s l=r at *
 generalize zFm s l=c at *
 generalize (zXw s l).1=wb at *
 rw[hsv]at qc ⊢
 refine zAd mixed Tryz.func153 rfl rfl (by simp[Tryz.ntmps153]) fun hwf E=>?_
 simp(disch:=omega)[go_sem]at hwf
 simp(disch:=omega)[Tryz.ntmps153,go_sem]
 refine zAa qc [] (by simp[go_sem]) (.inl rfl) (by simp[go_sem]) (fun _=>?_) (by simp[tabG,go_sem])
 simp(disch:=omega)[go_sem]
 refine zAc (fun h1=>?_) (fun h1=>?_)<;>simp at h1
 ·rw[if_pos h1]at hR;simp(disch:=omega)[go_sem,hR]
 ·rw[if_neg (by omega)]at hR
  obtain⟨hs,hl,_⟩:=hok h1;have h8:s.phases.length≤8:=hs.shaped.2.2.2.1.2;simp(disch:=omega)[go_sem];refine zAe mixed (fun k:Nat=>siS s [(24,.int .i64 k),(23,.int .i64 s.phases.length),(22,.sl 5 (s.phases.map phaV)),(4,.int .u32 (alwK s k)),(2,.ptr 0 1 0 0),(1,.sl 5 (l.map zCp))] [] 1024 56 tabG) (fun k=>k≤s.phases.length) (fun k=>s.phases.length-k) 0 ?_ ?_ ?_
  ·omega
  ·refine Le.mk [(0,some 0)] [0] ⟨rfl,rfl,rfl⟩ ?_ ?_ ?_<;>simp[go_sem,siS,sitV,alwK]
  ·intro k hk;have e1:alwK s (k+1)=if(pAt s k).always=true then zHd (alwK s k) k else alwK s k:=rfl
   have hal:=yHn s k;simp(disch:=omega)[go_sem,siS,sitV];refine zAc (fun h=>?_) (fun h=>?_)<;>simp at h
   ·have hn:=nthP h;simp(disch:=omega)[go_sem,hn,h,phaV];refine zAc (fun h5=>?_) (fun h5=>?_)
    ·rw[h5,if_pos rfl]at e1;have hsh:=zPu (show k<32 by omega)
     have hb:=zFy (k:Int);simp(disch:=omega)[go_sem,hsh];refine zAb (k+1) (by omega) (by omega) (Le.mk [(0,some 0)] [0] ⟨rfl,rfl,rfl⟩ ?_ ?_ ?_)<;>simp[go_sem,e1,zHd]
    ·rw[h5,if_neg (by decide)]at e1
     simp(disch:=omega)[go_sem];refine zAb (k+1) (by omega) (by omega) (Le.mk [(0,some 0)] [0] ⟨rfl,rfl,rfl⟩ ?_ ?_ ?_)<;>simp[go_sem,e1]
   ·have hkk:k=s.phases.length:=by omega
    subst hkk;have hr0:alwK s s.phases.length=zOa s l 0:=rfl;rw[hr0]at *;simp(disch:=omega)[go_sem];refine zAe mixed (fun k:Nat=>siS s [(38,.int .i64 k),(37,.int .i64 l.length),(36,.sl 5 (l.map zCp)),(4,.int .u32 (zOa s l k)),(2,.ptr 0 1 0 0)] [] 2048 56 tabG) (fun k=>k≤l.length) (fun k=>l.length-k) 0 ?_ ?_ ?_
    ·omega
    ·refine Le.mk [(0,some 0)] [0] ⟨rfl,rfl,rfl⟩ ?_ ?_ ?_<;>simp[go_sem,siS,sitV]
    ·intro k hk;have e1:zOa s l (k+1)=if((kAt l k).up||(kAt l k).bad)=true then zHd (zOa s l k) (eAt s k).phase else zOa s l k:=rfl
     have hal:=zYe s l k;simp(disch:=omega)[go_sem,siS,sitV];refine zAc (fun h=>?_) (fun h=>?_)<;>simp at h
     ·have hke:k<s.eyes.length:=by omega
      have hn:=nthK h;have hm:=nthE hke;have q2:=yKw (kAt l k);simp only[zCp]at q2;simp(disch:=omega)[go_sem,hn,h,zCp];generalize ((kAt l k).up||(kAt l k).bad)=wa at *
      refine zAj q2 [] (by simp[go_sem]) (fun h5=>?_) (fun h5=>?_)<;>try simp[inN]at h5
      ·rw[h5,if_pos rfl]at e1;obtain⟨p0,p1⟩:=xWt hs hke;obtain⟨ph,hph⟩:=Int.eq_ofNat_of_zero_le p0;have hsh:=zPu (show ph<32 by omega)
       have hb:=zFy (ph:Int);rw[hph]at e1;simp(disch:=omega)[go_sem,hm,hke,eyeV,hph,hsh];refine zAb (k+1) (by omega) (by omega) (Le.mk [(0,some 0)] [0] ⟨rfl,rfl,rfl⟩ ?_ ?_ ?_)<;>simp[go_sem,e1,zHd]
      ·rw[h5,if_neg (by decide)]at e1
       simp(disch:=omega)[go_sem];refine zAb (k+1) (by omega) (by omega) (Le.mk [(0,some 0)] [0] ⟨rfl,rfl,rfl⟩ ?_ ?_ ?_)<;>simp[go_sem,e1]
     ·have hkk:k=l.length:=by omega
      subst hkk;simp(disch:=omega)[go_sem,hR]
end
section
def yCv(s:Sit)(c:Nat)(p:Int):Int:=if c / 2 ^ s.phases.length≠0 then 8 else if p< -1∨(s.phases.length:Int)≤p then 2 else 0
theorem yZc(s:Sit)(c:Nat)(p:Int)(hn:s.phases.length≤8):FnD Tryz.prog 154 [sitV s,.int .u32 c,.int .i64 p] (.int .i64 (yCv s c p)):=by
 have hE:yCv s c p=if c / 2 ^ s.phases.length≠0 then 8 else if p< -1∨(s.phases.length:Int)≤p then 2 else 0:=rfl
 generalize yCv s c p=r at *
 generalize hq:c / 2 ^ s.phases.length=q at *
 unfold sitV
 refine zAd mixed Tryz.func154 rfl rfl (by simp[Tryz.ntmps154]) fun hwf E=>?_
 simp(disch:=omega)[go_sem]at hwf
 simp(disch:=omega)[Tryz.ntmps154,go_sem]
 try simp(disch:=omega)[go_sem,zGd,hq]
 refine zAc (fun h1=>?_) (fun h1=>?_)<;>simp at h1
 ·rw[if_pos (by omega)]at hE
  simp(disch:=omega)[go_sem,hE]
 ·rw[if_neg (by omega)]at hE
  by_cases h2:p< -1∨(s.phases.length:Int)≤p
  ·rw[if_pos h2]at hE;repeat' first
    |(refine zAc (fun hb=>?_) (fun hb=>?_)<;>simp at hb)
    |(refine zBj (fun hb=>?_) (fun hb=>?_)<;>(try simp only[hb])<;>(try simp at hb)<;>try simp(disch:=omega)[go_sem,hb,hE])
    |refine⟨.inl (by kernel_rfl),?_⟩
    |simp(disch:=omega)[go_sem,hE]
   all_goals first|omega|(simp_all [];done)|(simp_all [];omega)|((repeat' split)<;>first|omega|(simp_all [];done)|(simp_all [];omega))|skip
  ·rw[if_neg h2]at hE;repeat' first
    |(refine zAc (fun hb=>?_) (fun hb=>?_)<;>simp at hb)
    |(refine zBj (fun hb=>?_) (fun hb=>?_)<;>(try simp only[hb])<;>(try simp at hb)<;>try simp(disch:=omega)[go_sem,hb,hE])
    |refine⟨.inl (by kernel_rfl),?_⟩
    |simp(disch:=omega)[go_sem,hE]
   all_goals first|omega|(simp_all [];done)|(simp_all [];omega)|((repeat' split)<;>first|omega|(simp_all [];done)|(simp_all [];omega))|skip
noncomputable def zJb(s:Sit)(c:Nat)(l:List zCx)(g:Int):Nat × Int:=
 if zFm s l≠0 then(0,zFm s l)else if yCv s c g≠0 then(0,yCv s c g)else(zEa (c ||| zOa s l l.length) g,0)
set_option maxHeartbeats 1000000 in
theorem zXe(s:Sit)(c:Nat)(l:List zCx)(g:Int)(hc:c<4294967296):FnD Tryz.prog 94 [sitV s,.int .u32 c,.sl 5 (l.map zCp),.int .i64 g] (.tup [.int .u32 ((zJb s c l g).1:Nat),.int .i64 (zJb s c l g).2]) tabG:=by
 have qr:=yRh s l
 have hok:=zSg (s:=s) (l:=l)
 have hR:yMh s l=if zFm s l≠0 then(0,zFm s l)else(zOa s l l.length,0):=rfl
 have hN:zJb s c l g=if zFm s l≠0 then(0,zFm s l)else if yCv s c g≠0 then(0,yCv s c g)else(zEa (c ||| zOa s l l.length) g,0):=rfl
 have hrk:=zYe s l l.length
 have qa:=fun h=>yZc s c g h
 generalize zJb s c l g=r at *
 generalize yCv s c g=e2 at *
 generalize zOa s l l.length=k at *
 have hor:=xDi hc hrk
 have qw:=zKe (c ||| k) g hor
 generalize zFm s l=e at *
 generalize yMh s l=rv at *
 unfold sitV at *
 by_cases he:e=0
 ·subst he;obtain⟨hs,_,_⟩:=hok rfl;rw[if_neg (by simp)]at hR hN
  subst hR;have q2:=qa hs.shaped.2.2.2.1.2;refine zAd mixed Tryz.func94 rfl rfl (by simp[Tryz.ntmps94]) fun hwf E=>?_
  clear hwf;simp(disch:=omega)[Tryz.ntmps94,go_sem];refine zAa qr [] (by simp[go_sem]) (.inl rfl) (by simp[go_sem]) (fun _=>?_) (by simp[tabG,go_sem])
  simp(disch:=omega)[go_sem];refine zAa q2 [] (by simp[go_sem]) (.inl rfl) (by simp[go_sem]) (fun _=>?_)
  simp(disch:=omega)[go_sem];refine zAc (fun h2=>?_) (fun h2=>?_)<;>simp at h2
  ·rw[if_pos h2]at hN;simp(disch:=omega)[go_sem,hN]
  ·rw[if_neg (by omega)]at hN
   simp(disch:=omega)[go_sem];refine zAa qw [] (by simp[go_sem]) (.inl rfl) (by simp[go_sem]) (fun _=>?_)
   simp(disch:=omega)[go_sem];simp(disch:=omega)[go_sem,hN]
 ·rw[if_pos he]at hR hN;subst hR;refine zAd mixed Tryz.func94 rfl rfl (by simp[Tryz.ntmps94]) fun hwf E=>?_
  clear hwf;simp(disch:=omega)[Tryz.ntmps94,go_sem];refine zAa qr [] (by simp[go_sem]) (.inl rfl) (by simp[go_sem]) (fun _=>?_) (by simp[tabG,go_sem])
  simp(disch:=omega)[go_sem];refine zAc (fun h2=>?_) (fun h2=>?_)<;>simp at h2
  ·simp(disch:=omega)[go_sem,hN]
  ·exact absurd h2 he
end
section
def xAj(x y:Int):Int:=IntKind.u64.wrap ((BitVec.ofInt 64 x &&& BitVec.ofInt 64 y).toNat)
theorem zXj(x y:Int):zDk .and .u64 x y=some (.int .u64 (xAj x y)):=rfl
def xXf(x y:Int):Int:=IntKind.i64.wrap ((BitVec.ofInt 64 x &&& BitVec.ofInt 64 y).toNat)
theorem yHg(x y:Int):zDk .and .i64 x y=some (.int .i64 (xXf x y)):=rfl
theorem yBi(x:Int):∃r:Int,FnD Tryz.prog 199 [.int .u64 x] (.int .i64 r):=by
 refine⟨?_,?_⟩
 rotate_left
 ·refine zAd mixed Tryz.func199 rfl rfl (by simp[Tryz.ntmps199]) fun hwf E=>?_
  clear hwf;simp(disch:=omega)[Tryz.ntmps199,go_sem];simp(disch:=omega)[go_sem,zXj,yHg];rfl
noncomputable def xDa(x:Int):Int:=Classical.choose (yBi x)
theorem yFt(x:Int):FnD Tryz.prog 199 [.int .u64 x] (.int .i64 (xDa x)):=Classical.choose_spec (yBi x)
def stT(x:zCx)(up:Bool):Int:=if up=x.up then IntKind.u64.wrap (x.turns*2)else or1 (IntKind.u64.wrap (x.turns*2))
def stS(x:zCx)(up:Bool):Int:=addO (if up=x.up then x.same else 0) 1048576
noncomputable def zIk(s:Sit)(i:Nat)(x:zCx)(up:Bool):zCx:=
 if(if up=true then(eAt s i).on else(eAt s i).off)≤stS x up∨(eAt s i).turns<xDa (stT x up)then⟨up,stS x up,stT x up,true,0⟩
 else if x.bad=true then(if s.heal≤x.well+1 then⟨up,stS x up,stT x up,false,0⟩else⟨up,stS x up,stT x up,true,x.well+1⟩)
 else⟨up,stS x up,stT x up,false,x.well⟩
theorem yIz(u:Bool)(a t:Int)(b:Bool)(w:Int):zCp ⟨u,a,t,b,w⟩= .agg [.bool u,.int .i64 a,.int .u64 t,.bool b,.int .i64 w]:=rfl
set_option maxHeartbeats 8000000 in
theorem yQg(s:Sit)(i:Nat)(x:zCx)(up:Bool)(hi:i<s.eyes.length)(hx:yDt x):FnD Tryz.prog 152 [sitV s,.int .i64 i,zCp x,.bool up] (zCp (zIk s i x up)):=by
 obtain⟨xu,xs,xt,xb,xw⟩:=x
 obtain⟨k1,k2,k3,k4,_⟩:=hx
 simp only at k1 k2 k3 k4
 have hw:=zNs (xt*2)
 have hm:=nthE hi
 have hg:∀h',s.eyes[i]'h'=eAt s i:=fun h'=>(yYm h').symm
 have hT:stT ⟨xu,xs,xt,xb,xw⟩ up=if up=xu then IntKind.u64.wrap (xt*2)else or1 (IntKind.u64.wrap (xt*2)):=rfl
 have hS:stS ⟨xu,xs,xt,xb,xw⟩ up=addO (if up=xu then xs else 0) 1048576:=rfl
 have qp:=yFt (stT ⟨xu,xs,xt,xb,xw⟩ up)
 have hR:zIk s i ⟨xu,xs,xt,xb,xw⟩ up=if(if up=true then(eAt s i).on else(eAt s i).off)≤stS ⟨xu,xs,xt,xb,xw⟩ up∨(eAt s i).turns<xDa (stT ⟨xu,xs,xt,xb,xw⟩ up)then⟨up,stS ⟨xu,xs,xt,xb,xw⟩ up,stT ⟨xu,xs,xt,xb,xw⟩ up,true,0⟩
  else if xb=true then(if s.heal≤xw+1 then⟨up,stS ⟨xu,xs,xt,xb,xw⟩ up,stT ⟨xu,xs,xt,xb,xw⟩ up,false,0⟩else⟨up,stS ⟨xu,xs,xt,xb,xw⟩ up,stT ⟨xu,xs,xt,xb,xw⟩ up,true,xw+1⟩)
  else⟨up,stS ⟨xu,xs,xt,xb,xw⟩ up,stT ⟨xu,xs,xt,xb,xw⟩ up,false,xw⟩:=rfl
 generalize zIk s i ⟨xu,xs,xt,xb,xw⟩ up=r at *
 have hsb:0≤stS ⟨xu,xs,xt,xb,xw⟩ up∧stS ⟨xu,xs,xt,xb,xw⟩ up≤1048576:=by
  rw[hS];unfold addO;(repeat' split)<;>omega
 generalize xDa (stT ⟨xu,xs,xt,xb,xw⟩ up)=pp at *
 generalize eAt s i=e at *
 obtain⟨e1,e2,e3,e4⟩:=e
 simp only at hR
 rw[eyeV]at hm
 rw[yIz]
 simp only at hm
 cases up<;>cases xu
 all_goals
  simp only[if_true,if_false,Bool.false_eq_true,Bool.true_eq_false]at hT hS hR;rw[hT]at qp hR;generalize stS ⟨_,xs,xt,xb,xw⟩ _=q at *;clear hT
 all_goals
  unfold addO at hS;have hS2:=hS.symm;clear hS;unfold sitV
 all_goals try (have hq1:q=1:=by rw[← hS2];decide
                clear hS2;subst hq1;have hS2:True:=trivial)
 all_goals
  cases xb
  all_goals
   simp only[if_true,if_false,Bool.false_eq_true]at hR;repeat' split at hR
   all_goals
    subst hR;rw[yIz];refine zAd mixed Tryz.func152 rfl rfl (by simp[Tryz.ntmps152]) fun hwf E=>?_
    clear hwf;simp(disch:=omega)[Tryz.ntmps152,go_sem];repeat' first
     |(refine zAc (fun hb=>?_) (fun hb=>?_)<;>simp at hb)
     |(refine zBj (fun hb=>?_) (fun hb=>?_)<;>(try simp only[hb])<;>(try simp at hb)<;>try simp(disch:=omega)[go_sem,hb,hm,hg,hi,eyeV,yRz,hS2])
     |(refine zAa qp [] ?_ ?_ ?_ (fun _=>?_) (by simp[go_sem]);(focus (simp[go_sem];done));(focus (exact .inl rfl));(focus (simp[go_sem];done)))
     |refine⟨.inl (by kernel_rfl),?_⟩
     |simp(disch:=omega)[go_sem,hm,hg,hi,eyeV,yRz,hS2]
    all_goals first|omega|skip
end
section
def lk0:zCx:=⟨false,0,0,false,0⟩
noncomputable def eyK(s:Sit)(l:List zCx)(u:Nat)(k:Nat):List zCx:=(List.range l.length).map fun i=>if i<k then zIk s i (kAt l i) (hasN u i)else lk0
theorem yYg(s:Sit)(l:List zCx)(u k:Nat):(eyK s l u k).length=l.length:=by simp[eyK]
theorem xKe(s:Sit)(l:List zCx)(u:Nat):(eyK s l u 0).map zCp=List.replicate l.length (V.agg [.bool false,.int .i64 0,.int .u64 0,.bool false,.int .i64 0]):=by
 simp[eyK,List.map_const',lk0,zCp]
theorem xWu{s:Sit}{l:List zCx}{u k:Nat}(h:k<l.length):kAt (eyK s l u k) k=lk0:=by simp[eyK,kAt,h]
theorem xSj{s:Sit}{l:List zCx}{u k:Nat}(h:k<l.length):((eyK s l u k).map zCp).set k (zCp (zIk s k (kAt l k) (hasN u k)))=(eyK s l u (k+1)).map zCp:=by
 apply List.ext_getElem (by simp[eyK])
 intro i h1 h2
 simp only[eyK,List.getElem_set,List.getElem_map,List.getElem_range]
 by_cases e:k=i
 ·subst e;simp
 ·rw[if_neg e];by_cases e2:i<k
  ·rw[if_pos e2,if_pos (by omega)]
  ·rw[if_neg e2,if_neg (by omega)]
noncomputable def eyL(s:Sit)(l:List zCx)(u:Nat):List zCx:=if zFm s l≠0 then[]else eyK s l u l.length
set_option maxHeartbeats 4000000 in
theorem yYl(s:Sit)(l:List zCx)(u:Nat)(hu:u<4294967296):FnD Tryz.prog 93 [sitV s,.sl 5 (l.map zCp),.int .u32 u] (.tup [.sl 5 ((eyL s l u).map zCp),.int .i64 (zFm s l)]) tabG:=by
 have hsv:=zAr s
 have qc:=yCn s l
 have hok:=zSg (s:=s) (l:=l)
 have hL:eyL s l u=if zFm s l≠0 then[]else eyK s l u l.length:=rfl
 have qst:=fun i hi hx=>yQg s i (kAt l i) (hasN u i) hi hx
 generalize eyL s l u=r at *
 generalize zFm s l=c at *
 rw[hsv]at qc qst ⊢
 refine zAd mixed Tryz.func93 rfl rfl (by simp[Tryz.ntmps93]) fun hwf E=>?_
 clear hwf
 simp(disch:=omega)[Tryz.ntmps93,go_sem]
 refine zAa qc [] (by simp[go_sem]) (.inl rfl) (by simp[go_sem]) (fun _=>?_) (by simp[tabG,go_sem])
 simp(disch:=omega)[go_sem]
 refine zAc (fun h1=>?_) (fun h1=>?_)<;>simp at h1
 ·rw[if_pos h1]at hL;subst hL;simp(disch:=omega)[go_sem]
 ·rw[if_neg (by omega)]at hL
  obtain⟨hs,hl,hlk⟩:=hok h1;have h24:s.eyes.length≤24:=hs.shaped.2.2.2.2.1;simp(disch:=omega)[go_sem];refine⟨⟨by omega,by omega⟩,?_⟩
  rw[← xKe s l u];refine zAe mixed (fun k:Nat=>siS s [(23,.int .i64 k),(22,.int .i64 l.length),(21,.sl 5 (l.map zCp)),(9,.obj 176 l.length),(3,.ptr 0 1 0 0),(2,.int .u32 u)] [(176,⟨.arr,240,5,(eyK s l u k).map zCp⟩)] 1024 40 tabG) (fun k=>k≤l.length) (fun k=>l.length-k) 0 ?_ ?_ ?_
  ·omega
  ·refine Le.mk [(0,some 0),(176,some 176)] [0,176] ⟨rfl,rfl,rfl⟩ ?_ ?_ ?_<;>simp[go_sem,siS,sitV]
  ·intro k hk;have e1:=yYg s l u k;simp(disch:=omega)[go_sem,siS,sitV];refine zAc (fun h=>?_) (fun h=>?_)<;>simp at h
   ·have hke:k<s.eyes.length:=by omega
    have hn:=nthK h;have en:=nthK (l:=eyK s l u k) (k:=k) (by rw[e1];exact h)
    rw[xWu h]at en;have e2:=xSj (s:=s) (u:=u) h;have e3:=yYg s l u (k+1);have q1:=zYz u k hu;have q2:=qst k hke (hlk k h);have hg:∀h',kAt l k=l[k]'h':=fun h'=>xMc h'
    rw[zCp]at hn;have hlv:zCp (kAt l k)= .agg [.bool (kAt l k).up,.int .i64 (kAt l k).same,.int .u64 (kAt l k).turns,.bool (kAt l k).bad,.int .i64 (kAt l k).well]:=rfl;rw[hlv]at q2;have hrv:zCp (zIk s k (kAt l k) (hasN u k))= .agg [.bool (zIk s k (kAt l k) (hasN u k)).up,.int .i64 (zIk s k (kAt l k) (hasN u k)).same,.int .u64 (zIk s k (kAt l k) (hasN u k)).turns,.bool (zIk s k (kAt l k) (hasN u k)).bad,.int .i64 (zIk s k (kAt l k) (hasN u k)).well]:=rfl;rw[hrv]at q2 e2;generalize zIk s k (kAt l k) (hasN u k)=w at *;simp(disch:=omega)[go_sem,hn,h];refine zAa q1 [] (by simp[go_sem]) (.inl rfl) (by simp[go_sem]) (fun _=>?_)
    simp(disch:=omega)[go_sem];refine zAa q2 [] (by simp[go_sem]) (.inl rfl) (by simp[go_sem]) (fun _=>?_)
    simp(disch:=omega)[go_sem];simp(disch:=omega)[go_sem,e1,h,zCp];refine⟨.inl (by kernel_rfl),?_⟩
    rw[e2];refine zAb (k+1) (by omega) (by omega) (Le.mk [(0,some 0),(176,some 176)] [0,176] ⟨rfl,rfl,rfl⟩ ?_ ?_ ?_)<;>simp[go_sem]
   ·have hkk:k=l.length:=by omega
    subst hkk;rw[← hL]at *;simp(disch:=omega)[go_sem];exact⟨⟨e1.symm,zAt (by simp[go_sem])⟩,h1.symm⟩
end
section
def yKx(s:Sit)(p g:Nat):Bool:=(pAt s p).set.testBit g
theorem xAz{s:Sit}(h:wfs (s.phases.map phaV))(a:Nat)(ha:a<s.phases.length):(pAt s a).set<4294967296:=by
 have:=zSj (f:=phaV) h s.phases[a] (List.getElem_mem ha)
 rw[yIp ha]
 simp[go_sem,phaV]at this
 omega
theorem zSl(s:Sit)(p g:Nat)(hp:p<s.phases.length)(hg:g<32):FnD Tryz.prog 76 [sitV s,.int .i64 p,.int .i64 g] (.bool (yKx s p g)):=by
 unfold sitV
 refine zAd mixed Tryz.func76 rfl rfl (by simp[Tryz.ntmps76]) fun hwf E=>?_
 simp(disch:=omega)[go_sem]at hwf
 simp(disch:=omega)[Tryz.ntmps76,go_sem]
 have hlt:=xAz hwf.1.2.2.2.2.1.2 p hp
 obtain⟨m,hb2,hr⟩:=zMb (b:=g) hlt
 have hg2:∀h',s.phases[p]'h'=pAt s p:=fun h'=>(yIp h').symm
 simp(disch:=omega)[go_sem,hp,hg2,phaV,zGd,hb2]
 rw[Bool.eq_iff_iff,beq_iff_eq]
 unfold yKx
 rw[← hr]
 omega
def tfQ(s:Sit)(g:List Seen)(p i:Nat):Bool:=yKx s p i&&(sAt g i).aspect != 2
def zZd(s:Sit)(g:List Seen)(p:Nat):Bool:= !anyR g.length (tfQ s g p)
set_option maxHeartbeats 2000000 in
theorem yLk(s:Sit)(g:List Seen)(st:Int)(fl:Bool)(p:Nat)(hp:p<s.phases.length)(hg:g.length≤16):FnD Tryz.prog 36 [sitV s,safV ⟨g,st,fl⟩,.int .i64 p] (.bool (zZd s g p)):=by
 have hsv:=zAr s
 have qw:=fun i hi=>zSl s p i hp hi
 have hF:zZd s g p= !anyR g.length (tfQ s g p):=rfl
 generalize zZd s g p=r at *
 rw[hsv]at qw ⊢
 unfold safV
 simp only
 refine zAd mixed Tryz.func36 rfl rfl (by simp[Tryz.ntmps36]) fun hwf E=>?_
 clear hwf
 simp(disch:=omega)[Tryz.ntmps36,go_sem]
 refine zAe mixed (fun k:Nat=>siS s [(12,.int .i64 k),(11,.int .i64 g.length),(10,.sl 3 (g.map zBb)),(3,.ptr 0 1 0 0),(2,.int .i64 p)] [] 1024 27) (fun k=>k≤g.length∧∀i,i<k→tfQ s g p i=false) (fun k=>g.length-k) 0 ?_ ?_ ?_
 ·exact⟨by omega,fun i hi=>absurd hi (Nat.not_lt_zero i)⟩
 ·refine Le.mk [(0,some 0)] [0] ⟨rfl,rfl,rfl⟩ ?_ ?_ ?_<;>simp[go_sem,siS,sitV]
 ·rintro k ⟨hk,hno⟩
  simp(disch:=omega)[go_sem,siS,sitV];refine zAc (fun h=>?_) (fun h=>?_)<;>simp at h
  ·have hn:=nthS h;have hQ:tfQ s g p k=(yKx s p k&&(sAt g k).aspect != 2):=rfl;simp(disch:=omega)[go_sem,hn,h,zBb];refine zAj (qw k (by omega)) [] (by simp[go_sem]) (fun h5=>?_) (fun h5=>?_)<;>try simp[inN]at h5
   ·simp(disch:=omega)[go_sem];rw[h5,Bool.true_and]at hQ;refine zAc (fun h6=>?_) (fun h6=>?_)<;>simp at h6
    ·rw[zFn h (by rw[hQ];simpa using h6)]at hF
     simp(disch:=omega)[go_sem,hF]
    ·have hno2:=zKh hno (by rw[hQ];simpa using h6:tfQ s g p k=false)
     simp(disch:=omega)[go_sem];refine zAb (k+1) (⟨by omega,hno2⟩) (by omega) (Le.mk [(0,some 0)] [0] ⟨rfl,rfl,rfl⟩ ?_ ?_ ?_)<;>simp[go_sem]
   ·rw[h5,Bool.false_and]at hQ;have hno2:=zKh hno hQ;simp(disch:=omega)[go_sem];refine zAb (k+1) (⟨by omega,hno2⟩) (by omega) (Le.mk [(0,some 0)] [0] ⟨rfl,rfl,rfl⟩ ?_ ?_ ?_)<;>simp[go_sem]
  ·have hkk:k=g.length:=by omega
   subst hkk;rw[zHu hno]at hF;simp(disch:=omega)[go_sem,hF]
def zIq(e c:Int)(n:Nat)(p:Int):Int:=if c≠0 then c else if e≠0 then e else if p<0∨(n:Int)≤p then 2 else 0
theorem zSo(s:Sit)(p:Int)(f:FuncId)(fst caps:List V)(e:Int)(hpf:zBa fst)(hpc:zBa caps)(hf:FnD Tryz.prog f (fst++caps) (.int .i64 e)):FnD Tryz.prog 34 [sitV s,.int .i64 p,.func (.func f) fst caps] (.int .i64 (zIq e (zAl s) s.phases.length p)) tabG:=by
 have qc:=zCc s
 have hT:zIq e (zAl s) s.phases.length p=if zAl s≠0 then zAl s else if e≠0 then e else if p<0∨(s.phases.length:Int)≤p then 2 else 0:=rfl
 generalize zIq e (zAl s) s.phases.length p=r at *
 generalize zAl s=c at *
 unfold sitV at *
 refine zAd mixed Tryz.func34 rfl rfl (by simp[Tryz.ntmps34]) fun hwf E=>?_
 simp(disch:=omega)[go_sem]at hwf
 simp(disch:=omega)[Tryz.ntmps34,go_sem]
 refine zAa qc [] (by simp[go_sem]) (.inl rfl) (by simp[go_sem]) (fun _=>?_) (by simp[tabG,go_sem])
 simp(disch:=omega)[go_sem]
 refine zAc (fun h1=>?_) (fun h1=>?_)<;>simp at h1
 ·rw[if_pos h1]at hT;simp(disch:=omega)[go_sem,hT]
 ·rw[if_neg (by omega)]at hT
  simp(disch:=omega)[go_sem];have ha:∀(hp:Nat→Option AM.Obj),all2 (zAx hp (fun _=>False) V.pure 8) (fst++caps) (fst++caps):=fun hp=>by
   have:=zAt (hp:=hp) (B:=fun _=>False) (n:=8) (xs:=fst++caps) (by simp[zCs,hpf,hpc])
   exact this
  refine zAa hf [] (by simp[go_sem,ha]) (.inl rfl) (by simp[go_sem]) (fun _=>?_)
  simp(disch:=omega)[go_sem];refine zAc (fun h2=>?_) (fun h2=>?_)<;>simp at h2
  ·rw[if_pos h2]at hT;simp(disch:=omega)[go_sem,hT]
  ·rw[if_neg (by omega)]at hT
   by_cases h3:p<0∨(s.phases.length:Int)≤p
   ·rw[if_pos h3]at hT;repeat' first
     |(refine zAc (fun hb=>?_) (fun hb=>?_)<;>simp at hb)
     |(refine zBj (fun hb=>?_) (fun hb=>?_)<;>(try simp only[hb])<;>(try simp at hb)<;>try simp(disch:=omega)[go_sem,hb,hT])
     |refine⟨.inl (by kernel_rfl),?_⟩
     |simp(disch:=omega)[go_sem,hT]
    all_goals first|omega|(simp_all [];done)|(simp_all [];omega)|((repeat' split)<;>first|omega|(simp_all [];done)|(simp_all [];omega))|skip
   ·rw[if_neg h3]at hT;repeat' first
     |(refine zAc (fun hb=>?_) (fun hb=>?_)<;>simp at hb)
     |(refine zBj (fun hb=>?_) (fun hb=>?_)<;>(try simp only[hb])<;>(try simp at hb)<;>try simp(disch:=omega)[go_sem,hb,hT])
     |refine⟨.inl (by kernel_rfl),?_⟩
     |simp(disch:=omega)[go_sem,hT]
    all_goals first|omega|(simp_all [];done)|(simp_all [];omega)|((repeat' split)<;>first|omega|(simp_all [];done)|(simp_all [];omega))|skip
def tkA(s:Sit)(p i:Nat):Int:=if yKx s p i=true then 2 else 1
def tkK(s:Sit)(p k:Nat):List Int:=(List.range s.groups.length).map fun i=>if i<k then tkA s p i else 0
theorem yEf(s:Sit)(p k:Nat):(tkK s p k).length=s.groups.length:=by simp[tkK]
theorem xBs(s:Sit)(p:Nat):lts (tkK s p 0)=List.replicate s.groups.length (.int .u8 0):=by simp[lts,tkK,List.map_const']
theorem xNs{s:Sit}{p k:Nat}(h:k<s.groups.length):(lts (tkK s p k)).set k (.int .u8 (tkA s p k))=lts (tkK s p (k+1)):=by
 apply List.ext_getElem (by simp[lts,tkK])
 intro i h1 h2
 simp only[lts,tkK,List.getElem_set,List.getElem_map,List.getElem_range]
 by_cases e:k=i
 ·subst e;simp
 ·rw[if_neg e];by_cases e2:i<k
  ·rw[if_pos e2,if_pos (by omega)]
  ·rw[if_neg e2,if_neg (by omega)]
def yZw(s:Sit)(p:Nat):List Int:=tkK s p s.groups.length
set_option maxHeartbeats 2000000 in
theorem yLl(s:Sit)(p:Nat)(hp:p<s.phases.length)(h16:s.groups.length≤16):FnD Tryz.prog 166 [sitV s,.int .i64 p] (.sl 1 (lts (yZw s p))):=by
 have hsv:=zAr s
 have qw:=fun i hi=>zSl s p i hp hi
 have hA:yZw s p=tkK s p s.groups.length:=rfl
 generalize yZw s p=r at *
 rw[hsv]at qw ⊢
 refine zAd mixed Tryz.func166 rfl rfl (by simp[Tryz.ntmps166]) fun hwf E=>?_
 clear hwf
 simp(disch:=omega)[Tryz.ntmps166,go_sem]
 refine⟨by omega,?_⟩
 rw[← xBs s p]
 refine zAe mixed (fun k:Nat=>siS s [(13,.int .i64 k),(12,.int .i64 s.groups.length),(5,.obj 80 s.groups.length),(2,.ptr 0 1 0 0),(1,.int .i64 p)] [(80,⟨.arr,5,1,lts (tkK s p k)⟩)] 1024 28) (fun k=>k≤s.groups.length) (fun k=>s.groups.length-k) 0 ?_ ?_ ?_
 ·omega
 ·refine Le.mk [(0,some 0),(80,some 80)] [0,80] ⟨rfl,rfl,rfl⟩ ?_ ?_ ?_<;>simp[go_sem,siS,sitV]
 ·intro k hk;have e1:=yEf s p k;simp(disch:=omega)[go_sem,siS,sitV];refine zAc (fun h=>?_) (fun h=>?_)<;>simp at h
  ·have e2:=xNs (s:=s) (p:=p) h;have e3:=yEf s p (k+1);have en:=nthL (l:=tkK s p k) (k:=k) (by rw[e1];exact h)
   have hkA:tkA s p k=if yKx s p k=true then 2 else 1:=rfl
   have es:nth ((lts (tkK s p k)).set k (.int .u8 1)) k= .int .u8 1:=by
    rw[xOv,if_pos ⟨rfl,by rw[zMx,e1];exact h⟩]
   simp(disch:=omega)[go_sem,e1,h,en];refine zAj (qw k (by omega)) [] (by simp[go_sem]) (fun h5=>?_) (fun h5=>?_)<;>try simp[inN]at h5
   ·rw[h5,if_pos rfl]at hkA;rw[hkA]at e2;simp(disch:=omega)[go_sem,e1,h,es];refine zAb (k+1) (by omega) (by omega) (Le.mk [(0,some 0),(80,some 80)] [0,80] ⟨rfl,rfl,rfl⟩ ?_ ?_ ?_)<;>simp[go_sem,e2]
   ·rw[h5,if_neg (by decide)]at hkA
    rw[hkA]at e2;simp(disch:=omega)[go_sem];refine zAb (k+1) (by omega) (by omega) (Le.mk [(0,some 0),(80,some 80)] [0,80] ⟨rfl,rfl,rfl⟩ ?_ ?_ ?_)<;>simp[go_sem,e2]
  ·have hkk:k=s.groups.length:=by omega
   rw[hkk]at e1 ⊢;rw[← hA]at *;simp(disch:=omega)[go_sem];exact⟨e1.symm,zAt (by simp[go_sem])⟩
theorem yEk:FnD Tryz.prog 165 [] (.int .i64 0):=by
 refine zAd mixed Tryz.func165 rfl rfl (by simp[Tryz.ntmps165]) fun hwf E=>?_
 clear hwf
 simp(disch:=omega)[Tryz.ntmps165,go_sem]
def tE(s:Sit)(c p:Int):Int:=zIq 0 c s.phases.length p
noncomputable def zLj(s:Sit)(p:Int):List Int:=if tE s (zAl s) p=0 then yZw s p.toNat else[]
theorem tE_ok{s:Sit}{p:Int}(h:tE s (zAl s) p=0):zAk s∧0≤p∧p<s.phases.length:=by
 unfold tE zIq at h
 by_cases hs:zAk s
 ·have e:zAl s=0:=by unfold zAl;rw[if_pos hs]
  rw[e]at h;refine⟨hs,?_⟩;by_cases hp:p<0∨(s.phases.length:Int)≤p
  ·rw[if_neg (by simp),if_neg (by simp),if_pos hp]at h;exact absurd h (by decide)
  ·omega
 ·have e:zAl s=50:=by unfold zAl;rw[if_neg hs]
  rw[e,if_pos (by decide)]at h
  exact absurd h (by decide)
theorem zVu(s:Sit)(p:Int):FnD Tryz.prog 104 [sitV s,.int .i64 p] (.tup [.sl 1 (lts (zLj s p)),.int .i64 (tE s (zAl s) p)]) tabG:=by
 have q1:=zSo s p 165 [] [] 0 (by simp[go_sem]) (by simp[go_sem]) yEk
 have hok:=tE_ok (s:=s) (p:=p)
 have hT:zIq 0 (zAl s) s.phases.length p=tE s (zAl s) p:=rfl
 rw[hT]at q1
 have hL:zLj s p=if tE s (zAl s) p=0 then yZw s p.toNat else[]:=rfl
 generalize zLj s p=r at *
 generalize tE s (zAl s) p=e at *
 by_cases he:e=0
 ·subst he;obtain⟨hs,h0,h1⟩:=hok rfl;obtain⟨n,rfl⟩:=Int.eq_ofNat_of_zero_le h0;have q2:=yLl s n (by omega) (zJx hs).g16
  rw[if_pos rfl]at hL;simp only[Int.toNat_natCast]at hL;subst hL;unfold sitV at *;refine zAd mixed Tryz.func104 rfl rfl (by simp[Tryz.ntmps104]) fun hwf E=>?_
  clear hwf;simp(disch:=omega)[Tryz.ntmps104,go_sem];refine zAa q1 [] (by simp[go_sem]) (.inl rfl) (by simp[go_sem]) (fun _=>?_) (by simp[tabG,go_sem])
  simp(disch:=omega)[go_sem];refine zAa q2 [] (by simp[go_sem]) (.inl rfl) (by simp[go_sem]) (fun _=>?_)
  simp(disch:=omega)[go_sem]
 ·rw[if_neg he]at hL;subst hL;unfold sitV at *;refine zAd mixed Tryz.func104 rfl rfl (by simp[Tryz.ntmps104]) fun hwf E=>?_
  clear hwf;simp(disch:=omega)[Tryz.ntmps104,go_sem];refine zAa q1 [] (by simp[go_sem]) (.inl rfl) (by simp[go_sem]) (fun _=>?_) (by simp[tabG,go_sem])
  simp(disch:=omega)[go_sem];refine zAc (fun h2=>?_) (fun h2=>?_)<;>simp at h2
  ·simp(disch:=omega)[go_sem,lts]
  ·exact absurd h2 he
def zZe(s:Sit)(c:Int)(w:SafN)(p:Int):Int:=zIq (if w.groups.length≠s.groups.length then 8 else 0) c s.phases.length p
theorem yEj(s:Sit)(w:SafN):FnD Tryz.prog 35 [.tptr 3 [safV w] 0 0,.tptr 12 [sitV s] 0 0] (.int .i64 (if w.groups.length≠s.groups.length then 8 else 0)):=by
 obtain⟨g,st,fl⟩:=w
 unfold safV sitV
 simp only
 by_cases h:g.length=s.groups.length
 ·rw[if_neg (by omega)]
  refine zAd mixed Tryz.func35 rfl rfl (by simp[Tryz.ntmps35]) fun hwf E=>?_
  clear hwf;simp(disch:=omega)[Tryz.ntmps35,go_sem];refine zAc (fun h1=>?_) (fun h1=>?_)<;>simp at h1
  ·exact absurd h (by omega)
  ·simp(disch:=omega)[go_sem]
 ·rw[if_pos h];refine zAd mixed Tryz.func35 rfl rfl (by simp[Tryz.ntmps35]) fun hwf E=>?_
  clear hwf;simp(disch:=omega)[Tryz.ntmps35,go_sem];refine zAc (fun h1=>?_) (fun h1=>?_)<;>simp at h1
  ·simp(disch:=omega)[go_sem]
  ·exact absurd h (by omega)
noncomputable def zVd(s:Sit)(w:SafN)(p:Int):Bool:=zZe s (zAl s) w p == 0&&zZd s w.groups p.toNat
theorem xFt{s:Sit}{w:SafN}{p:Int}(h:zZe s (zAl s) w p=0):zAk s∧w.groups.length=s.groups.length∧0≤p∧p<s.phases.length:=by
 unfold zZe zIq at h
 by_cases hs:zAk s
 ·have e:zAl s=0:=by unfold zAl;rw[if_pos hs]
  rw[e,if_neg (by simp)]at h
  by_cases hg:w.groups.length=s.groups.length
  ·rw[if_neg (by simp[hg])]at h
   by_cases hp:p<0∨(s.phases.length:Int)≤p
   ·rw[if_pos hp]at h;exact absurd h (by decide)
   ·exact⟨hs,hg,by omega,by omega⟩
  ·rw[if_pos (by simp[hg]),if_pos hg]at h;exact absurd h (by decide)
 ·have e:zAl s=50:=by unfold zAl;rw[if_neg hs]
  rw[e,if_pos (by decide)]at h
  exact absurd h (by decide)
set_option maxHeartbeats 1000000 in
theorem zPq(s:Sit)(w:SafN)(p:Int):FnD Tryz.prog 21 [sitV s,safV w,.int .i64 p] (.tup [.bool (zVd s w p),.int .i64 (zZe s (zAl s) w p)]) tabG:=by
 have q1:=zSo s p 35 [] [.tptr 3 [safV w] 0 0,.tptr 12 [sitV s] 0 0] _ (by simp[go_sem]) (by simp[go_sem]) (yEj s w)
 have hok:=xFt (s:=s) (w:=w) (p:=p)
 have hT:zIq (if w.groups.length≠s.groups.length then 8 else 0) (zAl s) s.phases.length p=zZe s (zAl s) w p:=rfl
 rw[hT]at q1
 have hB:zVd s w p=(zZe s (zAl s) w p == 0&&zZd s w.groups p.toNat):=rfl
 generalize zVd s w p=r at *
 generalize zZe s (zAl s) w p=e at *
 have q2:=fun n hn h=>yLk s w.groups w.start w.flashed n hn h
 obtain⟨g,st,fl⟩:=w
 simp only at *
 by_cases he:e=0
 ·subst he;obtain⟨hs,hg,h0,h1⟩:=hok rfl;obtain⟨n,rfl⟩:=Int.eq_ofNat_of_zero_le h0;have h16:=(zJx hs).g16;have q3:=q2 n (by omega) (by omega)
  simp only[Int.toNat_natCast,beq_self_eq_true,Bool.true_and]at hB;subst hB;unfold safV sitV at *;simp only at *;refine zAd mixed Tryz.func21 rfl rfl (by simp[Tryz.ntmps21]) fun hwf E=>?_
  clear hwf;simp(disch:=omega)[Tryz.ntmps21,go_sem];refine zAa q1 [0,16] (by simp[go_sem]) (.inr (by simp[go_sem])) (by simp[go_sem]) (fun _=>?_) (by simp[tabG,go_sem])
  simp(disch:=omega)[go_sem];refine zAa q3 [] (by simp[go_sem]) (.inl rfl) (by simp[go_sem]) (fun _=>?_)
  simp(disch:=omega)[go_sem]
 ·have hB2:r=false:=by rw[hB];simp[he]
  subst hB2;have hef:(e == 0)=false:=by simpa using he
  unfold safV sitV at *;simp only at *;refine zAd mixed Tryz.func21 rfl rfl (by simp[Tryz.ntmps21]) fun hwf E=>?_
  clear hwf;simp(disch:=omega)[Tryz.ntmps21,go_sem];refine zAa q1 [0,16] (by simp[go_sem]) (.inr (by simp[go_sem])) (by simp[go_sem]) (fun _=>?_) (by simp[tabG,go_sem])
  simp(disch:=omega)[go_sem];try simp(disch:=omega)[go_sem,hef]
end
section
def calQ(s:Sit)(c k:Nat):Bool:=(pAt s k).always||c.testBit k
def calK(s:Sit)(c:Nat):Nat→Nat
 |0=>0
 |k+1=>if calQ s c k=true then zHd (calK s c k) k else calK s c k
theorem yZg(s:Sit)(c:Nat):∀k,calK s c k<4294967296
 |0=>by show (0:Nat)<_;decide
 |k+1=>by
  have ih:=yZg s c k;show (if _ then _ else _:Nat)<_
  split
  ·exact zJe ih _
  ·exact ih
def calN(s:Sit)(c:Nat):Nat:=calK s c s.phases.length
set_option maxHeartbeats 2000000 in
theorem yHe(s:Sit)(c:Nat)(hc:c<4294967296)(h8:s.phases.length≤8):FnD Tryz.prog 160 [sitV s,.int .u32 c] (.int .u32 (calN s c)):=by
 have hN:calN s c=calK s c s.phases.length:=rfl
 generalize calN s c=r at *
 unfold sitV
 refine zAd mixed Tryz.func160 rfl rfl (by simp[Tryz.ntmps160]) fun hwf E=>?_
 clear hwf
 simp(disch:=omega)[Tryz.ntmps160,go_sem]
 refine zAe mixed (fun k:Nat=>⟨[(11,.int .i64 k),(10,.int .i64 s.phases.length),(9,.sl 5 (s.phases.map phaV)),(5,.int .u32 (calK s c k)),(1,.int .u32 c)],[],1024,[],31,0,[]⟩) (fun k=>k≤s.phases.length) (fun k=>s.phases.length-k) 0 ?_ ?_ ?_
 ·omega
 ·refine Le.mk [] [] ⟨rfl,rfl,rfl⟩ ?_ ?_ ?_<;>simp[go_sem,calK]
 ·intro k hk;have hal:=yZg s c k;simp(disch:=omega)[go_sem];refine zAc (fun h=>?_) (fun h=>?_)<;>simp at h
  ·have hn:=nthP h;have e1:calK s c (k+1)=if calQ s c k=true then zHd (calK s c k) k else calK s c k:=rfl
   have hQ:calQ s c k=((pAt s k).always||c.testBit k):=rfl
   obtain⟨m,hb2,hr⟩:=zMb (b:=k) hc;have hmb:((m:Int) == 1)=c.testBit k:=by
    rw[Bool.eq_iff_iff,beq_iff_eq,← hr];omega
   have hsh:=zPu (show k<32 by omega)
   have hb:=zFy (k:Int);cases ha:(pAt s k).always
   ·rw[ha,Bool.false_or]at hQ;simp(disch:=omega)[go_sem,hn,h,phaV,ha,zGd,hb2,hmb];refine zAc (fun h5=>?_) (fun h5=>?_)
    ·rw[hQ,h5,if_pos rfl]at e1;simp(disch:=omega)[go_sem,hsh];refine zAb (k+1) (by omega) (by omega) (Le.mk [] [] ⟨rfl,rfl,rfl⟩ ?_ ?_ ?_)<;>simp[go_sem,e1,zHd]
    ·rw[hQ,h5,if_neg (by decide)]at e1
     simp(disch:=omega)[go_sem];refine zAb (k+1) (by omega) (by omega) (Le.mk [] [] ⟨rfl,rfl,rfl⟩ ?_ ?_ ?_)<;>simp[go_sem,e1]
   ·rw[ha,Bool.true_or]at hQ;rw[hQ,if_pos rfl]at e1;simp(disch:=omega)[go_sem,hn,h,phaV,ha,zGd,hb2,hmb,hsh];refine zAb (k+1) (by omega) (by omega) (Le.mk [] [] ⟨rfl,rfl,rfl⟩ ?_ ?_ ?_)<;>simp[go_sem,e1,zHd]
  ·have hkk:k=s.phases.length:=by omega
   subst hkk;simp(disch:=omega)[go_sem,hN]
end
section
theorem yOc(a b:List Int):FnD Tryz.prog 145 [.sl 1 (ints a),.sl 1 (ints b)] (.bool (decide (a=b))):=by
 refine zAd mixed Tryz.func145 rfl rfl (by simp[Tryz.ntmps145]) fun hwf E=>?_
 simp(disch:=omega)[go_sem]at hwf
 simp(disch:=omega)[Tryz.ntmps145,go_sem]
 refine zAc (fun h1=>?_) (fun h1=>?_)<;>simp at h1
 ·have hne:¬a=b:=fun e=>by subst e;exact h1 rfl
  simp(disch:=omega)[go_sem,hne];try exact hne
 ·have hl:a.length=b.length:=by omega
  simp(disch:=omega)[go_sem];refine zAe mixed (fun k:Nat=>⟨[(13,.int .i64 k),(12,.int .i64 a.length),(1,.sl 1 (ints b)),(0,.sl 1 (ints a))],[],1024,[],26,0,[]⟩) (fun k=>k≤a.length∧∀i (h1:i<a.length) (h2:i<b.length),i<k→a[i]=b[i]) (fun k=>a.length-k) 0 ?_ ?_ ?_
  ·exact⟨by omega,fun i _ _ hi=>absurd hi (Nat.not_lt_zero i)⟩
  ·refine Le.mk [] [] ⟨rfl,rfl,rfl⟩ ?_ ?_ ?_<;>simp[go_sem]
  ·rintro k ⟨hk,hno⟩
   simp(disch:=omega)[go_sem];refine zAc (fun h=>?_) (fun h=>?_)<;>simp at h
   ·have hb:k<b.length:=by omega
    have hn:=zAz h;have hm:=zAz hb;simp(disch:=omega)[go_sem,hn,hm,h,hb];refine⟨.inl (by kernel_rfl),?_⟩
    refine zAc (fun h5=>?_) (fun h5=>?_)<;>simp at h5
    ·have hne:¬a=b:=fun e=>by subst e;exact h5 rfl
     simp(disch:=omega)[go_sem,hne];try exact hne
    ·have hno2:∀i (h1:i<a.length) (h2:i<b.length),i<k+1→a[i]=b[i]:=fun i h1 h2 hi=>by
      by_cases e:i=k
      ·subst e;exact h5
      ·exact hno i h1 h2 (by omega)
     simp(disch:=omega)[go_sem];refine zAb (k+1) (⟨by omega,hno2⟩) (by omega) (Le.mk [] [] ⟨rfl,rfl,rfl⟩ ?_ ?_ ?_)<;>simp[go_sem]
   ·have he:a=b:=List.ext_getElem hl fun i h1 h2=>hno i h1 h2 (by omega)
    simp(disch:=omega)[go_sem,he]
def yMu(x y:Int):Int:=IntKind.u64.wrap ((BitVec.ofInt 64 x ||| BitVec.ofInt 64 y).toNat)
theorem yDf(x y:Int):zDk .or .u64 x y=some (.int .u64 (yMu x y)):=rfl
def byAt(l:List UInt8)(k:Nat):Int:=((l[k]?.getD 0).toNat:Int)
theorem xOw{l:List UInt8}{k:Nat}(h:k<l.length):nth (bts l) k= .int .u8 (byAt l k):=by rw[zJn h];simp[byAt,h]
def rgK(l:List UInt8):Nat→Int
 |0=>0
 |k+1=>yMu (rgK l k) (IntKind.u64.wrap (byAt l k*2 ^ (8*k)))
theorem xLx(l:List UInt8):∀k,0≤rgK l k∧rgK l k<18446744073709551616
 |0=>by show (0:Int)≤0∧(0:Int)<_;decide
 |k+1=>zNs _
def getV(l:List UInt8):Int × Int:=if l.length<1∨8<l.length then(0,8)else(rgK l l.length,0)
theorem zOu(l:List UInt8):FnD Tryz.prog 214 [.sl 1 (bts l)] (.tup [.int .u64 (getV l).1,.int .i64 (getV l).2]):=by
 have hV:getV l=if l.length<1∨8<l.length then(0,8)else(rgK l l.length,0):=rfl
 generalize getV l=r at *
 refine zAd mixed Tryz.func214 rfl rfl (by simp[Tryz.ntmps214]) fun hwf E=>?_
 simp(disch:=omega)[go_sem]at hwf
 simp(disch:=omega)[Tryz.ntmps214,go_sem]
 try simp(disch:=omega)[go_sem,zAm]
 refine zAc (fun h1=>?_) (fun h1=>?_)<;>simp at h1
 ·rw[if_pos (by omega)]at hV
  simp(disch:=omega)[go_sem,hV]
 ·rw[if_neg (by omega)]at hV
  simp(disch:=omega)[go_sem,zAm];refine zAe mixed (fun k:Nat=>⟨[(16,.int .i64 k),(15,.int .i64 l.length),(14,.sl 1 (bts l)),(2,.int .u64 (rgK l k))],[],1024,[],30,0,[]⟩) (fun k=>k≤l.length) (fun k=>l.length-k) 0 ?_ ?_ ?_
  ·omega
  ·refine Le.mk [] [] ⟨rfl,rfl,rfl⟩ ?_ ?_ ?_<;>simp[go_sem,rgK]
  ·intro k hk;simp(disch:=omega)[go_sem];refine zAc (fun h=>?_) (fun h=>?_)<;>simp at h
   ·have hn:=xOw h;have hi:=xLx l k;have e1:rgK l (k+1)=yMu (rgK l k) (IntKind.u64.wrap (byAt l k*2 ^ (8*k))):=rfl;have hby:0≤byAt l k∧byAt l k<256:=by
     unfold byAt;have:=(l[k]?.getD 0).toNat_lt;omega
    simp(disch:=omega)[go_sem,hn,h,zAm,yDf];refine⟨by omega,?_⟩
    have hk8:(8*(k:Int)).toNat=8*k:=by omega
    rw[hk8,← e1];refine zAb (k+1) (by omega) (by omega) (Le.mk [] [] ⟨rfl,rfl,rfl⟩ ?_ ?_ ?_)<;>simp[go_sem]
   ·have hkk:k=l.length:=by omega
    subst hkk;simp(disch:=omega)[go_sem,hV]
theorem zMw(l:List UInt8):FnD Tryz.prog 194 [.sl 1 (bts l)] (.int .u64 (getV l).1):=by
 have q:=zOu l
 generalize getV l=r at *
 have hp:=zAg l
 refine zAd mixed Tryz.func194 rfl rfl (by simp[Tryz.ntmps194]) fun hwf E=>?_
 clear hwf
 simp(disch:=omega)[Tryz.ntmps194,go_sem]
 refine zAa q [] (by simp[go_sem]) (.inl rfl) (by simp[go_sem]) (fun _=>?_)
 simp(disch:=omega)[go_sem]
def ofF(n:Int):Int:=if n< -1073741824 then -70368744177664 else if 1073741824<n then 70368744177664 else n*65536
theorem zWv(n:Int):FnD Tryz.prog 110 [.int .i64 n] (.int .i64 (ofF n)):=by
 by_cases h1:n< -1073741824
 ·have e:ofF n= -70368744177664:=by unfold ofF;rw[if_pos h1]
  refine zAd mixed Tryz.func110 rfl rfl (by simp[Tryz.ntmps110]) fun hwf E=>?_
  clear hwf;simp(disch:=omega)[Tryz.ntmps110,go_sem];simp(disch:=omega)[go_sem,h1,e]
 ·by_cases h2:1073741824<n
  ·have e:ofF n=70368744177664:=by unfold ofF;rw[if_neg h1,if_pos h2]
   refine zAd mixed Tryz.func110 rfl rfl (by simp[Tryz.ntmps110]) fun hwf E=>?_
   clear hwf;simp(disch:=omega)[Tryz.ntmps110,go_sem];simp(disch:=omega)[go_sem,h1,h2,e]
  ·have e:ofF n=n*65536:=by unfold ofF;rw[if_neg h1,if_neg h2]
   refine zAd mixed Tryz.func110 rfl rfl (by simp[Tryz.ntmps110]) fun hwf E=>?_
   clear hwf;simp(disch:=omega)[Tryz.ntmps110,go_sem];simp(disch:=omega)[go_sem,h1,h2,e]
theorem zLb(l:List GapN):zBa (l.map gapV):=zBc _ (fun c=>by simp[gapV,go_sem]) l
theorem yRg(τ:Nat→Nat)(l:List GapN):rens τ (l.map gapV)=l.map gapV:=zDe _ (zLb l)
attribute [go_sem] zLb yRg
theorem yOj(l:List GapN)(hb:l.length≤1048576):FnR Tryz.prog 90 [] [.sl 5 (l.map gapV)] [⟨.arr,167,5,l.map gapV⟩] (.obj 0 l.length):=by
 have hp:=zLb l
 refine zJa (fun hx=>?_) ?_
 ·have hl:l=[]:=by simpa using hx
  subst hl;refine zAv mixed Tryz.func90 rfl rfl (by simp[Tryz.ntmps90]) (by simp) fun hwf E=>?_
  simp(disch:=omega)[Tryz.ntmps90,go_sem];refine Le.mk [(0,none)] [] ⟨rfl,rfl,rfl⟩ ?_ ?_ ?_<;>simp[go_sem]
 ·refine zAv mixed Tryz.func90 rfl rfl (by simp[Tryz.ntmps90]) (by simp) fun hwf E=>?_
  simp(disch:=omega)[go_sem,List.length_map]at hwf;simp(disch:=omega)[Tryz.ntmps90,go_sem,List.length_map];refine⟨⟨by omega,by omega⟩,Le.mk [(0,some 64)] [64] ⟨rfl,rfl,rfl⟩ ?_ ?_ ?_⟩<;>simp[go_sem,hp]
end
section
theorem zPs(x:Int)(h:0≤x):FnD Tryz.prog 173 [.int .i64 x] (.int .i64 (min x 70368744177664)):=by
 refine zAd mixed Tryz.func173 rfl rfl (by simp[Tryz.ntmps173]) fun hwf E=>?_
 clear hwf
 simp(disch:=omega)[Tryz.ntmps173,go_sem]
 all_goals first|omega|(simp_all [];done)|(simp_all [];omega)|((repeat' split)<;>first|omega|(simp_all [];done)|(simp_all [];omega))|skip
theorem yYr(a b:Int)(ha:0≤a∧a≤70368744177664)(hb:1≤b∧b≤70368744177664):FnD Tryz.prog 109 [.int .i64 a,.int .i64 b] (.tup [.int .i64 (min (a*65536 / b) 70368744177664),.int .i64 0]):=by
 have q1:=zPs a ha.1
 have q2:=zPs b (by omega)
 rw[show min a 70368744177664=a by omega]at q1
 rw[show min b 70368744177664=b by omega]at q2
 have h0:0≤a*65536 / b:=Int.ediv_nonneg (by omega) (by omega)
 have h1:a*65536 / b≤a*65536:=Int.ediv_le_self _ (by omega)
 have q3:=zPs (a*65536 / b) h0
 have e1:IntKind.i64.wrap (a*65536)=a*65536:=zDr (by omega) (by omega)
 have e2:(a*65536).tdiv b=a*65536 / b:=Int.tdiv_eq_ediv_of_nonneg (by omega)
 have e3:IntKind.i64.wrap (a*65536 / b)=a*65536 / b:=zDr (by omega) (by omega)
 generalize a*65536 / b=q at *
 refine zAd mixed Tryz.func109 rfl rfl (by simp[Tryz.ntmps109]) fun hwf E=>?_
 clear hwf
 simp(disch:=omega)[Tryz.ntmps109,go_sem]
 refine zAa q1 [] (by simp[go_sem]) (.inl rfl) (by simp[go_sem]) (fun _=>?_)
 simp(disch:=omega)[go_sem]
 refine zAa q2 [] (by simp[go_sem]) (.inl rfl) (by simp[go_sem]) (fun _=>?_)
 simp(disch:=omega)[go_sem]
 refine zAc (fun b1=>?_) (fun b1=>?_)<;>simp at b1
 ·exact absurd b1 (by omega)
 ·simp(disch:=omega)[go_sem,e1,e2,e3];refine⟨by omega,?_⟩
  refine zAc (fun b2=>?_) (fun b2=>?_)<;>simp at b2
  ·exact absurd b2.2 (by have : ¬ (a * 65536 < 0) := by omega
                         have:¬(b<0):=by omega
                         simp[*])
  ·simp(disch:=omega)[go_sem];refine zAa q3 [] (by simp[go_sem]) (.inl rfl) (by simp[go_sem]) (fun _=>?_)
   simp(disch:=omega)[go_sem]
end
section
theorem xBu:∀i,i<64→zCt Tryz.prog 5 (nth yEi 0) i=some (.int .u8 (zIr.getD i 0))∧0≤zIr.getD i 0∧zIr.getD i 0≤63:=by
 intro i hi
 have h1:∀k:Fin 64,zIr[k.val]?=some (zIr.getD k.val 0)∧0≤zIr.getD k.val 0∧zIr.getD k.val 0≤63:=by decide +kernel
 obtain⟨h2,h3,h4⟩:=h1 ⟨i,hi⟩
 refine⟨?_,h3,h4⟩
 show (match zAn Tryz.prog 5,(nth yEi 0).cl with
  |some true,some cs=>if i=0∧cs.length=Tryz.prog.cellsOf 5 then some (nth yEi 0)else if i+Tryz.prog.cellsOf 5≤cs.length then some (.agg ((cs.drop i).take (Tryz.prog.cellsOf 5)))else none
  |some false,some cs=>cs[i]?
  |some false,none=>if i=0 then(match nth yEi 0 with | .opt _ _ | .tup _=>none|_=>some (nth yEi 0))else none
  |_,_=>none)=_
 simp only[xQm]
 show (zIr.map fun n:Int=>V.int .u8 n)[i]?=_
 rw[List.getElem?_map]
 rw[show zIr[i]?=some (zIr.getD i 0) from h2];rfl
theorem xNq(x:Int)(h0:0≤x∧x<18446744073709551616):∃r:Int,(0≤r∧r≤64)∧FnD Tryz.prog 202 [.int .u64 x] (.int .i64 r) tabG:=by
 by_cases hx:x=0
 ·subst hx;refine⟨64,by decide,?_⟩
  refine zAd mixed Tryz.func202 rfl rfl (by simp[Tryz.ntmps202]) fun hwf E=>?_
  clear hwf;simp(disch:=omega)[Tryz.ntmps202,go_sem]
 ·obtain⟨ix,hix⟩:∃ix:Int,(IntKind.u64.wrap (xAj x (IntKind.u64.wrap (-x))*285870213051353865)).fdiv 288230376151711744=ix:=⟨_,rfl⟩;have hb:=zNs (xAj x (IntKind.u64.wrap (-x))*285870213051353865);have hi:0≤ix∧ix<64:=by
   rw[← hix,Int.fdiv_eq_ediv_of_nonneg _ (by omega)]
   omega
  obtain⟨t1,t2,t3⟩:=xBu ix.toNat (by omega)
  refine⟨zIr.getD ix.toNat 0,⟨t2,by omega⟩,?_⟩
  refine zAd mixed Tryz.func202 rfl rfl (by simp[Tryz.ntmps202]) fun hwf E=>?_
  clear hwf;simp(disch:=omega)[Tryz.ntmps202,go_sem];try simp(disch:=omega)[go_sem,tabG]
  refine zAc (fun h9=>?_) (fun h9=>?_)<;>simp at h9
  ·exact absurd h9 hx
  ·have hl:(0:Nat)<yEi.length:=by decide
   simp(disch:=omega)[go_sem,zXj,hix];refine⟨hi,?_⟩;rw[zQs hl]at t1;simp(disch:=omega)[go_sem,hl,t1];simp only[List.getD_eq_getElem?_getD]at t2 t3;exact zDr (by omega) (by omega)
noncomputable def tz64(x:Int):Int:=open Classical in if h:0≤x∧x<18446744073709551616 then Classical.choose (xNq x h)else 0
theorem xNr(x:Int):0≤tz64 x∧tz64 x≤64:=by
 unfold tz64
 split
 ·rename_i h;exact(Classical.choose_spec (xNq x h)).1
 ·exact⟨by decide,by decide⟩
theorem yPv(x:Int)(h:0≤x∧x<18446744073709551616):FnD Tryz.prog 202 [.int .u64 x] (.int .i64 (tz64 x)) tabG:=by
 unfold tz64
 rw[dif_pos h]
 exact(Classical.choose_spec (xNq x h)).2
def behA(l p m:Nat):Int:=(yMu l (IntKind.u64.wrap ((l:Int)*2 ^ m))).fdiv (2 ^ (p+1))
theorem xSv(l p m:Nat):0≤behA l p m∧behA l p m<18446744073709551616:=by
 unfold behA
 have hb:=zNs ((BitVec.ofInt 64 (l:Int) ||| BitVec.ofInt 64 (IntKind.u64.wrap ((l:Int)*2 ^ m))).toNat:Nat)
 unfold yMu
 generalize IntKind.u64.wrap _=y at hb ⊢
 obtain⟨n,rfl⟩:=Int.eq_ofNat_of_zero_le hb.1
 rw[zGd]
 have:n / 2 ^ (p+1)≤n:=Nat.div_le_self _ _
 generalize n / 2 ^ (p+1)=q at *
 omega
noncomputable def behN(l p m:Nat):Int:=((p:Int)+1+tz64 (behA l p m)) % m
theorem yZp(l p m:Nat)(hm:0<m):0≤behN l p m∧behN l p m<m:=by
 unfold behN
 exact⟨Int.emod_nonneg _ (by omega),Int.emod_lt_of_pos _ (by omega)⟩
theorem yOo(l p m:Nat)(hl:l<4294967296)(hp:p≤8)(hm:0<m∧m≤8):FnD Tryz.prog 161 [.int .u32 l,.int .i64 p,.int .i64 m] (.int .i64 (behN l p m)) tabG:=by
 have hA:=xSv l p m
 have q:=yPv (behA l p m) hA
 have ht:=xNr (behA l p m)
 have hN:behN l p m=((p:Int)+1+tz64 (behA l p m)) % m:=rfl
 generalize behN l p m=r at *
 have hAe:(yMu l (IntKind.u64.wrap ((l:Int)*2 ^ m))).fdiv (2 ^ (p+1))=behA l p m:=rfl
 generalize behA l p m=a at *
 generalize tz64 a=t at *
 refine zAd mixed Tryz.func161 rfl rfl (by simp[Tryz.ntmps161]) fun hwf E=>?_
 clear hwf
 simp(disch:=omega)[Tryz.ntmps161,go_sem]
 try simp(disch:=omega)[go_sem,yDf]
 refine⟨by omega,?_⟩
 rw[hAe]
 refine zAa q [] (by simp[go_sem]) (.inl rfl) (by simp[go_sem]) (fun _=>?_) (by simp[tabG,go_sem])
 simp(disch:=omega)[go_sem]
 exact⟨by omega,by rw[hN,Int.tmod_eq_emod_of_nonneg (by omega)]⟩
end
section
def seqV(p n:Int):V:= .agg [.int .i64 p,.int .i64 n]
def othN(s:Sit)(p c:Nat):Nat:=zNo (calN s c) (bitN p)
def yPw(s:Sit)(p c g:Nat)(n:Int):Bool:=(decide ((pAt s p).min≤n)&&(othN s p c != 0))&&(g.testBit p||decide ((pAt s p).max≤n))
noncomputable def seqP(s:Sit)(p:Nat)(n:Int)(w:SafN)(c g:Nat):Int × Int:=
 if zZd s w.groups p=false then(p,0)
 else if yPw s p c g (addO n 1048576)=true then(behN (othN s p c) p s.phases.length,0)else(p,addO n 1048576)
set_option maxHeartbeats 4000000 in
theorem yLx(s:Sit)(p:Nat)(n:Int)(w:SafN)(c g:Nat)(hs:zAk s)(hp:p<s.phases.length)(hn:0≤n∧n≤1048576)(hg:w.groups.length=s.groups.length)(hc:c<4294967296)(hgg:g<4294967296) :
  FnD Tryz.prog 101 [sitV s,seqV p n,safV w,.int .u32 c,.int .u32 g] (.tup [seqV (seqP s p n w c g).1 (seqP s p n w c g).2,.sl 1 (lts (zLj s (seqP s p n w c g).1)),.int .i64 0]) tabG:=by
 have hsv:=zAr s
 have h8:s.phases.length≤8:=hs.shaped.2.2.2.1.2
 have e0:zAl s=0:=by unfold zAl;rw[if_pos hs]
 have qc:=zCc s
 rw[e0]at qc
 have hE:zZe s (zAl s) w p=0:=by
  unfold zZe zIq;rw[e0,if_neg (by simp),if_neg (by simp[hg]),if_neg (by omega)]
 have qF:=zPq s w p
 have hFB:zVd s w p=zZd s w.groups p:=by unfold zVd;rw[hE];simp
 rw[hE,hFB]at qF
 have qA:∀x:Int,0≤x∧x<s.phases.length→FnD Tryz.prog 104 [sitV s,.int .i64 x] (.tup [.sl 1 (lts (zLj s x)),.int .i64 0]) tabG:=fun x hx=>by
  have q:=zVu s x;have e:tE s (zAl s) x=0:=by unfold tE zIq;rw[e0,if_neg (by simp),if_neg (by simp),if_neg (by omega)]
  rw[e]at q;exact q
 have qK:=yHe s c hc h8
 have hR:seqP s p n w c g=if zZd s w.groups p=false then((p:Int),0)else if yPw s p c g (addO n 1048576)=true then(behN (othN s p c) p s.phases.length,0)else(p,addO n 1048576):=rfl
 generalize seqP s p n w c g=r at *
 obtain⟨gr,st,fl⟩:=w
 simp only at *
 generalize zZd s gr p=f at *
 rw[hsv]at qc qF qK qA ⊢
 unfold safV at *
 unfold seqV
 simp only at *
 refine zAd mixed Tryz.func101 rfl rfl (by simp[Tryz.ntmps101]) fun hwf E=>?_
 clear hwf
 simp(disch:=omega)[Tryz.ntmps101,go_sem]
 refine zAa qc [] (by simp[go_sem]) (.inl rfl) (by simp[go_sem]) (fun _=>?_) (by simp[tabG,go_sem])
 simp(disch:=omega)[go_sem]
 refine zAc (fun h1=>?_) (fun h1=>?_)<;>simp at h1
 ·exact absurd h1 (by omega)
 ·simp(disch:=omega)[go_sem];refine zAc (fun a1=>?_) (fun a1=>?_)<;>simp at a1
  ·exact absurd a1 (by omega)
  ·simp(disch:=omega)[go_sem];refine zAc (fun a2=>?_) (fun a2=>?_)<;>simp at a2
   ·exact absurd a2 (by omega)
   ·simp(disch:=omega)[go_sem];refine zAc (fun a3=>?_) (fun a3=>?_)<;>simp at a3
    ·exact absurd a3 (by omega)
    ·simp(disch:=omega)[go_sem];refine zAc (fun a4=>?_) (fun a4=>?_)<;>simp at a4
     ·exact absurd a4 (by omega)
     ·simp(disch:=omega)[go_sem]
      ·skip
       refine zAa qF [] (by simp[go_sem]) (.inl rfl) (by simp[go_sem]) (fun _=>?_) (by simp[tabG,go_sem])
       simp(disch:=omega)[go_sem];cases f
       ·rw[if_pos rfl]at hR;have q2:=qA p ⟨by omega,by omega⟩
        subst hR;simp(disch:=omega)[go_sem];refine zAa q2 [] (by simp[go_sem]) (.inl rfl) (by simp[go_sem]) (fun _=>?_) (by simp[tabG,go_sem])
        simp(disch:=omega)[go_sem]
       ·rw[if_neg (by decide)]at hR
        have hm:=nthP hp;have hg2:∀h',s.phases[p]'h'=pAt s p:=fun h'=>(yIp h').symm
        have hn2:(if 1048576<n+1 then 1048576 else n+1)=addO n 1048576:=rfl
        have hn3:0≤addO n 1048576∧addO n 1048576≤1048576:=by unfold addO;split<;>omega
        generalize addO n 1048576=n2 at *;have hsh:=zPu (show p<32 by omega)
        have hb:=zFy (p:Int);obtain⟨m,hb2,hr⟩:=zMb (b:=p) hgg;have hmb:((m:Int) == 1)=g.testBit p:=by
         rw[Bool.eq_iff_iff,beq_iff_eq,← hr];omega
        have hO:zNo (calN s c) (bitN p)=othN s p c:=rfl;have hol:=zXp (calN s c) (bitN p);rw[hO]at hol;have hT:yPw s p c g n2=((decide ((pAt s p).min≤n2)&&(othN s p c != 0))&&(g.testBit p||decide ((pAt s p).max≤n2))):=rfl
        generalize yPw s p c g n2=tq at *;simp(disch:=omega)[go_sem,hm,hp,phaV,hn2];refine zAa qK [] (by simp[go_sem]) (.inl rfl) (by simp[go_sem]) (fun _=>?_)
        simp(disch:=omega)[go_sem];simp(disch:=omega)[go_sem,hsh,hO,zGd,hb2,hmb];refine⟨.inl (by kernel_rfl),?_⟩
        refine zAc (fun h5=>?_) (fun h5=>?_)<;>simp at h5
        ·have ht:tq=true:=by rw[hT];simpa using h5
         rw[if_pos ht]at hR;have qB:=yOo (othN s p c) p s.phases.length hol (by omega) ⟨by omega,h8⟩
         have hbi:=yZp (othN s p c) p s.phases.length (by omega)
         generalize behN (othN s p c) p s.phases.length=x at *;have q2:=qA x hbi;subst hR;simp(disch:=omega)[go_sem];refine zAa qB [] (by simp[go_sem]) (.inl rfl) (by simp[go_sem]) (fun _=>?_) (by simp[tabG,go_sem])
         simp(disch:=omega)[go_sem];refine zAa q2 [] (by simp[go_sem]) (.inl rfl) (by simp[go_sem]) (fun _=>?_) (by simp[tabG,go_sem])
         simp(disch:=omega)[go_sem]
        ·have ht:tq=false:=by rw[hT];simpa using h5
         rw[ht,if_neg (by decide)]at hR
         have q2:=qA p ⟨by omega,by omega⟩
         subst hR;simp(disch:=omega)[go_sem];refine zAa q2 [] (by simp[go_sem]) (.inl rfl) (by simp[go_sem]) (fun _=>?_) (by simp[tabG,go_sem])
         simp(disch:=omega)[go_sem]
end
section
def zJz:KepN:=⟨0,0,[]⟩
def zMr(k:KepN)(bl:List (List UInt8))(h:Bool):V:= .agg [.int .i64 k.gen,.int .u8 k.mode,.sl 3 (k.plans.map plnV),.sl 1 (btss bl),.bool h]
def midB(b:List UInt8):List UInt8:=(b.drop 8).take 48
def inB(bl:List (List UInt8))(k:Nat):List UInt8:=((bl.take k).map midB).flatten
def genB(bl:List (List UInt8)):Int:=(getV ((bl.getD 0 []).take 8)).1
noncomputable def xCa(n:Nat)(bl:List (List UInt8))(gen:Int)(m:Nat)(pl:List UInt8):Option KepN:=
 if zOe pl≠0 then none else if kepE ⟨gen,m,zKq pl⟩ n≠0 then none else if kepL ⟨gen,m,zKq pl⟩ n=bl then some ⟨gen,m,zKq pl⟩else none
noncomputable def xNu(bl:List (List UInt8))(gen:Int)(inn:List UInt8):Option KepN:=match zKc inn with
 |none=>none
 |some (m,k)=>if 3<m then none else xCa bl.length bl gen m (inn.drop k)
noncomputable def yLp(bl:List (List UInt8))(gen:Int)(b:List UInt8):Option KepN:=match zKc b with
 |none=>none
 |some (n,k)=>if n<1∨b.length-k<n∨4611686018427387904≤gen then none else xNu bl gen ((b.drop k).take n)
noncomputable def zPt(bl:List (List UInt8)):Option KepN:=yLp bl (genB bl) (inB bl bl.length)
def zIl(bl:List (List UInt8)):Option KepN→V
 |none=>zMr zJz bl false
 |some k=>zMr k bl true
theorem yJh{bl:List (List UInt8)}{k:Nat}(h:k<bl.length):inB bl (k+1)=inB bl k++midB bl[k]:=by
 unfold inB
 rw[List.take_succ_eq_append_getElem h,List.map_append,List.flatten_append]
 simp
theorem yTi{bl:List (List UInt8)}(h:∀b∈bl,b.length=64):∀k,k≤bl.length→(inB bl k).length=48*k
 |0,_=>by simp[inB]
 |k+1,hk=>by
  rw[yJh (by omega),List.length_append,yTi h k (by omega)]
  have:=h bl[k] (List.getElem_mem (by omega))
  simp[midB,this];omega
theorem zQf(l:List UInt8):0≤(getV l).1∧(getV l).1<18446744073709551616:=by
 unfold getV
 split
 ·decide
 ·exact xLx l _
def slS(bl:List (List UInt8))(sl:List (Nat × V))(hp:List (Nat × AM.Obj))(nx:Nat)(hs:V):St:=⟨sl++[(0,.ptr 0 1 0 0)],hp++[(0,⟨.box,211,5,[hs]⟩)],nx,[],133,1,[]⟩
set_option maxHeartbeats 8000000 in
theorem zNw(bl:List (List UInt8))(hn:1≤bl.length∧bl.length≤32)(h64:∀b∈bl,b.length=64) :
  FnR Tryz.prog 183 [⟨.box,211,5,[zMr zJz bl false]⟩] [.ptr 0 1 0 0] [⟨.box,211,5,[zIl bl (zPt bl)]⟩] (.tup []):=by
 have hz:zMr zJz bl false= .agg [.int .i64 0,.int .u8 0,.sl 3 [],.sl 1 (btss bl),.bool false]:=by simp[zMr,zJz]
 have hK:zPt bl=yLp bl (genB bl) (inB bl bl.length):=rfl
 generalize zPt bl=R at *
 have hbp:=zBs bl
 have hil:=yTi h64
 rw[hz]
 refine yUh Tryz.func183 rfl rfl (by simp[Tryz.ntmps183]) (by simp) fun hwf E=>?_
 clear hwf
 refine zDt mixed ?_
 simp(disch:=omega)[Tryz.ntmps183,go_sem]
 refine zFz ?_
 refine zAy ?_ mixed
 simp(disch:=omega)[go_sem,zBk]
 refine zAe mixed (fun k:Nat=>slS bl [(20,.int .i64 k),(19,.int .i64 bl.length),(18,.sl 1 (btss bl)),(2,.obj 1008 (inB bl k).length)] [(1008,⟨.arr,5,1,bts (inB bl k)⟩)] 2048 (.agg [.int .i64 0,.int .u8 0,.sl 3 [],.sl 1 (btss bl),.bool false])) (fun k=>k≤bl.length) (fun k=>bl.length-k) 0 ?_ ?_ ?_
 ·omega
 ·refine Le.mk [(1008,none),(0,some 0)] [0] ⟨rfl,rfl,rfl⟩ ?_ ?_ ?_<;>simp[go_sem,slS,inB,bts]
 ·intro k hk;have hbk:=zAg (inB bl k);have hl1:=hil k hk;simp(disch:=omega)[go_sem,slS];refine zAc (fun h=>?_) (fun h=>?_)<;>simp at h
  ·have h6:=h64 bl[k] (List.getElem_mem h);have hb:=zYl h;have hsu:=yJh h;have hl2:=hil (k+1) (by omega)
   generalize bl[k]=x at *;have hsa:bts (inB bl k)++bts (midB x)=bts (inB bl (k+1)):=by rw[hsu,zCh]
   have hml:(midB x).length=48:=by simp[midB,h6]
   have hmm:(((bts x).take 64).drop 8).take 48=bts (midB x):=by rw[zBy,zDs,zBy,List.take_of_length_le (show x.length≤64 by omega)];rfl
   simp(disch:=omega)[go_sem,zBk,hb,h,h6,hmm,hml,hsa,hl1];refine⟨by omega,?_⟩
   refine zAb (k+1) (by omega) (by omega) (Le.mk [(1008,some 1008),(0,some 0)] [1008,0] ⟨rfl,rfl,rfl⟩ ?_ ?_ ?_)<;>simp[go_sem,hl2,zAg]
   all_goals omega
  ·have hkk:k=bl.length:=by omega
   subst hkk;simp(disch:=omega)[go_sem];generalize hB:inB bl bl.length=B at *;refine xXd (s':=slS bl [(2,.sl 1 (bts B))] [] 4096 (.agg [.int .i64 0,.int .u8 0,.sl 3 [],.sl 1 (btss bl),.bool false])) (Le.mk [(0,some 0)] [0] ⟨rfl,rfl,rfl⟩ ?_ ?_ ?_) ?_
   ·simp(disch:=omega)[go_sem,slS]
   ·simp(disch:=omega)[go_sem,slS]
   ·simp(disch:=omega)[go_sem,slS]
   have h0:=hn.1;obtain⟨b0,hb0⟩:∃b0,bl.getD 0 []=b0:=⟨_,rfl⟩;have hg0:bl[0]'(by omega)=b0:=by rw[← hb0,List.getD_eq_getElem?_getD,List.getElem?_eq_getElem (by omega)];rfl
   have h6:b0.length=64:=by rw[← hg0];exact h64 _ (List.getElem_mem _)
   have hnb:nth (btss bl) 0= .sl 1 (bts b0):=by rw[zYl (by omega),hg0]
   have q1:=zMw (b0.take 8);have hG:genB bl=(getV (b0.take 8)).1:=by unfold genB;rw[hb0]
   have hgi:=zQf (b0.take 8);rw[← hG]at q1 hgi;generalize genB bl=g at *;have q2:=zHx B;have hR2:= @zRv B;refine zAy ?_ mixed;simp(disch:=omega)[go_sem,zBk,slS,hnb,h6,zBy];refine⟨by omega,?_⟩
   refine zAa q1 [] (by simp[go_sem]) (.inl rfl) (by simp[go_sem]) (fun _=>?_)
   simp(disch:=omega)[go_sem];unfold yLp at hK;generalize zKc B=rd at *;refine zAa q2 [] (by simp[go_sem]) (.inl rfl) (by cases rd<;>simp[go_sem,zMu]) (fun _=>?_)
   cases rd with
   |none=>
    simp only at hK;subst hK;simp(disch:=omega)[go_sem,zMu];refine Le.mk [(0,some 0)] [0] ⟨rfl,rfl,rfl⟩ ?_ ?_ ?_<;>simp[go_sem,zIl,zMr,zJz]
   |some p=>
    obtain⟨n,k⟩:=p;simp only at hK;have hkl:=hR2 rfl;simp(disch:=omega)[go_sem,zMu];by_cases c1:n<1∨B.length-k<n∨4611686018427387904≤g
    ·rw[if_pos c1]at hK;subst hK;refine zAc (fun b1=>?_) (fun b1=>?_)<;>simp at b1
     ·simp(disch:=omega)[go_sem];refine Le.mk [(0,some 0)] [0] ⟨rfl,rfl,rfl⟩ ?_ ?_ ?_<;>simp[go_sem,zIl,zMr,zJz]
     ·exact absurd b1 (by omega)
    ·rw[if_neg c1]at hK;refine zAc (fun b1=>?_) (fun b1=>?_)<;>simp at b1
     ·exact absurd b1 (by omega)
     ·obtain⟨I,hI⟩:∃I,(B.drop k).take n=I:=⟨_,rfl⟩;have hIl:I.length=n:=by rw[← hI];simp;omega
      have q3:=zHx I;have hR3:= @zRv I;rw[hI]at hK;unfold xNu at hK;generalize zKc I=rd2 at *;have hIv:List.take n (List.drop k (List.take B.length (bts B)))=bts I:=by rw[zBy,List.take_length,zDs,zBy,hI]
      simp(disch:=omega)[go_sem,hIv];refine⟨by omega,by omega,?_⟩
      refine zAa q3 [] (by simp[go_sem]) (.inl rfl) (by cases rd2<;>simp[go_sem,zMu]) (fun _=>?_)
      cases rd2 with
      |none=>
       simp only at hK;subst hK;simp(disch:=omega)[go_sem,zMu];refine Le.mk [(0,some 0)] [0] ⟨rfl,rfl,rfl⟩ ?_ ?_ ?_<;>simp[go_sem,zIl,zMr,zJz]
      |some p=>
       obtain⟨m,k2⟩:=p;simp only at hK;have hkl2:=hR3 rfl;simp(disch:=omega)[go_sem,zMu];by_cases c2:3<m
       ·rw[if_pos c2]at hK;subst hK;refine zAc (fun b2=>?_) (fun b2=>?_)<;>simp at b2
        ·simp(disch:=omega)[go_sem];refine Le.mk [(0,some 0)] [0] ⟨rfl,rfl,rfl⟩ ?_ ?_ ?_<;>simp[go_sem,zIl,zMr,zJz]
        ·exact absurd b2 (by omega)
       ·rw[if_neg c2]at hK;refine zAc (fun b2=>?_) (fun b2=>?_)<;>simp at b2
        ·exact absurd b2 (by omega)
        ·obtain⟨J,hJ⟩:∃J,I.drop k2=J:=⟨_,rfl⟩;have hJv:List.drop k2 (List.take n (bts I))=bts J:=by rw[zBy,← hIl,List.take_length,zDs,hJ]
         have q4:=yEp J;rw[hJ]at hK;unfold xCa at hK;generalize zOe J=pe at *;generalize zKq J=pv at *;have hpp:=zAs pv;simp(disch:=omega)[go_sem,hJv,hIl];refine⟨by omega,?_⟩
         refine zAa q4 [] (by simp[go_sem]) (.inl rfl) (by simp[go_sem]) (fun _=>?_)
         simp(disch:=omega)[go_sem];by_cases c3:pe≠0
         ·rw[if_pos c3]at hK;subst hK;refine zAc (fun b3=>?_) (fun b3=>?_)<;>simp at b3
          ·simp(disch:=omega)[go_sem];refine Le.mk [(0,some 0)] [0] ⟨rfl,rfl,rfl⟩ ?_ ?_ ?_<;>simp[go_sem,zIl,zMr,zJz]
          ·exact absurd b3 c3
         ·rw[if_neg c3]at hK;refine zAc (fun b3=>?_) (fun b3=>?_)<;>simp at b3
          ·exact absurd b3 c3
          ·have hw1:IntKind.i64.wrap g=g:=zDr (by omega) (by omega)
           have hw2:IntKind.u8.wrap (m:Int)=m:=by rw[w8];omega
           have q5:=zNk ⟨g,m,pv⟩ bl.length;unfold kepV at q5;simp only at q5;generalize hkE:kepE ⟨g,m,pv⟩ bl.length=ke at *;generalize hkL:kepL ⟨g,m,pv⟩ bl.length=kl at *;have hlp:=zBs kl;simp(disch:=omega)[go_sem,zBk,hw1,hw2];refine zAa q5 [] (by simp[go_sem]) (.inl rfl) (by simp[go_sem]) (fun _=>?_)
           simp(disch:=omega)[go_sem];refine⟨.inl (by kernel_rfl),?_⟩
           by_cases c4:ke≠0
           ·rw[if_pos c4]at hK;subst hK;refine zAc (fun b4=>?_) (fun b4=>?_)<;>simp at b4
            ·simp(disch:=omega)[go_sem];refine Le.mk [(0,some 0)] [0] ⟨rfl,rfl,rfl⟩ ?_ ?_ ?_<;>simp[go_sem,zIl,zMr,zJz]
            ·exact absurd b4 c4
           ·rw[if_neg c4]at hK;refine zAc (fun b4=>?_) (fun b4=>?_)<;>simp at b4
            ·exact absurd b4 c4
            ·simp(disch:=omega)[go_sem,zBk];have hkl0:kl.length=bl.length:=by
              have e0:ke=0:=b4;rw[← hkL];unfold kepL;rw[if_pos (by rw[hkE];exact e0)]
              simp[zNl]
             refine zAe mixed (fun k:Nat=>slS bl [(109,.int .i64 k),(108,.int .i64 kl.length),(13,.sl 1 (btss kl)),(12,.ptr 5296 1 0 0)] [(5296,⟨.box,106,3,[.agg [.int .i64 g,.int .u8 m,.sl 3 (pv.map plnV)]]⟩)] 8192 (.agg [.int .i64 0,.int .u8 0,.sl 3 [],.sl 1 (btss bl),.bool false])) (fun k=>k≤kl.length∧∀i (h1:i<kl.length) (h2:i<bl.length),i<k→kl[i]=bl[i]) (fun k=>kl.length-k) 0 ?_ ?_ ?_
             ·exact⟨by omega,fun i _ _ hi=>absurd hi (Nat.not_lt_zero i)⟩
             ·refine Le.mk [(5296,some 5296),(0,some 0)] [5296,0] ⟨rfl,rfl,rfl⟩ ?_ ?_ ?_<;>simp[go_sem,slS]
             ·rintro k ⟨hk3,hno⟩
              simp(disch:=omega)[go_sem,slS];refine zAc (fun h=>?_) (fun h=>?_)<;>simp at h
              ·have hb1:=zYl h;have hb2:=zYl (l:=bl) (k:=k) (by omega)
               have q6:=zQh kl[k] (bl[k]'(by omega))
               have hkb:k<bl.length:=by omega
               simp(disch:=omega)[go_sem,zBk,hb1,hb2,h,hkb];refine zAa q6 [] (by simp[go_sem]) (.inl rfl) (by simp[go_sem]) (fun _=>?_)
               simp(disch:=omega)[go_sem];refine⟨.inl (by kernel_rfl),?_⟩
               refine zAc (fun h7=>?_) (fun h7=>?_)<;>simp at h7
               ·have hne:¬kl=bl:=fun e=>by subst e;exact h7 rfl
                rw[if_neg hne]at hK;subst hK;simp(disch:=omega)[go_sem];refine Le.mk [(0,some 0)] [0] ⟨rfl,rfl,rfl⟩ ?_ ?_ ?_<;>simp[go_sem,zIl,zMr,zJz]
               ·have hno2:∀i (h1:i<kl.length) (h2:i<bl.length),i<k+1→kl[i]=bl[i]:=fun i h1 h2 hi=>by
                 by_cases e:i=k
                 ·subst e;exact h7
                 ·exact hno i h1 h2 (by omega)
                simp(disch:=omega)[go_sem];refine zAb (k+1) (⟨by omega,hno2⟩) (by omega) (Le.mk [(5296,some 5296),(0,some 0)] [5296,0] ⟨rfl,rfl,rfl⟩ ?_ ?_ ?_)<;>simp[go_sem]
              ·have he:kl=bl:=List.ext_getElem hkl0 fun i h1 h2=>hno i h1 h2 (by omega)
               rw[if_pos he]at hK;subst hK;simp(disch:=omega)[go_sem];refine Le.mk [(0,some 0)] [0] ⟨rfl,rfl,rfl⟩ ?_ ?_ ?_<;>simp[go_sem,zIl,zMr]
end
end Go.Proofs.YtlgbdpabcbcmcaaGreatDoor
