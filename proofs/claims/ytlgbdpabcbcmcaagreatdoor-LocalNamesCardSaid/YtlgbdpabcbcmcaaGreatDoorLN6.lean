/- Contracts and laws beneath the statement, in build order. -/
import Derived.Test.YtlgbdpabcbcmcaaGreatDoorLN5
set_option linter.unusedSimpArgs false
set_option linter.unusedVariables false
namespace Go.Proofs.YtlgbdpabcbcmcaaGreatDoor
open Go.AM Go.RowKit
set_option maxRecDepth 100000
section
attribute [local go_sem] zAm zAh
noncomputable def yTx(g:GapN):Bool:=decide (gapE g=0)&&(!g.up&&decide (0≤g.opn))
theorem xEu(g:GapN):FnD Tryz.prog 162 [gapV g,.int .i64 0] (.tup [.bool (yTx g),.int .i64 (gapE g)]):=by
 have q:=zQx g 0
 have e:zLu g 0= .tup [.bool (yTx g),.int .i64 (gapE g)]:=by
  unfold zLu yTx;by_cases h:gapE g=0
  ·rw[h];simp
  ·rw[if_pos h,decide_eq_false h];rfl
 rw[e]at q
 exact q
def plAt(l:List Pul)(k:Nat):Pul:=l[k]?.getD pul0
def gpAt(l:List GapN)(k:Nat):GapN:=l[k]?.getD gap0
theorem xOm{l:List Pul}{k:Nat}(h:k<l.length):plAt l k=l[k]:=by simp[plAt,h]
theorem xPo{l:List GapN}{k:Nat}(h:k<l.length):gpAt l k=l[k]:=by simp[gpAt,h]
noncomputable def watQ(x:LocN)(k:Nat):Bool:= !zHh (plAt x.puls k).2.2||decide (gapE (gpAt x.gaps k)≠0)
noncomputable def zLk(s:Sit)(x:LocN):Bool:=decide (x.puls.length=s.eyes.length)&&decide (x.gaps.length=s.eyes.length)&& !anyR s.eyes.length (watQ x)&&decide ((zJb s x.calls x.eyes (-1)).2=0)
set_option maxHeartbeats 4000000 in
theorem yAe(s:Sit)(x:LocN)(hc:x.calls<4294967296)(h24:s.eyes.length≤24):FnD Tryz.prog 134 [sitV s,locV x] (.bool (zLk s x)) tabG:=by
 have hxp:=zIy x
 have hsp:=zGt s
 have hsv:=zAr s
 have hB:zLk s x=(decide (x.puls.length=s.eyes.length)&&decide (x.gaps.length=s.eyes.length)&& !anyR s.eyes.length (watQ x)&&decide ((zJb s x.calls x.eyes (-1)).2=0)):=rfl
 have qn:=zXe s x.calls x.eyes (-1) hc
 generalize zLk s x=B at *
 generalize zJb s x.calls x.eyes (-1)=cn at *
 have hpe:=zQa x.eyes
 rw[hsv]at *
 rw[zGc]at *
 by_cases h1:x.puls.length=s.eyes.length
 rotate_left
 ·have g1:((x.puls.length:Int) != (s.eyes.length:Int))=true:=by simp;omega
  rw[decide_eq_false h1]at hB;simp only[Bool.false_and]at hB;subst hB;refine zAd mixed Tryz.func134 rfl rfl (by simp[Tryz.ntmps134]) fun hwf E=>?_
  clear hwf;simp(disch:=omega)[Tryz.ntmps134,go_sem,g1]
 by_cases h2:x.gaps.length=s.eyes.length
 rotate_left
 ·have g1:((x.puls.length:Int) != (s.eyes.length:Int))=false:=by simp;omega
  have g2:((x.gaps.length:Int) != (s.eyes.length:Int))=true:=by simp;omega
  rw[decide_eq_false h2]at hB;simp only[Bool.false_and,Bool.and_false]at hB;subst hB;refine zAd mixed Tryz.func134 rfl rfl (by simp[Tryz.ntmps134]) fun hwf E=>?_
  clear hwf;simp(disch:=omega)[Tryz.ntmps134,go_sem,g1,g2]
 rw[decide_eq_true h1,decide_eq_true h2]at hB
 simp only[Bool.true_and]at hB
 have g1:((x.puls.length:Int) != (s.eyes.length:Int))=false:=by simp;omega
 have g2:((x.gaps.length:Int) != (s.eyes.length:Int))=false:=by simp;omega
 refine zAd mixed Tryz.func134 rfl rfl (by simp[Tryz.ntmps134]) fun hwf E=>?_
 clear hwf
 simp(disch:=omega)[Tryz.ntmps134,go_sem,g1,g2]
 refine zAe mixed (fun k:Nat=>⟨[(29,.int .i64 k),(28,.int .i64 s.eyes.length),(3,.ptr 16 1 0 0),(2,.ptr 0 1 0 0)],[(0,⟨.box,29,12,[sitV s]⟩),(16,⟨.box,61,27,[locV x]⟩)],1024,[],65,0,tabG⟩) (fun k=>k≤s.eyes.length∧∀j,j<k→watQ x j=false) (fun k=>s.eyes.length-k) 0 ?_ ?_ ?_
 ·exact⟨by omega,fun j hj=>absurd hj (Nat.not_lt_zero j)⟩
 ·refine Le.mk [(0,some 0),(16,some 16)] [0,16] ⟨rfl,rfl,rfl⟩ ?_ ?_ ?_<;>simp[go_sem,zGc,sitV]
 ·rintro k ⟨hk,hz⟩
  simp(disch:=omega)[go_sem,zGc,sitV];refine zAc (fun c1=>?_) (fun c1=>?_)<;>simp at c1
  ·have k1:k<x.puls.length:=by omega
   have k2:k<x.gaps.length:=by omega
   have hQ:watQ x k=(!zHh (x.puls[k]).2.2||decide (gapE x.gaps[k]≠0)):=by unfold watQ;rw[xOm k1,xPo k2]
   have qp:=xEu x.gaps[k];have qs:=zFw (x.puls[k]).2.2;have hno:=fun h=>zKh (P:=fun j=>watQ x j=false) hz h
   have hyes:=fun h=>zFn (p:=watQ x) c1 h
   have hpv:pulV x.puls[k]= .agg [.bool x.puls[k].1,.bool x.puls[k].2.1,.int .i64 x.puls[k].2.2]:=rfl;have hgv:gapV x.gaps[k]= .agg [.bool x.gaps[k].up,.int .i64 x.gaps[k].held,.int .i64 x.gaps[k].opn,.int .i64 x.gaps[k].came,.int .u64 x.gaps[k].last]:=rfl;rw[hgv]at qp;generalize zHh (x.puls[k]).2.2=sb at *;generalize gapE x.gaps[k]=ge at *;simp(disch:=omega)[go_sem,k2,c1,hgv];refine zAa qp [] (by simp[go_sem]) (.inl rfl) (by simp[go_sem]) (fun _=>?_)
   simp(disch:=omega)[go_sem,k1,hpv];refine zAa qs [] (by simp[go_sem]) (.inl rfl) (by simp[go_sem]) (fun _=>?_)
   simp(disch:=omega)[go_sem];cases sb with
   |false=>
    have hq:watQ x k=true:=by rw[hQ];rfl
    rw[hyes hq]at hB;simp(disch:=omega)[go_sem,hB]
   |true=>
    by_cases he:ge=0
    ·subst he;have hq:watQ x k=false:=by rw[hQ];rfl
     have hz2:=hno hq;simp(disch:=omega)[go_sem];refine zAb (k+1) (⟨by omega,hz2⟩) (by omega) (Le.mk [(0,some 0),(16,some 16)] [0,16] ⟨rfl,rfl,rfl⟩ ?_ ?_ ?_)<;>simp[go_sem]
    ·have hq:watQ x k=true:=by rw[hQ];simp[he]
     have he2:(ge != 0)=true:=by simpa using he
     rw[hyes hq]at hB;simp(disch:=omega)[go_sem,hB,he2]
  ·have hkk:k=s.eyes.length:=by omega
   subst hkk;rw[zHu hz]at hB;simp only[Bool.not_false,Bool.true_and]at hB;simp(disch:=omega)[go_sem];refine zAa qn [] (by simp[go_sem]) (.inl rfl) (by simp[go_sem]) (fun _=>?_) (by simp[tabG,go_sem])
   simp(disch:=omega)[go_sem];rw[hB];by_cases h0:cn.2=0
   ·simp[h0]
   ·simp[h0]
def xCr(r:List UInt8):Bool:=decide (r.length≤2048)&&(decide (r.length=0)||(decide (r.getD 0 0=126)&&decide (idxN (r.drop 1) 126<0)))
noncomputable def yBn(s:Sit)(x:LocN):Bool:=
 twoB x.disk&&decide (0≤x.sph)&&decide (x.sph<s.phases.length)&&zHh x.ssi&&zHh x.age&&zHh x.wrong&&decide (0≤x.tick)&&decide (x.tick≤1073741824) &&
  decide (zKd s x.now=0)&&decide (zPw s x.rung=0)&&decide (lfrE x.link 1=0)&&xCr x.rest&&(decide (Fits s x.told)||yDy x.told)&&zLk s x&&zLx s x
set_option maxHeartbeats 16000000 in
theorem ySv(s:Sit)(x:LocN)(hs:zAk s)(hc:x.calls<4294967296):FnD Tryz.prog 73 [sitV s,locV x] (.bool (yBn s x)) tabG:=by
 have hxp:=zIy x
 have hsp:=zGt s
 have hsv:=zAr s
 have hB:yBn s x=(twoB x.disk&&decide (0≤x.sph)&&decide (x.sph<s.phases.length)&&zHh x.ssi&&zHh x.age&&zHh x.wrong&&decide (0≤x.tick)&&decide (x.tick≤1073741824) &&
  decide (zKd s x.now=0)&&decide (zPw s x.rung=0)&&decide (lfrE x.link 1=0)&&xCr x.rest&&(decide (Fits s x.told)||yDy x.told)&&zLk s x&&zLx s x):=rfl
 have q1:=zKw x.disk
 have q2:=zFw x.ssi
 have q3:=zFw x.age
 have q4:=zFw x.wrong
 have q5:=yNt s x.now
 have q6:=zQw s x.rung ⟨false,false,false,false⟩
 have q7:=yGb x.link 1
 have q9:=yBf s x.told
 have q10:=yAa x.told
 have q11:=yAe s x hc hs.shaped.2.2.2.2.1
 have q12:=yCp s x hs.shaped.2.2.2.1.2
 rw[zEr hs,decide_eq_true hs,Bool.true_and]at q9
 generalize yBn s x=B at *
 generalize twoB x.disk=b1 at *
 generalize hb2:zHh x.ssi=b2 at *
 generalize hb3:zHh x.age=b3 at *
 generalize hb4:zHh x.wrong=b4 at *
 generalize zKd s x.now=e5 at *
 generalize xDk s x.now=o5 at *
 generalize zPw s x.rung=e6 at *
 generalize zYn s x.rung ⟨false,false,false,false⟩=r6 at *
 generalize lfrE x.link 1=e7 at *
 generalize lfrB x.link 1=o7 at *
 generalize decide (Fits s x.told)=b9 at *
 generalize yDy x.told=b10 at *
 generalize zLk s x=b11 at *
 generalize zLx s x=b12 at *
 have hpv:plnV x.told= .agg [.int .i64 x.told.cycle,.int .i64 x.told.offset,.sl 1 (ints x.told.splits)]:=rfl
 rw[hpv]at q9 q10
 unfold devV at q1
 unfold safV at q5
 unfold runV facV at q6
 unfold lnkV at q7
 have hR:xCr x.rest=(decide (x.rest.length≤2048)&&(decide (x.rest.length=0)||(decide (x.rest.getD 0 0=126)&&decide (idxN (x.rest.drop 1) 126<0)))):=rfl
 generalize xCr x.rest=b8 at *
 rw[hsv]at *
 rw[zGc]at *
 simp only at q6
 cases b1 with
 |false=>
  simp only[Bool.false_and]at hB;subst hB;refine zAd mixed Tryz.func73 rfl rfl (by simp[Tryz.ntmps73]) fun hwf E=>?_
  clear hwf;simp(disch:=omega)[Tryz.ntmps73,go_sem];refine zAa q1 [] (by simp[go_sem]) (.inl rfl) (by simp[go_sem]) (fun _=>?_)
  simp(disch:=omega)[go_sem]
 |true=>
 by_cases c1:0≤x.sph
 rotate_left
 ·have d1:decide (x.sph<0)=true:=by simp;omega
  rw[decide_eq_false c1]at hB;simp only[Bool.false_and,Bool.and_false]at hB;subst hB;refine zAd mixed Tryz.func73 rfl rfl (by simp[Tryz.ntmps73]) fun hwf E=>?_
  clear hwf;simp(disch:=omega)[Tryz.ntmps73,go_sem];refine zAa q1 [] (by simp[go_sem]) (.inl rfl) (by simp[go_sem]) (fun _=>?_)
  simp(disch:=omega)[go_sem,d1]
 have d1:decide (x.sph<0)=false:=by simp;omega
 by_cases c2:x.sph<s.phases.length
 rotate_left
 ·have d2:decide ((s.phases.length:Int)≤x.sph)=true:=by simp;omega
  rw[decide_eq_false c2]at hB;simp only[Bool.false_and,Bool.and_false]at hB;subst hB;refine zAd mixed Tryz.func73 rfl rfl (by simp[Tryz.ntmps73]) fun hwf E=>?_
  clear hwf;simp(disch:=omega)[Tryz.ntmps73,go_sem];refine zAa q1 [] (by simp[go_sem]) (.inl rfl) (by simp[go_sem]) (fun _=>?_)
  simp(disch:=omega)[go_sem,d1,d2]
 have d2:decide ((s.phases.length:Int)≤x.sph)=false:=by simp;omega
 rw[decide_eq_true c1,decide_eq_true c2]at hB
 cases b2 with
 |false=>
  simp only[Bool.false_and,Bool.and_false]at hB;subst hB;refine zAd mixed Tryz.func73 rfl rfl (by simp[Tryz.ntmps73]) fun hwf E=>?_
  clear hwf;simp(disch:=omega)[Tryz.ntmps73,go_sem];refine zAa q1 [] (by simp[go_sem]) (.inl rfl) (by simp[go_sem]) (fun _=>?_)
  simp(disch:=omega)[go_sem,d1,d2];refine zAa q2 [] (by simp[go_sem]) (.inl rfl) (by simp[go_sem]) (fun _=>?_)
  simp(disch:=omega)[go_sem]
 |true=>
 cases b3 with
 |false=>
  simp only[Bool.false_and,Bool.and_false]at hB;subst hB;refine zAd mixed Tryz.func73 rfl rfl (by simp[Tryz.ntmps73]) fun hwf E=>?_
  clear hwf;simp(disch:=omega)[Tryz.ntmps73,go_sem];refine zAa q1 [] (by simp[go_sem]) (.inl rfl) (by simp[go_sem]) (fun _=>?_)
  simp(disch:=omega)[go_sem,d1,d2];refine zAa q2 [] (by simp[go_sem]) (.inl rfl) (by simp[go_sem]) (fun _=>?_)
  simp(disch:=omega)[go_sem];refine zAa q3 [] (by simp[go_sem]) (.inl rfl) (by simp[go_sem]) (fun _=>?_)
  simp(disch:=omega)[go_sem]
 |true=>
 cases b4 with
 |false=>
  simp only[Bool.false_and,Bool.and_false]at hB;subst hB;refine zAd mixed Tryz.func73 rfl rfl (by simp[Tryz.ntmps73]) fun hwf E=>?_
  clear hwf;simp(disch:=omega)[Tryz.ntmps73,go_sem];refine zAa q1 [] (by simp[go_sem]) (.inl rfl) (by simp[go_sem]) (fun _=>?_)
  simp(disch:=omega)[go_sem,d1,d2];refine zAa q2 [] (by simp[go_sem]) (.inl rfl) (by simp[go_sem]) (fun _=>?_)
  simp(disch:=omega)[go_sem];refine zAa q3 [] (by simp[go_sem]) (.inl rfl) (by simp[go_sem]) (fun _=>?_)
  simp(disch:=omega)[go_sem];refine zAa q4 [] (by simp[go_sem]) (.inl rfl) (by simp[go_sem]) (fun _=>?_)
  simp(disch:=omega)[go_sem]
 |true=>
 by_cases c3:0≤x.tick
 rotate_left
 ·have d3:decide (x.tick<0)=true:=by simp;omega
  rw[decide_eq_false c3]at hB;simp only[Bool.false_and,Bool.and_false]at hB;subst hB;refine zAd mixed Tryz.func73 rfl rfl (by simp[Tryz.ntmps73]) fun hwf E=>?_
  clear hwf;simp(disch:=omega)[Tryz.ntmps73,go_sem];refine zAa q1 [] (by simp[go_sem]) (.inl rfl) (by simp[go_sem]) (fun _=>?_)
  simp(disch:=omega)[go_sem,d1,d2];refine zAa q2 [] (by simp[go_sem]) (.inl rfl) (by simp[go_sem]) (fun _=>?_)
  simp(disch:=omega)[go_sem];refine zAa q3 [] (by simp[go_sem]) (.inl rfl) (by simp[go_sem]) (fun _=>?_)
  simp(disch:=omega)[go_sem];refine zAa q4 [] (by simp[go_sem]) (.inl rfl) (by simp[go_sem]) (fun _=>?_)
  simp(disch:=omega)[go_sem,d3]
 have d3:decide (x.tick<0)=false:=by simp;omega
 by_cases c4:x.tick≤1073741824
 rotate_left
 ·have d4:decide (1073741824<x.tick)=true:=by simp;omega
  rw[decide_eq_false c4]at hB;simp only[Bool.false_and,Bool.and_false]at hB;subst hB;refine zAd mixed Tryz.func73 rfl rfl (by simp[Tryz.ntmps73]) fun hwf E=>?_
  clear hwf;simp(disch:=omega)[Tryz.ntmps73,go_sem];refine zAa q1 [] (by simp[go_sem]) (.inl rfl) (by simp[go_sem]) (fun _=>?_)
  simp(disch:=omega)[go_sem,d1,d2];refine zAa q2 [] (by simp[go_sem]) (.inl rfl) (by simp[go_sem]) (fun _=>?_)
  simp(disch:=omega)[go_sem];refine zAa q3 [] (by simp[go_sem]) (.inl rfl) (by simp[go_sem]) (fun _=>?_)
  simp(disch:=omega)[go_sem];refine zAa q4 [] (by simp[go_sem]) (.inl rfl) (by simp[go_sem]) (fun _=>?_)
  simp(disch:=omega)[go_sem,d3,d4]
 have d4:decide (1073741824<x.tick)=false:=by simp;omega
 rw[decide_eq_true c3,decide_eq_true c4]at hB
 by_cases c5:e5=0
 rotate_left
 ·have d5:(e5 != 0)=true:=by simpa using c5
  rw[decide_eq_false c5]at hB;simp only[Bool.false_and,Bool.and_false]at hB;subst hB;refine zAd mixed Tryz.func73 rfl rfl (by simp[Tryz.ntmps73]) fun hwf E=>?_
  clear hwf;simp(disch:=omega)[Tryz.ntmps73,go_sem];refine zAa q1 [] (by simp[go_sem]) (.inl rfl) (by simp[go_sem]) (fun _=>?_)
  simp(disch:=omega)[go_sem,d1,d2];refine zAa q2 [] (by simp[go_sem]) (.inl rfl) (by simp[go_sem]) (fun _=>?_)
  simp(disch:=omega)[go_sem];refine zAa q3 [] (by simp[go_sem]) (.inl rfl) (by simp[go_sem]) (fun _=>?_)
  simp(disch:=omega)[go_sem];refine zAa q4 [] (by simp[go_sem]) (.inl rfl) (by simp[go_sem]) (fun _=>?_)
  simp(disch:=omega)[go_sem,d3,d4];refine zAa q5 [] (by simp[go_sem]) (.inl rfl) (by simp[go_sem]) (fun _=>?_) (by simp[tabG,go_sem])
  simp(disch:=omega)[go_sem,d5]
 subst c5
 by_cases c6:e6=0
 rotate_left
 ·have d6:(e6 != 0)=true:=by simpa using c6
  rw[decide_eq_false c6]at hB;simp only[Bool.false_and,Bool.and_false]at hB;subst hB;refine zAd mixed Tryz.func73 rfl rfl (by simp[Tryz.ntmps73]) fun hwf E=>?_
  clear hwf;simp(disch:=omega)[Tryz.ntmps73,go_sem];refine zAa q1 [] (by simp[go_sem]) (.inl rfl) (by simp[go_sem]) (fun _=>?_)
  simp(disch:=omega)[go_sem,d1,d2];refine zAa q2 [] (by simp[go_sem]) (.inl rfl) (by simp[go_sem]) (fun _=>?_)
  simp(disch:=omega)[go_sem];refine zAa q3 [] (by simp[go_sem]) (.inl rfl) (by simp[go_sem]) (fun _=>?_)
  simp(disch:=omega)[go_sem];refine zAa q4 [] (by simp[go_sem]) (.inl rfl) (by simp[go_sem]) (fun _=>?_)
  simp(disch:=omega)[go_sem,d3,d4];refine zAa q5 [] (by simp[go_sem]) (.inl rfl) (by simp[go_sem]) (fun _=>?_) (by simp[tabG,go_sem])
  simp(disch:=omega)[go_sem];refine zAa q6 [] (by simp[go_sem]) (.inl rfl) (by simp[go_sem]) (fun _=>?_) (by simp[tabG,go_sem])
  simp(disch:=omega)[go_sem,d6]
 subst c6
 by_cases c7:e7=0
 rotate_left
 ·have d7:(e7 != 0)=true:=by simpa using c7
  rw[decide_eq_false c7]at hB;simp only[Bool.false_and,Bool.and_false]at hB;subst hB;refine zAd mixed Tryz.func73 rfl rfl (by simp[Tryz.ntmps73]) fun hwf E=>?_
  clear hwf;simp(disch:=omega)[Tryz.ntmps73,go_sem];refine zAa q1 [] (by simp[go_sem]) (.inl rfl) (by simp[go_sem]) (fun _=>?_)
  simp(disch:=omega)[go_sem,d1,d2];refine zAa q2 [] (by simp[go_sem]) (.inl rfl) (by simp[go_sem]) (fun _=>?_)
  simp(disch:=omega)[go_sem];refine zAa q3 [] (by simp[go_sem]) (.inl rfl) (by simp[go_sem]) (fun _=>?_)
  simp(disch:=omega)[go_sem];refine zAa q4 [] (by simp[go_sem]) (.inl rfl) (by simp[go_sem]) (fun _=>?_)
  simp(disch:=omega)[go_sem,d3,d4];refine zAa q5 [] (by simp[go_sem]) (.inl rfl) (by simp[go_sem]) (fun _=>?_) (by simp[tabG,go_sem])
  simp(disch:=omega)[go_sem];refine zAa q6 [] (by simp[go_sem]) (.inl rfl) (by simp[go_sem]) (fun _=>?_) (by simp[tabG,go_sem])
  simp(disch:=omega)[go_sem];refine zAa q7 [] (by simp[go_sem]) (.inl rfl) (by simp[go_sem]) (fun _=>?_)
  simp(disch:=omega)[go_sem,d7]
 subst c7
 by_cases c8:x.rest.length≤2048
 rotate_left
 ·have d8:decide ((2048:Int)<(x.rest.length:Int))=true:=decide_eq_true (by omega)
  rw[decide_eq_false c8]at hR;simp only[Bool.false_and]at hR;rw[hR]at hB;simp only[Bool.false_and,Bool.and_false]at hB;subst hB;have p9:0<x.rest.length:=by omega
  obtain⟨r0,rr,hr⟩:∃r0 rr,x.rest=r0::rr:=by
   cases h:x.rest with
   |nil=>exact absurd (by rw[h];simp) c8
   |cons a b=>exact⟨a,b,rfl⟩
  have hn:nth (bts x.rest) 0= .int .u8 r0.toNat:=by rw[hr];rfl
  refine zAd mixed Tryz.func73 rfl rfl (by simp[Tryz.ntmps73]) fun hwf E=>?_
  clear hwf;simp(disch:=omega)[Tryz.ntmps73,go_sem];refine zAa q1 [] (by simp[go_sem]) (.inl rfl) (by simp[go_sem]) (fun _=>?_)
  simp(disch:=omega)[go_sem,d1,d2];refine zAa q2 [] (by simp[go_sem]) (.inl rfl) (by simp[go_sem]) (fun _=>?_)
  simp(disch:=omega)[go_sem];refine zAa q3 [] (by simp[go_sem]) (.inl rfl) (by simp[go_sem]) (fun _=>?_)
  simp(disch:=omega)[go_sem];refine zAa q4 [] (by simp[go_sem]) (.inl rfl) (by simp[go_sem]) (fun _=>?_)
  simp(disch:=omega)[go_sem,d3,d4];refine zAa q5 [] (by simp[go_sem]) (.inl rfl) (by simp[go_sem]) (fun _=>?_) (by simp[tabG,go_sem])
  simp(disch:=omega)[go_sem];refine zAa q6 [] (by simp[go_sem]) (.inl rfl) (by simp[go_sem]) (fun _=>?_) (by simp[tabG,go_sem])
  simp(disch:=omega)[go_sem];refine zAa q7 [] (by simp[go_sem]) (.inl rfl) (by simp[go_sem]) (fun _=>?_)
  simp(disch:=omega)[go_sem,d8,hn,p9]
 have d8:decide ((2048:Int)<(x.rest.length:Int))=false:=decide_eq_false (by omega)
 rw[decide_eq_true c8,Bool.true_and]at hR
 -- the last zIw
 by_cases c9:x.rest.length=0
 ·have d9:decide ((0:Int)<(x.rest.length:Int))=false:=decide_eq_false (by omega)
  rw[decide_eq_true c9,Bool.true_or]at hR;subst hR;simp only[Bool.true_and,Bool.and_true,decide_true]at hB;have hn:nth (bts x.rest) 0= .bot:=by rw[List.eq_nil_of_length_eq_zero c9];rfl
  have hp:zCt Tryz.prog 5 .bot 0=some .bot:=by kernel_rfl
  refine zAd mixed Tryz.func73 rfl rfl (by simp[Tryz.ntmps73]) fun hwf E=>?_
  clear hwf;simp(disch:=omega)[Tryz.ntmps73,go_sem];refine zAa q1 [] (by simp[go_sem]) (.inl rfl) (by simp[go_sem]) (fun _=>?_)
  simp(disch:=omega)[go_sem,d1,d2];refine zAa q2 [] (by simp[go_sem]) (.inl rfl) (by simp[go_sem]) (fun _=>?_)
  simp(disch:=omega)[go_sem];refine zAa q3 [] (by simp[go_sem]) (.inl rfl) (by simp[go_sem]) (fun _=>?_)
  simp(disch:=omega)[go_sem];refine zAa q4 [] (by simp[go_sem]) (.inl rfl) (by simp[go_sem]) (fun _=>?_)
  simp(disch:=omega)[go_sem,d3,d4];refine zAa q5 [] (by simp[go_sem]) (.inl rfl) (by simp[go_sem]) (fun _=>?_) (by simp[tabG,go_sem])
  simp(disch:=omega)[go_sem];refine zAa q6 [] (by simp[go_sem]) (.inl rfl) (by simp[go_sem]) (fun _=>?_) (by simp[tabG,go_sem])
  simp(disch:=omega)[go_sem];refine zAa q7 [] (by simp[go_sem]) (.inl rfl) (by simp[go_sem]) (fun _=>?_)
  simp(disch:=omega)[go_sem,d8,hn,hp];refine⟨List.eq_nil_of_length_eq_zero c9,?_⟩;refine zAa q9 [] (by simp[go_sem]) (.inl rfl) (by simp[go_sem]) (fun _=>?_) (by simp[tabG,go_sem])
  simp(disch:=omega)[go_sem];cases b9 with
  |true=>
   simp only[Bool.true_or,Bool.true_and]at hB;simp(disch:=omega)[go_sem];cases b11 with
   |false=>
    simp only[Bool.false_and]at hB;subst hB;refine zAa q11 [] (by simp[go_sem]) (.inl rfl) (by simp[go_sem]) (fun _=>?_) (by simp[tabG,go_sem])
    simp(disch:=omega)[go_sem]
   |true=>
    simp only[Bool.true_and]at hB;subst hB;refine zAa q11 [] (by simp[go_sem]) (.inl rfl) (by simp[go_sem]) (fun _=>?_) (by simp[tabG,go_sem])
    simp(disch:=omega)[go_sem];refine zAa q12 [] (by simp[go_sem]) (.inl rfl) (by simp[go_sem]) (fun _=>?_) (by simp[tabG,go_sem])
    simp(disch:=omega)[go_sem]
  |false=>
   simp(disch:=omega)[go_sem];refine zAa q10 [] (by simp[go_sem]) (.inl rfl) (by simp[go_sem]) (fun _=>?_)
   simp(disch:=omega)[go_sem];cases b10 with
   |false=>
    simp only[Bool.false_or,Bool.false_and]at hB;subst hB;simp(disch:=omega)[go_sem]
   |true=>
    simp only[Bool.false_or,Bool.true_and]at hB;simp(disch:=omega)[go_sem];cases b11 with
    |false=>
     simp only[Bool.false_and]at hB;subst hB;refine zAa q11 [] (by simp[go_sem]) (.inl rfl) (by simp[go_sem]) (fun _=>?_) (by simp[tabG,go_sem])
     simp(disch:=omega)[go_sem]
    |true=>
     simp only[Bool.true_and]at hB;subst hB;refine zAa q11 [] (by simp[go_sem]) (.inl rfl) (by simp[go_sem]) (fun _=>?_) (by simp[tabG,go_sem])
     simp(disch:=omega)[go_sem];refine zAa q12 [] (by simp[go_sem]) (.inl rfl) (by simp[go_sem]) (fun _=>?_) (by simp[tabG,go_sem])
     simp(disch:=omega)[go_sem]
 ·have d9:decide ((0:Int)<(x.rest.length:Int))=true:=decide_eq_true (by omega)
  have p9:0<x.rest.length:=by omega
  obtain⟨r0,rr,hr⟩:∃r0 rr,x.rest=r0::rr:=by
   cases h:x.rest with
   |nil=>exact absurd (by rw[h];rfl) c9
   |cons a b=>exact⟨a,b,rfl⟩
  have hn:nth (bts x.rest) 0= .int .u8 r0.toNat:=by rw[hr];rfl
  have hdr:(List.take x.rest.length (bts x.rest)).tail=bts rr:=by rw[hr];simp only[bts,List.map_cons,List.length_cons,List.take_succ_cons,List.tail_cons];exact List.take_of_length_le (by simp)
  have hll:x.rest.length=rr.length+1:=by rw[hr];rfl
  have e0:x.rest.getD 0 0=r0:=by rw[hr];rfl
  have e1:x.rest.drop 1=rr:=by rw[hr];rfl
  have q8:=zVj rr 126;rw[decide_eq_false c9,Bool.false_or,e0,e1]at hR;generalize idxN rr 126=ix at *;by_cases c10:r0=126
  rotate_left
  ·have d10:(((r0.toNat:Nat):Int) != 126)=true:=by
    simp only[bne_iff_ne,ne_eq];intro h;exact c10 (UInt8.toNat_inj.1 (by show r0.toNat=126;omega))
   rw[decide_eq_false c10,Bool.false_and]at hR;subst hR;simp only[Bool.false_and,Bool.and_false]at hB;subst hB;refine zAd mixed Tryz.func73 rfl rfl (by simp[Tryz.ntmps73]) fun hwf E=>?_
   clear hwf;simp(disch:=omega)[Tryz.ntmps73,go_sem];refine zAa q1 [] (by simp[go_sem]) (.inl rfl) (by simp[go_sem]) (fun _=>?_)
   simp(disch:=omega)[go_sem,d1,d2];refine zAa q2 [] (by simp[go_sem]) (.inl rfl) (by simp[go_sem]) (fun _=>?_)
   simp(disch:=omega)[go_sem];refine zAa q3 [] (by simp[go_sem]) (.inl rfl) (by simp[go_sem]) (fun _=>?_)
   simp(disch:=omega)[go_sem];refine zAa q4 [] (by simp[go_sem]) (.inl rfl) (by simp[go_sem]) (fun _=>?_)
   simp(disch:=omega)[go_sem,d3,d4];refine zAa q5 [] (by simp[go_sem]) (.inl rfl) (by simp[go_sem]) (fun _=>?_) (by simp[tabG,go_sem])
   simp(disch:=omega)[go_sem];refine zAa q6 [] (by simp[go_sem]) (.inl rfl) (by simp[go_sem]) (fun _=>?_) (by simp[tabG,go_sem])
   simp(disch:=omega)[go_sem];refine zAa q7 [] (by simp[go_sem]) (.inl rfl) (by simp[go_sem]) (fun _=>?_)
   simp(disch:=omega)[go_sem,d8,hn,hdr,p9,d10]
  have d10:(((r0.toNat:Nat):Int) != 126)=false:=by rw[c10];rfl
  rw[decide_eq_true c10,Bool.true_and]at hR;by_cases c11:ix<0
  rotate_left
  ·have d11:decide ((0:Int)≤ix)=true:=decide_eq_true (by omega)
   rw[decide_eq_false c11]at hR;subst hR;simp only[Bool.false_and,Bool.and_false]at hB;subst hB;refine zAd mixed Tryz.func73 rfl rfl (by simp[Tryz.ntmps73]) fun hwf E=>?_
   clear hwf;simp(disch:=omega)[Tryz.ntmps73,go_sem];refine zAa q1 [] (by simp[go_sem]) (.inl rfl) (by simp[go_sem]) (fun _=>?_)
   simp(disch:=omega)[go_sem,d1,d2];refine zAa q2 [] (by simp[go_sem]) (.inl rfl) (by simp[go_sem]) (fun _=>?_)
   simp(disch:=omega)[go_sem];refine zAa q3 [] (by simp[go_sem]) (.inl rfl) (by simp[go_sem]) (fun _=>?_)
   simp(disch:=omega)[go_sem];refine zAa q4 [] (by simp[go_sem]) (.inl rfl) (by simp[go_sem]) (fun _=>?_)
   simp(disch:=omega)[go_sem,d3,d4];refine zAa q5 [] (by simp[go_sem]) (.inl rfl) (by simp[go_sem]) (fun _=>?_) (by simp[tabG,go_sem])
   simp(disch:=omega)[go_sem];refine zAa q6 [] (by simp[go_sem]) (.inl rfl) (by simp[go_sem]) (fun _=>?_) (by simp[tabG,go_sem])
   simp(disch:=omega)[go_sem];refine zAa q7 [] (by simp[go_sem]) (.inl rfl) (by simp[go_sem]) (fun _=>?_)
   simp(disch:=omega)[go_sem,d8,hn,hdr,p9,d10];refine⟨by omega,?_⟩
   refine zAa q8 [] (by simp[go_sem]) (.inl rfl) (by simp[go_sem]) (fun _=>?_)
   simp(disch:=omega)[go_sem,d11]
  have d11:decide ((0:Int)≤ix)=false:=decide_eq_false (by omega)
  rw[decide_eq_true c11]at hR;subst hR;simp only[Bool.true_and,Bool.and_true,decide_true]at hB;refine zAd mixed Tryz.func73 rfl rfl (by simp[Tryz.ntmps73]) fun hwf E=>?_
  clear hwf;simp(disch:=omega)[Tryz.ntmps73,go_sem];refine zAa q1 [] (by simp[go_sem]) (.inl rfl) (by simp[go_sem]) (fun _=>?_)
  simp(disch:=omega)[go_sem,d1,d2];refine zAa q2 [] (by simp[go_sem]) (.inl rfl) (by simp[go_sem]) (fun _=>?_)
  simp(disch:=omega)[go_sem];refine zAa q3 [] (by simp[go_sem]) (.inl rfl) (by simp[go_sem]) (fun _=>?_)
  simp(disch:=omega)[go_sem];refine zAa q4 [] (by simp[go_sem]) (.inl rfl) (by simp[go_sem]) (fun _=>?_)
  simp(disch:=omega)[go_sem,d3,d4];refine zAa q5 [] (by simp[go_sem]) (.inl rfl) (by simp[go_sem]) (fun _=>?_) (by simp[tabG,go_sem])
  simp(disch:=omega)[go_sem];refine zAa q6 [] (by simp[go_sem]) (.inl rfl) (by simp[go_sem]) (fun _=>?_) (by simp[tabG,go_sem])
  simp(disch:=omega)[go_sem];refine zAa q7 [] (by simp[go_sem]) (.inl rfl) (by simp[go_sem]) (fun _=>?_)
  simp(disch:=omega)[go_sem,d8,hn,hdr,p9,d10];refine⟨by omega,?_⟩
  refine zAa q8 [] (by simp[go_sem]) (.inl rfl) (by simp[go_sem]) (fun _=>?_)
  simp(disch:=omega)[go_sem,d11];refine zAa q9 [] (by simp[go_sem]) (.inl rfl) (by simp[go_sem]) (fun _=>?_) (by simp[tabG,go_sem])
  simp(disch:=omega)[go_sem];cases b9 with
  |true=>
   simp only[Bool.true_or,Bool.true_and]at hB;simp(disch:=omega)[go_sem];cases b11 with
   |false=>
    simp only[Bool.false_and]at hB;subst hB;refine zAa q11 [] (by simp[go_sem]) (.inl rfl) (by simp[go_sem]) (fun _=>?_) (by simp[tabG,go_sem])
    simp(disch:=omega)[go_sem]
   |true=>
    simp only[Bool.true_and]at hB;subst hB;refine zAa q11 [] (by simp[go_sem]) (.inl rfl) (by simp[go_sem]) (fun _=>?_) (by simp[tabG,go_sem])
    simp(disch:=omega)[go_sem];refine zAa q12 [] (by simp[go_sem]) (.inl rfl) (by simp[go_sem]) (fun _=>?_) (by simp[tabG,go_sem])
    simp(disch:=omega)[go_sem]
  |false=>
   simp(disch:=omega)[go_sem];refine zAa q10 [] (by simp[go_sem]) (.inl rfl) (by simp[go_sem]) (fun _=>?_)
   simp(disch:=omega)[go_sem];cases b10 with
   |false=>
    simp only[Bool.false_or,Bool.false_and]at hB;subst hB;simp(disch:=omega)[go_sem]
   |true=>
    simp only[Bool.false_or,Bool.true_and]at hB;simp(disch:=omega)[go_sem];cases b11 with
    |false=>
     simp only[Bool.false_and]at hB;subst hB;refine zAa q11 [] (by simp[go_sem]) (.inl rfl) (by simp[go_sem]) (fun _=>?_) (by simp[tabG,go_sem])
     simp(disch:=omega)[go_sem]
    |true=>
     simp only[Bool.true_and]at hB;subst hB;refine zAa q11 [] (by simp[go_sem]) (.inl rfl) (by simp[go_sem]) (fun _=>?_) (by simp[tabG,go_sem])
     simp(disch:=omega)[go_sem];refine zAa q12 [] (by simp[go_sem]) (.inl rfl) (by simp[go_sem]) (fun _=>?_) (by simp[tabG,go_sem])
     simp(disch:=omega)[go_sem]
noncomputable def zPg(s:Sit)(x:LocN):Int:=if zAl s≠0 then zAl s else if yBn s x=false then 230 else 0
theorem yGg(s:Sit)(x:LocN)(hc:x.calls<4294967296):FnD Tryz.prog 30 [sitV s,locV x] (.int .i64 (zPg s x)) tabG:=by
 have hxp:=zIy x
 have hsp:=zGt s
 have q1:=zCc s
 have hsv:=zAr s
 have hC:zPg s x=if zAl s≠0 then zAl s else if yBn s x=false then 230 else 0:=rfl
 by_cases hs:zAk s
 ·have q2:=ySv s x hs hc;rw[zEr hs]at q1 hC;rw[if_neg (by simp)]at hC
  generalize yBn s x=m at *;generalize zPg s x=r at *;rw[hsv]at q1 q2 ⊢;rw[zGc]at q2 ⊢;subst hC;cases m with
  |true=>
   refine zAd mixed Tryz.func30 rfl rfl (by simp[Tryz.ntmps30]) fun hwf E=>?_
   clear hwf;simp(disch:=omega)[Tryz.ntmps30,go_sem];refine zAa q1 [] (by simp[go_sem]) (.inl rfl) (by simp[go_sem]) (fun _=>?_) (by simp[tabG,go_sem])
   simp(disch:=omega)[go_sem];refine zAa q2 [] (by simp[go_sem]) (.inl rfl) (by simp[go_sem]) (fun _=>?_) (by simp[tabG,go_sem])
   simp(disch:=omega)[go_sem]
  |false=>
   refine zAd mixed Tryz.func30 rfl rfl (by simp[Tryz.ntmps30]) fun hwf E=>?_
   clear hwf;simp(disch:=omega)[Tryz.ntmps30,go_sem];refine zAa q1 [] (by simp[go_sem]) (.inl rfl) (by simp[go_sem]) (fun _=>?_) (by simp[tabG,go_sem])
   simp(disch:=omega)[go_sem];refine zAa q2 [] (by simp[go_sem]) (.inl rfl) (by simp[go_sem]) (fun _=>?_) (by simp[tabG,go_sem])
   simp(disch:=omega)[go_sem]
 ·rw[zLy hs]at q1 hC;rw[if_pos (by simp)]at hC
  generalize zPg s x=r at *;rw[hsv]at q1 ⊢;rw[zGc];subst hC;refine zAd mixed Tryz.func30 rfl rfl (by simp[Tryz.ntmps30]) fun hwf E=>?_
  clear hwf;simp(disch:=omega)[Tryz.ntmps30,go_sem];refine zAa q1 [] (by simp[go_sem]) (.inl rfl) (by simp[go_sem]) (fun _=>?_) (by simp[tabG,go_sem])
  simp(disch:=omega)[go_sem]
end
section
attribute [local go_sem] zAm zAh
theorem yTe(s:Sit)(x:LocN)(i:InpN)(hc:x.calls<4294967296)(h:zPg s x≠0) :
  FnD Tryz.prog 17 [sitV s,locV x,inpV i] (.tup [locV loc0,.sl 1 [],.sl 1 [],.int .i64 (zPg s x)]) tabG:=by
 have q1:=yGg s x hc
 generalize zPg s x=c at *
 have hxp:=zIy x
 have hsp:=zGt s
 have hsv:=zAr s
 have hiv:inpV i= .agg [.sl 1 (bts i.bytes),.int .u32 i.eyes,.sl 1 (lts i.back),.bool i.lost,.int .i64 i.whole,.int .i64 i.torn,.bool i.rot]:=rfl
 have hib:=zAg i.bytes
 have hil:=zCl i.back
 have hlv:locV x= .agg (locL x):=rfl
 have hll:(locL x).length=27:=rfl
 have hlp:=zOl x
 rw[hsv]at q1 ⊢
 rw[hiv]
 rw[hlv]at q1 hxp ⊢
 generalize locL x=L at *
 have b0:bts ([]:List UInt8)=[]:=rfl
 have i0:ints ([]:List Int)=[]:=rfl
 refine zAd mixed Tryz.func17 rfl rfl (by simp[Tryz.ntmps17]) fun hwf E=>?_
 clear hwf
 simp(disch:=omega)[Tryz.ntmps17,go_sem,hll]
 refine zAa q1 [] (by simp[go_sem,hlp]) (.inl rfl) (by simp[go_sem]) (fun _=>?_) (by simp[tabG,go_sem])
 simp(disch:=omega)[go_sem]
 refine zAc (fun b1=>?_) (fun b1=>?_)<;>simp at b1
 ·simp(disch:=omega)[go_sem];simp[locV,locL,loc0,bts,ints,go_sem]
 ·exact absurd b1 h
end
section
attribute [local go_sem] zAm zAh
theorem yUf:zHf sT dT [inp0,inp0,inpL,inp0] 4=[[1,1],[1,1],[4,4],[1,1]]:=by
 have hd:dT.length≤1048576:=by rw[zPa];decide
 have hok:=yJb (s:=sT) zEn hd [inp0,inp0,inpL,inp0]
 have s0:=zQy.1
 have s1:=zFv (hok 0) s0
 have s2:=zFv (hok 1) s1.1
 have s3:=ySs (hok 2) s2.1
 have s4:=zFv (hok 3) s3.1
 have n0:(lcK sT dT [inp0,inp0,inpL,inp0] 0).now=⟨[⟨1,1,1048576⟩,⟨1,1,1048576⟩],2,false⟩:=zQy.2.2.trans zYa
 have n1:=zQb (i:=inp0) (hok 0)
 rw[s1.2,n0]at n1
 have l1:=s1.2
 rw[n0]at l1
 have e1:(lcK sT dT [inp0,inp0,inpL,inp0] 1).now=zBe sT ⟨[⟨1,1,1048576⟩,⟨1,1,1048576⟩],2,false⟩ [1,1]:=n1
 have n2:=zQb (i:=inp0) (hok 1)
 rw[s2.2,e1]at n2
 have l2:=s2.2
 rw[e1]at l2
 have e2:(lcK sT dT [inp0,inp0,inpL,inp0] 2).now=zBe sT (zBe sT ⟨[⟨1,1,1048576⟩,⟨1,1,1048576⟩],2,false⟩ [1,1]) [1,1]:=n2
 have n3:=zQb (i:=inpL) (hok 2)
 rw[s3.2,e2]at n3
 have l3:=s3.2
 have e3:(lcK sT dT [inp0,inp0,inpL,inp0] 3).now=zBe sT (zBe sT (zBe sT ⟨[⟨1,1,1048576⟩,⟨1,1,1048576⟩],2,false⟩ [1,1]) [1,1]) [4,4]:=n3
 have l4:=s4.2
 rw[e3]at l4
 show [_,_,_,_]=_
 refine congr (congrArg _ ?_) (congr (congrArg _ ?_) (congr (congrArg _ ?_) (congr (congrArg _ ?_) rfl)))
 ·exact l1.trans (by decide +kernel)
 ·exact l2.trans (by decide +kernel)
 ·exact l3
 ·exact l4.trans (by decide +kernel)
def sit0:Sit:=⟨0,[],[],[],[],[],0,0,0,0,0,[]⟩
theorem xCd:¬zAk sit0:=fun h=>absurd h.shaped.1.1 (by decide)
theorem yHx:twoB []=false:=by unfold twoB blkM blkE;rfl
theorem yJa:zPg sT loc0=230:=by
 have e:yBn sT loc0=false:=by
  unfold yBn;rw[show loc0.disk=[] from rfl,yHx]
  rfl
 unfold zPg
 rw[zNy,e];rfl
theorem zZv{R:V→V→Prop}{x y:V}(h:R x y):∀n,all2 R (List.replicate n x) (List.replicate n y)
 |0=>trivial
 |n+1=>⟨h,zZv h n⟩
set_option maxHeartbeats 8000000 in
theorem yFy:FnD Tryz.prog 6 [] (.bool true) tabG:=by
 have qa:=yDp
 have q1:=zVs
 have q2:=zUw
 have hd:dT.length≤1048576:=by rw[zPa];decide
 have q3:=zTw sT dT hd zEn yJx
 have q4:=yTc sT dT [inp0,inp0,inpL,inp0] zEn yJx hd (by decide) (by simp[inp0,inpL])
 rw[show [inp0,inp0,inpL,inp0].length=4 from rfl,yUf]at q4
 have q5:=zSm [[1,1],[1,1],[4,4],[1,1]] (by decide) (by simp) (by simp)
 rw[show zVf [[1,1],[1,1],[4,4],[1,1]]=[82,82,82,82,70,70,82,82] by decide]at q5
 have q6:=yGf sT [] zEn yHx
 have q7:=yGe sit0 dT xCd
 have q8:=yTe sT loc0 inp0 (by decide) (by rw[yJa];decide)
 rw[yJa]at q8
 have q9:=yTd sT dT (List.replicate 4097 inp0) zEn yJx hd (by rw[List.length_replicate];decide)
 rw[List.map_replicate]at q9
 have f1:(zDj sT dT).rung.mode=1:=by rw[zQy.1.rung]
 have f2:=zQy.2.1
 have f3:(zDj sT dT).now.start=2:=by rw[zQy.2.2,zYa]
 have hst:=zGt sT
 have hdp:=zAg dT
 have hm:=zGr sT dT [inp0,inp0,inpL,inp0] 4
 have hsv:=zAr sT
 have hX:=zIy (zDj sT dT)
 generalize zGr sT dT [inp0,inp0,inpL,inp0] 4=M at *
 have hMl:=zCl M
 rw[zGc]at q3 hX
 rw[f1,f2,f3]at q3 hX
 generalize zDj sT dT=X at *
 generalize hS:sitV sT=S at *
 generalize hD:dT=D at *
 have hs0:sitV sit0= .agg [.int .i64 0,.sl 3 [],.sl 1 [],.sl 1 [],.sl 5 [],.sl 4 [],.int .i64 0,.int .i64 0,.int .i64 0,.int .i64 0,.int .i64 0,.sl 3 []]:=rfl
 rw[hs0]at q7
 have b0:bts []=[]:=rfl
 have l0:lts []=[]:=rfl
 have hi0:inpV inp0= .agg [.sl 1 [],.int .u32 0,.sl 1 [],.bool false,.int .i64 0,.int .i64 0,.bool false]:=rfl
 have hiL:inpV inpL= .agg [.sl 1 [],.int .u32 0,.sl 1 [],.bool true,.int .i64 0,.int .i64 0,.bool false]:=rfl
 have hin:[inp0,inp0,inpL,inp0].map inpV=[inpV inp0,inpV inp0,inpV inpL,inpV inp0]:=rfl
 rw[hin]at q4
 have hl0:locV loc0= .agg [.sl 1 [],.sl 3 [],.int .i64 0,.bool false,.int .u8 0,.int .i64 0,.bool false,.int .i64 0,.int .i64 0,.bool false,.int .u32 0,.int .i64 0,.sl 1 [],.int .i64 0,.int .i64 0,.sl 1 [],.int .i64 0,.sl 3 [],.sl 5 [],.sl 5 [],.int .u32 0,.int .i64 0,.int .i64 0,.sl 1 [],.sl 1 [],.sl 1 [],.int .u32 0]:=rfl
 rw[hl0]at q6 q7 q8
 have hpr:=zTx (List.replicate 4097 inp0)
 rw[List.map_replicate,hi0]at hpr
 rw[hi0]at q4 q8 q9
 rw[hiL]at q4
 unfold devV at *
 rw[b0]at q6
 refine zAd mixed Tryz.func6 rfl rfl (by simp[Tryz.ntmps6]) fun hwf E=>?_
 clear hwf
 simp(disch:=omega)[Tryz.ntmps6,go_sem]
 refine zAa q1 [] (by simp[go_sem]) (.inl rfl) (by simp[go_sem,hst]) (fun _=>?_)
 simp(disch:=omega)[go_sem]
 refine zAa q2 [] (by simp[go_sem]) (.inl rfl) (by simp[go_sem]) (fun _=>?_)
 simp(disch:=omega)[go_sem]
 refine zAa q3 [] (by simp[go_sem,hst]) (.inl rfl) (by simp[go_sem]) (fun _=>?_) (by simp[tabG,go_sem])
 simp(disch:=omega)[go_sem]
 refine zAa q1 [] (by simp[go_sem]) (.inl rfl) (by simp[go_sem,hst]) (fun _=>?_)
 simp(disch:=omega)[go_sem]
 refine zAa q2 [] (by simp[go_sem]) (.inl rfl) (by simp[go_sem]) (fun _=>?_)
 simp(disch:=omega)[go_sem]
 refine zBx q4 [576] [(576,⟨.ro,42,7,[.agg [.sl 1 [],.int .u32 0,.sl 1 [],.bool false,.int .i64 0,.int .i64 0,.bool false],.agg [.sl 1 [],.int .u32 0,.sl 1 [],.bool false,.int .i64 0,.int .i64 0,.bool false],.agg [.sl 1 [],.int .u32 0,.sl 1 [],.bool true,.int .i64 0,.int .i64 0,.bool false],.agg [.sl 1 [],.int .u32 0,.sl 1 [],.bool false,.int .i64 0,.int .i64 0,.bool false]]⟩)] (by simp[go_sem,hst]) (by simp[go_sem]) (by simp[go_sem]) (fun _=>?_) (by simp[tabG,go_sem])
 simp(disch:=omega)[go_sem]
 refine zAa q5 [] (by simp[go_sem]) (.inl rfl) (by simp[go_sem]) (fun _=>?_)
 simp(disch:=omega)[go_sem,strV]
 refine zAa q1 [] (by simp[go_sem]) (.inl rfl) (by simp[go_sem,hst]) (fun _=>?_)
 simp(disch:=omega)[go_sem]
 refine zAa q6 [] (by simp[go_sem,hst]) (.inl rfl) (by simp[go_sem]) (fun _=>?_) (by simp[tabG,go_sem])
 simp(disch:=omega)[go_sem]
 refine zAa q2 [] (by simp[go_sem]) (.inl rfl) (by simp[go_sem]) (fun _=>?_)
 simp(disch:=omega)[go_sem]
 refine zAa q7 [] (by simp[go_sem]) (.inl rfl) (by simp[go_sem]) (fun _=>?_) (by simp[tabG,go_sem])
 simp(disch:=omega)[go_sem]
 refine zAa q1 [] (by simp[go_sem]) (.inl rfl) (by simp[go_sem,hst]) (fun _=>?_)
 simp(disch:=omega)[go_sem]
 refine zAa q8 [] (by simp[go_sem,hst]) (.inl rfl) (by simp[go_sem]) (fun _=>?_) (by simp[tabG,go_sem])
 simp(disch:=omega)[go_sem]
 refine zAa q1 [] (by simp[go_sem]) (.inl rfl) (by simp[go_sem,hst]) (fun _=>?_)
 simp(disch:=omega)[go_sem]
 have hRl:(List.replicate 4097 (V.agg [.nilS,.int .u32 0,.nilS,.bool false,.int .i64 0,.int .i64 0,.bool false])).length=4097:=List.length_replicate
 generalize hR:List.replicate 4097 (V.agg [.nilS,.int .u32 0,.nilS,.bool false,.int .i64 0,.int .i64 0,.bool false])=R at *
 refine zAa q2 [] (by simp[go_sem,-List.reduceReplicate]) (.inl rfl) (by simp[go_sem,-List.reduceReplicate]) (fun _=>?_)
 simp(disch:=omega)[go_sem,hR,-List.reduceReplicate]
 have hR2l:(List.replicate 4097 (V.agg [.sl 1 [],.int .u32 0,.sl 1 [],.bool false,.int .i64 0,.int .i64 0,.bool false])).length=4097:=List.length_replicate
 generalize hR2:List.replicate 4097 (V.agg [.sl 1 [],.int .u32 0,.sl 1 [],.bool false,.int .i64 0,.int .i64 0,.bool false])=R2 at *
 refine zBx q9 [1392] [(1392,⟨.ro,42,7,R2⟩)] ?_ ?_ ?_ (fun _=>?_) (by simp[tabG,go_sem])
 ·simp[go_sem,hst,hRl];rw[← hR,← hR2];exact zZv (by simp[go_sem]) _
 ·simp[go_sem];rw[← hR,← hR2];exact⟨zZv (by simp[go_sem]) _,hR2.symm▸hpr⟩
 ·simp[go_sem]
 simp(disch:=omega)[go_sem,l0,-List.reduceReplicate]
 refine⟨.inl (by kernel_rfl),?_⟩
 refine zAa qa [] (by simp[go_sem,-List.reduceReplicate]) (.inl rfl) (by simp[go_sem,-List.reduceReplicate]) (fun _=>?_) (by simp[tabG,go_sem])
 simp(disch:=omega)[go_sem,-List.reduceReplicate]
end
end Go.Proofs.YtlgbdpabcbcmcaaGreatDoor
