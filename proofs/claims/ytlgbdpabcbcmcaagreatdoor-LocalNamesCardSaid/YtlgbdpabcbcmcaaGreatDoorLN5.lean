/- Contracts and laws beneath the statement, in build order. -/
import Derived.Shelf.Bytes.SlIndexAt
import Derived.Test.YtlgbdpabcbcmcaaGreatDoorLN4
set_option linter.unusedSimpArgs false
set_option linter.unusedVariables false
namespace Go.Proofs.YtlgbdpabcbcmcaaGreatDoor
open Go.AM Go.RowKit
set_option maxRecDepth 100000
section
attribute [local go_sem] zAm zAh
theorem yZa(b:List UInt8)(hb:b.length≤1048576):FnR Tryz.prog 61 [] [.sl 1 (bts b)] [⟨.arr,5,1,bts b⟩] (.obj 0 b.length):=by
 have:=zZm (b.map fun x=>(x.toNat:Int)) (by simpa using hb)
 have e:lts (b.map fun x=>(x.toNat:Int))=bts b:=by simp[lts,bts]
 rw[e,List.length_map]at this
 exact this
def locL(x:LocN):List V:=
 [.sl 1 (bts x.disk),.sl 3 (x.now.groups.map zBb),.int .i64 x.now.start,.bool x.now.flashed,.int .u8 x.rung.mode,.int .i64 x.rung.well,.bool x.rung.lat,.int .i64 x.sph,.int .i64 x.ssi,.bool x.link.any,.int .u32 x.link.last,.int .i64 x.link.age,
  .sl 1 (bts x.rest),.int .i64 x.told.cycle,.int .i64 x.told.offset,.sl 1 (ints x.told.splits),.int .i64 x.age,.sl 3 (x.puls.map pulV),.sl 5 (x.eyes.map zCp),.sl 5 (x.gaps.map gapV),.int .u32 x.calls,.int .i64 x.wrong,.int .i64 x.tick,.sl 1 (ints x.greens),.sl 1 (ints x.busy),.sl 1 (ints x.came),.int .u32 x.sent]
def locV(x:LocN):V:= .agg (locL x)
def pul0:Pul:=(false,false,0)
def xDx:zCx:=⟨false,0,0,false,0⟩
def gap0:GapN:=⟨false,0,0,0,0⟩
noncomputable def zDj(s:Sit)(d:List UInt8):LocN:=
 { disk:=d,now:=zHl s,rung:=zHm (zCe d).mode,sph:=0,ssi:=0,link:=⟨false,0,0⟩,rest:=[],told:=⟨0,0,[]⟩,age:=1048576,puls:=List.replicate s.eyes.length pul0,eyes:=List.replicate s.eyes.length xDx,gaps:=List.replicate s.eyes.length gap0,calls:=0,wrong:=0,tick:=0,greens:=List.replicate s.phases.length 0,busy:=List.replicate s.phases.length 0,came:=List.replicate s.phases.length 0,sent:=0 }
set_option maxHeartbeats 2000000 in
theorem zTr(s:Sit)(d:List UInt8)(hOk:zAk s)(hd:d.length≤1048576):FnD Tryz.prog 26 [sitV s,devV d] (locV (zDj s d)) tabG:=by
 have hpu:=(⟨zBq s.groups,zBp s.phases,zBr s.eyes,zAs s.plans,zBn s.apart,zBo s.between⟩:_∧_∧_∧_∧_∧_)
 have q1:=zKi d
 have q2:=yPe s
 rw[zEr hOk]at q2
 simp only[if_true]at q2
 have q3:=yZa d hd
 have q4:=zYv (zCe d).mode
 have hX:zDj s d={ disk:=d,now:=zHl s,rung:=zHm (zCe d).mode,sph:=0,ssi:=0,link:=⟨false,0,0⟩,rest:=[],told:=⟨0,0,[]⟩,age:=1048576,puls:=List.replicate s.eyes.length pul0,eyes:=List.replicate s.eyes.length xDx,gaps:=List.replicate s.eyes.length gap0,calls:=0,wrong:=0,tick:=0,greens:=List.replicate s.phases.length 0,busy:=List.replicate s.phases.length 0,came:=List.replicate s.phases.length 0,sent:=0 }:=rfl
 have hsv:=zAr s
 rw[hsv]at q2 ⊢
 generalize zDj s d=X at *
 generalize zCe d=k at *
 generalize zHg d=e at *
 generalize zHl s=F at *
 generalize zHm k.mode=R at *
 unfold devV kepV safV runV at *
 refine zAd mixed Tryz.func26 rfl rfl (by simp[Tryz.ntmps26]) fun hwf E=>?_
 clear hwf
 simp(disch:=omega)[Tryz.ntmps26,go_sem]
 refine zAa q1 [] (by simp[go_sem]) (.inl rfl) (by simp[go_sem]) (fun _=>?_)
 simp(disch:=omega)[go_sem]
 refine zAa q2 [] (by simp[go_sem]) (.inl rfl) (by simp[go_sem]) (fun _=>?_) (by simp[tabG,go_sem])
 simp(disch:=omega)[go_sem]
 refine zAf q3 [] [] [] [] ?_ ?_ ?_ (.inl ⟨rfl,.inl rfl⟩) (fun _=>?_) (by simp[tabG,go_sem])
 iterate 3 (· simp[go_sem])
 simp(disch:=omega)[go_sem]
 refine zAa q4 [] (by simp[go_sem]) (.inl rfl) (by simp[go_sem]) (fun _=>?_)
 simp(disch:=omega)[go_sem]
 refine⟨.inl (by kernel_rfl),?_⟩
 have hel:s.eyes.length≤24:=hOk.shaped.2.2.2.2.1
 have hpl:s.phases.length≤8:=hOk.shaped.2.2.2.1.2
 refine⟨.inl (by kernel_rfl),⟨by omega,by omega⟩,⟨by omega,by omega⟩,.inl (by kernel_rfl),⟨by omega,by omega⟩,.inl (by kernel_rfl),?_⟩
 have m1:(List.replicate s.eyes.length pul0).map pulV=List.replicate s.eyes.length (.agg [.bool false,.bool false,.int .i64 0]):=by simp[pul0,pulV]
 have m2:(List.replicate s.eyes.length xDx).map zCp=List.replicate s.eyes.length (.agg [.bool false,.int .i64 0,.int .u64 0,.bool false,.int .i64 0]):=by simp[xDx,zCp]
 have m3:(List.replicate s.eyes.length gap0).map gapV=List.replicate s.eyes.length (.agg [.bool false,.int .i64 0,.int .i64 0,.int .i64 0,.int .u64 0]):=by simp[gap0,gapV]
 have m4:ints (List.replicate s.phases.length 0)=List.replicate s.phases.length (.int .i64 0):=by simp[ints]
 have b0:bts ([]:List UInt8)=[]:=rfl
 have i0:ints []=[]:=rfl
 have hpd:=zAg d
 subst hX
 simp only[locV,locL,m1,m2,m3,m4,b0,i0]
 have r1:∀(n:Nat) (v:V),v.pure→zBa (List.replicate n v):=fun n v h=>by
  induction n with
  |zero=>simp[zBa]
  |succ n ih=>rw[List.replicate_succ];exact⟨h,ih⟩
 simp[go_sem,hpd,zAm]
 and_intros<;>exact zAt (r1 _ _ (by simp[go_sem]))
theorem zOl(x:LocN):zBa (locL x):=by
 simp[locL,go_sem]
theorem zIy(x:LocN):(locV x).pure:=by
 have:=zOl x
 simpa[locV,V.pure] using this
def loc0:LocN:=⟨[],⟨[],0,false⟩,⟨0,0,false⟩,0,0,⟨false,0,0⟩,[],⟨0,0,[]⟩,0,[],[],[],0,0,0,[],[],[],0⟩
theorem zTw(s:Sit)(d:List UInt8)(hd:d.length≤1048576)(hOk:zAk s)(h2:twoB d=true):FnD Tryz.prog 12 [sitV s,devV d] (.tup [locV (zDj s d),.int .i64 0]) tabG:=by
 have hpu:=(⟨zBq s.groups,zBp s.phases,zBr s.eyes,zAs s.plans,zBn s.apart,zBo s.between⟩:_∧_∧_∧_∧_∧_)
 have q1:=zCc s
 rw[zEr hOk]at q1
 have q2:=zKw d
 rw[h2]at q2
 have q3:=zTr s d hOk hd
 have hX:=zOl (zDj s d)
 have hsv:=zAr s
 rw[hsv]at q1 q3 ⊢
 unfold devV locV at *
 have hLl:(locL (zDj s d)).length=27:=rfl
 generalize locL (zDj s d)=L at *
 refine zAd mixed Tryz.func12 rfl rfl (by simp[Tryz.ntmps12]) fun hwf E=>?_
 clear hwf
 simp(disch:=omega)[Tryz.ntmps12,go_sem]
 refine zAa q1 [] (by simp[go_sem]) (.inl rfl) (by simp[go_sem]) (fun _=>?_) (by simp[tabG,go_sem])
 simp(disch:=omega)[go_sem]
 refine zAa q2 [] (by simp[go_sem]) (.inl rfl) (by simp[go_sem]) (fun _=>?_)
 simp(disch:=omega)[go_sem]
 refine zAa q3 [] (by simp[go_sem]) (.inl rfl) (by simp[go_sem,hX]) (fun _=>?_) (by simp[tabG,go_sem])
 simp(disch:=omega)[go_sem,hLl]
theorem yGe(s:Sit)(d:List UInt8)(hOk:¬zAk s):FnD Tryz.prog 12 [sitV s,devV d] (.tup [locV loc0,.int .i64 50]) tabG:=by
 have q1:=zCc s
 rw[zLy hOk]at q1
 have hsv:=zAr s
 rw[hsv]at q1 ⊢
 unfold devV at *
 refine zAd mixed Tryz.func12 rfl rfl (by simp[Tryz.ntmps12]) fun hwf E=>?_
 clear hwf
 simp(disch:=omega)[Tryz.ntmps12,go_sem]
 refine zAa q1 [] (by simp[go_sem]) (.inl rfl) (by simp[go_sem]) (fun _=>?_) (by simp[tabG,go_sem])
 simp(disch:=omega)[go_sem]
 simp[locV,locL,loc0,bts,ints,go_sem]
theorem yGf(s:Sit)(d:List UInt8)(hOk:zAk s)(h2:twoB d=false):FnD Tryz.prog 12 [sitV s,devV d] (.tup [locV loc0,.int .i64 8]) tabG:=by
 have q1:=zCc s
 rw[zEr hOk]at q1
 have q2:=zKw d
 rw[h2]at q2
 have hsv:=zAr s
 rw[hsv]at q1 ⊢
 unfold devV at *
 refine zAd mixed Tryz.func12 rfl rfl (by simp[Tryz.ntmps12]) fun hwf E=>?_
 clear hwf
 simp(disch:=omega)[Tryz.ntmps12,go_sem]
 refine zAa q1 [] (by simp[go_sem]) (.inl rfl) (by simp[go_sem]) (fun _=>?_) (by simp[tabG,go_sem])
 simp(disch:=omega)[go_sem]
 refine zAa q2 [] (by simp[go_sem]) (.inl rfl) (by simp[go_sem]) (fun _=>?_)
 simp(disch:=omega)[go_sem]
 simp[locV,locL,loc0,bts,ints,go_sem]
end
section
attribute [local go_sem] zAm zAh
def snxS(s:Sit)(w:SafN)(l:List Int):SafN:=if mayS s w=false then saf0 else if zCk s w.groups w.start w.flashed l≠0 then w else zBe s w l
def snxF(s:Sit)(w:SafN)(l:List Int):Int:=if mayS s w=false then 0 else zCk s w.groups w.start w.flashed l
def snxE(s:Sit)(w:SafN):Int:=if mayS s w=false then 8 else 0
theorem yJs(s:Sit)(w:SafN)(l:List Int)(hOk:zAk s)(hw:w.groups.length≤1048576):FnD Tryz.prog 46 [sitV s,safV w,.sl 1 (lts l)] (.tup [safV (snxS s w l),.int .u8 (snxF s w l),.int .i64 (snxE s w)]) tabG:=by
 have q:=zXc s w l hw
 have e:zIb s w l= .tup [safV (snxS s w l),.int .u8 (snxF s w l),.int .i64 (snxE s w)]:=by
  unfold zIb snxS snxF snxE;rw[zEr hOk,if_neg (by simp)]
  by_cases h1:mayS s w=false
  ·simp[h1]
  ·rw[if_neg h1,if_neg h1,if_neg h1,if_neg h1];by_cases h2:zCk s w.groups w.start w.flashed l≠0
   ·rw[if_pos h2,if_pos h2]
   ·rw[if_neg h2,if_neg h2];rw[show zCk s w.groups w.start w.flashed l=0 by simpa using h2]
 rw[e]at q
 exact q
def zKf(t:TckN):Int:=min (max 0 t.i.whole) t.writes.length
def yLf(t:TckN):Int:=if zKf t=t.writes.length then 0 else min (max 0 t.i.torn) 63
def zRq(t:TckN):List UInt8:=doL t.x.disk t.writes (zKf t) (yLf t)
noncomputable def zPz(t:TckN):TckN:={ t with lights:=zFl t.s,x:={ zDj t.s (zRq t)with now:=snxS t.s t.x.now (zFl t.s),tick:=zGl t.x.tick 1073741824,sent:=t.x.sent } }
set_option maxHeartbeats 4000000 in
theorem ySt(t:TckN)(hOk:zAk t.s)(hd:(zRq t).length≤1048576)(hw:t.x.now.groups.length≤1048576)(htk:0≤t.x.tick∧t.x.tick≤1073741824):FnR Tryz.prog 39 [tckO t] [.ptr 0 1 0 0] [tckO (zPz t)] (.tup []) tabG:=by
 have hsh:=hOk.shaped.1
 have q1:=yYp t.x.disk t.writes (zKf t) (yLf t)
 have q2:=zTr t.s (zRq t) hOk hd
 have q3:=yJs t.s t.x.now (zFl t.s) hOk hw
 have q4:=zHi t.x.tick 1073741824 (by omega)
 have hD:doL t.x.disk t.writes (zKf t) (yLf t)=zRq t:=rfl
 have hT:yLf t=if zKf t=t.writes.length then 0 else min (max 0 t.i.torn) 63:=rfl
 have hW:zKf t=min (max 0 t.i.whole) t.writes.length:=rfl
 have hwI:(if(t.writes.length:Int)<(if 0<t.i.whole then t.i.whole else 0)then(t.writes.length:Int)else(if 0<t.i.whole then t.i.whole else 0))=zKf t:=by
  rw[hW];split<;>split at * <;>omega
 have htI:(if 63<(if 0<t.i.torn then t.i.torn else 0)then(63:Int)else(if 0<t.i.torn then t.i.torn else 0))=min (max 0 t.i.torn) 63:=by
  split<;>split at * <;>omega
 rw[hD]at q1
 generalize doE t.x.disk t.writes (zKf t) (yLf t)=de at *
 have hLT:zPz t={ t with lights:=zFl t.s,x:={ zDj t.s (zRq t)with now:=snxS t.s t.x.now (zFl t.s),tick:=zGl t.x.tick 1073741824,sent:=t.x.sent } }:=rfl
 generalize zPz t=LT at *
 generalize zDj t.s (zRq t)=X at *
 generalize zRq t=D at *
 have q5:=zWu { t with x:=X } hsh.1 (by simp only;omega)
 simp only at q5
 generalize zFl t.s=F at *
 generalize snxS t.s t.x.now F=N at *
 generalize snxF t.s t.x.now F=nf at *
 generalize snxE t.s t.x.now=ne at *
 have hsv:=zAr t.s
 rw[hsv]at q2 q3
 unfold devV at q1 q2
 unfold locV locL at q2
 unfold safV at q3
 subst hLT
 have hpL:=zCl F
 cases hb:(zKf t == (t.writes.length:Int))with
 |true=>
  rw[if_pos (by simpa using hb)]at hT
  rw[hT]at q1;refine zAv mixed Tryz.func39 rfl rfl (by simp[Tryz.ntmps39]) (by simp) fun hwf E=>?_
  clear hwf;simp(disch:=omega)[Tryz.ntmps39,go_sem,tckO,tckD,tckL,hwI,htI,hb];refine⟨.inl (by kernel_rfl),?_⟩
  refine zAa q1 [] (by simp[go_sem]) (.inl rfl) (by simp[go_sem]) (fun _=>?_)
  simp(disch:=omega)[go_sem];refine⟨.inl (by kernel_rfl),?_⟩
  refine zAa q2 [] (by simp[go_sem]) (.inl rfl) (by simp[go_sem]) (fun _=>?_) (by simp[tabG,go_sem])
  simp(disch:=omega)[go_sem];refine⟨.inl (by kernel_rfl),?_⟩
  refine zBm q5 [(0,some 0)] [0] ?_ ?_ ?_ ?_ (fun _=>?_) (by simp[tabG,go_sem])
  ·simp[go_sem]
  iterate 3 (· simp[go_sem,tckO,tckD,tckL])
  simp(disch:=omega)[go_sem,tckO,tckD,tckL];refine zAa q3 [] (by simp[go_sem]) (.inl rfl) (by simp[go_sem]) (fun _=>?_) (by simp[tabG,go_sem])
  simp(disch:=omega)[go_sem];refine⟨.inl (by kernel_rfl),?_⟩
  refine zAa q4 [] (by simp[go_sem]) (.inl rfl) (by simp[go_sem]) (fun _=>?_)
  simp(disch:=omega)[go_sem];refine⟨.inl (by kernel_rfl),?_⟩
  refine Le.mk [(0,some 0)] [0] ⟨rfl,rfl,rfl⟩ ?_ ?_ ?_<;>simp[go_sem]
 |false=>
  rw[if_neg (by simpa using hb)]at hT
  rw[hT]at q1;refine zAv mixed Tryz.func39 rfl rfl (by simp[Tryz.ntmps39]) (by simp) fun hwf E=>?_
  clear hwf;simp(disch:=omega)[Tryz.ntmps39,go_sem,tckO,tckD,tckL,hwI,htI,hb];refine⟨.inl (by kernel_rfl),?_⟩
  refine zAa q1 [] (by simp[go_sem]) (.inl rfl) (by simp[go_sem]) (fun _=>?_)
  simp(disch:=omega)[go_sem];refine⟨.inl (by kernel_rfl),?_⟩
  refine zAa q2 [] (by simp[go_sem]) (.inl rfl) (by simp[go_sem]) (fun _=>?_) (by simp[tabG,go_sem])
  simp(disch:=omega)[go_sem];refine⟨.inl (by kernel_rfl),?_⟩
  refine zBm q5 [(0,some 0)] [0] ?_ ?_ ?_ ?_ (fun _=>?_) (by simp[tabG,go_sem])
  ·simp[go_sem]
  iterate 3 (· simp[go_sem,tckO,tckD,tckL])
  simp(disch:=omega)[go_sem,tckO,tckD,tckL];refine zAa q3 [] (by simp[go_sem]) (.inl rfl) (by simp[go_sem]) (fun _=>?_) (by simp[tabG,go_sem])
  simp(disch:=omega)[go_sem];refine⟨.inl (by kernel_rfl),?_⟩
  refine zAa q4 [] (by simp[go_sem]) (.inl rfl) (by simp[go_sem]) (fun _=>?_)
  simp(disch:=omega)[go_sem];refine⟨.inl (by kernel_rfl),?_⟩
  refine Le.mk [(0,some 0)] [0] ⟨rfl,rfl,rfl⟩ ?_ ?_ ?_<;>simp[go_sem]
end
section
attribute [local go_sem] zAm zAh
noncomputable def zTv(s:Sit)(n:Int):Bool:=decide (zEg s n=0)&&decide (s.feed≤n)
theorem xEc(s:Sit)(n:Int):FnD Tryz.prog 96 [sitV s,.int .i64 n] (.tup [.bool (zTv s n),.int .i64 (zEg s n)]) tabG:=by
 have q:=yNk s n
 have e:zQv s n= .tup [.bool (zTv s n),.int .i64 (zEg s n)]:=by
  unfold zQv zTv;by_cases h:zEg s n=0
  ·simp[h]
  ·simp[h]
 rw[e]at q
 exact q
noncomputable def zJu(t:TckN):Int:=if(zMg t.s t.x.wrong (zBu t.x.now.groups) t.i.back).2≠0 then zGl t.x.wrong 1048576 else(zMg t.s t.x.wrong (zBu t.x.now.groups) t.i.back).1
noncomputable def zHn(t:TckN):TckN:={ t with x:={ t.x with wrong:=zJu t } }
noncomputable def zHo(t:TckN):FacN:=⟨!yDy t.x.told&&decide (t.x.age<t.s.watch),!t.i.rot&&decide (zHg t.x.disk=0)&&decide (0<(zCe t.x.disk).plans.length),(zXw t.s t.x.eyes).1,!zTv t.s (zJu t)⟩
def faF(t:TckN)(k:Nat):St:=⟨[(21,.int .i64 k),(20,.int .i64 t.x.now.groups.length),(19,.sl 3 (t.x.now.groups.map zBb)),(4,.obj 4096 k),(2,.ptr 16 1 0 0),(3,.ptr 32 1 0 0),(0,.ptr 0 1 0 0)],
 [(0,tckO t),(16,⟨.box,104,4,[.agg [.bool false,.bool false,.bool false,.bool false]]⟩),(32,⟨.box,106,3,[.agg [.int .i64 0,.int .u8 0,.nilS]]⟩),(4096,⟨.arr,5,1,lts ((zBu t.x.now.groups).take k)⟩)],8192,[],135,1,tabG⟩
set_option maxHeartbeats 4000000 in
theorem yOa(t:TckN)(hw:0≤t.x.wrong∧t.x.wrong≤1048576)(hg:t.x.now.groups.length≤1048576):FnR Tryz.prog 42 [tckO t] [.ptr 0 1 0 0] [tckO (zHn t)] (.tup [facV (zHo t),kepV (zCe t.x.disk)]) tabG:=by
 have q1:=zZr t.s t.x.wrong (zBu t.x.now.groups) t.i.back
 have q2:=zHi t.x.wrong 1048576 (by omega)
 have q3:=xEc t.s (zJu t)
 have q4:=zKi t.x.disk
 have q5:=yAd t.s t.x.eyes
 have q6:=yAa t.x.told
 have hFT:zHn t={ t with x:={ t.x with wrong:=zJu t } }:=rfl
 have hFF:zHo t=⟨!yDy t.x.told&&decide (t.x.age<t.s.watch),!t.i.rot&&decide (zHg t.x.disk=0)&&decide (0<(zCe t.x.disk).plans.length),(zXw t.s t.x.eyes).1,!zTv t.s (zJu t)⟩:=rfl
 have hWN:zJu t=if(zMg t.s t.x.wrong (zBu t.x.now.groups) t.i.back).2≠0 then zGl t.x.wrong 1048576 else(zMg t.s t.x.wrong (zBu t.x.now.groups) t.i.back).1:=rfl
 have hsl:(zBu t.x.now.groups).length=t.x.now.groups.length:=zEb _
 have hF0:∀k,faF t k=⟨[(21,.int .i64 k),(20,.int .i64 t.x.now.groups.length),(19,.sl 3 (t.x.now.groups.map zBb)),(4,.obj 4096 k),(2,.ptr 16 1 0 0),(3,.ptr 32 1 0 0),(0,.ptr 0 1 0 0)],
  [(0,tckO t),(16,⟨.box,104,4,[.agg [.bool false,.bool false,.bool false,.bool false]]⟩),(32,⟨.box,106,3,[.agg [.int .i64 0,.int .u8 0,.nilS]]⟩),(4096,⟨.arr,5,1,lts ((zBu t.x.now.groups).take k)⟩)],8192,[],135,1,tabG⟩:=fun _=>rfl
 have hsv:=zAr t.s
 have hpv:plnV t.x.told= .agg [.int .i64 t.x.told.cycle,.int .i64 t.x.told.offset,.sl 1 (ints t.x.told.splits)]:=rfl
 rw[hsv]at q1 q3 q5
 rw[hpv]at q6
 unfold devV kepV at q4
 have hl0:lts []=[]:=rfl
 refine zAv mixed Tryz.func42 rfl rfl (by simp[Tryz.ntmps42]) (by simp) fun hwf E=>?_
 clear hwf
 simp(disch:=omega)[Tryz.ntmps42,go_sem,tckO,tckD,tckL]
 refine zAe mixed (faF t) (fun k=>k≤t.x.now.groups.length) (fun k=>t.x.now.groups.length-k) 0 (by omega) ?_ ?_
 ·refine Le.mk [(0,some 0),(16,some 16),(32,some 32),(4096,none)] [0,16,32] ⟨rfl,rfl,rfl⟩ ?_ ?_ ?_<;>simp[go_sem,tckO,tckD,tckL,faF,hl0]
 ·intro k hk;rw[hF0];simp(disch:=omega)[go_sem,tckO,tckD,tckL];refine zAc (fun c1=>?_) (fun c1=>?_)<;>simp at c1
  ·have hsu:lts ((zBu t.x.now.groups).take (k+1))=lts ((zBu t.x.now.groups).take k)++[.int .u8 (t.x.now.groups[k]).aspect]:=by
    rw[List.take_succ_eq_append_getElem (by omega)];simp[lts,zBu]
   have hsn:zBb t.x.now.groups[k]= .agg [.int .u8 (t.x.now.groups[k]).aspect,.int .i64 (t.x.now.groups[k]).since,.int .i64 (t.x.now.groups[k]).ended]:=rfl;have hlk:(lts ((zBu t.x.now.groups).take k)).length=k:=by rw[zMx,List.length_take];omega
   simp(disch:=omega)[go_sem,hlk,c1,hsn];refine⟨by omega,?_⟩
   refine zAb (k+1) (by omega) (by omega) (Le.mk [(0,some 0),(16,some 16),(32,some 32),(4096,some 4096)] [0,16,32,4096] ⟨rfl,rfl,rfl⟩ ?_ ?_ ?_)<;>simp[go_sem,tckO,tckD,tckL,hF0,hsu]
  ·have hkk:k=t.x.now.groups.length:=by omega
   subst hkk;rw[List.take_of_length_le (by omega)]
   have hpk:zBa ((zCe t.x.disk).plans.map plnV):=zAs _;generalize zHn t=FT at *;generalize zHo t=FF at *;subst hFT hFF;generalize zJu t=wn at *;generalize hB:zMg t.s t.x.wrong (zBu t.x.now.groups) t.i.back=B at *;obtain⟨bn,be⟩:=B;simp only at q1 hWN;simp(disch:=omega)[go_sem,facV,kepV];refine zAa q1 [4096] (by simp[go_sem,hsl]) (.inr (by simp[go_sem])) (by simp[go_sem]) (fun _=>?_) (by simp[tabG,go_sem])
   simp(disch:=omega)[go_sem];refine⟨.inl (by kernel_rfl),?_⟩
   by_cases hbe:be=0
   ·rw[if_neg (by simpa using hbe)]at hWN
    subst hWN;refine zAc (fun b1=>?_) (fun b1=>?_)<;>simp at b1
    ·exact absurd hbe b1
    ·simp(disch:=omega)[go_sem];refine zAa q3 [] (by simp[go_sem]) (.inl rfl) (by simp[go_sem]) (fun _=>?_) (by simp[tabG,go_sem])
     simp(disch:=omega)[go_sem];refine zAa q4 [] (by simp[go_sem]) (.inl rfl) (by simp[go_sem]) (fun _=>?_)
     simp(disch:=omega)[go_sem];refine zAa q5 [] (by simp[go_sem]) (.inl rfl) (by simp[go_sem]) (fun _=>?_) (by simp[tabG,go_sem])
     simp(disch:=omega)[go_sem];refine⟨.inl (by kernel_rfl),?_⟩
     refine zAa q6 [] (by simp[go_sem]) (.inl rfl) (by simp[go_sem]) (fun _=>?_)
     simp(disch:=omega)[go_sem];refine⟨.inl (by kernel_rfl),?_⟩
     refine Le.mk [(0,some 0)] [0] ⟨rfl,rfl,rfl⟩ ?_ ?_ ?_<;>simp[go_sem]
   ·rw[if_pos hbe]at hWN;subst hWN;refine zAc (fun b1=>?_) (fun b1=>?_)<;>simp at b1
    ·simp(disch:=omega)[go_sem];refine zAa q2 [] (by simp[go_sem]) (.inl rfl) (by simp[go_sem]) (fun _=>?_)
     simp(disch:=omega)[go_sem];refine zAa q3 [] (by simp[go_sem]) (.inl rfl) (by simp[go_sem]) (fun _=>?_) (by simp[tabG,go_sem])
     simp(disch:=omega)[go_sem];refine zAa q4 [] (by simp[go_sem]) (.inl rfl) (by simp[go_sem]) (fun _=>?_)
     simp(disch:=omega)[go_sem];refine zAa q5 [] (by simp[go_sem]) (.inl rfl) (by simp[go_sem]) (fun _=>?_) (by simp[tabG,go_sem])
     simp(disch:=omega)[go_sem];refine⟨.inl (by kernel_rfl),?_⟩
     refine zAa q6 [] (by simp[go_sem]) (.inl rfl) (by simp[go_sem]) (fun _=>?_)
     simp(disch:=omega)[go_sem];refine⟨.inl (by kernel_rfl),?_⟩
     refine Le.mk [(0,some 0)] [0] ⟨rfl,rfl,rfl⟩ ?_ ?_ ?_<;>simp[go_sem]
    ·exact absurd b1 hbe
end
section
attribute [local go_sem] zAm zAh
noncomputable def gpB(g:GapN)(n:Int):Bool:=decide (gapE g=0)&&(decide (0≤n)&&decide (n≤1048576))&&(!g.up&&decide (n≤g.opn))
noncomputable def gpE(g:GapN)(n:Int):Int:=if gapE g≠0 then gapE g else if n<0∨1048576<n then 2 else 0
theorem yNv(g:GapN)(n:Int):FnD Tryz.prog 162 [gapV g,.int .i64 n] (.tup [.bool (gpB g n),.int .i64 (gpE g n)]):=by
 have q:=zQx g n
 have e:zLu g n= .tup [.bool (gpB g n),.int .i64 (gpE g n)]:=by
  unfold zLu gpB gpE;by_cases h1:gapE g=0
  ·by_cases h2:n<0∨1048576<n
   ·rw[if_neg (by simpa using h1),if_pos h2,if_neg (by simpa using h1),if_pos h2]
    have:(decide (0≤n)&&decide (n≤1048576))=false:=by
     rw[Bool.and_eq_false_iff];rcases h2 with h|h
     ·left;simp;omega
     ·right;simp;omega
    simp[this]
   ·rw[if_neg (by simpa using h1),if_neg h2,if_neg (by simpa using h1),if_neg h2]
    have:(decide (0≤n)&&decide (n≤1048576))=true:=by simp;omega
    simp[this,h1]
  ·simp[h1]
 rw[e]at q
 exact q
noncomputable def paK(t:TckN)(i:Nat):Nat→Bool
 |0=>true
 |k+1=>paK t i k&&(gpB (t.x.gaps.getD k gap0) (t.s.phases.getD i ⟨0,0,0,0,false⟩).gap||(t.s.eyes.getD k ⟨0,0,0,0⟩).phase != (i:Int))
noncomputable def gaK(t:TckN):Nat→Nat
 |0=>0
 |i+1=>if paK t i t.s.eyes.length=true then zHd (gaK t i) i else gaK t i
noncomputable def yCa(t:TckN):Nat:=gaK t t.s.phases.length
theorem yUe(t:TckN):∀i,gaK t i<4294967296
 |0=>by simp[gaK]
 |i+1=>by
  have:=yUe t i;simp only[gaK];split
  ·exact zJe this _
  ·exact this
noncomputable def ga1F(t:TckN)(i:Nat):St:=⟨[(17,.int .i64 i),(16,.int .i64 t.s.phases.length),(15,.sl 5 (t.s.phases.map phaV)),(3,.int .u32 (gaK t i)),(0,.ptr 0 1 0 0)],[(0,tckO t)],1024,[],65,1,[]⟩
noncomputable def ga2F(t:TckN)(i:Nat)(p:Pha)(k:Nat):St:=⟨[(28,.int .i64 k),(27,.int .i64 t.s.eyes.length),(26,.sl 4 (t.s.eyes.map eyeV)),(6,.bool (paK t i k)),(5,.ptr 512 1 0 0),(4,.int .i64 i),(17,.int .i64 i),(16,.int .i64 t.s.phases.length),(15,.sl 5 (t.s.phases.map phaV)),(3,.int .u32 (gaK t i)),(0,.ptr 0 1 0 0)],[(0,tckO t),(512,⟨.box,78,5,[phaV p]⟩)],4096,[],65,1,[]⟩
set_option maxHeartbeats 4000000 in
theorem yUc(t:TckN)(h8:t.s.phases.length≤8)(h24:t.s.eyes.length≤24)(hg:t.x.gaps.length=t.s.eyes.length):FnR Tryz.prog 102 [tckO t] [.ptr 0 1 0 0] [tckO t] (.int .u32 (yCa t)):=by
 have hN:yCa t=gaK t t.s.phases.length:=rfl
 generalize yCa t=R at *
 have h1F:∀i,ga1F t i=⟨[(17,.int .i64 i),(16,.int .i64 t.s.phases.length),(15,.sl 5 (t.s.phases.map phaV)),(3,.int .u32 (gaK t i)),(0,.ptr 0 1 0 0)],[(0,tckO t)],1024,[],65,1,[]⟩:=fun _=>rfl
 have h2F:∀i p k,ga2F t i p k=⟨[(28,.int .i64 k),(27,.int .i64 t.s.eyes.length),(26,.sl 4 (t.s.eyes.map eyeV)),(6,.bool (paK t i k)),(5,.ptr 512 1 0 0),(4,.int .i64 i),(17,.int .i64 i),(16,.int .i64 t.s.phases.length),(15,.sl 5 (t.s.phases.map phaV)),(3,.int .u32 (gaK t i)),(0,.ptr 0 1 0 0)],[(0,tckO t),(512,⟨.box,78,5,[phaV p]⟩)],4096,[],65,1,[]⟩:=fun _ _ _=>rfl
 refine zAv mixed Tryz.func102 rfl rfl (by simp[Tryz.ntmps102]) (by simp) fun hwf E=>?_
 clear hwf
 simp(disch:=omega)[Tryz.ntmps102,go_sem,tckO,tckD,tckL]
 refine zAe mixed (ga1F t) (fun k=>k≤t.s.phases.length) (fun k=>t.s.phases.length-k) 0 (by omega) ?_ ?_
 ·refine Le.mk [(0,some 0)] [0] ⟨rfl,rfl,rfl⟩ ?_ ?_ ?_<;>simp[go_sem,tckO,tckD,tckL,ga1F,gaK]
 ·intro i hi;rw[h1F];have hgl:=yUe t i;simp(disch:=omega)[go_sem,tckO,tckD,tckL];refine zAc (fun c1=>?_) (fun c1=>?_)<;>simp at c1
  ·have hgi:gaK t (i+1)=if paK t i t.s.eyes.length=true then zHd (gaK t i) i else gaK t i:=rfl
   have hpx:t.s.phases.getD i ⟨0,0,0,0,false⟩=t.s.phases[i]:=by simp[c1]
   have hps:∀k,paK t i (k+1)=(paK t i k&&(gpB (t.x.gaps.getD k gap0) (t.s.phases.getD i ⟨0,0,0,0,false⟩).gap||(t.s.eyes.getD k ⟨0,0,0,0⟩).phase != (i:Int))):=fun _=>rfl
   rw[hpx]at hps;have hsh:=zPu (show i<32 by omega)
   have hb:=zFy (i:Int);generalize hx:t.s.phases[i]=p at *;have hpv:phaV p= .agg [.int .u32 p.set,.int .i64 p.min,.int .i64 p.max,.int .i64 p.gap,.bool p.always]:=rfl;simp(disch:=omega)[go_sem,c1,hx,hpv];refine zAe mixed (ga2F t i p) (fun k=>k≤t.s.eyes.length) (fun k=>t.s.eyes.length-k) 0 (by omega) ?_ ?_
   ·refine Le.mk [(0,some 0),(512,some 1088)] [0,1088] ⟨rfl,rfl,rfl⟩ ?_ ?_ ?_<;>simp[go_sem,tckO,tckD,tckL,ga2F,paK,hpv]
   ·intro k hk;rw[h2F,hpv];simp(disch:=omega)[go_sem,tckO,tckD,tckL];refine zAc (fun d1=>?_) (fun d1=>?_)<;>simp at d1
    ·have hpk:=hps k;have hex:t.s.eyes.getD k ⟨0,0,0,0⟩=t.s.eyes[k]:=by simp[d1]
     have hgx:t.x.gaps.getD k gap0=t.x.gaps[k]'(by omega):=by simp[hg,d1]
     rw[hex,hgx]at hpk;have q:=yNv (t.x.gaps[k]'(by omega)) p.gap
     generalize hxe:t.s.eyes[k]=ey at *;generalize hxg:t.x.gaps[k]'(by omega)=gp at *
     have hev:eyeV ey= .agg [.int .i64 ey.phase,.int .i64 ey.on,.int .i64 ey.off,.int .i64 ey.turns]:=rfl;have hgv:gapV gp= .agg [.bool gp.up,.int .i64 gp.held,.int .i64 gp.opn,.int .i64 gp.came,.int .u64 gp.last]:=rfl;rw[hgv]at q;have hkg:k<t.x.gaps.length:=by omega
     simp(disch:=omega)[go_sem,d1,hxe,hxg,hev,hgv,hg];refine zAa q [] (by simp[go_sem]) (.inl rfl) (by simp[go_sem]) (fun _=>?_)
     simp(disch:=omega)[go_sem];refine⟨.inl (by kernel_rfl),?_⟩
     refine zAb (k+1) (by omega) (by omega) (Le.mk [(0,some 0),(512,some 512)] [0,512] ⟨rfl,rfl,rfl⟩ ?_ ?_ ?_)<;>simp[go_sem,tckO,tckD,tckL,h2F,hpk,hpv]
    ·have hkk:k=t.s.eyes.length:=by omega
     subst hkk;simp(disch:=omega)[go_sem];refine zAc (fun h5=>?_) (fun h5=>?_)
     ·rw[h5,if_pos rfl]at hgi;simp(disch:=omega)[go_sem,hsh];refine zAb (i+1) (by omega) (by omega) (Le.mk [(0,some 0)] [0] ⟨rfl,rfl,rfl⟩ ?_ ?_ ?_)<;>simp[go_sem,tckO,tckD,tckL,h1F,hgi,zHd]
     ·rw[h5,if_neg (by decide)]at hgi
      simp(disch:=omega)[go_sem];refine zAb (i+1) (by omega) (by omega) (Le.mk [(0,some 0)] [0] ⟨rfl,rfl,rfl⟩ ?_ ?_ ?_)<;>simp[go_sem,tckO,tckD,tckL,h1F,hgi]
  ·have hkk:i=t.s.phases.length:=by omega
   subst hkk;simp(disch:=omega)[go_sem];rw[hN];refine Le.mk [(0,some 0)] [0] ⟨rfl,rfl,rfl⟩ ?_ ?_ ?_<;>simp[go_sem]
end
section
attribute [local go_sem] zAm zAh
noncomputable def askQ(t:TckN):Int × Int:=seqP t.s t.x.sph.toNat t.x.ssi t.x.now t.x.calls (yCa t)
noncomputable def yZx(t:TckN)(k:KepN):Pln:=if t.x.rung.mode=2 then zPf t.s (k.plans.getD 0 ⟨0,0,[]⟩)else t.x.told
noncomputable def yDk(t:TckN)(k:KepN):Int:=(zJl t.s (yZx t k) t.x.tick).1
noncomputable def askT(t:TckN)(k:KepN):TckN:=
 if t.x.rung.mode=0 then{ t with asks:=zFl t.s }
 else if t.x.rung.mode=1 then{ t with x:={ t.x with sph:=(askQ t).1,ssi:=(askQ t).2 },asks:=zLj t.s (askQ t).1 }
 else{ t with x:={ t.x with sph:=yDk t k,ssi:=0 },asks:=zLj t.s (yDk t k) }
structure AskOk(t:TckN)(k:KepN):Prop where
 site:zAk t.s
 sph:0≤t.x.sph∧t.x.sph<t.s.phases.length
 ssi:0≤t.x.ssi∧t.x.ssi≤1048576
 groups:t.x.now.groups.length=t.s.groups.length
 calls:t.x.calls<4294967296
 gaps:t.x.gaps.length=t.s.eyes.length
 plans:t.x.rung.mode=2→k.plans≠[]
theorem xEt(t:TckN):yCa t<4294967296:=yUe _ _
set_option maxHeartbeats 4000000 in
theorem xKw(t:TckN)(k:KepN)(h:AskOk t k):FnR Tryz.prog 44 [tckO t] [.ptr 0 1 0 0,kepV k] [tckO (askT t k)] (.tup []) tabG:=by
 obtain⟨hOk,hph,hsi,hgr,hca,hga,hpl⟩:=h
 have hsh:=hOk.shaped.1
 have q1:=zWu t hsh.1 (by omega)
 have q2:=yUc t hOk.shaped.2.2.2.1.2 hOk.shaped.2.2.2.2.1 hga
 obtain⟨sp,hsp⟩:=Int.eq_ofNat_of_zero_le hph.1
 have q3:=yLx t.s sp t.x.ssi t.x.now t.x.calls (yCa t) hOk (by omega) hsi hgr hca (xEt t)
 have hQ:askQ t=seqP t.s sp t.x.ssi t.x.now t.x.calls (yCa t):=by unfold askQ;rw[hsp];rfl
 rw[← hQ,← hsp]at q3
 have hT:askT t k=if t.x.rung.mode=0 then{ t with asks:=zFl t.s }
  else if t.x.rung.mode=1 then{ t with x:={ t.x with sph:=(askQ t).1,ssi:=(askQ t).2 },asks:=zLj t.s (askQ t).1 }
  else{ t with x:={ t.x with sph:=yDk t k,ssi:=0 },asks:=zLj t.s (yDk t k) }:=rfl
 have q4:=fun p=>yFm t.s p t.x.tick hOk
 have q5:=fun p=>zVu t.s p
 have q6:=fun p=>zQi t.s p hOk
 have hPh:yDk t k=(zJl t.s (yZx t k) t.x.tick).1:=rfl
 have hPl:yZx t k=if t.x.rung.mode=2 then zPf t.s (k.plans.getD 0 ⟨0,0,[]⟩)else t.x.told:=rfl
 have hsv:=zAr t.s
 have hkp:zBa (k.plans.map plnV):=zAs _
 rw[hsv]at q3 q4 q5 q6
 unfold seqV safV at q3
 generalize askT t k=T at *
 unfold kepV
 by_cases m0:t.x.rung.mode=0
 ·rw[if_pos m0]at hT;subst hT;have hpF:=zCl (zFl t.s);refine zAv mixed Tryz.func44 rfl rfl (by simp[Tryz.ntmps44]) (by simp) fun hwf E=>?_
  clear hwf;simp(disch:=omega)[Tryz.ntmps44,go_sem,tckO,tckD,tckL];refine zAc (fun b1=>?_) (fun b1=>?_)<;>simp at b1
  ·simp(disch:=omega)[go_sem];refine zBm q1 [(0,some 0)] [0] ?_ ?_ ?_ ?_ (fun _=>?_) (by simp[tabG,go_sem])
   ·simp[go_sem]
   iterate 3 (· simp[go_sem,tckO,tckD,tckL])
   simp(disch:=omega)[go_sem,tckO,tckD,tckL];refine Le.mk [(0,some 0)] [0] ⟨rfl,rfl,rfl⟩ ?_ ?_ ?_<;>simp[go_sem]
  ·exact absurd m0 b1
 ·rw[if_neg m0]at hT;by_cases m1:t.x.rung.mode=1
  ·rw[if_pos m1]at hT;subst hT;have hpA:=zCl (zLj t.s (askQ t).1);refine zAv mixed Tryz.func44 rfl rfl (by simp[Tryz.ntmps44]) (by simp) fun hwf E=>?_
   clear hwf;simp(disch:=omega)[Tryz.ntmps44,go_sem,tckO,tckD,tckL];refine zAc (fun b1=>?_) (fun b1=>?_)<;>simp at b1
   ·exact absurd b1 m0
   ·simp(disch:=omega)[go_sem];refine zAc (fun b2=>?_) (fun b2=>?_)<;>simp at b2
    ·simp(disch:=omega)[go_sem];refine zBm q2 [(0,some 0)] [0] ?_ ?_ ?_ ?_ (fun _=>?_) (by simp[tabG,go_sem])
     ·simp[go_sem]
     iterate 3 (· simp[go_sem,tckO,tckD,tckL])
     simp(disch:=omega)[go_sem,tckO,tckD,tckL];refine zAa q3 [] (by simp[go_sem]) (.inl rfl) (by simp[go_sem]) (fun _=>?_) (by simp[tabG,go_sem])
     simp(disch:=omega)[go_sem];refine⟨.inl (by kernel_rfl),?_⟩
     refine Le.mk [(0,some 0)] [0] ⟨rfl,rfl,rfl⟩ ?_ ?_ ?_<;>simp[go_sem]
    ·exact absurd m1 b2
  ·rw[if_neg m1]at hT;subst hT;have q5:=q5 (yDk t k);have hpA:=zCl (zLj t.s (yDk t k));have q4:=q4 (yZx t k);rw[← hPh]at q4;have hcv:∀p:Pln,plnV p= .agg [.int .i64 p.cycle,.int .i64 p.offset,.sl 1 (ints p.splits)]:=fun _=>rfl
   rw[hcv]at q4;generalize yDk t k=ph at *;by_cases m2:t.x.rung.mode=2
   ·rw[if_pos m2]at hPl;obtain⟨kg,km,kps⟩:=k;have hne:=hpl m2;simp only at hne hPl hkp
    match kps,hne,hPl,hkp with
    |a::r,hne,hPl,hkp=>
     rw[List.getD_cons_zero]at hPl;have q6:=q6 a;rw[hcv a,hcv (zPf t.s a)]at q6;rw[hPl]at q4;have hav:plnV a= .agg [.int .i64 a.cycle,.int .i64 a.offset,.sl 1 (ints a.splits)]:=rfl;have hrp:=zAs r;generalize zPf t.s a=Q at *;refine zAv mixed Tryz.func44 rfl rfl (by simp[Tryz.ntmps44]) (by simp) fun hwf E=>?_
     clear hwf;simp(disch:=omega)[Tryz.ntmps44,go_sem,tckO,tckD,tckL,hav];refine zAc (fun b1=>?_) (fun b1=>?_)<;>simp at b1
     ·exact absurd b1 m0
     ·simp(disch:=omega)[go_sem];refine zAc (fun b2=>?_) (fun b2=>?_)<;>simp at b2
      ·exact absurd b2 m1
      ·simp(disch:=omega)[go_sem];refine zAc (fun b3=>?_) (fun b3=>?_)<;>simp at b3
       ·simp(disch:=omega)[go_sem];refine zAa q6 [] (by simp[go_sem]) (.inl rfl) (by simp[go_sem]) (fun _=>?_) (by simp[tabG,go_sem])
        simp(disch:=omega)[go_sem];refine⟨.inl (by kernel_rfl),?_⟩
        refine zAa q4 [] (by simp[go_sem]) (.inl rfl) (by simp[go_sem]) (fun _=>?_) (by simp[tabG,go_sem])
        simp(disch:=omega)[go_sem];refine⟨.inl (by kernel_rfl),?_⟩
        refine zAa q5 [] (by simp[go_sem]) (.inl rfl) (by simp[go_sem]) (fun _=>?_) (by simp[tabG,go_sem])
        simp(disch:=omega)[go_sem];refine Le.mk [(0,some 0)] [0] ⟨rfl,rfl,rfl⟩ ?_ ?_ ?_<;>simp[go_sem]
       ·exact absurd m2 b3
   ·rw[if_neg m2]at hPl;rw[hPl]at q4;refine zAv mixed Tryz.func44 rfl rfl (by simp[Tryz.ntmps44]) (by simp) fun hwf E=>?_
    clear hwf;simp(disch:=omega)[Tryz.ntmps44,go_sem,tckO,tckD,tckL];refine zAc (fun b1=>?_) (fun b1=>?_)<;>simp at b1
    ·exact absurd b1 m0
    ·simp(disch:=omega)[go_sem];refine zAc (fun b2=>?_) (fun b2=>?_)<;>simp at b2
     ·exact absurd b2 m1
     ·simp(disch:=omega)[go_sem];refine zAc (fun b3=>?_) (fun b3=>?_)<;>simp at b3
      ·exact absurd b3 m2
      ·simp(disch:=omega)[go_sem];refine zAa q4 [] (by simp[go_sem]) (.inl rfl) (by simp[go_sem]) (fun _=>?_) (by simp[tabG,go_sem])
       simp(disch:=omega)[go_sem];refine⟨.inl (by kernel_rfl),?_⟩
       refine zAa q5 [] (by simp[go_sem]) (.inl rfl) (by simp[go_sem]) (fun _=>?_) (by simp[tabG,go_sem])
       simp(disch:=omega)[go_sem];refine Le.mk [(0,some 0)] [0] ⟨rfl,rfl,rfl⟩ ?_ ?_ ?_<;>simp[go_sem]
end
section
attribute [local go_sem] zAm zAh
def puS(p:Pul)(x:Bool):Pul:=if zIe p 1 2=0 then zMq 2 p x else(false,false,0)
def seP(t:TckN):Nat→List Pul
 |0=>t.x.puls
 |k+1=>(seP t k).set k (puS ((seP t k).getD k pul0) (t.i.eyes.testBit k))
noncomputable def seG(t:TckN):Nat→List GapN
 |0=>t.x.gaps
 |k+1=>(seG t k).set k (zLv ((seG t k).getD k gap0) ((seP t (k+1)).getD k pul0).1)
def seU(t:TckN):Nat→Nat
 |0=>0
 |k+1=>if((seP t (k+1)).getD k pul0).1=true then zHd (seU t k) k else seU t k
theorem yEt(t:TckN):∀k,(seP t k).length=t.x.puls.length
 |0=>rfl
 |k+1=>by simp only[seP,List.length_set];exact yEt t k
theorem yEu(t:TckN):∀k,(seG t k).length=t.x.gaps.length
 |0=>rfl
 |k+1=>by simp only[seG,List.length_set];exact yEu t k
theorem xLv(t:TckN):∀k,seU t k<4294967296
 |0=>by simp[seU]
 |k+1=>by
  have:=xLv t k;simp only[seU];split
  ·exact zJe this _
  ·exact this
def seB(t:TckN)(n:Nat):AM.Obj:=⟨.box,86,51,[.agg (tckL { t with was:=t.x.puls } (.obj 512 n) (.obj 528 n) (.sl 1 (ints t.x.greens)) (.sl 1 (ints t.x.busy)) (.sl 1 (ints t.x.came)))]⟩
noncomputable def seF(t:TckN)(k:Nat):St:=⟨[(42,.int .i64 k),(41,.int .i64 t.x.puls.length),(2,.int .u32 (seU t k)),(0,.ptr 0 1 0 0)],[(0,seB t t.x.puls.length),(512,⟨.arr,163,3,(seP t k).map pulV⟩),(528,⟨.arr,167,5,(seG t k).map gapV⟩)],2048,[],182,1,tabG⟩
noncomputable def seGr(t:TckN):Int:=if zVd t.s t.x.now t.x.sph=true then t.x.sph else -1
noncomputable def seE(t:TckN):List zCx:=eyL t.s t.x.eyes (seU t t.x.puls.length)
noncomputable def seeT(t:TckN):TckN:={ t with was:=t.x.puls,x:={ t.x with puls:=seP t t.x.puls.length,gaps:=seG t t.x.puls.length,eyes:=seE t,calls:=(zJb t.s t.x.calls (seE t) (seGr t)).1 } }
set_option maxHeartbeats 4000000 in
theorem xCh(t:TckN)(hOk:zAk t.s)(hp:t.x.puls.length=t.s.eyes.length)(hg:t.x.gaps.length=t.s.eyes.length)(hc:t.x.calls<4294967296)(he:t.i.eyes<4294967296):FnR Tryz.prog 41 [tckO t] [.ptr 0 1 0 0] [tckO (seeT t)] (.tup []) tabG:=by
 have h24:t.s.eyes.length≤24:=hOk.shaped.2.2.2.2.1
 have q1:=yOh t.x.puls (by omega)
 have q2:=yOj t.x.gaps (by omega)
 have hF:∀k,seF t k=⟨[(42,.int .i64 k),(41,.int .i64 t.x.puls.length),(2,.int .u32 (seU t k)),(0,.ptr 0 1 0 0)],[(0,seB t t.x.puls.length),(512,⟨.arr,163,3,(seP t k).map pulV⟩),(528,⟨.arr,167,5,(seG t k).map gapV⟩)],2048,[],182,1,tabG⟩:=fun _=>rfl
 have hgp:t.x.gaps.length=t.x.puls.length:=by omega
 refine zAv mixed Tryz.func41 rfl rfl (by simp[Tryz.ntmps41]) (by simp) fun hwf E=>?_
 clear hwf
 simp(disch:=omega)[Tryz.ntmps41,go_sem,tckO,tckD,tckL]
 refine zAf q1 [] [] [] [] ?_ ?_ ?_ (.inl ⟨rfl,.inl rfl⟩) (fun _=>?_) (by simp[tabG,go_sem])
 iterate 3 (· simp[go_sem])
 simp(disch:=omega)[go_sem]
 refine zAf q1 [] [] [] [] ?_ ?_ ?_ (.inl ⟨rfl,.inl rfl⟩) (fun _=>?_) (by simp[tabG,go_sem])
 iterate 3 (· simp[go_sem])
 simp(disch:=omega)[go_sem]
 refine zAf q2 [] [] [] [] ?_ ?_ ?_ (.inl ⟨rfl,.inl rfl⟩) (fun _=>?_) (by simp[tabG,go_sem])
 iterate 3 (· simp[go_sem])
 simp(disch:=omega)[go_sem]
 refine⟨.inl (by kernel_rfl),?_⟩
 refine zAe mixed (seF t) (fun k=>k≤t.x.puls.length) (fun k=>t.x.puls.length-k) 0 (by omega) ?_ ?_
 ·refine Le.mk [(0,some 0),(512,some 288),(528,some 384)] [0,288,384] ⟨rfl,rfl,rfl⟩ ?_ ?_ ?_<;>simp[go_sem,tckL,seF,seB,seP,seG,seU,hgp]
 ·intro k hk;have hpl:=yEt t k;have hgl:=yEu t k;have hul:=xLv t k;rw[hF];simp(disch:=omega)[go_sem,tckL,seB];refine zAc (fun c1=>?_) (fun c1=>?_)<;>simp at c1
  ·have e1:seP t (k+1)=(seP t k).set k (puS ((seP t k).getD k pul0) (t.i.eyes.testBit k)):=rfl;have e2:seG t (k+1)=(seG t k).set k (zLv ((seG t k).getD k gap0) ((seP t (k+1)).getD k pul0).1):=rfl;have e3:seU t (k+1)=if((seP t (k+1)).getD k pul0).1=true then zHd (seU t k) k else seU t k:=rfl
   obtain⟨m,hb2,hr⟩:=zMb (b:=k) he;have hmb:((m:Int) == 1)=t.i.eyes.testBit k:=by
    rw[Bool.eq_iff_iff,beq_iff_eq,← hr];omega
   have hsh:=zPu (show k<32 by omega)
   have hbn:=zFy (k:Int);have hkp:k<(seP t k).length:=by omega
   have hkg:k<(seG t k).length:=by omega
   obtain⟨p,hxp⟩:∃p,(seP t k)[k]'hkp=p:=⟨_,rfl⟩;obtain⟨g,hxg⟩:∃g,(seG t k)[k]'hkg=g:=⟨_,rfl⟩;have x1:(seP t k).getD k pul0=p:=by rw[← hxp];simp[hkp]
   have x2:(seG t k).getD k gap0=g:=by rw[← hxg];simp[hkg]
   rw[x1]at e1;have x3:((seP t (k+1)).getD k pul0)=puS p (t.i.eyes.testBit k):=by rw[e1];simp[hkp]
   rw[x2,x3]at e2;rw[x3]at e3;have hF1:=hF (k+1);generalize seP t (k+1)=P1 at *;generalize seG t (k+1)=G1 at *;generalize seU t (k+1)=U1 at *;generalize t.i.eyes.testBit k=bit at *;have q3:FnD Tryz.prog 91 [pulV p,.bool bit,.int .i64 2] (.tup [pulV (puS p bit),.int .i64 (zIe p 1 2)]):=yFp p bit 2;generalize puS p bit=p' at *;have q4:=yCb g p'.1;have m1:((seP t k).map pulV).set k (pulV p')=P1.map pulV:=by rw[e1,List.map_set]
   have m2:((seG t k).map gapV).set k (gapV (zLv g p'.1))=G1.map gapV:=by rw[e2,List.map_set]
   generalize zLv g p'.1=g' at *;have hpv:∀p:Pul,pulV p= .agg [.bool p.1,.bool p.2.1,.int .i64 p.2.2]:=fun _=>rfl
   have hgv:∀g:GapN,gapV g= .agg [.bool g.up,.int .i64 g.held,.int .i64 g.opn,.int .i64 g.came,.int .u64 g.last]:=fun _=>rfl
   have hvp:=hpv p;have hvg:=hgv g;rw[hvp,hpv p']at q3;rw[hvg,hgv g']at q4;rw[hpv p']at m1;rw[hgv g']at m2;have hP1:(P1.map pulV).length=t.x.puls.length:=by rw[← m1];simp[hpl]
   have hn1:nth (P1.map pulV) k= .agg [.bool p'.1,.bool p'.2.1,.int .i64 p'.2.2]:=by rw[← m1,zQs (by simpa using hkp)];simp
   have hck:k<t.x.gaps.length:=by omega
   have hP2:P1.length=t.x.puls.length:=by simpa using hP1
   have hx1:P1[k]'(by omega)=p':=by
    have h:=zBt (f:=pulV) (show k<P1.length by omega)
    simp only[e1,List.getElem_set_self]
   have hvp1:=hpv p';simp(disch:=omega)[go_sem,hvp,hpl,c1,hxp,zGd,hb2,hmb];refine zAa q3 [] (by simp[go_sem]) (.inl rfl) (by simp[go_sem]) (fun _=>?_)
   simp(disch:=omega)[go_sem,hvp,hvg,hpl,hgl,c1,hxp,hxg,m1,hP2,hx1,hvp1,hgp];refine⟨.inl (by kernel_rfl),?_⟩
   refine zAa q4 [] (by simp[go_sem]) (.inl rfl) (by simp[go_sem]) (fun _=>?_)
   simp(disch:=omega)[go_sem,hvg,hgl,c1,hxg,m2,hP2,hx1,hvp1,hgp];refine⟨.inl (by kernel_rfl),?_⟩
   have hpP:=zKp P1;have hpG:=zLb G1;refine zAc (fun h5=>?_) (fun h5=>?_)
   ·rw[h5,if_pos rfl]at e3;simp(disch:=omega)[go_sem,hsh];refine zAb (k+1) (by omega) (by omega) (Le.mk [(0,some 0),(512,some 512),(528,some 528)] [0,512,528] ⟨rfl,rfl,rfl⟩ ?_ ?_ ?_)<;>simp[go_sem,tckL,hF1,seB,e3,zHd,hpP,hpG]
   ·rw[h5,if_neg (by decide)]at e3
    simp(disch:=omega)[go_sem];refine zAb (k+1) (by omega) (by omega) (Le.mk [(0,some 0),(512,some 512),(528,some 528)] [0,512,528] ⟨rfl,rfl,rfl⟩ ?_ ?_ ?_)<;>simp[go_sem,tckL,hF1,seB,e3,hpP,hpG]
  ·have hkk:k=t.x.puls.length:=by omega
   subst hkk;have q5:=yYl t.s t.x.eyes (seU t t.x.puls.length) hul;have q6:=zPq t.s t.x.now t.x.sph;have q7:=zXe t.s t.x.calls (seE t) (seGr t) hc;have hE:eyL t.s t.x.eyes (seU t t.x.puls.length)=seE t:=rfl;rw[hE]at q5;have hGr:seGr t=if zVd t.s t.x.now t.x.sph=true then t.x.sph else -1:=rfl
   have hT:seeT t={ t with was:=t.x.puls,x:={ t.x with puls:=seP t t.x.puls.length,gaps:=seG t t.x.puls.length,eyes:=seE t,calls:=(zJb t.s t.x.calls (seE t) (seGr t)).1 } }:=rfl
   have hsv:=zAr t.s;rw[hsv]at q5 q6 q7;unfold safV at q6;have hpE:=zQa (seE t);have hpP:=zKp (seP t t.x.puls.length);have hpG:=zLb (seG t t.x.puls.length);generalize seeT t=T at *;subst hT;generalize seE t=EE at *;generalize seP t t.x.puls.length=PP at *;generalize seG t t.x.puls.length=GG at *;simp(disch:=omega)[go_sem];refine zAa q5 [] (by simp[go_sem]) (.inl rfl) (by simp[go_sem]) (fun _=>?_) (by simp[tabG,go_sem])
   simp(disch:=omega)[go_sem];refine⟨.inl (by kernel_rfl),?_⟩
   refine zAa q6 [] (by simp[go_sem]) (.inl rfl) (by simp[go_sem]) (fun _=>?_) (by simp[tabG,go_sem])
   simp(disch:=omega)[go_sem];refine⟨.inl (by kernel_rfl),?_⟩
   cases hfb:zVd t.s t.x.now t.x.sph with
   |true=>
    rw[hfb,if_pos rfl]at hGr;rw[hGr]at q7 ⊢;simp(disch:=omega)[go_sem];refine zAa q7 [] (by simp[go_sem]) (.inl rfl) (by simp[go_sem]) (fun _=>?_) (by simp[tabG,go_sem])
    simp(disch:=omega)[go_sem];refine⟨.inl (by kernel_rfl),?_⟩
    refine Le.mk [(0,some 0)] [0] ⟨rfl,rfl,rfl⟩ ?_ ?_ ?_<;>simp[go_sem,hpP,hpG,hpl,hgl,hgp]
   |false=>
    rw[hfb,if_neg (by decide)]at hGr
    rw[hGr]at q7 ⊢;simp(disch:=omega)[go_sem];refine zAa q7 [] (by simp[go_sem]) (.inl rfl) (by simp[go_sem]) (fun _=>?_) (by simp[tabG,go_sem])
    simp(disch:=omega)[go_sem];refine⟨.inl (by kernel_rfl),?_⟩
    refine Le.mk [(0,some 0)] [0] ⟨rfl,rfl,rfl⟩ ?_ ?_ ?_<;>simp[go_sem,hpP,hpG,hpl,hgl,hgp]
end
section
attribute [local go_sem] zAm zAh
def inpV(i:InpN):V:= .agg [.sl 1 (bts i.bytes),.int .u32 i.eyes,.sl 1 (lts i.back),.bool i.lost,.int .i64 i.whole,.int .i64 i.torn,.bool i.rot]
theorem zTx(l:List InpN):zBa (l.map inpV):=zBc _ (fun i=>by simp[inpV,go_sem]) l
def inp0:InpN:=⟨[],0,[],false,0,0,false⟩
end
section
attribute [local go_sem] zAm zAh
def coUp(t:TckN)(i k:Nat):Bool:=decide ((t.s.eyes.getD k ⟨0,0,0,0⟩).phase=(i:Int))&&(t.x.puls.getD k pul0).1
def coB(t:TckN)(i:Nat):Nat→Bool
 |0=>false
 |k+1=>coB t i k||coUp t i k
def coC(t:TckN)(i:Nat)(c:List Int):Nat→List Int
 |0=>c
 |k+1=>if coUp t i k=true∧(t.was.getD k pul0).1=false then(coC t i c k).set i (zGl ((coC t i c k).getD i 0) 1048576)else coC t i c k
structure CntN where
 greens:List Int
 busy:List Int
 came:List Int
noncomputable def coK(t:TckN):Nat→CntN
 |0=>⟨t.x.greens,t.x.busy,t.x.came⟩
 |i+1=>if zVd t.s t.x.now i=true then
   ⟨(coK t i).greens.set i (zGl ((coK t i).greens.getD i 0) 1048576),if coB t i t.s.eyes.length=true then(coK t i).busy.set i (zGl ((coK t i).busy.getD i 0) 1048576)else(coK t i).busy,coC t i (coK t i).came t.s.eyes.length⟩
  else coK t i
def Val(l:List Int):Prop:=∀x∈l,0≤x∧x≤1048576
theorem Val.set{l:List Int}(h:Val l)(i:Nat):Val (l.set i (zGl (l.getD i 0) 1048576)):=by
 intro x hx
 rcases List.mem_or_eq_of_mem_set hx with h1|h1
 ·exact h x h1
 ·subst h1;have:0≤l.getD i 0∧l.getD i 0≤1048576:=by
   by_cases hi:i<l.length
   ·have e:l.getD i 0=l[i]:=by simp[hi]
    rw[e];exact h _ (List.getElem_mem hi)
   ·have e:l.getD i 0=0:=by simp[List.getD,List.getElem?_eq_none (by omega:l.length≤i)]
    rw[e];decide
  unfold zGl;omega
theorem yYy(t:TckN)(i:Nat){c:List Int}(h:Val c):∀k,Val (coC t i c k)∧(coC t i c k).length=c.length
 |0=>⟨h,rfl⟩
 |k+1=>by
  obtain⟨h1,h2⟩:=yYy t i h k;simp only[coC];split
  ·exact⟨h1.set i,by rw[List.length_set];exact h2⟩
  ·exact⟨h1,h2⟩
theorem yKb(t:TckN)(h:Val t.x.greens∧Val t.x.busy∧Val t.x.came):∀i,(Val (coK t i).greens∧Val (coK t i).busy∧Val (coK t i).came)∧(coK t i).greens.length=t.x.greens.length∧(coK t i).busy.length=t.x.busy.length∧(coK t i).came.length=t.x.came.length
 |0=>⟨h,rfl,rfl,rfl⟩
 |i+1=>by
  obtain⟨⟨v1,v2,v3⟩,e1,e2,e3⟩:=yKb t h i;simp only[coK];split
  ·obtain⟨c1,c2⟩:=yYy t i v3 t.s.eyes.length;refine⟨⟨v1.set i,?_,c1⟩,by rw[List.length_set];exact e1,?_,by rw[c2];exact e3⟩
   ·simp only;split
    ·exact v2.set i
    ·exact v2
   ·simp only;split
    ·rw[List.length_set];exact e2
    ·exact e2
  ·exact⟨⟨v1,v2,v3⟩,e1,e2,e3⟩
noncomputable def zCf(t:TckN):TckN:={ t with x:={ t.x with greens:=(coK t t.s.phases.length).greens,busy:=(coK t t.s.phases.length).busy,came:=(coK t t.s.phases.length).came } }
def cntO(t:TckN)(g b c n:Nat):AM.Obj:=⟨.box,86,51,[.agg (tckL t (.sl 3 (t.x.puls.map pulV)) (.sl 5 (t.x.gaps.map gapV)) (.obj g n) (.obj b n) (.obj c n))]⟩
noncomputable def co1F(t:TckN)(i:Nat):St:=⟨[(44,.int .i64 i),(43,.int .i64 t.s.phases.length),(0,.ptr 0 1 0 0)],[(0,cntO t 512 528 544 t.s.phases.length),(512,⟨.arr,3,1,ints (coK t i).greens⟩),(528,⟨.arr,3,1,ints (coK t i).busy⟩),(544,⟨.arr,3,1,ints (coK t i).came⟩)],2048,[],149,1,tabG⟩
structure CntOk(t:TckN):Prop where
 site:zAk t.s
 puls:t.x.puls.length=t.s.eyes.length
 was:t.was.length=t.s.eyes.length
 lens:t.x.greens.length=t.s.phases.length∧t.x.busy.length=t.s.phases.length∧t.x.came.length=t.s.phases.length
 vals:(∀x∈t.x.greens,0≤x∧x≤1048576)∧(∀x∈t.x.busy,0≤x∧x≤1048576)∧(∀x∈t.x.came,0≤x∧x≤1048576)
noncomputable def co2F(t:TckN)(i k:Nat):St:=⟨[(69,.int .i64 k),(68,.int .i64 t.s.eyes.length),(67,.sl 4 (t.s.eyes.map eyeV)),(5,.bool (coB t i k)),(2,.int .i64 i),(44,.int .i64 i),(43,.int .i64 t.s.phases.length),(0,.ptr 0 1 0 0)],[(0,cntO t 512 528 544 t.s.phases.length),(512,⟨.arr,3,1,ints (coK t i).greens⟩),(528,⟨.arr,3,1,ints (coK t i).busy⟩),(544,⟨.arr,3,1,ints (coC t i (coK t i).came k)⟩)],8192,[],149,1,tabG⟩
set_option maxHeartbeats 4000000 in
theorem yEh(t:TckN)(h:CntOk t):FnR Tryz.prog 47 [tckO t] [.ptr 0 1 0 0]
  [cntO (zCf t) 1 2 3 t.s.phases.length,⟨.arr,3,1,ints (zCf t).x.greens⟩,⟨.arr,3,1,ints (zCf t).x.busy⟩,⟨.arr,3,1,ints (zCf t).x.came⟩] (.tup []) tabG:=by
 have h8:t.s.phases.length≤8:=h.site.shaped.2.2.2.1.2
 have h24:t.s.eyes.length≤24:=h.site.shaped.2.2.2.2.1
 have l1:=h.lens.1
 have l2:=h.lens.2.1
 have l3:=h.lens.2.2
 have q1:=fun l hl=>yOi l hl
 refine zAv mixed Tryz.func47 rfl rfl (by simp[Tryz.ntmps47]) (by simp) fun hwf E=>?_
 clear hwf
 simp(disch:=omega)[Tryz.ntmps47,go_sem,tckO,tckD,tckL]
 refine zAf ((q1 t.x.greens (by omega))) [] [] [] [] ?_ ?_ ?_ (.inl ⟨rfl,.inl rfl⟩) (fun _=>?_) (by simp[tabG,go_sem])
 iterate 3 (· simp[go_sem])
 simp(disch:=omega)[go_sem]
 refine zAf ((q1 t.x.busy (by omega))) [] [] [] [] ?_ ?_ ?_ (.inl ⟨rfl,.inl rfl⟩) (fun _=>?_) (by simp[tabG,go_sem])
 iterate 3 (· simp[go_sem])
 simp(disch:=omega)[go_sem]
 refine zAf ((q1 t.x.came (by omega))) [] [] [] [] ?_ ?_ ?_ (.inl ⟨rfl,.inl rfl⟩) (fun _=>?_) (by simp[tabG,go_sem])
 iterate 3 (· simp[go_sem])
 simp(disch:=omega)[go_sem]
 refine⟨.inl (by kernel_rfl),?_⟩
 refine zAe mixed (co1F t) (fun k=>k≤t.s.phases.length) (fun k=>t.s.phases.length-k) 0 (by omega) ?_ ?_
 ·refine Le.mk [(0,some 0),(512,some 144),(528,some 240),(544,some 336)] [0,144,240,336] ⟨rfl,rfl,rfl⟩ ?_ ?_ ?_<;>simp[go_sem,tckL,co1F,cntO,coK,l1,l2,l3]
 ·intro i hi;have hF:∀i,co1F t i=⟨[(44,.int .i64 i),(43,.int .i64 t.s.phases.length),(0,.ptr 0 1 0 0)],[(0,cntO t 512 528 544 t.s.phases.length),(512,⟨.arr,3,1,ints (coK t i).greens⟩),(528,⟨.arr,3,1,ints (coK t i).busy⟩),(544,⟨.arr,3,1,ints (coK t i).came⟩)],2048,[],149,1,tabG⟩:=fun _=>rfl
  rw[hF];simp(disch:=omega)[go_sem,tckL,cntO];refine zAc (fun c1=>?_) (fun c1=>?_)<;>simp at c1
  ·have qf:=zPq t.s t.x.now i;have hsv:=zAr t.s;rw[hsv]at qf;unfold safV at qf;have hK:coK t (i+1)=if zVd t.s t.x.now i=true then
    ⟨(coK t i).greens.set i (zGl ((coK t i).greens.getD i 0) 1048576),if coB t i t.s.eyes.length=true then(coK t i).busy.set i (zGl ((coK t i).busy.getD i 0) 1048576)else(coK t i).busy,coC t i (coK t i).came t.s.eyes.length⟩
    else coK t i:=rfl
   have hF1:=hF (i+1);cases hfb:zVd t.s t.x.now i with
   |false=>
    rw[hfb,if_neg (by decide)]at hK
    rw[hfb]at qf;simp(disch:=omega)[go_sem];refine zAa qf [] (by simp[go_sem]) (.inl rfl) (by simp[go_sem]) (fun _=>?_) (by simp[tabG,go_sem])
    simp(disch:=omega)[go_sem];refine⟨.inl (by kernel_rfl),?_⟩
    refine zAb (i+1) (by omega) (by omega) (Le.mk [(0,some 0),(512,some 512),(528,some 528),(544,some 544)] [0,512,528,544] ⟨rfl,rfl,rfl⟩ ?_ ?_ ?_)<;>simp[go_sem,tckL,hF1,cntO,hK]
   |true=>
    rw[hfb,if_pos rfl]at hK;rw[hfb]at qf;simp(disch:=omega)[go_sem];refine zAa qf [] (by simp[go_sem]) (.inl rfl) (by simp[go_sem]) (fun _=>?_) (by simp[tabG,go_sem])
    simp(disch:=omega)[go_sem];refine⟨.inl (by kernel_rfl),?_⟩
    refine zAe mixed (co2F t i) (fun k=>k≤t.s.eyes.length) (fun k=>t.s.eyes.length-k) 0 (by omega) ?_ ?_
    ·refine Le.mk [(0,some 0),(512,some 512),(528,some 528),(544,some 544)] [0,512,528,544] ⟨rfl,rfl,rfl⟩ ?_ ?_ ?_<;>simp[go_sem,tckL,co2F,cntO,coB,coC]
    ·intro k hk;have hF2:∀k,co2F t i k=⟨[(69,.int .i64 k),(68,.int .i64 t.s.eyes.length),(67,.sl 4 (t.s.eyes.map eyeV)),(5,.bool (coB t i k)),(2,.int .i64 i),(44,.int .i64 i),(43,.int .i64 t.s.phases.length),(0,.ptr 0 1 0 0)],[(0,cntO t 512 528 544 t.s.phases.length),(512,⟨.arr,3,1,ints (coK t i).greens⟩),(528,⟨.arr,3,1,ints (coK t i).busy⟩),(544,⟨.arr,3,1,ints (coC t i (coK t i).came k)⟩)],8192,[],149,1,tabG⟩:=fun _=>rfl
     rw[hF2];simp(disch:=omega)[go_sem,tckL,cntO];refine zAc (fun d1=>?_) (fun d1=>?_)<;>simp at d1
     ·have hex:t.s.eyes.getD k ⟨0,0,0,0⟩=t.s.eyes[k]:=by simp[d1]
      have hkp:k<t.x.puls.length:=by have:=h.puls;omega
      have hkw:k<t.was.length:=by have:=h.was;omega
      have hpx:t.x.puls.getD k pul0=t.x.puls[k]:=by simp[hkp]
      have hwx:t.was.getD k pul0=t.was[k]:=by simp[hkw]
      have b1:coB t i (k+1)=(coB t i k||coUp t i k):=rfl
      have b2:coC t i (coK t i).came (k+1)=if coUp t i k=true∧(t.was.getD k pul0).1=false then(coC t i (coK t i).came k).set i (zGl ((coC t i (coK t i).came k).getD i 0) 1048576)else coC t i (coK t i).came k:=rfl
      have b3:coUp t i k=(decide ((t.s.eyes.getD k ⟨0,0,0,0⟩).phase=(i:Int))&&(t.x.puls.getD k pul0).1):=rfl;rw[hex,hpx]at b3;rw[hwx]at b2;have hF3:=hF2 (k+1);have hev:eyeV t.s.eyes[k]= .agg [.int .i64 t.s.eyes[k].phase,.int .i64 t.s.eyes[k].on,.int .i64 t.s.eyes[k].off,.int .i64 t.s.eyes[k].turns]:=rfl;have hpv:pulV t.x.puls[k]= .agg [.bool t.x.puls[k].1,.bool t.x.puls[k].2.1,.int .i64 t.x.puls[k].2.2]:=rfl;have hwv:pulV t.was[k]= .agg [.bool t.was[k].1,.bool t.was[k].2.1,.int .i64 t.was[k].2.2]:=rfl;simp(disch:=omega)[go_sem,d1,hkp,hev,hpv];rw[← b3];obtain⟨⟨_,_,v3⟩,_,_,e3⟩:=yKb t h.vals i;obtain⟨w1,w2⟩:=yYy t i v3 k;have hcl:(coC t i (coK t i).came k).length=t.s.phases.length:=by rw[w2,e3];exact l3
      have hic:i<(coC t i (coK t i).came k).length:=by omega
      have hgx:(coC t i (coK t i).came k).getD i 0=(coC t i (coK t i).came k)[i]:=by simp[hic]
      have hvb:=w1 _ (List.getElem_mem hic);have qm:=zHi ((coC t i (coK t i).came k)[i]) 1048576 (by omega)
      rw[hgx]at b2;generalize coB t i (k+1)=B1 at *;generalize coC t i (coK t i).came (k+1)=C1 at *;refine zAc (fun h5=>?_) (fun h5=>?_)
      ·rw[h5]at b1 b2;rw[Bool.or_true]at b1;simp(disch:=omega)[go_sem,hkw,hwv];cases hwa:(t.was[k]).1 with
       |true=>
        rw[hwa,if_neg (by simp)]at b2
        simp(disch:=omega)[go_sem];refine zAb (k+1) (by omega) (by omega) (Le.mk [(0,some 0),(512,some 512),(528,some 528),(544,some 544)] [0,512,528,544] ⟨rfl,rfl,rfl⟩ ?_ ?_ ?_)<;>simp[go_sem,tckL,hF3,cntO,b1,b2]
       |false=>
        rw[hwa,if_pos (by simp)]at b2
        have hn:=zAz hic;have m1:(ints (coC t i (coK t i).came k)).set i (.int .i64 (zGl ((coC t i (coK t i).came k)[i]) 1048576))=ints C1:=by rw[b2];simp[ints,List.map_set]
        have hC1:C1.length=t.s.phases.length:=by rw[b2,List.length_set];exact hcl
        have hpC:=zAo C1;simp(disch:=omega)[go_sem,hcl,hn,c1];refine zAa qm [] (by simp[go_sem]) (.inl rfl) (by simp[go_sem]) (fun _=>?_)
        simp(disch:=omega)[go_sem,hcl,hn];refine⟨by omega,.inl (by kernel_rfl),?_⟩
        refine zAb (k+1) (by omega) (by omega) (Le.mk [(0,some 0),(512,some 512),(528,some 528),(544,some 544)] [0,512,528,544] ⟨rfl,rfl,rfl⟩ ?_ ?_ ?_)<;>simp[go_sem,tckL,hpC,hF3,cntO,b1,m1]
      ·rw[h5]at b1 b2;rw[if_neg (by simp)]at b2
       rw[Bool.or_false]at b1;simp(disch:=omega)[go_sem];refine zAb (k+1) (by omega) (by omega) (Le.mk [(0,some 0),(512,some 512),(528,some 528),(544,some 544)] [0,512,528,544] ⟨rfl,rfl,rfl⟩ ?_ ?_ ?_)<;>simp[go_sem,tckL,hF3,cntO,b1,b2]
     ·have hkk:k=t.s.eyes.length:=by omega
      subst hkk;obtain⟨⟨v1,v2,v3⟩,e1,e2,e3⟩:=yKb t h.vals i;have hgi:i<(coK t i).greens.length:=by omega
      have hbi:i<(coK t i).busy.length:=by omega
      have vg:=v1 _ (List.getElem_mem hgi);have vb:=v2 _ (List.getElem_mem hbi);have qg:=zHi ((coK t i).greens[i]) 1048576 (by omega)
      have qb:=zHi ((coK t i).busy[i]) 1048576 (by omega)
      have ng:=zAz hgi;have nb:=zAz hbi;have lg:(coK t i).greens.length=t.s.phases.length:=by omega
      have lb:(coK t i).busy.length=t.s.phases.length:=by omega
      have xg:(coK t i).greens.getD i 0=(coK t i).greens[i]:=by simp[hgi]
      have xb:(coK t i).busy.getD i 0=(coK t i).busy[i]:=by simp[hbi]
      rw[xg,xb]at hK;have mg:(ints (coK t i).greens).set i (.int .i64 (zGl ((coK t i).greens[i]) 1048576))=ints ((coK t i).greens.set i (zGl ((coK t i).greens[i]) 1048576)):=by simp[ints,List.map_set]
      have mb:(ints (coK t i).busy).set i (.int .i64 (zGl ((coK t i).busy[i]) 1048576))=ints ((coK t i).busy.set i (zGl ((coK t i).busy[i]) 1048576)):=by simp[ints,List.map_set]
      simp(disch:=omega)[go_sem];refine zAc (fun h5=>?_) (fun h5=>?_)
      ·rw[h5,if_pos rfl]at hK;simp(disch:=omega)[go_sem,lb,nb,c1];refine zAa qb [] (by simp[go_sem]) (.inl rfl) (by simp[go_sem]) (fun _=>?_)
       simp(disch:=omega)[go_sem,lg,lb,ng,nb,c1];refine⟨.inl (by kernel_rfl),?_⟩
       refine zAa qg [] (by simp[go_sem]) (.inl rfl) (by simp[go_sem]) (fun _=>?_)
       simp(disch:=omega)[go_sem,lg,ng,c1];refine⟨.inl (by kernel_rfl),?_⟩
       refine zAb (i+1) (by omega) (by omega) (Le.mk [(0,some 0),(512,some 512),(528,some 528),(544,some 544)] [0,512,528,544] ⟨rfl,rfl,rfl⟩ ?_ ?_ ?_)<;>simp[go_sem,tckL,hF1,cntO,hK,mg,mb]
      ·rw[h5,if_neg (by decide)]at hK
       simp(disch:=omega)[go_sem,lg,ng,c1];refine zAa qg [] (by simp[go_sem]) (.inl rfl) (by simp[go_sem]) (fun _=>?_)
       simp(disch:=omega)[go_sem,lg,ng,c1];refine⟨.inl (by kernel_rfl),?_⟩
       refine zAb (i+1) (by omega) (by omega) (Le.mk [(0,some 0),(512,some 512),(528,some 528),(544,some 544)] [0,512,528,544] ⟨rfl,rfl,rfl⟩ ?_ ?_ ?_)<;>simp[go_sem,tckL,hF1,cntO,hK,mg]
  ·have hkk:i=t.s.phases.length:=by omega
   subst hkk;simp(disch:=omega)[go_sem];refine Le.mk [(0,some 0),(1,some 512),(2,some 528),(3,some 544)] [0,512,528,544] ⟨rfl,rfl,rfl⟩ ?_ ?_ ?_<;>simp[go_sem,zCf]
end
section
attribute [local go_sem] zAm zAh
def xDy(g b c:Int):Int:=min (ofF (min g (b+c))*65536 / ofF (max 1 g)) 70368744177664
def zapK(l:List Int):Nat→List Int
 |0=>l
 |k+1=>(zapK l k).set k 0
theorem zIj(l:List Int):∀k,(zapK l k).length=l.length
 |0=>rfl
 |k+1=>by simp only[zapK,List.length_set];exact zIj l k
theorem zXs(l:List Int):∀k j,k≤j→(zapK l k).getD j 0=l.getD j 0
 |0,j,_=>rfl
 |k+1,j,h=>by
  have:=zXs l k j (by omega)
  simp only[zapK];rw[← this];simp only[List.getD_eq_getElem?_getD];rw[List.getElem?_set_ne (by omega)]
theorem zMo{l:List Int}(h:Val l):∀k,Val (zapK l k)
 |0=>h
 |k+1=>by
  have:=zMo h k;intro x hx;rcases List.mem_or_eq_of_mem_set hx with h1|h1
  ·exact this x h1
  ·subst h1;omega
def tlL(t:TckN):Nat→List Int
 |0=>[]
 |k+1=>tlL t k++[xDy (t.x.greens.getD k 0) (t.x.busy.getD k 0) (t.x.came.getD k 0)]
theorem yEe(t:TckN):∀k,(tlL t k).length=k
 |0=>rfl
 |k+1=>by simp[tlL,yEe t k]
def dueB(t:TckN):Bool:=decide ((t.x.tick+1) % t.s.low=0)&&decide ((zNx t.x.sent).2=0)
def yAk(t:TckN):RepN:=⟨t.s.id,t.x.rung.mode,t.x.tick,tlL t t.s.phases.length⟩
def yQb(t:TckN):List UInt8:=wrtB ⟨3,(zNx t.x.sent).1,repB (yAk t)⟩
def zDd(t:TckN):TckN:=if dueB t=true then{ t with out:=yQb t,x:={ t.x with greens:=zapK t.x.greens t.s.phases.length,busy:=zapK t.x.busy t.s.phases.length,came:=zapK t.x.came t.s.phases.length,sent:=(zNx t.x.sent).1 } } else t
theorem xUp{s:Sit}(hs:zAk s):1≤s.low∧s.low≤1048576:=by
 have h4:zEl s=true:=hs 4 (by decide)
 unfold zEl at h4
 simp[inN]at h4
 omega
structure xXi(t:TckN):Prop where
 site:zAk t.s
 lens:t.x.greens.length=t.s.phases.length∧t.x.busy.length=t.s.phases.length∧t.x.came.length=t.s.phases.length
 vals:Val t.x.greens∧Val t.x.busy∧Val t.x.came
 tick:0≤t.x.tick∧t.x.tick≤1073741824
 mode:0≤t.x.rung.mode
noncomputable def teF(t:TckN)(k:Nat):St:=⟨[(59,.int .i64 k),(58,.int .i64 t.s.phases.length),(4,.ptr 512 1 0 0),(2,.int .u32 (zNx t.x.sent).1),(0,.ptr 0 1 0 0)],[(0,cntO t 1 2 3 t.s.phases.length),(1,⟨.arr,3,1,ints (zapK t.x.greens k)⟩),(2,⟨.arr,3,1,ints (zapK t.x.busy k)⟩),(3,⟨.arr,3,1,ints (zapK t.x.came k)⟩),(512,⟨.box,193,4,[.agg [.int .i64 t.s.id,.int .u8 t.x.rung.mode,.int .i64 t.x.tick,.obj 1024 k]]⟩),(1024,⟨.arr,2,1,ints (tlL t k)⟩)],2048,[],151,4,tabG⟩
set_option maxHeartbeats 4000000 in
theorem yQd(t:TckN)(h:xXi t):FnR Tryz.prog 48 [cntO t 1 2 3 t.s.phases.length,⟨.arr,3,1,ints t.x.greens⟩,⟨.arr,3,1,ints t.x.busy⟩,⟨.arr,3,1,ints t.x.came⟩] [.ptr 0 1 0 0]
  [cntO (zDd t) 1 2 3 t.s.phases.length,⟨.arr,3,1,ints (zDd t).x.greens⟩,⟨.arr,3,1,ints (zDd t).x.busy⟩,⟨.arr,3,1,ints (zDd t).x.came⟩] (.tup []) tabG:=by
 have h8:t.s.phases.length≤8:=h.site.shaped.2.2.2.1.2
 have l1:=h.lens.1
 have l2:=h.lens.2.1
 have l3:=h.lens.2.2
 obtain⟨ht1,ht2⟩:=h.tick
 have hlow:=xUp h.site
 have htm:(t.x.tick+1).tmod t.s.low=(t.x.tick+1) % t.s.low:=Int.tmod_eq_emod_of_nonneg (by omega)
 have q1:=yNa t.x.sent
 have hT:zDd t=if dueB t=true then{ t with out:=yQb t,x:={ t.x with greens:=zapK t.x.greens t.s.phases.length,busy:=zapK t.x.busy t.s.phases.length,came:=zapK t.x.came t.s.phases.length,sent:=(zNx t.x.sent).1 } } else t:=rfl
 have hD:dueB t=(decide ((t.x.tick+1) % t.s.low=0)&&decide ((zNx t.x.sent).2=0)):=rfl
 have hF0:∀k,teF t k=⟨[(59,.int .i64 k),(58,.int .i64 t.s.phases.length),(4,.ptr 512 1 0 0),(2,.int .u32 (zNx t.x.sent).1),(0,.ptr 0 1 0 0)],[(0,cntO t 1 2 3 t.s.phases.length),(1,⟨.arr,3,1,ints (zapK t.x.greens k)⟩),(2,⟨.arr,3,1,ints (zapK t.x.busy k)⟩),(3,⟨.arr,3,1,ints (zapK t.x.came k)⟩),(512,⟨.box,193,4,[.agg [.int .i64 t.s.id,.int .u8 t.x.rung.mode,.int .i64 t.x.tick,.obj 1024 k]]⟩),(1024,⟨.arr,2,1,ints (tlL t k)⟩)],2048,[],151,4,tabG⟩:=fun _=>rfl
 by_cases hd:dueB t=true
 ·rw[if_pos hd]at hT;rw[hD]at hd;simp at hd;generalize zDd t=T at *;subst hT;refine zAv mixed Tryz.func48 rfl rfl (by simp[Tryz.ntmps48]) (by simp) fun hwf E=>?_
  clear hwf;simp(disch:=omega)[Tryz.ntmps48,go_sem,cntO,tckL];refine zAa q1 [] (by simp[go_sem]) (.inl rfl) (by simp[go_sem]) (fun _=>?_)
  simp(disch:=omega)[go_sem,htm];refine⟨by omega,.inl (by kernel_rfl),?_⟩
  refine zAc (fun b1=>?_) (fun b1=>?_)<;>simp at b1
  ·omega
  ·simp(disch:=omega)[go_sem];refine⟨.inl (by kernel_rfl),?_⟩
   refine zAe mixed (teF t) (fun k=>k≤t.s.phases.length) (fun k=>t.s.phases.length-k) 0 (by omega) ?_ ?_
   ·have hi0:ints []=[]:=rfl;refine Le.mk [(0,some 0),(1,some 1),(2,some 2),(3,some 3),(512,some 736),(1024,none)] [0,1,2,3,736] ⟨rfl,rfl,rfl⟩ ?_ ?_ ?_<;>simp[go_sem,cntO,tckL,teF,cntO,zapK,tlL,hi0]
   ·intro k hk;rw[hF0];have z1:=zIj t.x.greens k;have z2:=zIj t.x.busy k;have z3:=zIj t.x.came k;have hTl:=yEe t k;simp(disch:=omega)[go_sem,cntO,tckL,cntO];refine zAc (fun c1=>?_) (fun c1=>?_)<;>simp at c1
    ·have g1:k<(zapK t.x.greens k).length:=by omega
     have g2:k<(zapK t.x.busy k).length:=by omega
     have g3:k<(zapK t.x.came k).length:=by omega
     have x1:(zapK t.x.greens k)[k]=t.x.greens.getD k 0:=by rw[← zXs t.x.greens k k (Nat.le_refl _)];simp[g1]
     have x2:(zapK t.x.busy k)[k]=t.x.busy.getD k 0:=by rw[← zXs t.x.busy k k (Nat.le_refl _)];simp[g2]
     have x3:(zapK t.x.came k)[k]=t.x.came.getD k 0:=by rw[← zXs t.x.came k k (Nat.le_refl _)];simp[g3]
     have v1:=zMo h.vals.1 k _ (List.getElem_mem g1);have v2:=zMo h.vals.2.1 k _ (List.getElem_mem g2);have v3:=zMo h.vals.2.2 k _ (List.getElem_mem g3);have n1:=zAz g1;have n2:=zAz g2;have n3:=zAz g3;have s1:(ints (zapK t.x.greens k)).set k (.int .i64 0)=ints (zapK t.x.greens (k+1)):=by simp[ints,zapK,List.map_set]
     have s2:(ints (zapK t.x.busy k)).set k (.int .i64 0)=ints (zapK t.x.busy (k+1)):=by simp[ints,zapK,List.map_set]
     have s3:(ints (zapK t.x.came k)).set k (.int .i64 0)=ints (zapK t.x.came (k+1)):=by simp[ints,zapK,List.map_set]
     have hL:ints (tlL t (k+1))=ints (tlL t k)++[.int .i64 (xDy (t.x.greens.getD k 0) (t.x.busy.getD k 0) (t.x.came.getD k 0))]:=by simp[ints,tlL]
     have hLd:xDy (t.x.greens.getD k 0) (t.x.busy.getD k 0) (t.x.came.getD k 0)=min (ofF (min (t.x.greens.getD k 0) (t.x.busy.getD k 0+t.x.came.getD k 0))*65536 / ofF (max 1 (t.x.greens.getD k 0))) 70368744177664:=rfl;rw[← x1,← x2,← x3]at hL hLd;have hF1:=hF0 (k+1);have t1:=zIj t.x.greens (k+1);have t2:=zIj t.x.busy (k+1);have t3:=zIj t.x.came (k+1);have u1:=yEe t (k+1);have p1:=zAo (zapK t.x.greens (k+1));have p2:=zAo (zapK t.x.busy (k+1));have p3:=zAo (zapK t.x.came (k+1));generalize zapK t.x.greens (k+1)=Z1 at *;generalize zapK t.x.busy (k+1)=Z2 at *;generalize zapK t.x.came (k+1)=Z3 at *;generalize tlL t (k+1)=TL1 at *;generalize (zapK t.x.greens k)[k]=G at *;generalize (zapK t.x.busy k)[k]=B at *;generalize (zapK t.x.came k)[k]=C at *;have hmn:(if B+C<G then B+C else G)=min G (B+C):=by split<;>omega
     have hmx:(if 1<G then G else 1)=max 1 G:=by split<;>omega
     have qa:=zWv (min G (B+C));have qb:=zWv (max 1 G);have o1:ofF (min G (B+C))=min G (B+C)*65536:=by unfold ofF;rw[if_neg (by omega),if_neg (by omega)]
     have o2:ofF (max 1 G)=max 1 G*65536:=by unfold ofF;rw[if_neg (by omega),if_neg (by omega)]
     have qd:=yYr (ofF (min G (B+C))) (ofF (max 1 G)) (by rw[o1];omega) (by rw[o2];omega)
     rw[← hLd]at qd;generalize xDy G B C=LD at *;generalize ofF (min G (B+C))=FA at *;generalize ofF (max 1 G)=FB at *;simp(disch:=omega)[go_sem,l1,l2,l3,z1,z2,z3,n1,n2,n3,hmn,c1];refine zAa qa [] (by simp[go_sem]) (.inl rfl) (by simp[go_sem]) (fun _=>?_)
     simp(disch:=omega)[go_sem,l1,z1,n1,hmx,c1];refine zAa qb [] (by simp[go_sem]) (.inl rfl) (by simp[go_sem]) (fun _=>?_)
     simp(disch:=omega)[go_sem];refine zAa qd [] (by simp[go_sem]) (.inl rfl) (by simp[go_sem]) (fun _=>?_)
     simp(disch:=omega)[go_sem,l1,l2,l3,z1,z2,z3,hTl,n1,n2,n3,c1];refine⟨.inl (by kernel_rfl),?_⟩
     refine⟨⟨by omega,by omega⟩,.inl (by kernel_rfl),?_⟩
     refine zAb (k+1) (by omega) (by omega) (Le.mk [(0,some 0),(1,some 1),(2,some 2),(3,some 3),(512,some 512),(1024,some 1024)] [0,1,2,3,512,1024] ⟨rfl,rfl,rfl⟩ ?_ ?_ ?_)<;>simp[go_sem,cntO,tckL,hF1,cntO,s1,s2,s3,hL]
    ·have hkk:k=t.s.phases.length:=by omega
     subst hkk;have qr:=xCs (yAk t) h.mode;have qw:=yGn ⟨3,(zNx t.x.sent).1,repB (yAk t)⟩;have hO:wrtB ⟨3,(zNx t.x.sent).1,repB (yAk t)⟩=yQb t:=rfl;rw[hO]at qw;have hRv:xDt (yAk t)= .agg [.int .i64 t.s.id,.int .u8 t.x.rung.mode,.int .i64 t.x.tick,.sl 1 (ints (tlL t t.s.phases.length))]:=rfl;rw[hRv]at qr;unfold msgV at qw;have p1:=zAo (zapK t.x.greens t.s.phases.length);have p2:=zAo (zapK t.x.busy t.s.phases.length);have p3:=zAo (zapK t.x.came t.s.phases.length);have pl:=zAo (tlL t t.s.phases.length);have pb:=zAg (repB (yAk t));have po:=zAg (yQb t);generalize yQb t=OUT at *;generalize repB (yAk t)=RB at *;generalize repE (yAk t)=RE at *;generalize insE ⟨3,(zNx t.x.sent).1,RB⟩=IE at *;generalize tlL t t.s.phases.length=LL at *;generalize zapK t.x.greens t.s.phases.length=Z1 at *;generalize zapK t.x.busy t.s.phases.length=Z2 at *;generalize zapK t.x.came t.s.phases.length=Z3 at *;simp(disch:=omega)[go_sem];refine zBx qr [1024] [(1024,⟨.ro,2,1,ints LL⟩)] (by simp[go_sem,hTl,pl]) (by simp[go_sem,pl]) (by simp[go_sem]) (fun _=>?_)
     simp(disch:=omega)[go_sem];refine zAa qw [] (by simp[go_sem]) (.inl rfl) (by simp[go_sem]) (fun _=>?_)
     simp(disch:=omega)[go_sem];refine Le.mk [(0,some 0),(1,some 1),(2,some 2),(3,some 3)] [0,1,2,3] ⟨rfl,rfl,rfl⟩ ?_ ?_ ?_<;>simp[go_sem,p1,p2,p3]
 ·rw[if_neg hd]at hT;rw[hD]at hd;rw[hT];refine zAv mixed Tryz.func48 rfl rfl (by simp[Tryz.ntmps48]) (by simp) fun hwf E=>?_
  clear hwf;simp(disch:=omega)[Tryz.ntmps48,go_sem,cntO,tckL];refine zAa q1 [] (by simp[go_sem]) (.inl rfl) (by simp[go_sem]) (fun _=>?_)
  simp(disch:=omega)[go_sem,htm];refine⟨by omega,.inl (by kernel_rfl),?_⟩
  refine zAc (fun b1=>?_) (fun b1=>?_)<;>simp at b1
  ·simp(disch:=omega)[go_sem];refine Le.mk [(0,some 0),(1,some 1),(2,some 2),(3,some 3)] [0,1,2,3] ⟨rfl,rfl,rfl⟩ ?_ ?_ ?_<;>simp[go_sem]
  ·simp[b1]at hd
end
section
structure zCa(s:Sit)(x:LocN):Prop where
 disk:x.disk.length≤1048576
 now:zVo s x.now
 mode:0≤x.rung.mode∧x.rung.mode≤3
 well:0≤x.rung.well∧x.rung.well≤1048576
 lat:x.rung.lat=true→x.rung.mode=0∧x.rung.well=0
 sph:0≤x.sph∧x.sph<s.phases.length
 ssi:0≤x.ssi∧x.ssi≤1048576
 rest:x.rest.length≤2048
 age:0≤x.age∧x.age≤1048576
 puls:x.puls.length=s.eyes.length
 gaps:x.gaps.length=s.eyes.length
 calls:x.calls<4294967296
 wrong:0≤x.wrong∧x.wrong≤1048576
 tick:0≤x.tick∧x.tick≤1073741824
 lens:x.greens.length=s.phases.length∧x.busy.length=s.phases.length∧x.came.length=s.phases.length
 vals:Val x.greens∧Val x.busy∧Val x.came
theorem zSa{n m:Int}(h:0≤n∧n≤m):0≤zGl n m∧zGl n m≤m:=by unfold zGl;omega
theorem yEb(n:Nat):Val (List.replicate n 0):=by
 intro x hx
 have:=(List.mem_replicate.1 hx).2
 omega
theorem yRq{s:Sit}(h:zAk s):1≤s.phases.length:=h.shaped.2.2.2.1.1
theorem yCd{s:Sit}(hs:zAk s){d:List UInt8}(hd:d.length≤1048576):zCa s (zDj s d):=by
 have hp:=yRq hs
 unfold zDj
 constructor
 ·exact hd
 ·exact yUo hs
 ·show 0≤(zHm (zCe d).mode).mode∧(zHm (zCe d).mode).mode≤3
  unfold zHm;split<;>simp
 ·show 0≤(zHm (zCe d).mode).well∧(zHm (zCe d).mode).well≤1048576
  unfold zHm;split<;>simp
 ·show (zHm (zCe d).mode).lat=true→_
  unfold zHm;split<;>simp
 ·simp;omega
 ·simp
 ·simp
 ·simp
 ·simp
 ·simp
 ·simp
 ·simp
 ·simp
 ·simp
 ·exact⟨yEb _,yEb _,yEb _⟩
theorem xKj{d:List UInt8}{l:List (Int × List UInt8)}(h:chkK d l=0):∀p∈l,chkE d p=0:=by
 intro p hp
 unfold chkK at h
 cases hf:(l.map (chkE d)).find? (· != 0)with
 |none=>
  rw[List.find?_eq_none]at hf;have:=hf _ (List.mem_map_of_mem hp);simpa using this
 |some x=>
  rw[hf]at h;have:=List.find?_some hf;simp at this h;exact absurd h this
theorem yYq(d:List UInt8)(l:List (Int × List UInt8))(wh to:Int):(doL d l wh to).length≤d.length:=by
 unfold doL
 split
 ·rename_i h;unfold doE at h;split at h
  ·omega
  ·split at h
   ·omega
   ·split at h
    ·omega
    ·rename_i h1 h2 h3;have hc:=xKj (d:=d) (l:=l) (by omega)
     rw[zZk (fun i hi=>hc _ (List.getElem_mem hi)) _ (Nat.le_refl _)]
     exact Nat.le_refl _
 ·simp
theorem yYz{s:Sit}{c:Nat}(l:List zCx)(g:Int):(zJb s c l g).1<4294967296:=by
 unfold zJb
 split
 ·simp
 ·split
  ·simp
  ·exact zJd _ _
theorem xAs{n:Int}(h:0≤n∧n≤1048576):0≤addO n 1048576∧addO n 1048576≤1048576:=by unfold addO;split<;>omega
theorem xKs{s:Sit}{n:Int}{w l:List Int}(h:0≤n∧n≤1048576):0≤(zMg s n w l).1∧(zMg s n w l).1≤1048576:=by
 unfold zMg
 split
 ·simp
 ·split
  ·simp
  ·exact xAs h
theorem yTp(a:List UInt8):(yNr a).length≤2048:=by
 unfold yNr
 split
 ·rename_i h;rw[List.length_drop];omega
 ·simp
section
variable {t : TckN}
theorem yTn(h:zCa t.s t.x):zCa (zEx t).s (zEx t).x:=by
 unfold zEx
 refine{ h with rest:=yTp _,age:=?_ }
 simp only
 split
 ·omega
 ·exact zSa h.age
theorem xAw(h:zCa t.s t.x):zCa (zJv t).s (zJv t).x:=h
noncomputable def zBh(t:TckN):TckN:=if(zQc t).2=true then zJv (zEx t)else zEx t
theorem zOs(h:zCa t.s t.x):zCa (zBh t).s (zBh t).x:=by
 unfold zBh
 split
 ·exact xAw (yTn h)
 ·exact yTn h
theorem zNd:(zBh t).s=t.s∧(zBh t).i=t.i:=by unfold zBh;split<;>exact⟨rfl,rfl⟩
theorem yBo(h:t.x.disk.length≤1048576):(zRq t).length≤1048576:=Nat.le_trans (yYq _ _ _ _) h
theorem yAo(hs:zAk t.s)(h:mayS t.s t.x.now=true):snxS t.s t.x.now (zFl t.s)=zBe t.s t.x.now (zFl t.s):=by
 unfold snxS
 rw[if_neg (by simp[h]),if_neg (by rw[show zFl t.s=List.replicate t.s.groups.length 4 from rfl,zUg];simp)]
theorem xPc(hs:zAk t.s)(h:zCa t.s t.x):zCa (zPz t).s (zPz t).x:=by
 have hf:=yCd hs (yBo h.disk)
 unfold zPz
 refine{ hf with now:=?_,tick:=zSa h.tick }
 simp only
 rw[yAo hs h.now.1]
 exact yUn hs h.now.1
noncomputable def doT(t:TckN):TckN:={ t with x:={ t.x with disk:=doL t.x.disk t.writes t.writes.length 0 } }
theorem xWw(h:zCa t.s t.x):zCa (doT t).s (doT t).x:={ h with disk:=Nat.le_trans (yYq _ _ _ _) h.disk }
theorem xTx(h:zCa t.s t.x):zCa (seeT t).s (seeT t).x:=by
 unfold seeT
 exact{ h with puls:=by simp only;rw[yEt];exact h.puls,gaps:=by simp only;rw[yEu];exact h.gaps,calls:=yYz _ _ }
theorem yPi(h:0≤t.x.wrong∧t.x.wrong≤1048576):0≤zJu t∧zJu t≤1048576:=by
 unfold zJu
 split
 ·exact zSa h
 ·exact xKs h
theorem xKd(h:zCa t.s t.x):zCa (zHn t).s (zHn t).x:={ h with wrong:=yPi h.wrong }
theorem yMd{s:Sit}{x:LocN}(hs:zAk s)(h:zCa s x):zPw s x.rung=0:=by
 have e:zAl s=0:=by unfold zAl;rw[if_pos hs]
 have h1:=h.mode
 have h2:=h.well
 have h3:=h.lat
 unfold zPw
 rw[e,if_neg (by simp),if_neg]
 rintro(h4|h4|h4|⟨h4,h5⟩)
 ·omega
 ·omega
 ·omega
 ·have:=h3 h4;omega
theorem zYm{s:Sit}{x:LocN}(hs:zAk s)(h:zCa s x)(f:FacN):zYn s x.rung f=zJh s x.rung f:=by
 unfold zYn;rw[if_pos (yMd hs h)]
noncomputable def xOf(t:TckN)(f:FacN):TckN:={ t with x:={ t.x with rung:=zYn t.s t.x.rung f } }
theorem xPm{s:Sit}(hs:zAk s):1≤s.heal∧s.heal≤1048576:=by
 have h4:zEl s=true:=hs 4 (by decide)
 unfold zEl at h4
 simp[inN]at h4
 omega
theorem xBx{s:Sit}(hs:zAk s){x:LocN}(h:zCa s x)(f:FacN):(0≤(zJh s x.rung f).mode∧(zJh s x.rung f).mode≤3)∧(0≤(zJh s x.rung f).well∧(zJh s x.rung f).well≤1048576)∧((zJh s x.rung f).lat=true→(zJh s x.rung f).mode=0∧(zJh s x.rung f).well=0):=by
 have h1:=h.mode
 have h2:=h.well
 have hh:=xPm hs
 have hm:=ySp (x.rung.lat|| !f.lights) f
 have hl:(x.rung.lat|| !f.lights)=true→mayR (x.rung.lat|| !f.lights) f=0:=fun h=>by
  unfold mayR;rw[if_pos (.inl h)]
 unfold zJh
 split
 ·refine⟨hm,by simp,fun h3=>⟨hl h3,rfl⟩⟩
 ·rename_i h3;split
  ·refine⟨by simp;omega,by simp,fun h4=>?_⟩
   have:=hl h4;omega
  ·refine⟨h1,by simp;omega,fun h4=>?_⟩
   have:=hl h4;omega
theorem xOe(hs:zAk t.s)(h:zCa t.s t.x)(f:FacN):zCa (xOf t f).s (xOf t f).x:=by
 obtain⟨h1,h2,h3⟩:=xBx hs h f
 rw[← zYm hs h f]at h1 h2 h3
 exact{ h with mode:=h1,well:=h2,lat:=h3 }
theorem yQy{s:Sit}{r:RunN}{f:FacN}(h:(zJh s r f).mode=2):f.plan=true:=by
 have hm:∀l,2≤mayR l f→f.plan=true:=fun l h=>by
  unfold mayR at h;split at h
  ·omega
  ·split at h
   ·rename_i h2;exact h2.2.1
   ·split at h
    ·rename_i h2;exact h2
    ·omega
 apply hm (r.lat|| !f.lights)
 unfold zJh at h
 split at h
 ·simp only at h;omega
 ·split at h<;>(simp only at h;omega)
theorem xNz{s:Sit}(hs:zAk s){p:Nat}{n:Int}(hp:p<s.phases.length)(hn:0≤n∧n≤1048576)(w:SafN)(c g:Nat):(0≤(seqP s p n w c g).1∧(seqP s p n w c g).1<s.phases.length)∧0≤(seqP s p n w c g).2∧(seqP s p n w c g).2≤1048576:=by
 have h1:=yZp (othN s p c) p s.phases.length (by omega)
 have h2:=xAs hn
 unfold seqP
 split
 ·simp;omega
 ·split
  ·simp;omega
  ·simp;omega
theorem yRi{s:Sit}(hs:zAk s)(p:Pln)(t:Int):0≤(zJl s p t).1∧(zJl s p t).1<s.phases.length:=by
 have hp:=yRq hs
 have hc:=yKn (t:=t) (p:=p) hs
 unfold zJl
 generalize atN s p t=A at *
 obtain⟨ph,into,e⟩:=A
 simp only at *
 split
 ·rename_i he;obtain⟨j,rfl,j1,j2,_⟩:=hc he;simp only[Int.toNat_natCast];split
  ·have:=Nat.mod_lt (j+1) (show 0<s.phases.length by omega)
   omega
  ·omega
 ·simp;omega
theorem xMo(hs:zAk t.s)(h:zCa t.s t.x)(k:KepN):zCa (askT t k).s (askT t k).x:=by
 obtain⟨sp,hsp⟩:=Int.eq_ofNat_of_zero_le h.sph.1
 have h1:=h.sph.2
 have hq:=xNz hs (show t.x.sph.toNat<t.s.phases.length by omega) h.ssi t.x.now t.x.calls (yCa t)
 have hw:=yRi hs (yZx t k) t.x.tick
 unfold askT
 split
 ·exact h
 ·split
  ·exact{ h with sph:=hq.1,ssi:=hq.2 }
  ·exact{ h with sph:=hw,ssi:=by simp }
theorem yKr{s:Sit}(hs:zAk s){p:Int}(hp:0≤p∧p<s.phases.length):(zLj s p).length=s.groups.length:=by
 have e:zAl s=0:=by unfold zAl;rw[if_pos hs]
 have h0:tE s (zAl s) p=0:=by unfold tE zIq;rw[e,if_neg (by simp),if_neg (by simp),if_neg (by omega)]
 unfold zLj
 rw[if_pos h0]
 exact yEf _ _ _
theorem xKx(hs:zAk t.s)(h:zCa t.s t.x)(k:KepN):(askT t k).asks.length=t.s.groups.length:=by
 have hk:=xMo hs h k
 have hph:=hk.sph
 unfold askT at *
 split at hk
 ·rename_i h1;rw[if_pos h1];simp[zFl]
 ·rename_i h1;rw[if_neg h1]at *;split at hk
  ·rename_i h2;rw[if_pos h2]at *;exact yKr hs hph
  ·rename_i h2;rw[if_neg h2]at *;exact yKr hs hph
noncomputable def admT(t:TckN):TckN:={ t with lights:=zPo t.s t.x.now t.asks }
noncomputable def nowT(t:TckN):TckN:={ t with x:={ t.x with now:=snxS t.s t.x.now t.lights } }
theorem zJr(hs:zAk t.s)(h:zCa t.s t.x)(ha:t.asks.length=t.s.groups.length):(admT t).lights=zBz t.s t.x.now.groups t.x.now.start t.x.now.flashed t.asks:=xLh hs h.now ha
theorem yIs(hs:zAk t.s)(h:zCa t.s t.x)(ha:t.asks.length=t.s.groups.length):(nowT (admT t)).x.now=zBe t.s t.x.now (admT t).lights:=by
 have h1:=zJr hs h ha
 have hf:=zQg hs h.now ha
 rw[← h1]at hf
 show snxS t.s t.x.now (admT t).lights=_
 unfold snxS
 rw[if_neg (by simp[h.now.1]),if_neg (by rw[hf];simp)]
theorem xUk(hs:zAk t.s)(h:zCa t.s t.x)(ha:t.asks.length=t.s.groups.length):zCa (nowT (admT t)).s (nowT (admT t)).x:=by
 have h1:=yIs hs h ha
 have h2:=zJr hs h ha
 rw[h2]at h1
 have h3:zVo t.s (nowT (admT t)).x.now:=by rw[h1];exact xEs hs h.now ha
 exact{ h with now:=h3 }
theorem yKa(h:zCa t.s t.x):zCa (zCf t).s (zCf t).x:=by
 obtain⟨h1,h2,h3,h4⟩:=yKb t h.vals t.s.phases.length
 obtain⟨e1,e2,e3⟩:=h.lens
 exact{ h with lens:=⟨h2.trans e1,h3.trans e2,h4.trans e3⟩,vals:=h1 }
theorem yQe(h:zCa t.s t.x):zCa (zDd t).s (zDd t).x:=by
 obtain⟨v1,v2,v3⟩:=h.vals
 obtain⟨e1,e2,e3⟩:=h.lens
 unfold zDd
 split
 ·exact{ h with lens:=⟨by simp only;rw[zIj];exact e1,by simp only;rw[zIj];exact e2,by simp only;rw[zIj];exact e3⟩,vals:=⟨zMo v1 _,zMo v2 _,zMo v3 _⟩ }
 ·exact h
theorem yHy:(zDd t).s=t.s∧(zDd t).i=t.i∧(zDd t).lights=t.lights∧(zDd t).x.rung=t.x.rung∧(zDd t).x.now=t.x.now∧(zDd t).x.tick=t.x.tick:=by unfold zDd;split<;>exact⟨rfl,rfl,rfl,rfl,rfl,rfl⟩
theorem yOr(k:KepN):(askT t k).s=t.s∧(askT t k).i=t.i∧(askT t k).x.rung=t.x.rung∧(askT t k).x.now=t.x.now∧(askT t k).was=t.was:=by
 unfold askT;split
 ·exact⟨rfl,rfl,rfl,rfl,rfl⟩
 ·split<;>exact⟨rfl,rfl,rfl,rfl,rfl⟩
noncomputable def xBt(t:TckN):TckN:={ t with x:={ t.x with tick:=zGl t.x.tick 1073741824 } }
noncomputable def go1(t:TckN):TckN:=seeT (doT t)
noncomputable def go2(t:TckN):TckN:=xOf (zHn (go1 t)) (zHo (go1 t))
noncomputable def go3(t:TckN):TckN:=askT (go2 t) (zCe (go1 t).x.disk)
noncomputable def go4(t:TckN):TckN:=nowT (admT (go3 t))
noncomputable def goT(t:TckN):TckN:=xBt (zDd (zCf (go4 t)))
noncomputable def runT(t:TckN):TckN:=if t.i.lost=true then zPz (zBh t)else goT (zBh t)
theorem yUb(h:zCa t.s t.x):zCa t.s (go1 t).x:=xTx (xWw h)
theorem yUa(hs:zAk t.s)(h:zCa t.s t.x):zCa t.s (go2 t).x:=xOe (t:=zHn (go1 t)) hs (xKd (t:=go1 t) (yUb h)) _
theorem yTz:(go3 t).s=t.s∧(go3 t).i=t.i:=⟨(yOr (t:=go2 t) _).1,(yOr (t:=go2 t) _).2.1⟩
theorem yJi(hs:zAk t.s)(h:zCa t.s t.x):zCa t.s (go3 t).x:=by
 have:=xMo (t:=go2 t) hs (yUa hs h) (zCe (go1 t).x.disk)
 rw[(yOr (t:=go2 t) _).1]at this
 exact this
theorem yGk(hs:zAk t.s)(h:zCa t.s t.x):(go3 t).asks.length=t.s.groups.length:=xKx (t:=go2 t) hs (yUa hs h) _
theorem xMh(hs:zAk t.s)(h:zCa t.s t.x):zCa t.s (go4 t).x:=by
 have h3:=yJi hs h
 have e:=(yTz (t:=t)).1
 have:=xUk (t:=go3 t) (by rw[e];exact hs) (by rw[e];exact h3) (by rw[e];exact yGk hs h)
 rw[show (nowT (admT (go3 t))).s=t.s from e]at this
 exact this
theorem xNt(h:zCa t.s t.x):zCa (xBt t).s (xBt t).x:={ h with tick:=zSa h.tick }
theorem xPq:(go4 t).s=t.s∧(go4 t).i=t.i:=yTz
theorem xPp:(goT t).s=t.s∧(goT t).i=t.i:=by
 have h1:=xPq (t:=t)
 have h2:=yHy (t:=zCf (go4 t))
 exact⟨h2.1.trans h1.1,h2.2.1.trans h1.2⟩
theorem go_ok(hs:zAk t.s)(h:zCa t.s t.x):zCa t.s (goT t).x:=by
 have h4:=xMh hs h
 have e:=(xPq (t:=t)).1
 have:=xNt (t:=zDd (zCf (go4 t))) (yQe (t:=zCf (go4 t)) (yKa (t:=go4 t) (by rw[e];exact h4)))
 rw[show (xBt (zDd (zCf (go4 t)))).s=t.s from(xPp (t:=t)).1]at this
 exact this
theorem xUe:(runT t).s=t.s∧(runT t).i=t.i:=by
 unfold runT
 have h:=zNd (t:=t)
 split
 ·exact h
 ·exact⟨(xPp (t:=zBh t)).1.trans h.1,(xPp (t:=zBh t)).2.trans h.2⟩
theorem xUd(hs:zAk t.s)(h:zCa t.s t.x):zCa t.s (runT t).x:=by
 have h1:=zOs h
 have e:=(zNd (t:=t)).1
 rw[e]at h1
 unfold runT
 split
 ·have:=xPc (t:=zBh t) (by rw[e];exact hs) (by rw[e];exact h1)
  rw[show (zPz (zBh t)).s=t.s from e]at this
  exact this
 ·have:=go_ok (t:=zBh t) (by rw[e];exact hs) (by rw[e];exact h1)
  rw[e]at this;exact this
end
end
section
attribute [local go_sem] zAm zAh
set_option maxHeartbeats 8000000 in
theorem xCo(t:TckN)(hs:zAk t.s)(h:zCa t.s t.x)(hl:t.i.lost=true):FnR Tryz.prog 23 [tckO t] [.ptr 0 1 0 0] [tckO (runT t)] (.tup []) tabG:=by
 have q1:=zVt t hs h.rest h.age
 have q2:=zSk (zEx t)
 have hh:=zOs h
 have he:=zNd (t:=t)
 have q3:=ySt (zBh t) (by rw[he.1];exact hs) (yBo hh.disk) (by have:=(zGb hh.now.1).1;rw[this,he.1];have:=(zJx hs).g16;omega) hh.tick
 have hR:runT t=zPz (zBh t):=by unfold runT;rw[if_pos hl]
 rw[hR]
 have hT:zBh t=if(zQc t).2=true then zJv (zEx t)else zEx t:=rfl
 have hTi:(zEx t).i.lost=true:=hl
 have hWi:(zJv (zEx t)).i.lost=true:=hl
 generalize (zQc t).2=b at *
 generalize zBh t=T at *
 generalize zPz T=L at *
 generalize zJv (zEx t)=W at *
 generalize zEx t=H at *
 cases b with
 |true=>
  rw[if_pos rfl]at hT;subst hT;refine zAv mixed Tryz.func23 rfl rfl (by simp[Tryz.ntmps23]) (by simp) fun hwf E=>?_
  clear hwf;simp(disch:=omega)[Tryz.ntmps23,go_sem,tckO,tckD,tckL];refine zAf q1 [(0,some 0)] [0] [] [] ?_ ?_ ?_ (.inl ⟨rfl,.inl rfl⟩) (fun _=>?_) (by simp[tabG,go_sem])
  ·simp[go_sem]
  ·simp[go_sem,tckO,tckD,tckL]
  ·simp[go_sem,tckO,tckD,tckL]
  simp(disch:=omega)[go_sem,tckO,tckD,tckL];refine zAf q2 [(0,some 0)] [0] [] [] ?_ ?_ ?_ (.inl ⟨rfl,.inl rfl⟩) (fun _=>?_) (by simp[tabG,go_sem])
  ·simp[go_sem]
  ·simp[go_sem,tckO,tckD,tckL]
  ·simp[go_sem,tckO,tckD,tckL]
  simp(disch:=omega)[go_sem,tckO,tckD,tckL];simp(disch:=omega)[go_sem,hWi];refine zAf q3 [(0,some 0)] [0] [] [] ?_ ?_ ?_ (.inl ⟨rfl,.inl rfl⟩) (fun _=>?_) (by simp[tabG,go_sem])
  ·simp[go_sem]
  ·simp[go_sem,tckO,tckD,tckL,hWi]
  ·simp[go_sem,tckO,tckD,tckL]
  simp(disch:=omega)[go_sem,tckO,tckD,tckL];refine Le.mk [(0,some 0)] [0] ⟨rfl,rfl,rfl⟩ ?_ ?_ ?_<;>simp[go_sem]
 |false=>
  rw[if_neg (by decide)]at hT
  subst hT;refine zAv mixed Tryz.func23 rfl rfl (by simp[Tryz.ntmps23]) (by simp) fun hwf E=>?_
  clear hwf;simp(disch:=omega)[Tryz.ntmps23,go_sem,tckO,tckD,tckL];refine zAf q1 [(0,some 0)] [0] [] [] ?_ ?_ ?_ (.inl ⟨rfl,.inl rfl⟩) (fun _=>?_) (by simp[tabG,go_sem])
  ·simp[go_sem]
  ·simp[go_sem,tckO,tckD,tckL]
  ·simp[go_sem,tckO,tckD,tckL]
  simp(disch:=omega)[go_sem,tckO,tckD,tckL];simp(disch:=omega)[go_sem,hTi];refine zAf q3 [(0,some 0)] [0] [] [] ?_ ?_ ?_ (.inl ⟨rfl,.inl rfl⟩) (fun _=>?_) (by simp[tabG,go_sem])
  ·simp[go_sem]
  ·simp[go_sem,tckO,tckD,tckL,hTi]
  ·simp[go_sem,tckO,tckD,tckL]
  simp(disch:=omega)[go_sem,tckO,tckD,tckL];refine Le.mk [(0,some 0)] [0] ⟨rfl,rfl,rfl⟩ ?_ ?_ ?_<;>simp[go_sem]
set_option maxHeartbeats 16000000 in
theorem xCp(t:TckN)(hs:zAk t.s)(h:zCa t.s t.x)(he:t.i.eyes<4294967296)(hl:t.i.lost=false):FnR Tryz.prog 23 [tckO t] [.ptr 0 1 0 0] [tckO (runT t)] (.tup []) tabG:=by
 have q1:=zVt t hs h.rest h.age
 have q2:=zSk (zEx t)
 have hh0:=zOs h
 obtain⟨hes,hei⟩:=zNd (t:=t)
 have hT:zBh t=if(zQc t).2=true then zJv (zEx t)else zEx t:=rfl
 have hTi:(zEx t).i.lost=false:=hl
 have hWi:(zJv (zEx t)).i.lost=false:=hl
 have hR:runT t=goT (zBh t):=by unfold runT;rw[if_neg (by simp[hl])]
 have hsT:zAk (zBh t).s:=by rw[hes];exact hs
 have heT:(zBh t).i.eyes<4294967296:=by rw[hei];exact he
 rw[hR]
 clear hR h hs hes hei he hl
 generalize (zQc t).2=b at *
 generalize zBh t=T at *
 generalize zJv (zEx t)=W at *
 generalize zEx t=H at *
 have h:=hh0
 have hs:=hsT
 have h16:=(zJx hs).g16
 have q3:=yYp T.x.disk T.writes T.writes.length 0
 have hdo:=xWw h
 have q4:FnR Tryz.prog 41 [tckO (doT T)] [.ptr 0 1 0 0] [tckO (go1 T)] (.tup []) tabG:=xCh (doT T) hs hdo.puls hdo.gaps hdo.calls heT
 have k1:=yUb h
 have g16:∀ {x:LocN},zCa T.s x→x.now.groups.length≤1048576:=fun hx=>by have:=(zGb hx.now.1).1;omega
 have q5:FnR Tryz.prog 42 [tckO (go1 T)] [.ptr 0 1 0 0] [tckO (zHn (go1 T))] (.tup [facV (zHo (go1 T)),kepV (zCe (go1 T).x.disk)]) tabG:=yOa (go1 T) k1.wrong (g16 k1)
 have q6:=zQw (zHn (go1 T)).s (zHn (go1 T)).x.rung (zHo (go1 T))
 have k2:=yUa hs h
 have hpl:(go2 T).x.rung.mode=2→(zCe (go1 T).x.disk).plans≠[]:=fun hm=>by
  have e:(go2 T).x.rung=zJh T.s (go1 T).x.rung (zHo (go1 T)):=zYm hs k1 (zHo (go1 T));rw[e]at hm;have:=yQy hm;unfold zHo at this;simp at this;intro h0;rw[h0]at this;simp at this
 have q7:FnR Tryz.prog 44 [tckO (go2 T)] [.ptr 0 1 0 0,kepV (zCe (go1 T).x.disk)] [tckO (go3 T)] (.tup []) tabG:=xKw (go2 T) _ ⟨hs,k2.sph,k2.ssi,(zGb k2.now.1).1,k2.calls,k2.gaps,hpl⟩
 have k3:=yJi hs h
 have e3:=(yTz (t:=T)).1
 have q8:=yPg (go3 T).s (go3 T).x.now (go3 T).asks
 have q9:=yJs (go3 T).s (go3 T).x.now (admT (go3 T)).lights (by rw[e3];exact hs) (g16 k3)
 have k4:=xMh hs h
 have e4:=(xPq (t:=T)).1
 have hws:(go4 T).was.length=T.s.eyes.length:=by
  have:(go4 T).was=(go2 T).was:=(yOr (t:=go2 T) _).2.2.2.2;rw[this];show T.x.puls.length=_
  exact h.puls
 have q10:=yEh (go4 T) ⟨by rw[e4];exact hs,by rw[e4];exact k4.puls,by rw[e4];exact hws,by rw[e4];exact k4.lens,k4.vals⟩
 have k5:=yKa (t:=go4 T) (by rw[e4];exact k4)
 have q11:FnR Tryz.prog 48 [cntO (zCf (go4 T)) 1 2 3 (go4 T).s.phases.length,⟨.arr,3,1,ints (zCf (go4 T)).x.greens⟩,⟨.arr,3,1,ints (zCf (go4 T)).x.busy⟩,⟨.arr,3,1,ints (zCf (go4 T)).x.came⟩] [.ptr 0 1 0 0]
  [cntO (zDd (zCf (go4 T))) 1 2 3 (go4 T).s.phases.length,⟨.arr,3,1,ints (zDd (zCf (go4 T))).x.greens⟩,⟨.arr,3,1,ints (zDd (zCf (go4 T))).x.busy⟩,⟨.arr,3,1,ints (zDd (zCf (go4 T))).x.came⟩] (.tup []) tabG:=yQd (zCf (go4 T)) ⟨by show zAk (go4 T).s;rw[e4];exact hs,k5.lens,k5.vals,k5.tick,k5.mode.1⟩
 have k6:=yQe k5
 have q12:=zHi (zDd (zCf (go4 T))).x.tick 1073741824 (by have:=k6.tick;omega)
 have hd:doT T={ T with x:={ T.x with disk:=doL T.x.disk T.writes T.writes.length 0 } }:=rfl
 have h2:go2 T={ zHn (go1 T)with x:={ (zHn (go1 T)).x with rung:=zYn (zHn (go1 T)).s (zHn (go1 T)).x.rung (zHo (go1 T)) } }:=rfl
 have h4:go4 T={ go3 T with lights:=zPo (go3 T).s (go3 T).x.now (go3 T).asks,x:={ (go3 T).x with now:=snxS (go3 T).s (go3 T).x.now (admT (go3 T)).lights } }:=rfl
 have hal:(admT (go3 T)).lights=zPo (go3 T).s (go3 T).x.now (go3 T).asks:=rfl
 rw[hal]at q9 h4
 have hG:goT T={ zDd (zCf (go4 T))with x:={ (zDd (zCf (go4 T))).x with tick:=zGl (zDd (zCf (go4 T))).x.tick 1073741824 } }:=rfl
 obtain⟨l1,l2,l3⟩:=k5.lens
 rw[show (zCf (go4 T)).s.phases.length=(go4 T).s.phases.length from rfl]at l1 l2 l3
 obtain⟨m1,m2,m3⟩:=k6.lens
 rw[show (zDd (zCf (go4 T))).s.phases.length=(go4 T).s.phases.length by rw[(yHy (t:=zCf (go4 T))).1];rfl]at m1 m2 m3
 clear k1 k2 k3 k4 k5 k6 hdo e3 e4 hws hpl g16 hal h16 hh0 hsT heT
 generalize goT T=R at *
 generalize zDd (zCf (go4 T))=TL at *
 generalize zCf (go4 T)=C at *
 generalize (go4 T).s.phases.length=n at *
 generalize go4 T=G4 at *
 generalize zPo (go3 T).s (go3 T).x.now (go3 T).asks=AL at *
 generalize zRj (go3 T).s (go3 T).x.now (go3 T).asks=AE at *
 generalize snxS (go3 T).s (go3 T).x.now AL=NS at *
 generalize snxF (go3 T).s (go3 T).x.now AL=NF at *
 generalize snxE (go3 T).s (go3 T).x.now=NE at *
 generalize go3 T=G3 at *
 generalize go2 T=G2 at *
 generalize zCe (go1 T).x.disk=K at *
 generalize zHo (go1 T)=FF at *
 generalize zHn (go1 T)=F at *
 generalize zYn F.s F.x.rung FF=RR at *
 generalize zPw F.s F.x.rung=RE at *
 generalize go1 T=G1 at *
 generalize doT T=D at *
 generalize doL T.x.disk T.writes T.writes.length 0=dd at *
 generalize doE T.x.disk T.writes T.writes.length 0=de at *
 subst hd h2 h4 hG
 have hsv:=zAr
 have hkp:zBa (K.plans.map plnV):=zAs _
 have hpA:=zCl AL
 have hpN:=zEc NS.groups
 have i1:=zAo TL.x.greens
 have i2:=zAo TL.x.busy
 have i3:=zAo TL.x.came
 rw[hsv]at q6 q8 q9
 unfold devV at q3
 unfold runV facV at q6
 unfold facV kepV at q5
 unfold kepV at q7
 unfold safV at q8 q9
 obtain⟨kg,km,kps⟩:=K
 simp only at q3 q4 q5 q6 q7 q8 q9 q10 q11 q12 hkp
 cases b with
 |true=>
  rw[if_pos rfl]at hT;subst hT;refine zAv mixed Tryz.func23 rfl rfl (by simp[Tryz.ntmps23]) (by simp) fun hwf E=>?_
  clear hwf;simp(disch:=omega)[Tryz.ntmps23,go_sem,tckO,tckD,tckL];refine zAf q1 [(0,some 0)] [0] [] [] ?_ ?_ ?_ (.inl ⟨rfl,.inl rfl⟩) (fun _=>?_) (by simp[tabG,go_sem])
  ·simp[go_sem]
  ·simp[go_sem,tckO,tckD,tckL]
  ·simp[go_sem,tckO,tckD,tckL]
  simp(disch:=omega)[go_sem,tckO,tckD,tckL];refine zAf q2 [(0,some 0)] [0] [] [] ?_ ?_ ?_ (.inl ⟨rfl,.inl rfl⟩) (fun _=>?_) (by simp[tabG,go_sem])
  ·simp[go_sem]
  ·simp[go_sem,tckO,tckD,tckL]
  ·simp[go_sem,tckO,tckD,tckL]
  simp(disch:=omega)[go_sem,tckO,tckD,tckL];simp(disch:=omega)[go_sem,hWi];refine zAa q3 [] (by simp[go_sem]) (.inl rfl) (by simp[go_sem]) (fun _=>?_)
  simp(disch:=omega)[go_sem];refine⟨.inl (by kernel_rfl),?_⟩
  refine zAf q4 [(0,some 0)] [0] [] [] ?_ ?_ ?_ (.inl ⟨rfl,.inl rfl⟩) (fun _=>?_) (by simp[tabG,go_sem])
  ·simp[go_sem]
  ·simp[go_sem,tckO,tckD,tckL,hWi]
  ·simp[go_sem,tckO,tckD,tckL]
  simp(disch:=omega)[go_sem,tckO,tckD,tckL];refine zAf q5 [(0,some 0)] [0] [] [] ?_ ?_ ?_ (.inl ⟨rfl,.inl rfl⟩) (fun _=>?_) (by simp[tabG,go_sem])
  ·simp[go_sem]
  ·simp[go_sem,tckO,tckD,tckL]
  ·simp[go_sem,tckO,tckD,tckL]
  simp(disch:=omega)[go_sem,tckO,tckD,tckL];refine zAa q6 [] (by simp[go_sem]) (.inl rfl) (by simp[go_sem]) (fun _=>?_) (by simp[tabG,go_sem])
  simp(disch:=omega)[go_sem];refine⟨.inl (by kernel_rfl),?_⟩
  refine zAf q7 [(0,some 0)] [0] [] [] ?_ ?_ ?_ (.inl ⟨rfl,.inl rfl⟩) (fun _=>?_) (by simp[tabG,go_sem])
  ·simp[go_sem]
  ·simp[go_sem,tckO,tckD,tckL]
  ·simp[go_sem,tckO,tckD,tckL]
  simp(disch:=omega)[go_sem,tckO,tckD,tckL];refine zAa q8 [] (by simp[go_sem]) (.inl rfl) (by simp[go_sem]) (fun _=>?_) (by simp[tabG,go_sem])
  simp(disch:=omega)[go_sem];refine⟨.inl (by kernel_rfl),?_⟩
  refine zAa q9 [] (by simp[go_sem]) (.inl rfl) (by simp[go_sem]) (fun _=>?_) (by simp[tabG,go_sem])
  simp(disch:=omega)[go_sem];refine⟨.inl (by kernel_rfl),?_⟩
  refine zAf q10 [(0,some 0)] [0] [] [] ?_ ?_ ?_ (.inl ⟨rfl,.inl rfl⟩) (fun _=>?_) (by simp[tabG,go_sem])
  ·simp[go_sem]
  ·simp[go_sem,tckO,tckD,tckL]
  ·simp[go_sem,tckL,cntO]
  simp(disch:=omega)[go_sem,tckL,cntO];refine zAf q11 [(0,some 0),(1,some 1777),(2,some 1778),(3,some 1779)] [0,1777,1778,1779] [] [] ?_ ?_ ?_ (.inl ⟨rfl,.inl rfl⟩) (fun _=>?_) (by simp[tabG,go_sem])
  ·simp[go_sem]
  ·simp[go_sem,tckL,cntO]
  ·simp[go_sem,tckL,cntO]
  simp(disch:=omega)[go_sem,tckL,cntO];refine zAa q12 [] (by simp[go_sem]) (.inl rfl) (by simp[go_sem]) (fun _=>?_)
  simp(disch:=omega)[go_sem];refine Le.mk [(0,some 0)] [0] ⟨rfl,rfl,rfl⟩ ?_ ?_ ?_<;>simp[go_sem,m1,m2,m3,i1,i2,i3]
 |false=>
  rw[if_neg (by decide)]at hT
  subst hT;refine zAv mixed Tryz.func23 rfl rfl (by simp[Tryz.ntmps23]) (by simp) fun hwf E=>?_
  clear hwf;simp(disch:=omega)[Tryz.ntmps23,go_sem,tckO,tckD,tckL];refine zAf q1 [(0,some 0)] [0] [] [] ?_ ?_ ?_ (.inl ⟨rfl,.inl rfl⟩) (fun _=>?_) (by simp[tabG,go_sem])
  ·simp[go_sem]
  ·simp[go_sem,tckO,tckD,tckL]
  ·simp[go_sem,tckO,tckD,tckL]
  simp(disch:=omega)[go_sem,tckO,tckD,tckL];simp(disch:=omega)[go_sem,hTi];refine zAa q3 [] (by simp[go_sem]) (.inl rfl) (by simp[go_sem]) (fun _=>?_)
  simp(disch:=omega)[go_sem];refine⟨.inl (by kernel_rfl),?_⟩
  refine zAf q4 [(0,some 0)] [0] [] [] ?_ ?_ ?_ (.inl ⟨rfl,.inl rfl⟩) (fun _=>?_) (by simp[tabG,go_sem])
  ·simp[go_sem]
  ·simp[go_sem,tckO,tckD,tckL,hTi]
  ·simp[go_sem,tckO,tckD,tckL]
  simp(disch:=omega)[go_sem,tckO,tckD,tckL];refine zAf q5 [(0,some 0)] [0] [] [] ?_ ?_ ?_ (.inl ⟨rfl,.inl rfl⟩) (fun _=>?_) (by simp[tabG,go_sem])
  ·simp[go_sem]
  ·simp[go_sem,tckO,tckD,tckL]
  ·simp[go_sem,tckO,tckD,tckL]
  simp(disch:=omega)[go_sem,tckO,tckD,tckL];refine zAa q6 [] (by simp[go_sem]) (.inl rfl) (by simp[go_sem]) (fun _=>?_) (by simp[tabG,go_sem])
  simp(disch:=omega)[go_sem];refine⟨.inl (by kernel_rfl),?_⟩
  refine zAf q7 [(0,some 0)] [0] [] [] ?_ ?_ ?_ (.inl ⟨rfl,.inl rfl⟩) (fun _=>?_) (by simp[tabG,go_sem])
  ·simp[go_sem]
  ·simp[go_sem,tckO,tckD,tckL]
  ·simp[go_sem,tckO,tckD,tckL]
  simp(disch:=omega)[go_sem,tckO,tckD,tckL];refine zAa q8 [] (by simp[go_sem]) (.inl rfl) (by simp[go_sem]) (fun _=>?_) (by simp[tabG,go_sem])
  simp(disch:=omega)[go_sem];refine⟨.inl (by kernel_rfl),?_⟩
  refine zAa q9 [] (by simp[go_sem]) (.inl rfl) (by simp[go_sem]) (fun _=>?_) (by simp[tabG,go_sem])
  simp(disch:=omega)[go_sem];refine⟨.inl (by kernel_rfl),?_⟩
  refine zAf q10 [(0,some 0)] [0] [] [] ?_ ?_ ?_ (.inl ⟨rfl,.inl rfl⟩) (fun _=>?_) (by simp[tabG,go_sem])
  ·simp[go_sem]
  ·simp[go_sem,tckO,tckD,tckL]
  ·simp[go_sem,tckL,cntO]
  simp(disch:=omega)[go_sem,tckL,cntO];refine zAf q11 [(0,some 0),(1,some 1745),(2,some 1746),(3,some 1747)] [0,1745,1746,1747] [] [] ?_ ?_ ?_ (.inl ⟨rfl,.inl rfl⟩) (fun _=>?_) (by simp[tabG,go_sem])
  ·simp[go_sem]
  ·simp[go_sem,tckL,cntO]
  ·simp[go_sem,tckL,cntO]
  simp(disch:=omega)[go_sem,tckL,cntO];refine zAa q12 [] (by simp[go_sem]) (.inl rfl) (by simp[go_sem]) (fun _=>?_)
  simp(disch:=omega)[go_sem];refine Le.mk [(0,some 0)] [0] ⟨rfl,rfl,rfl⟩ ?_ ?_ ?_<;>simp[go_sem,m1,m2,m3,i1,i2,i3]
end
section
attribute [local go_sem] zAm zAh
theorem yPx(t:TckN)(hs:zAk t.s)(h:zCa t.s t.x)(he:t.i.eyes<4294967296):FnR Tryz.prog 23 [tckO t] [.ptr 0 1 0 0] [tckO (runT t)] (.tup []) tabG:=by
 cases hl:t.i.lost with
 |true=>exact xCo t hs h hl
 |false=>exact xCp t hs h he hl
def zHw(s:Sit)(x:LocN)(i:InpN):TckN:=⟨s,x,i,[],[],[],[],[]⟩
noncomputable def lcT(s:Sit)(x:LocN)(i:InpN):TckN:=runT (zHw s x i)
noncomputable def lcK(s:Sit)(d:List UInt8)(l:List InpN):Nat→LocN
 |0=>zDj s d
 |k+1=>(lcT s (lcK s d l k) (l.getD k inp0)).x
noncomputable def lcL(s:Sit)(d:List UInt8)(l:List InpN)(k:Nat):List Int:=(lcT s (lcK s d l k) (l.getD k inp0)).lights
noncomputable def zHf(s:Sit)(d:List UInt8)(l:List InpN)(k:Nat):List (List Int):=(List.range k).map (lcL s d l)
noncomputable def zGr(s:Sit)(d:List UInt8)(l:List InpN)(k:Nat):List Int:=(List.range k).map fun j=>(lcK s d l (j+1)).rung.mode
theorem yJb{s:Sit}(hs:zAk s){d:List UInt8}(hd:d.length≤1048576)(l:List InpN):∀k,zCa s (lcK s d l k)
 |0=>yCd hs hd
 |k+1=>xUd (t:=zHw s (lcK s d l k) (l.getD k inp0)) hs (yJb hs hd l k)
theorem yAj(s:Sit)(d:List UInt8)(l:List InpN)(k:Nat):(zHf s d l k).length=k:=by simp[zHf]
theorem yBl(s:Sit)(d:List UInt8)(l:List InpN)(k:Nat):(zGr s d l k).length=k:=by simp[zGr]
theorem yLe(s:Sit)(d:List UInt8)(l:List InpN)(k:Nat):ltss (zHf s d l (k+1))=ltss (zHf s d l k)++[.sl 1 (lts (lcL s d l k))]:=by
 simp[zHf,List.range_succ,ltss]
theorem yMx(s:Sit)(d:List UInt8)(l:List InpN)(k:Nat):lts (zGr s d l (k+1))=lts (zGr s d l k)++[.int .u8 (lcK s d l (k+1)).rung.mode]:=by
 simp[zGr,List.range_succ,lts]
noncomputable def rnF(s:Sit)(d:List UInt8)(l:List InpN)(k:Nat):St:=
 ⟨[(27,.int .i64 k),(26,.int .i64 l.length),(25,.sl 7 (l.map inpV)),(9,.ptr 176 1 0 0),(7,.obj 2048 k),(6,.obj 2064 k),(3,.ptr 0 1 0 0)],
  [(0,⟨.box,29,12,[sitV s]⟩),(176,⟨.box,61,27,[locV (lcK s d l k)]⟩),(2048,⟨.arr,5,1,lts (zGr s d l k)⟩),(2064,⟨.arr,30,1,ltss (zHf s d l k)⟩)],4096,[],58,0,tabG⟩
set_option maxHeartbeats 8000000 in
theorem yTc(s:Sit)(d:List UInt8)(l:List InpN)(hs:zAk s)(h2:twoB d=true)(hd:d.length≤1048576)(hl:l.length≤4096)(he:∀i∈l,i.eyes<4294967296) :
  FnD Tryz.prog 10 [sitV s,devV d,.sl 7 (l.map inpV)] (.tup [.sl 1 (ltss (zHf s d l l.length)),.sl 1 (lts (zGr s d l l.length)),.int .i64 0]) tabG:=by
 have q1:=zTw s d hd hs h2
 have hpu:=(⟨zBq s.groups,zBp s.phases,zBr s.eyes,zAs s.plans,zBn s.apart,zBo s.between⟩:_∧_∧_∧_∧_∧_)
 obtain⟨hp1,hp2,hp3,hp4,hp5,hp6⟩:=hpu
 have hpi:=zTx l
 have hsv:=zAr s
 have hF:∀k,rnF s d l k=⟨[(27,.int .i64 k),(26,.int .i64 l.length),(25,.sl 7 (l.map inpV)),(9,.ptr 176 1 0 0),(7,.obj 2048 k),(6,.obj 2064 k),(3,.ptr 0 1 0 0)],
  [(0,⟨.box,29,12,[sitV s]⟩),(176,⟨.box,61,27,[locV (lcK s d l k)]⟩),(2048,⟨.arr,5,1,lts (zGr s d l k)⟩),(2064,⟨.arr,30,1,ltss (zHf s d l k)⟩)],4096,[],58,0,tabG⟩:=fun _=>rfl
 have hlv:∀x:LocN,locV x= .agg [.sl 1 (bts x.disk),.sl 3 (x.now.groups.map zBb),.int .i64 x.now.start,.bool x.now.flashed,.int .u8 x.rung.mode,.int .i64 x.rung.well,.bool x.rung.lat,.int .i64 x.sph,.int .i64 x.ssi,.bool x.link.any,.int .u32 x.link.last,.int .i64 x.link.age,
  .sl 1 (bts x.rest),.int .i64 x.told.cycle,.int .i64 x.told.offset,.sl 1 (ints x.told.splits),.int .i64 x.age,.sl 3 (x.puls.map pulV),.sl 5 (x.eyes.map zCp),.sl 5 (x.gaps.map gapV),.int .u32 x.calls,.int .i64 x.wrong,.int .i64 x.tick,.sl 1 (ints x.greens),.sl 1 (ints x.busy),.sl 1 (ints x.came),.int .u32 x.sent]:=fun _=>rfl
 have h0:zDj s d=lcK s d l 0:=rfl
 have hm0:lts (zGr s d l 0)=[]:=rfl
 have ht0:ltss (zHf s d l 0)=[]:=rfl
 have hok:=yJb hs hd l
 rw[h0,hlv]at q1
 rw[hsv]at q1 ⊢
 unfold devV at q1 ⊢
 refine zAd mixed Tryz.func10 rfl rfl (by simp[Tryz.ntmps10]) fun hwf E=>?_
 clear hwf
 simp(disch:=omega)[Tryz.ntmps10,go_sem]
 refine zAa q1 [] (by simp[go_sem]) (.inl rfl) (by simp[go_sem]) (fun _=>?_) (by simp[tabG,go_sem])
 simp(disch:=omega)[go_sem]
 refine zAc (fun b0=>?_) (fun b0=>?_)<;>simp at b0
 ·exact absurd b0 (by omega)
 ·simp(disch:=omega)[go_sem];refine zAe mixed (rnF s d l) (fun k=>k≤l.length) (fun k=>l.length-k) 0 (by omega) ?_ ?_
  ·refine Le.mk [(0,some 0),(176,some 176),(2048,none),(2064,none)] [0,176] ⟨rfl,rfl,rfl⟩ ?_ ?_ ?_<;>simp[go_sem,rnF,hsv,hlv,hm0,ht0]
  ·intro k hk;rw[hF];have hml:=yBl s d l k;have htl:=yAj s d l k;have hml1:(lts (zGr s d l k)).length=k:=by rw[zMx];exact hml
   have htl1:(ltss (zHf s d l k)).length=k:=by rw[zYr];exact htl
   have hpm:=zCl (zGr s d l k);have hpt:=zTn (zHf s d l k);simp(disch:=omega)[go_sem,hlv,hsv];refine zAc (fun c1=>?_) (fun c1=>?_)<;>simp at c1
   ·have hx:l.getD k inp0=l[k]:=by simp[c1]
    have q2:=yPx (zHw s (lcK s d l k) l[k]) hs (hok k) (he _ (List.getElem_mem c1));have e1:runT (zHw s (lcK s d l k) l[k])=lcT s (lcK s d l k) l[k]:=rfl;have e2:lcK s d l (k+1)=(lcT s (lcK s d l k) l[k]).x:=by rw[← hx];rfl
    have e3:lcL s d l k=(lcT s (lcK s d l k) l[k]).lights:=by rw[← hx];rfl
    have e4:(lcT s (lcK s d l k) l[k]).s=s:=(xUe (t:=zHw s (lcK s d l k) l[k])).1;have m1:=yMx s d l k;have m2:=yLe s d l k;rw[e3]at m2;rw[e2]at m1;rw[e1]at q2;have hF1:=hF (k+1);rw[e2]at hF1;have hiv:inpV l[k]= .agg [.sl 1 (bts l[k].bytes),.int .u32 l[k].eyes,.sl 1 (lts l[k].back),.bool l[k].lost,.int .i64 l[k].whole,.int .i64 l[k].torn,.bool l[k].rot]:=rfl;generalize lcT s (lcK s d l k) l[k]=T at *;unfold zHw at q2;have b0:bts ([]:List UInt8)=[]:=rfl;have l0:lts ([]:List Int)=[]:=rfl;simp(disch:=omega)[go_sem,hiv,c1];refine zAf q2 [(0,some 4240)] [4240] [] [] ?_ ?_ ?_ (.inl ⟨rfl,.inl rfl⟩) (fun _=>?_) (by simp[tabG,go_sem])
    ·simp[go_sem]
    ·simp[go_sem,tckO,tckD,tckL,b0,l0]
    ·simp[go_sem,tckO,tckD,tckL]
    simp(disch:=omega)[go_sem,hml1,htl1,tckO,tckD,tckL];refine⟨⟨by omega,by omega⟩,by omega,.inl (by kernel_rfl),?_⟩
    have hpm1:=zCl (zGr s d l (k+1));have hpt1:=zTn (zHf s d l (k+1));have hml2:=yBl s d l (k+1);have htl2:=yAj s d l (k+1);have hml3:(lts (zGr s d l (k+1))).length=k+1:=by rw[zMx];exact hml2
    have htl3:(ltss (zHf s d l (k+1))).length=k+1:=by rw[zYr];exact htl2
    refine zAb (k+1) (by omega) (by omega) (Le.mk [(0,some 0),(176,some 176),(2048,some 2048),(2064,some 2064)] [0,176,2048,2064] ⟨rfl,rfl,rfl⟩ ?_ ?_ ?_)<;>simp[go_sem,hpm,hpt,hlv,hF1,hsv,m1,m2]
   ·have hkk:k=l.length:=by omega
    subst hkk;simp(disch:=omega)[go_sem,hml1,htl1]
    skip
theorem yTd(s:Sit)(d:List UInt8)(l:List InpN)(hs:zAk s)(h2:twoB d=true)(hd:d.length≤1048576)(hl:4096<l.length):FnD Tryz.prog 10 [sitV s,devV d,.sl 7 (l.map inpV)] (.tup [.sl 1 (ltss []),.sl 1 (lts []),.int .i64 4]) tabG:=by
 have q1:=zTw s d hd hs h2
 have hpi:=zTx l
 have hsv:=zAr s
 rw[hsv]at q1 ⊢
 unfold devV at q1 ⊢
 have hLl:=zOl (zDj s d)
 have hl0:locV (zDj s d)= .agg (locL (zDj s d)):=rfl
 have hLn:(locL (zDj s d)).length=27:=rfl
 rw[hl0]at q1
 generalize locL (zDj s d)=L at *
 refine zAd mixed Tryz.func10 rfl rfl (by simp[Tryz.ntmps10]) fun hwf E=>?_
 clear hwf
 simp(disch:=omega)[Tryz.ntmps10,go_sem]
 refine zAa q1 [] (by simp[go_sem]) (.inl rfl) (by simp[go_sem,hLl]) (fun _=>?_) (by simp[tabG,go_sem])
 simp(disch:=omega)[go_sem,hLn]
 refine zAc (fun h5=>?_) (fun h5=>?_)<;>simp at h5
 ·simp(disch:=omega)[go_sem];simp[lts,ltss,go_sem]
 ·exact absurd h5 (by omega)
end
section
theorem yTm{t:TckN}:(zBh t).x.now=t.x.now∧(zBh t).x.rung=t.x.rung∧(zBh t).x.age=(zEx t).x.age∧(zBh t).x.rest=(zEx t).x.rest∧(zBh t).x.wrong=t.x.wrong∧(zBh t).x.told=(zEx t).x.told:=by
 unfold zBh;split<;>exact⟨rfl,rfl,rfl,rfl,rfl,rfl⟩
theorem xUt{t:TckN}(hs:zAk t.s)(h:zCa t.s t.x):(goT t).x.now=zBe t.s t.x.now (goT t).lights∧zCk t.s t.x.now.groups t.x.now.start t.x.now.flashed (goT t).lights=0:=by
 have h3:=yJi hs h
 have e:=(yTz (t:=t)).1
 have el:=yGk hs h
 have en:(go3 t).x.now=t.x.now:=(yOr (t:=go2 t) (zCe (go1 t).x.disk)).2.2.2.1
 have n1:=yIs (t:=go3 t) (by rw[e];exact hs) (by rw[e];exact h3) (by rw[e];exact el)
 have n2:=zJr (t:=go3 t) (by rw[e];exact hs) (by rw[e];exact h3) (by rw[e];exact el)
 have nf:=zQg (s:=(go3 t).s) (by rw[e];exact hs) (w:=(go3 t).x.now) (by rw[e];exact h3.now) (l:=(go3 t).asks) (by rw[e];exact el)
 rw[← n2]at nf
 have ts:=yHy (t:=zCf (go4 t))
 have hl:(goT t).lights=(admT (go3 t)).lights:=ts.2.2.1
 have hn:(goT t).x.now=(nowT (admT (go3 t))).x.now:=ts.2.2.2.2.1
 rw[hn,hl,n1,e,en]
 rw[e,en]at nf
 exact⟨rfl,nf⟩
theorem xOg{t:TckN}(hs:zAk t.s)(h:zCa t.s t.x):(runT t).x.now=zBe t.s t.x.now (runT t).lights∧zCk t.s t.x.now.groups t.x.now.start t.x.now.flashed (runT t).lights=0:=by
 have hh:=zOs h
 have he:=(zNd (t:=t)).1
 have hn:=(yTm (t:=t)).1
 rw[he]at hh
 unfold runT
 split
 ·have:=yAo (t:=zBh t) (by rw[he];exact hs) (by rw[he];exact hh.now.1)
  have e2:(zPz (zBh t)).x.now=snxS (zBh t).s (zBh t).x.now (zFl (zBh t).s):=rfl;have e3:(zPz (zBh t)).lights=zFl (zBh t).s:=rfl;rw[e2,e3,this,he,hn];exact⟨rfl,zUg _⟩
 ·have:=xUt (t:=zBh t) (by rw[he];exact hs) (by rw[he];exact hh)
  rw[he,hn]at this;exact this
section
variable {s : Sit} {d : List UInt8} {l : List InpN}
theorem yQz{t:TckN}(hl:t.i.lost=true):runT t=zPz (zBh t):=by unfold runT;rw[if_pos hl]
theorem yRa{t:TckN}(hl:t.i.lost=false):runT t=goT (zBh t):=by unfold runT;rw[if_neg (by simp[hl])]
def yKt(r:List UInt8):Prop:=∀j,1≤j→r.getD j 0≠126
theorem yJr{b:List UInt8}(h:yKt b):∀k,(fdK b k).msgs=[]∧(k=0→(fdK b k).begun=false)
 |0=>⟨rfl,fun _=>rfl⟩
 |k+1=>by
  obtain⟨h1,h2⟩:=yJr h k;refine⟨?_,fun h=>absurd h (by omega)⟩
  simp only[fdK,zWz];split
  ·rename_i hx;have hk:k=0:=by
    apply Classical.byContradiction
    intro hne;exact h k (by omega) hx
   rw[h2 hk];simp only[Bool.false_and];split<;>simp[h1]
  ·split
   ·exact h1
   ·split
    ·exact h1
    ·exact h1
theorem yQu{b:List UInt8}(h:yKt b):zPv b=[]:=(yJr h _).1
theorem yTo{t:TckN}(hr:yKt t.x.rest)(hb:t.i.bytes.length=0):(zQc t).2=false∧(zEx t).x.told=t.x.told:=by
 have h0:t.i.bytes=[]:=by simpa using hb
 have hA:zCq t=t.x.rest:=by unfold zCq;rw[h0];simp
 have hM:zBv t=[]:=by
  unfold zBv;rw[hA,yQu hr];unfold nxtT;split
  ·rfl
  ·rfl
 have hP:zQc t=(t.x.told,false):=by unfold zQc;rw[hM];rfl
 exact⟨by rw[hP],by show (zQc t).1=_;rw[hP]⟩
theorem xOx{s:Sit}{w:SafN}(h:zVo s w):∀x∈w.groups,1≤x.aspect∧x.aspect≤4:=fun x hx=>by
 have h1:=h.2 x hx
 unfold zQe at h1
 split at h1
 ·simp at h1;omega
 ·simp at h1;omega
theorem xTv{t:TckN}:(zDd t).x.age=t.x.age∧(zDd t).x.wrong=t.x.wrong∧(zDd t).x.rest=t.x.rest∧(zDd t).x.told=t.x.told:=by unfold zDd;split<;>exact⟨rfl,rfl,rfl,rfl⟩
end
end
section
def dT:List UInt8:=List.replicate 256 0
theorem zPa:dT.length=256:=by simp[dT]
theorem half0:zCj dT 0=none:=by
 have h:zKc (inB (zDg dT 2 0 2) (zDg dT 2 0 2).length)=some (0,1):=by decide +kernel
 have e:dT.length / 64 / 2=2:=by rw[zPa]
 unfold zCj
 rw[e]
 unfold zPt yLp
 rw[h]
 rfl
theorem half1:zCj dT 1=none:=by
 have h:zKc (inB (zDg dT 2 1 2) (zDg dT 2 1 2).length)=some (0,1):=by decide +kernel
 have e:dT.length / 64 / 2=2:=by rw[zPa]
 unfold zCj
 rw[e]
 unfold zPt yLp
 rw[h]
 rfl
theorem yYs:zHg dT=190∧zCe dT=zJz:=by
 have h1:cntD dT= -1:=by unfold cntD;rw[half0,half1];rfl
 have h2:sltE dT=0:=by unfold sltE blkE;rw[zPa];rfl
 have h3:zHg dT=190:=by unfold zHg;rw[h2,h1];rfl
 exact⟨h3,by unfold zCe;rw[h3];rfl⟩
theorem yJx:twoB dT=true:=by unfold twoB blkM blkE;rw[zPa];rfl
theorem xWx:doL dT [] 0 0=dT:=by unfold doL doE chkK blkE;rw[zPa];rfl
abbrev sT:Sit:=zEw 1
theorem zNy:zAl sT=0:=by unfold zAl;rw[if_pos zEn]
structure Qui(x:LocN):Prop where
 disk:x.disk=dT
 rung:x.rung=⟨1,0,false⟩
 sph:x.sph=0
 told:x.told=⟨0,0,[]⟩
 rest:x.rest=[]
 puls:x.puls=[]
 eyes:x.eyes=[]
 gaps:x.gaps=[]
 calls:x.calls=0
 wrong:x.wrong=0
theorem zQy:Qui (zDj sT dT)∧(zDj sT dT).age=1048576∧(zDj sT dT).now=zHl sT:=by
 refine⟨⟨rfl,?_,rfl,rfl,rfl,rfl,rfl,rfl,rfl,rfl⟩,rfl,rfl⟩
 show zHm (zCe dT).mode=_
 rw[yYs.2];rfl
theorem xWv:zFm sT []=0:=by unfold zFm;rw[zNy];rfl
theorem xCw{t:TckN}(hs:t.s=sT)(hx:zCa sT t.x)(hq:Qui t.x)(hw:t.writes=[])(hi:t.i.back=[]) :
  Qui (goT t).x∧(goT t).lights=zBz sT t.x.now.groups t.x.now.start t.x.now.flashed [2,1]:=by
 have hk:∀ {x:LocN},zCa t.s x↔zCa sT x:=fun{x}=>by rw[hs]
 have ht:=hk.2 hx
 have hsO:zAk t.s:=by rw[hs];exact zEn
 -- the zIw
 have d1:(go1 t).x.disk=dT:=by
  show doL t.x.disk t.writes t.writes.length 0=dT
  rw[hq.disk,hw];exact xWx
 have p1:(go1 t).x.puls=[]:=by show seP (doT t) (doT t).x.puls.length=[];rw[show (doT t).x.puls=[] from hq.puls];exact hq.puls
 have g1:(go1 t).x.gaps=[]:=by show seG (doT t) (doT t).x.puls.length=[];rw[show (doT t).x.puls=[] from hq.puls];exact hq.gaps
 have e1:(go1 t).x.eyes=[]:=by
  show eyL (doT t).s (doT t).x.eyes (seU (doT t) (doT t).x.puls.length)=[]
  rw[show (doT t).s=sT from hs,show (doT t).x.eyes=[] from hq.eyes]
  unfold eyL;rw[xWv];rfl
 have c1:(go1 t).x.calls=0:=by
  show (zJb (doT t).s (doT t).x.calls (seE (doT t)) (seGr (doT t))).1=0
  have e2:seE (doT t)=[]:=e1;rw[e2,show (doT t).s=sT from hs,show (doT t).x.calls=0 from hq.calls]
  have hgr:seGr (doT t)=0∨seGr (doT t)= -1:=by
   unfold seGr;split
   ·left;exact hq.sph
   ·right;rfl
  unfold zJb;rw[xWv,if_neg (by simp)]
  rcases hgr with h|h<;>rw[h]<;>decide +kernel
 have w1:zJu (go1 t)=0:=by
  have hb:zMg t.s t.x.wrong (zBu t.x.now.groups) t.i.back=(0,0):=by
   rw[hi,hq.wrong];have hg:=(zGb ht.now.1).1;have hp:=xOx ht.now;have hl:zDy t.s (zBu t.x.now.groups)=0:=by
    unfold zDy;rw[if_neg (by rw[zEb];simp[hg]),if_neg]
    rw[Bool.not_eq_true,zDm];intro k hk;rw[zEb]at hk;unfold ltQ;rw[zOo (by rw[zEb];exact hk)]
    have:=hp _ (List.getElem_mem hk);simp[zBu];omega
   have hwv:zGf t.s (zBu t.x.now.groups) []=(false,0):=by
    unfold zGf;rw[hl,if_neg (by simp),if_neg (by simp)];rfl
   have hcE:zEg t.s 0=0:=by unfold zEg;rw[hs,zNy];rfl
   unfold zMg;rw[hcE,hwv];rfl
  show (if(zMg t.s t.x.wrong (zBu t.x.now.groups) t.i.back).2≠0 then _ else(zMg t.s t.x.wrong (zBu t.x.now.groups) t.i.back).1)=0
  rw[hb];rfl
 have hF:(zHo (go1 t)).lights=true∧(zHo (go1 t)).plan=false:=by
  constructor
  ·show (!zTv t.s (zJu (go1 t)))=true
   rw[w1,hs];unfold zTv zEg;rw[zNy];rfl
  ·show (!t.i.rot&&decide (zHg (go1 t).x.disk=0)&&_)=false
   rw[d1,yYs.1];simp
 have r2:(go2 t).x.rung=⟨1,0,false⟩:=by
  have:=zYm hsO (yUb ht) (zHo (go1 t));show zYn t.s t.x.rung (zHo (go1 t))=_
  rw[show (go1 t).x.rung=t.x.rung from rfl]at this
  rw[this,hq.rung];unfold zJh mayR;rw[hF.1,hF.2];simp
 have q3:askQ (go2 t)=(0,(askQ (go2 t)).2):=by
  have e:(askQ (go2 t)).1=0:=by
   unfold askQ seqP;rw[show (go2 t).s=sT from hs,show (go2 t).x.sph=0 from hq.sph,show (go2 t).x.calls=0 from c1]
   have ho:othN sT (0:Int).toNat 0=0:=by decide +kernel
   split
   ·rfl
   ·unfold yPw;rw[ho];simp
  rw[← e]
 have a3:(go3 t).asks=[2,1]∧(go3 t).x.sph=0:=by
  have e:go3 t={ go2 t with x:={ (go2 t).x with sph:=(askQ (go2 t)).1,ssi:=(askQ (go2 t)).2 },asks:=zLj (go2 t).s (askQ (go2 t)).1 }:=by
   show askT (go2 t) _=_
   unfold askT;rw[r2];rfl
  rw[e,q3,show (go2 t).s=sT from hs]
  refine⟨?_,rfl⟩;show zLj sT 0=[2,1]
  unfold zLj tE zIq;rw[zNy];decide +kernel
 have h3:=yJi hsO ht
 have e3:=(yTz (t:=t)).1
 have n2:=zJr (t:=go3 t) (by rw[e3];exact hsO) (by rw[e3];exact h3) (by rw[e3];exact yGk hsO ht)
 have en:(go3 t).x.now=t.x.now:=(yOr (t:=go2 t) (zCe (go1 t).x.disk)).2.2.2.1
 have ts:=yHy (t:=zCf (go4 t))
 have hl:(goT t).lights=(admT (go3 t)).lights:=ts.2.2.1
 have tx:=xTv (t:=zCf (go4 t))
 have hx3:(go3 t).x.disk=dT∧(go3 t).x.rung=⟨1,0,false⟩∧(go3 t).x.told=⟨0,0,[]⟩∧(go3 t).x.rest=[]∧(go3 t).x.puls=[]∧(go3 t).x.eyes=[]∧(go3 t).x.gaps=[]∧(go3 t).x.calls=0∧(go3 t).x.wrong=0:=by
  have e:go3 t={ go2 t with x:={ (go2 t).x with sph:=(askQ (go2 t)).1,ssi:=(askQ (go2 t)).2 },asks:=zLj (go2 t).s (askQ (go2 t)).1 }:=by
   show askT (go2 t) _=_
   unfold askT;rw[r2];rfl
  rw[e];exact⟨d1,r2,hq.told,hq.rest,p1,e1,g1,c1,w1⟩
 obtain⟨x1,x2,x3,x4,x5,x6,x7,x8,x9⟩:=hx3
 have tq:∀u:TckN,(zDd u).x.disk=u.x.disk∧(zDd u).x.sph=u.x.sph∧(zDd u).x.puls=u.x.puls∧(zDd u).x.eyes=u.x.eyes∧(zDd u).x.gaps=u.x.gaps∧(zDd u).x.calls=u.x.calls:=fun u=>by unfold zDd;split<;>exact⟨rfl,rfl,rfl,rfl,rfl,rfl⟩
 obtain⟨y1,y2,y3,y4,y5,y6⟩:=tq (zCf (go4 t))
 refine⟨⟨y1.trans x1,ts.2.2.2.1.trans x2,y2.trans a3.2,tx.2.2.2.trans x3,tx.2.2.1.trans x4,y3.trans x5,y4.trans x6,y5.trans x7,y6.trans x8,tx.2.1.trans x9⟩,?_⟩
 rw[hl,n2,a3.1,e3,en,hs]
theorem yNq{t:TckN}(hr:t.x.rest=[])(hb:t.i.bytes=[]):zBh t=zEx t∧(zEx t).x.told=t.x.told∧(zEx t).x.rest=[]:=by
 have hro:yKt t.x.rest:=by rw[hr];intro j _;simp
 obtain⟨h1,h2⟩:=yTo hro (by rw[hb];rfl)
 refine⟨by unfold zBh;rw[h1];rfl,h2,?_⟩
 show yNr (zCq t)=[]
 unfold zCq
 rw[hr,hb]
 rfl
theorem yBw{x:LocN}{i:InpN}(hq:Qui x)(hb:i.bytes=[]):Qui (zBh (zHw sT x i)).x∧(zBh (zHw sT x i)).writes=[]∧(zBh (zHw sT x i)).x.now=x.now:=by
 obtain⟨h1,h2,h3⟩:=yNq (t:=zHw sT x i) hq.rest hb
 rw[h1]
 exact⟨⟨hq.disk,hq.rung,hq.sph,h2.trans hq.told,h3,hq.puls,hq.eyes,hq.gaps,hq.calls,hq.wrong⟩,rfl,rfl⟩
theorem zFv{x:LocN}(hx:zCa sT x)(hq:Qui x):Qui (lcT sT x inp0).x∧(lcT sT x inp0).lights=zBz sT x.now.groups x.now.start x.now.flashed [2,1]:=by
 obtain⟨q1,q2,q3⟩:=yBw (x:=x) (i:=inp0) hq rfl
 have hh:=zOs (t:=zHw sT x inp0) hx
 have he:=zNd (t:=zHw sT x inp0)
 have hg:=xCw (t:=zBh (zHw sT x inp0)) he.1 (by rw[he.1]at hh;exact hh) q1 q2 (by rw[he.2];rfl)
 rw[q3]at hg
 unfold lcT
 rw[yRa (t:=zHw sT x inp0) rfl]
 exact hg
def inpL:InpN:=⟨[],0,[],true,0,0,false⟩
theorem ySs{x:LocN}(hx:zCa sT x)(hq:Qui x):Qui (lcT sT x inpL).x∧(lcT sT x inpL).lights=[4,4]:=by
 obtain⟨q1,q2,q3⟩:=yBw (x:=x) (i:=inpL) hq rfl
 have he:=zNd (t:=zHw sT x inpL)
 unfold lcT
 rw[yQz (t:=zHw sT x inpL) rfl]
 have hd:zRq (zBh (zHw sT x inpL))=dT:=by
  unfold zRq zKf yLf zKf;rw[q1.disk,q2,he.2];exact xWx
 have f:=zQy.1
 refine⟨⟨?_,?_,rfl,rfl,rfl,?_,?_,?_,rfl,rfl⟩,?_⟩
 ·show zRq _=_;exact hd
 ·show zHm (zCe (zRq _)).mode=_;rw[hd];exact f.rung
 ·show List.replicate (zBh (zHw sT x inpL)).s.eyes.length _=_;rw[he.1];rfl
 ·show List.replicate (zBh (zHw sT x inpL)).s.eyes.length _=_;rw[he.1];rfl
 ·show List.replicate (zBh (zHw sT x inpL)).s.eyes.length _=_;rw[he.1];rfl
 ·show zFl (zBh (zHw sT x inpL)).s=_;rw[he.1];rfl
theorem zQb{x:LocN}{i:InpN}(hx:zCa sT x):(lcT sT x i).x.now=zBe sT x.now (lcT sT x i).lights:=(xOg (t:=zHw sT x i) zEn hx).1
theorem zYa:zHl sT=⟨[⟨1,1,1048576⟩,⟨1,1,1048576⟩],2,false⟩:=by
 have:zQd sT=2:=by decide +kernel
 unfold zHl
 rw[this];rfl
theorem zWn:zHf sT dT [inp0,inp0,inp0,inp0] 4=[[1,1],[1,1],[2,1],[2,1]]∧zGr sT dT [inp0,inp0,inp0,inp0] 4=[1,1,1,1]:=by
 have hd:dT.length≤1048576:=by rw[zPa];decide
 have hok:=yJb (s:=sT) zEn hd [inp0,inp0,inp0,inp0]
 have s0:=zQy.1
 have s1:=zFv (hok 0) s0
 have s2:=zFv (hok 1) s1.1
 have s3:=zFv (hok 2) s2.1
 have s4:=zFv (hok 3) s3.1
 have n0:(lcK sT dT [inp0,inp0,inp0,inp0] 0).now=⟨[⟨1,1,1048576⟩,⟨1,1,1048576⟩],2,false⟩:=zQy.2.2.trans zYa
 have n1:=zQb (i:=inp0) (hok 0)
 rw[s1.2,n0]at n1
 have l1:=s1.2
 rw[n0]at l1
 have e1:(lcK sT dT [inp0,inp0,inp0,inp0] 1).now=zBe sT ⟨[⟨1,1,1048576⟩,⟨1,1,1048576⟩],2,false⟩ [1,1]:=n1
 have n2:=zQb (i:=inp0) (hok 1)
 rw[s2.2,e1]at n2
 have l2:=s2.2
 rw[e1]at l2
 have e2:(lcK sT dT [inp0,inp0,inp0,inp0] 2).now=zBe sT (zBe sT ⟨[⟨1,1,1048576⟩,⟨1,1,1048576⟩],2,false⟩ [1,1]) [1,1]:=n2
 have n3:=zQb (i:=inp0) (hok 2)
 rw[s3.2,e2]at n3
 have l3:=s3.2
 rw[e2]at l3
 have e3:(lcK sT dT [inp0,inp0,inp0,inp0] 3).now=zBe sT (zBe sT (zBe sT ⟨[⟨1,1,1048576⟩,⟨1,1,1048576⟩],2,false⟩ [1,1]) [1,1]) [2,1]:=n3
 have l4:=s4.2
 rw[e3]at l4
 constructor
 ·show [_,_,_,_]=_
  refine congr (congrArg _ ?_) (congr (congrArg _ ?_) (congr (congrArg _ ?_) (congr (congrArg _ ?_) rfl)))
  ·exact l1.trans (by decide +kernel)
  ·exact l2.trans (by decide +kernel)
  ·exact l3.trans (by decide +kernel)
  ·exact l4.trans (by decide +kernel)
 ·show [_,_,_,_]=_
  have m:∀ {x:LocN},Qui x→x.rung.mode=1:=fun h=>by rw[h.rung]
  exact congr (congrArg _ (m s1.1)) (congr (congrArg _ (m s2.1)) (congr (congrArg _ (m s3.1)) (congr (congrArg _ (m s4.1)) rfl)))
end
section
attribute [local go_sem] zAm zAh
theorem zVs:FnD Tryz.prog 14 [] (sitV sT):=by
 refine zAd mixed Tryz.func14 rfl rfl (by simp[Tryz.ntmps14]) fun hwf E=>?_
 simp(disch:=omega)[Tryz.ntmps14,go_sem]
 simp[zEw,sitV,grpV,phaV,sets,rows,ints,go_sem]
theorem zUw:FnD Tryz.prog 15 [] (devV dT):=by
 have h:=yZh 256
 have hp:zBa (bts (List.replicate 256 0)):=zAg _
 unfold devV dT
 rw[h]at hp ⊢
 refine zAd mixed Tryz.func15 rfl rfl (by simp[Tryz.ntmps15]) fun hwf E=>?_
 have hRl:(List.replicate 256 (V.int IntKind.u8 0)).length=256:=List.length_replicate
 generalize hR:List.replicate 256 (V.int IntKind.u8 0)=R at *
 simp(disch:=omega)[Tryz.ntmps15,go_sem,hR,-List.reduceReplicate]
 omega
def letB(x:Int):UInt8:=(#[68,82,71,89,70,63]:Array UInt8).getD (if x<5 then x else 5).toNat 0
def zVf(t:List (List Int)):List UInt8:=t.flatten.map letB
def zKa(t:List (List Int))(k j:Nat):List UInt8:=zVf (t.take k)++((tAt t k).take j).map letB
theorem yLg(t:List (List Int)):zKa t 0 0=[]:=by simp[zKa,zVf]
theorem yQa(t:List (List Int)):zKa t t.length 0=zVf t:=by simp[zKa]
theorem yLi{t:List (List Int)}{k:Nat}(h:k<t.length):zKa t (k+1) 0=zKa t k (tAt t k).length:=by
 have e:tAt t k=t[k]:=by simp[tAt,h]
 unfold zKa zVf
 rw[e,List.take_succ_eq_append_getElem h,List.take_of_length_le (Nat.le_refl _)]
 simp only[List.flatten_append,List.map_append,List.flatten_cons,List.flatten_nil,List.append_nil,List.take_zero,List.map_nil]
theorem yLh{t:List (List Int)}{k j:Nat}(h:j<(tAt t k).length):zKa t k (j+1)=zKa t k j++[letB (lAt (tAt t k) j)]:=by
 unfold zKa
 rw[List.take_succ_eq_append_getElem h,zOo h]
 simp only[List.map_append,List.map_cons,List.map_nil,List.append_assoc]
theorem yPz{t:List (List Int)}(ht:t.length≤4096)(hl:∀l∈t,l.length≤4096){k j:Nat}:(zKa t k j).length≤16781312:=by
 have h1:∀r:List (List Int),(∀l∈r,l.length≤4096)→(zVf r).length≤r.length*4096:=by
  intro r;induction r with
  |nil=>simp[zVf]
  |cons a r ih=>
   intro h;have h2:=ih (fun l hl=>h l (by simp[hl]))
   have h3:=h a (by simp)
   simp[zVf]at h2 ⊢;omega
 have h2:=h1 (t.take k) (fun l h=>hl l (List.mem_of_mem_take h))
 have h3:(tAt t k).length≤4096:=by
  by_cases h:k<t.length
  ·rw[show tAt t k=t[k] by simp[tAt,h]];exact hl _ (List.getElem_mem h)
  ·rw[show tAt t k=[] by simp[tAt,List.getElem?_eq_none (by omega:t.length≤k)]];simp
 unfold zKa
 rw[List.length_append,List.length_map,List.length_take]
 rw[List.length_take]at h2
 omega
set_option maxHeartbeats 2000000 in
theorem zSm(t:List (List Int))(ht:t.length≤4096)(hl:∀l∈t,l.length≤4096)(h0:∀l∈t,∀x∈l,0≤x):FnD Tryz.prog 16 [.sl 1 (ltss t)] (.str ⟨(zVf t).toArray⟩):=by
 have hb0:=yLg t
 have hb00:bts ([]:List UInt8)=[]:=rfl
 refine zAd mixed Tryz.func16 rfl rfl (by simp[Tryz.ntmps16]) fun hwf E=>?_
 clear hwf
 simp(disch:=omega)[Tryz.ntmps16,go_sem]
 refine zAe mixed (fun k:Nat=>⟨[(4,.int .i64 k),(3,.obj 512 (zKa t k 0).length),(0,.sl 1 (ltss t))],[(512,⟨.arr,5,1,bts (zKa t k 0)⟩)],1024,[],35,0,[]⟩) (fun k=>k≤t.length) (fun k=>t.length-k) 0 ?_ ?_ ?_
 ·omega
 ·refine Le.mk [(512,none)] [] ⟨rfl,rfl,rfl⟩ ?_ ?_ ?_<;>simp[go_sem,hb0,hb00]
 ·intro k hk;simp(disch:=omega)[go_sem];refine zAc (fun c1=>?_) (fun c1=>?_)<;>simp at c1
  ·have hn:=nthT c1;have hg:=getT c1;have hmem:tAt t k∈t:=by rw[show tAt t k=t[k] by simp[tAt,c1]];exact List.getElem_mem c1
   have hlk:=hl _ hmem;have hnx:=yLi c1;simp(disch:=omega)[go_sem,c1];refine zAe mixed (fun j:Nat=>⟨[(5,.int .i64 j),(4,.int .i64 k),(3,.obj 512 (zKa t k j).length),(0,.sl 1 (ltss t))],[(512,⟨.arr,5,1,bts (zKa t k j)⟩)],4096,[],35,0,[]⟩) (fun j=>j≤(tAt t k).length) (fun j=>(tAt t k).length-j) 0 ?_ ?_ ?_
   ·omega
   ·refine Le.mk [(512,some 512)] [512] ⟨rfl,rfl,rfl⟩ ?_ ?_ ?_<;>simp[go_sem]
   ·intro j hj;simp(disch:=omega)[go_sem,c1,hn];refine zAc (fun c2=>?_) (fun c2=>?_)<;>simp at c2
    ·have hm:=nthL c2;have hm2:=getL c2;have hx0:=h0 _ hmem _ (by rw[zOo c2];exact List.getElem_mem c2:lAt (tAt t k) j∈tAt t k)
     have hL:=yPz ht hl (k:=k) (j:=j);have hsu:=yLh c2;have hbv:zLe { data:= #[68,82,71,89,70,63] } (if lAt (tAt t k) j<5 then lAt (tAt t k) j else 5).toNat=(letB (lAt (tAt t k) j)).toNat:=rfl
     have hba:bts (zKa t k j++[letB (lAt (tAt t k) j)])=bts (zKa t k j)++[.int .u8 ((letB (lAt (tAt t k) j)).toNat:Nat)]:=by simp[bts]
     simp(disch:=omega)[go_sem,c1,hn,c2,hm];refine⟨⟨by split<;>omega,by split<;>omega⟩,by omega,?_⟩
     refine zAb (j+1) (by omega) (by omega) (Le.mk [(512,some 512)] [512] ⟨rfl,rfl,rfl⟩ ?_ ?_ ?_)<;>simp[go_sem,hsu,hbv,hba]
    ·have hjj:j=(tAt t k).length:=by omega
     subst hjj;simp(disch:=omega)[go_sem];refine zAb (k+1) (by omega) (by omega) (Le.mk [(512,some 512)] [512] ⟨rfl,rfl,rfl⟩ ?_ ?_ ?_)<;>simp[go_sem,hnx]
  ·have hkk:k=t.length:=by omega
   subst hkk;simp(disch:=omega)[go_sem,zLz];exact yQa t
end
section
attribute [local go_sem] zAm zAh
theorem yDp:FnD Tryz.prog 8 [] (.bool true) tabG:=by
 have q1:=zVs
 have q2:=zUw
 have q3:=yTc sT dT [inp0,inp0,inp0,inp0] zEn yJx (by rw[zPa];decide) (by decide) (by simp[inp0])
 have hl4:[inp0,inp0,inp0,inp0].length=4:=rfl
 rw[hl4,zWn.1,zWn.2]at q3
 have q4:=zSm [[1,1],[1,1],[2,1],[2,1]] (by decide) (by simp) (by simp)
 have hst:=zGt sT
 have hdp:=zAg dT
 have hsv:=zAr sT
 generalize sitV sT=S at *
 generalize dT=D at *
 refine zAd mixed Tryz.func8 rfl rfl (by simp[Tryz.ntmps8]) fun hwf E=>?_
 clear hwf
 simp(disch:=omega)[Tryz.ntmps8,go_sem]
 refine zAa q1 [] (by simp[go_sem]) (.inl rfl) (by simp[go_sem,hst]) (fun _=>?_)
 simp(disch:=omega)[go_sem]
 refine zAa q2 [] (by simp[go_sem]) (.inl rfl) (by simp[go_sem,devV]) (fun _=>?_)
 simp(disch:=omega)[go_sem,devV]
 have b0:bts []=[]:=rfl
 have l0:lts []=[]:=rfl
 have hin:[inp0,inp0,inp0,inp0].map inpV=[.agg [.sl 1 [],.int .u32 0,.sl 1 [],.bool false,.int .i64 0,.int .i64 0,.bool false],.agg [.sl 1 [],.int .u32 0,.sl 1 [],.bool false,.int .i64 0,.int .i64 0,.bool false],.agg [.sl 1 [],.int .u32 0,.sl 1 [],.bool false,.int .i64 0,.int .i64 0,.bool false],.agg [.sl 1 [],.int .u32 0,.sl 1 [],.bool false,.int .i64 0,.int .i64 0,.bool false]]:=rfl
 rw[hin]at q3
 refine zBx q3 [48] [(48,⟨.ro,42,7,[.agg [.sl 1 [],.int .u32 0,.sl 1 [],.bool false,.int .i64 0,.int .i64 0,.bool false],.agg [.sl 1 [],.int .u32 0,.sl 1 [],.bool false,.int .i64 0,.int .i64 0,.bool false],.agg [.sl 1 [],.int .u32 0,.sl 1 [],.bool false,.int .i64 0,.int .i64 0,.bool false],.agg [.sl 1 [],.int .u32 0,.sl 1 [],.bool false,.int .i64 0,.int .i64 0,.bool false]]⟩)] (by simp[go_sem,devV,hst]) (by simp[go_sem]) (by simp[go_sem]) (fun _=>?_) (by simp[tabG,go_sem])
 simp(disch:=omega)[go_sem]
 refine⟨.inl (by kernel_rfl),?_⟩
 rw[show zVf [[1,1],[1,1],[2,1],[2,1]]=[82,82,82,82,71,82,71,82] by decide]at q4
 have hl1:lts [1,1,1,1]=[.int .u8 1,.int .u8 1,.int .u8 1,.int .u8 1]:=rfl
 refine zAa q4 [] (by simp[go_sem,hl1]) (.inl rfl) (by simp[go_sem]) (fun _=>?_)
 simp(disch:=omega)[go_sem,strV,hl1]
end
section
attribute [local go_sem] zAm zAh
end
section
attribute [local go_sem] zAm zAh
def zHh(n:Int):Bool:=decide (0≤n)&&decide (n≤1048576)
theorem zFw(n:Int):FnD Tryz.prog 129 [.int .i64 n] (.bool (zHh n)):=by
 have hB:zHh n=(decide (0≤n)&&decide (n≤1048576)):=rfl
 rw[hB]
 refine zAd mixed Tryz.func129 rfl rfl (by simp[Tryz.ntmps129]) fun hwf E=>?_
 clear hwf
 simp(disch:=omega)[Tryz.ntmps129,go_sem]
def idxN(b:List UInt8)(x:UInt8):Int:=Lib.indexByte b x
theorem yTj(x:UInt8):∀b:List UInt8,Lib.indexByte b x≤b.length
 |[]=>by simp[Lib.indexByte]
 |a::b=>by
  have ih:=yTj x b;unfold Lib.indexByte;split
  ·simp;omega
  ·split
   ·simp;omega
   ·simp;omega
theorem xEk(b:List UInt8)(x:UInt8):FnX Tryz.prog 185 [.sl 1 (bts b),.int .u8 x.toNat] (.int .i64 (idxN b x)):=by
 refine⟨by simp[V.noRef],fun w O cargs hc=>?_⟩
 simp only[RVl,RV]at hc
 obtain⟨u,r,h1,hu,u2,r2,h2,⟨rfl,_⟩,h3⟩:=hc
 subst h3;subst h2
 obtain⟨a,cap,us,rfl,hcap,hbig,hus,hsz,hone,hrng⟩:=hu
 have hca:cargs= #[.slice a (bts b).length cap,.int .u8 x.toNat]:=Array.toList_inj.1 (by simpa using h1)
 subst hca
 obtain⟨ns,rfl,hnb⟩:=zLd (bts b) us b (zLz b) hus
 have hfl:flat (ns.map (Value.int .u8))=ns.map (Value.int .u8):=zEq fun y hy=>by
  obtain⟨n,_,rfl⟩:=List.mem_map.1 hy;rfl
 have hlen:ns.length=(bts b).length:=by
  have h9:=congrArg List.length hnb;rw[List.length_map]at h9;rw[h9,zAm]
 have hbo:Lib.bytesOf ns=b:=hnb
 have hx:(x.toNat:Int).toNat.toUInt8=x:=by simp
 refine⟨.int .i64 (idxN b x),?_,?_⟩
 ·rw[run_callFunc_extern Tryz.func185 rfl rfl (by kernel_rfl) (e:=Extern.BytealgIndexByte.indexByte) (by kernel_rfl)]
  cases a with
  |none=>
   rcases hrng with h0|⟨bb,off,h0,_⟩
   ·have hb0:b=[]:=by simpa[bts] using h0
    subst hb0;rw[Lib.run_indexByteNil];rfl
   ·cases h0
  |some ad=>
   rw[Lib.run_indexByteAt w ad (bts b).length cap ns hlen (fun i hi=>by
    rcases hrng with h0|⟨bb,off,h0,_,_,h4⟩
    ·rw[h0]at hi;exact absurd hi (Nat.not_lt_zero _)
    ·cases h0
     rw[hfl]at h4;have hin:i<ns.length:=by omega
     have h5:w.cell? ⟨bb,off+i,none⟩=some (.int .u8 ns[i]):=h4 i (.int .u8 ns[i]) (by simp[hin])
     rw[Addr.add_mid,h5];simp[hin]) x.toNat,hbo,hx]
   rfl
 ·have:=Lib.indexByte_ge b x;have hle:idxN b x≤b.length:=yTj x b;rw[zAm]at hbig;have h5: -1≤idxN b x:=this;simp[RV,IntKind.has,IntKind.min,IntKind.max,IntKind.signed,IntKind.bits];omega
theorem zVj(b:List UInt8)(x:UInt8):FnD Tryz.prog 132 [.sl 1 (bts b),.int .u8 x.toNat] (.int .i64 (idxN b x)):=by
 have hpb:=zAg b
 refine zAd mixed Tryz.func132 rfl rfl (by simp[Tryz.ntmps132]) fun hwf E=>?_
 clear hwf
 simp(disch:=omega)[Tryz.ntmps132,go_sem]
 refine yZe (xEk b x) [] (by simp[go_sem]) (fun _=>?_)
 simp(disch:=omega)[go_sem]
noncomputable def xDk(s:Sit)(w:SafN):Bool:=decide (zKd s w=0)&&decide (lAt (zBz s w.groups w.start w.flashed ((List.replicate s.groups.length 1).set 0 2)) 0=2)
theorem yNt(s:Sit)(w:SafN):FnD Tryz.prog 130 [sitV s,safV w,.int .i64 0] (.tup [.bool (xDk s w),.int .i64 (zKd s w)]) tabG:=by
 have qc:=yBz s w
 have hok:=yJj (s:=s) (w:=w)
 have hB:xDk s w=(decide (zKd s w=0)&&decide (lAt (zBz s w.groups w.start w.flashed ((List.replicate s.groups.length 1).set 0 2)) 0=2)):=rfl
 have qa:=fun hs h1 h2=>zXr s w.groups w.start w.flashed ((List.replicate s.groups.length 1).set 0 2) hs h1 h2
 have hal:=fun h1 h2=>zUz (s:=s) (w:=w) (l:=(List.replicate s.groups.length 1).set 0 2) h1 h2
 have hsp:=zGt s
 have hsv:=zAr s
 have hwp:=zEc w.groups
 generalize xDk s w=B at *
 generalize zBz s w.groups w.start w.flashed ((List.replicate s.groups.length 1).set 0 2)=A at *
 generalize zKd s w=c at *
 obtain⟨g,st,fl⟩:=w
 simp only at *
 unfold safV at *
 simp only at *
 by_cases hc:c=0
 ·subst hc;obtain⟨hs,hg⟩:=hok rfl;have h1:1≤s.groups.length:=hs.shaped.1.1;have h16:=(zJx hs).g16;have q2:=qa (zJx hs) hg (by simp)
  have q3:=yJk s.groups.length 1 (by omega)
  have hA:=hal (by simp) hg
  have hm:=nthL (l:=A) (k:=0) (by omega)
  have hm2:=getL (l:=A) (k:=0) (by omega)
  have hA0:0<A.length:=by omega
  have hset:(lts (List.replicate s.groups.length 1)).set 0 (.int .u8 2)=lts ((List.replicate s.groups.length 1).set 0 2):=ySr _ _ _;have hpl:=zCl ((List.replicate s.groups.length 1).set 0 2);have hll:(lts (List.replicate s.groups.length 1)).length=s.groups.length:=by simp[lts]
  have hl2:((List.replicate s.groups.length 1).set 0 2).length=s.groups.length:=by simp
  have hr0:∀h',(lts (List.replicate s.groups.length 1))[0]'h'= .int .u8 1:=fun h'=>by simp[lts]
  rw[hsv]at qc q2 hsp ⊢;refine zAd mixed Tryz.func130 rfl rfl (by simp[Tryz.ntmps130]) fun hwf E=>?_
  clear hwf;simp(disch:=omega)[Tryz.ntmps130,go_sem];refine zAa qc [] (by simp[go_sem]) (.inl rfl) (by simp[go_sem]) (fun _=>?_) (by simp[tabG,go_sem])
  simp(disch:=omega)[go_sem];refine zAc (fun b1=>?_) (fun b1=>?_)<;>simp at b1
  ·exact absurd h1 (by rw[b1];simp)
  ·simp(disch:=omega)[go_sem];refine zAf q3 [] [] [] [] ?_ ?_ ?_ (.inl ⟨rfl,.inl rfl⟩) (fun _=>?_)
   iterate 3 (· simp[go_sem])
   simp(disch:=omega)[go_sem,hll];simp(disch:=omega)[go_sem,hset,hr0];refine⟨by omega,?_⟩
   have hpA:=zCl A;refine zBx q2 [352] [(352,⟨.ro,5,1,lts ((List.replicate s.groups.length 1).set 0 2)⟩)] (by simp[go_sem,hpl]) (by simp[go_sem,hpl]) (by simp[go_sem]) (fun _=>?_)
   simp(disch:=omega)[go_sem,hA,hm];rw[hB];refine⟨by omega,?_⟩
   rw[Bool.eq_iff_iff];simp
 ·rw[hsv]at qc hsp ⊢;have hB2:B=false:=by rw[hB,decide_eq_false hc];rfl
  subst hB2;refine zAd mixed Tryz.func130 rfl rfl (by simp[Tryz.ntmps130]) fun hwf E=>?_
  clear hwf;simp(disch:=omega)[Tryz.ntmps130,go_sem];refine zAa qc [] (by simp[go_sem]) (.inl rfl) (by simp[go_sem]) (fun _=>?_) (by simp[tabG,go_sem])
  simp(disch:=omega)[go_sem];refine zAc (fun b1=>?_) (fun b1=>?_)<;>simp at b1
  ·simp(disch:=omega)[go_sem]
  ·exact absurd b1 hc
end
section
attribute [local go_sem] zAm zAh
theorem zGc(x:LocN):locV x= .agg [.sl 1 (bts x.disk),.sl 3 (x.now.groups.map zBb),.int .i64 x.now.start,.bool x.now.flashed,.int .u8 x.rung.mode,.int .i64 x.rung.well,.bool x.rung.lat,.int .i64 x.sph,.int .i64 x.ssi,.bool x.link.any,.int .u32 x.link.last,.int .i64 x.link.age,
  .sl 1 (bts x.rest),.int .i64 x.told.cycle,.int .i64 x.told.offset,.sl 1 (ints x.told.splits),.int .i64 x.age,.sl 3 (x.puls.map pulV),.sl 5 (x.eyes.map zCp),.sl 5 (x.gaps.map gapV),.int .u32 x.calls,.int .i64 x.wrong,.int .i64 x.tick,.sl 1 (ints x.greens),.sl 1 (ints x.busy),.sl 1 (ints x.came),.int .u32 x.sent]:=rfl
def iAt(l:List Int)(k:Nat):Int:=l[k]?.getD 0
theorem yTk{l:List Int}{k:Nat}(h:k<l.length):iAt l k=l[k]:=by simp[iAt,h]
def cntQ(x:LocN)(k:Nat):Bool:= !zHh (iAt x.greens k)|| !zHh (iAt x.busy k)|| !zHh (iAt x.came k)||decide (iAt x.greens k<iAt x.busy k)
def zLx(s:Sit)(x:LocN):Bool:=decide (x.greens.length=s.phases.length)&&decide (x.busy.length=s.phases.length)&&decide (x.came.length=s.phases.length)&& !anyR s.phases.length (cntQ x)
set_option maxHeartbeats 4000000 in
theorem yCp(s:Sit)(x:LocN)(h8:s.phases.length≤8):FnD Tryz.prog 135 [sitV s,locV x] (.bool (zLx s x)):=by
 have hxp:=zIy x
 have hsp:=zGt s
 have hsv:=zAr s
 have hB:zLx s x=(decide (x.greens.length=s.phases.length)&&decide (x.busy.length=s.phases.length)&&decide (x.came.length=s.phases.length)&& !anyR s.phases.length (cntQ x)):=rfl
 generalize zLx s x=B at *
 rw[hsv,zGc]at *
 by_cases h1:x.greens.length=s.phases.length
 rotate_left
 ·have g1:((x.greens.length:Int) != (s.phases.length:Int))=true:=by simp;omega
  rw[decide_eq_false h1]at hB;simp only[Bool.false_and]at hB;subst hB;refine zAd mixed Tryz.func135 rfl rfl (by simp[Tryz.ntmps135]) fun hwf E=>?_
  clear hwf;simp(disch:=omega)[Tryz.ntmps135,go_sem,g1]
 by_cases h2:x.busy.length=s.phases.length
 rotate_left
 ·have g1:((x.greens.length:Int) != (s.phases.length:Int))=false:=by simp;omega
  have g2:((x.busy.length:Int) != (s.phases.length:Int))=true:=by simp;omega
  rw[decide_eq_false h2]at hB;simp only[Bool.false_and,Bool.and_false]at hB;subst hB;refine zAd mixed Tryz.func135 rfl rfl (by simp[Tryz.ntmps135]) fun hwf E=>?_
  clear hwf;simp(disch:=omega)[Tryz.ntmps135,go_sem,g1,g2]
 by_cases h3:x.came.length=s.phases.length
 rotate_left
 ·have g1:((x.greens.length:Int) != (s.phases.length:Int))=false:=by simp;omega
  have g2:((x.busy.length:Int) != (s.phases.length:Int))=false:=by simp;omega
  have g3:((x.came.length:Int) != (s.phases.length:Int))=true:=by simp;omega
  rw[decide_eq_false h3]at hB;simp only[Bool.false_and,Bool.and_false]at hB;subst hB;refine zAd mixed Tryz.func135 rfl rfl (by simp[Tryz.ntmps135]) fun hwf E=>?_
  clear hwf;simp(disch:=omega)[Tryz.ntmps135,go_sem,g1,g2,g3]
 rw[decide_eq_true h1,decide_eq_true h2,decide_eq_true h3]at hB
 simp only[Bool.true_and]at hB
 have g1:((x.greens.length:Int) != (s.phases.length:Int))=false:=by simp;omega
 have g2:((x.busy.length:Int) != (s.phases.length:Int))=false:=by simp;omega
 have g3:((x.came.length:Int) != (s.phases.length:Int))=false:=by simp;omega
 refine zAd mixed Tryz.func135 rfl rfl (by simp[Tryz.ntmps135]) fun hwf E=>?_
 clear hwf
 simp(disch:=omega)[Tryz.ntmps135,go_sem,g1,g2,g3]
 refine zAe mixed (fun k:Nat=>⟨[(30,.int .i64 k),(29,.int .i64 s.phases.length),(3,.ptr 16 1 0 0)],[(16,⟨.box,61,27,[locV x]⟩)],1024,[],72,0,[]⟩) (fun k=>k≤s.phases.length∧∀j,j<k→cntQ x j=false) (fun k=>s.phases.length-k) 0 ?_ ?_ ?_
 ·exact⟨by omega,fun j hj=>absurd hj (Nat.not_lt_zero j)⟩
 ·refine Le.mk [(16,some 16)] [16] ⟨rfl,rfl,rfl⟩ ?_ ?_ ?_<;>simp[go_sem,zGc]
 ·rintro k ⟨hk,hz⟩
  simp(disch:=omega)[go_sem,zGc];refine zAc (fun c1=>?_) (fun c1=>?_)<;>simp at c1
  ·have k1:k<x.greens.length:=by omega
   have k2:k<x.busy.length:=by omega
   have k3:k<x.came.length:=by omega
   have n1:=zAz k1;have n2:=zAz k2;have n3:=zAz k3;have qg:=zFw (x.greens[k]);have qb:=zFw (x.busy[k]);have qc:=zFw (x.came[k]);have hQ:cntQ x k=(!zHh (x.greens[k])|| !zHh (x.busy[k])|| !zHh (x.came[k])||decide (x.greens[k]<x.busy[k])):=by
    unfold cntQ;rw[yTk k1,yTk k2,yTk k3]
   have hno:=fun h=>zKh (P:=fun j=>cntQ x j=false) hz h
   generalize x.greens[k]=G at *;generalize x.busy[k]=U at *;generalize x.came[k]=C at *;generalize zHh G=sg at *;generalize zHh U=su at *;generalize zHh C=sc at *;have hyes:=fun h=>zFn (p:=cntQ x) c1 h
   cases sg with
   |false=>
    have hq:cntQ x k=true:=by rw[hQ];rfl
    rw[hyes hq]at hB;simp(disch:=omega)[go_sem,n1,k1,c1];refine zAa qg [] (by simp[go_sem]) (.inl rfl) (by simp[go_sem]) (fun _=>?_)
    simp(disch:=omega)[go_sem,n1,n2,n3,k1,k2,k3];refine⟨.inl (by kernel_rfl),?_⟩
    simp(disch:=omega)[go_sem,hB]
   |true=>
    cases su with
    |false=>
     have hq:cntQ x k=true:=by rw[hQ];rfl
     rw[hyes hq]at hB;simp(disch:=omega)[go_sem,n1,k1,c1];refine zAa qg [] (by simp[go_sem]) (.inl rfl) (by simp[go_sem]) (fun _=>?_)
     simp(disch:=omega)[go_sem,n2,k2];refine zAa qb [] (by simp[go_sem]) (.inl rfl) (by simp[go_sem]) (fun _=>?_)
     simp(disch:=omega)[go_sem,n1,n2,n3,k1,k2,k3];refine⟨.inl (by kernel_rfl),?_⟩
     simp(disch:=omega)[go_sem,hB]
    |true=>
     cases sc with
     |false=>
      have hq:cntQ x k=true:=by rw[hQ];rfl
      rw[hyes hq]at hB;simp(disch:=omega)[go_sem,n1,k1,c1];refine zAa qg [] (by simp[go_sem]) (.inl rfl) (by simp[go_sem]) (fun _=>?_)
      simp(disch:=omega)[go_sem,n2,k2];refine zAa qb [] (by simp[go_sem]) (.inl rfl) (by simp[go_sem]) (fun _=>?_)
      simp(disch:=omega)[go_sem,n3,k3];refine zAa qc [] (by simp[go_sem]) (.inl rfl) (by simp[go_sem]) (fun _=>?_)
      simp(disch:=omega)[go_sem,n1,n2,k1,k2];refine⟨.inl (by kernel_rfl),?_⟩
      simp(disch:=omega)[go_sem,hB]
     |true=>
      simp(disch:=omega)[go_sem,n1,k1,c1];refine zAa qg [] (by simp[go_sem]) (.inl rfl) (by simp[go_sem]) (fun _=>?_)
      simp(disch:=omega)[go_sem,n2,k2];refine zAa qb [] (by simp[go_sem]) (.inl rfl) (by simp[go_sem]) (fun _=>?_)
      simp(disch:=omega)[go_sem,n3,k3];refine zAa qc [] (by simp[go_sem]) (.inl rfl) (by simp[go_sem]) (fun _=>?_)
      simp(disch:=omega)[go_sem,n1,n2,k1,k2];refine⟨.inl (by kernel_rfl),?_⟩
      refine zAc (fun d1=>?_) (fun d1=>?_)<;>simp at d1
      ·have hq:cntQ x k=true:=by rw[hQ];simp[d1]
       rw[hyes hq]at hB;simp(disch:=omega)[go_sem,hB]
      ·have hq:cntQ x k=false:=by rw[hQ];simp;omega
       have hz2:=hno hq;simp(disch:=omega)[go_sem];refine zAb (k+1) (⟨by omega,hz2⟩) (by omega) (Le.mk [(16,some 16)] [16] ⟨rfl,rfl,rfl⟩ ?_ ?_ ?_)<;>simp[go_sem]
  ·have hkk:k=s.phases.length:=by omega
   subst hkk;rw[zHu hz]at hB;simp(disch:=omega)[go_sem,hB]
end
end Go.Proofs.YtlgbdpabcbcmcaaGreatDoor
