/- Contracts and laws beneath the statement, in build order. -/
import Derived.Test.YtlgbdpabcbcmcaaGreatDoorLNAmCut
import Derived.Test.YtlgbdpabcbcmcaaGreatDoorLN3
set_option linter.unusedSimpArgs false
set_option linter.unusedVariables false
namespace Go.Proofs.YtlgbdpabcbcmcaaGreatDoor
open Go.AM Go.RowKit
set_option maxRecDepth 100000
section
def zFu(R:Option KepN):Int:=match R with|none=>0|some k=>k.gen
def zVg(R:Option KepN):Int:=match R with|none=>0|some k=>k.mode
def zKj(R:Option KepN):List Pln:=match R with|none=>[]|some k=>k.plans
theorem zDc(bl:List (List UInt8))(R:Option KepN):zIl bl R= .agg [.int .i64 (zFu R),.int .u8 (zVg R),.sl 3 ((zKj R).map plnV),.sl 1 (btss bl),.bool R.isSome]:=by cases R<;>rfl
def zXq(a b:Option KepN):Bool:=a.isSome&& !(b.isSome&&decide (zFu a<zFu b))
theorem yPa(a b:Option KepN)(x y:List (List UInt8)):FnR Tryz.prog 184 [⟨.box,211,5,[zIl x a]⟩,⟨.box,211,5,[zIl y b]⟩] [.ptr 0 1 0 0,.ptr 1 1 0 0] [⟨.box,211,5,[zIl x a]⟩,⟨.box,211,5,[zIl y b]⟩] (.bool (zXq a b)):=by
 have hr:zXq a b=(a.isSome&& !(b.isSome&&decide (zFu a<zFu b))):=rfl
 rw[zDc,zDc]
 have p1:=zBs x
 have p2:=zBs y
 generalize zXq a b=r at *
 generalize a.isSome=ha at *
 generalize b.isSome=hb at *
 cases ha
 ·refine zAv mixed Tryz.func184 rfl rfl (by simp[Tryz.ntmps184]) (by simp) fun hwf E=>?_
  clear hwf;simp(disch:=omega)[Tryz.ntmps184,go_sem];refine⟨.inl (by kernel_rfl),?_⟩
  refine Le.mk [(0,some 0),(1,some 1)] [0,1] ⟨rfl,rfl,rfl⟩ ?_ ?_ ?_<;>simp[go_sem,hr]
 ·cases hb
  ·refine zAv mixed Tryz.func184 rfl rfl (by simp[Tryz.ntmps184]) (by simp) fun hwf E=>?_
   clear hwf;simp(disch:=omega)[Tryz.ntmps184,go_sem];refine⟨.inl (by kernel_rfl),?_⟩
   refine Le.mk [(0,some 0),(1,some 1)] [0,1] ⟨rfl,rfl,rfl⟩ ?_ ?_ ?_<;>simp[go_sem,hr]
  ·refine zAv mixed Tryz.func184 rfl rfl (by simp[Tryz.ntmps184]) (by simp) fun hwf E=>?_
   clear hwf;simp(disch:=omega)[Tryz.ntmps184,go_sem];refine⟨.inl (by kernel_rfl),?_⟩
   refine Le.mk [(0,some 0),(1,some 1)] [0,1] ⟨rfl,rfl,rfl⟩ ?_ ?_ ?_<;>simp[go_sem,hr]
def zIn(a b:Option KepN):Int:=if zXq a b=true then 0 else if b.isSome then 1 else -1
theorem zUo(a b:Option KepN)(x y:List (List UInt8)):FnR Tryz.prog 121 [⟨.box,211,5,[zIl x a]⟩,⟨.box,211,5,[zIl y b]⟩] [.agg [.ptr 0 1 0 0,.ptr 1 1 0 0]] [⟨.box,211,5,[zIl x a]⟩,⟨.box,211,5,[zIl y b]⟩] (.int .i64 (zIn a b)):=by
 have hr:zIn a b=if zXq a b=true then 0 else if b.isSome then 1 else -1:=rfl
 have q:=yPa a b x y
 rw[zDc,zDc]at *
 have p1:=zBs x
 have p2:=zBs y
 generalize zIn a b=r at *
 generalize zXq a b=ah at *
 generalize b.isSome=hb at *
 cases ah
 ·rw[if_neg (by decide)]at hr
  cases hb
  ·refine zAv mixed Tryz.func121 rfl rfl (by simp[Tryz.ntmps121]) (by simp) fun hwf E=>?_
   clear hwf;simp(disch:=omega)[Tryz.ntmps121,go_sem];refine zBm q [(0,some 0),(1,some 1)] [0,1] ?_ ?_ ?_ ?_ (fun _=>?_)
   iterate 4 (· simp[go_sem])
   simp(disch:=omega)[go_sem];refine Le.mk [(0,some 0),(1,some 1)] [0,1] ⟨rfl,rfl,rfl⟩ ?_ ?_ ?_<;>simp[go_sem,hr]
  ·refine zAv mixed Tryz.func121 rfl rfl (by simp[Tryz.ntmps121]) (by simp) fun hwf E=>?_
   clear hwf;simp(disch:=omega)[Tryz.ntmps121,go_sem];refine zBm q [(0,some 0),(1,some 1)] [0,1] ?_ ?_ ?_ ?_ (fun _=>?_)
   iterate 4 (· simp[go_sem])
   simp(disch:=omega)[go_sem];refine Le.mk [(0,some 0),(1,some 1)] [0,1] ⟨rfl,rfl,rfl⟩ ?_ ?_ ?_<;>simp[go_sem,hr]
 ·rw[if_pos rfl]at hr;refine zAv mixed Tryz.func121 rfl rfl (by simp[Tryz.ntmps121]) (by simp) fun hwf E=>?_
  clear hwf;simp(disch:=omega)[Tryz.ntmps121,go_sem];refine zBm q [(0,some 0),(1,some 1)] [0,1] ?_ ?_ ?_ ?_ (fun _=>?_)
  iterate 4 (· simp[go_sem])
  simp(disch:=omega)[go_sem];refine Le.mk [(0,some 0),(1,some 1)] [0,1] ⟨rfl,rfl,rfl⟩ ?_ ?_ ?_<;>simp[go_sem,hr]
def zDg(d:List UInt8)(h i k:Nat):List (List UInt8):=(List.range k).map fun n=>atB d (i*h+n)
theorem yNs(d:List UInt8)(h i k:Nat):zDg d h i (k+1)=zDg d h i k++[atB d (i*h+k)]:=by simp[zDg,List.range_succ]
theorem zLa(d:List UInt8)(h i k:Nat):(zDg d h i k).length=k:=by simp[zDg]
theorem zSf{d:List UInt8}{h i:Nat}(hh:2*h*64≤d.length)(hi:i<2):∀b∈zDg d h i h,b.length=64:=by
 intro b hb
 obtain⟨n,hn,rfl⟩:=List.mem_map.1 hb
 have hn:=List.mem_range.1 hn
 have h2:(i*h+n)*64+64≤d.length:=by
  have:i=0∨i=1:=by omega
  rcases this with rfl|rfl<;>omega
 simp[atB];omega
noncomputable def zCj(d:List UInt8)(i:Nat):Option KepN:=zPt (zDg d (d.length / 64 / 2) i (d.length / 64 / 2))
def zNv(d:List UInt8)(h i:Nat)(R:Option KepN):AM.Obj:=⟨.box,211,5,[zIl (zDg d h i h) R]⟩
def slt0(T:Nat)(d:List UInt8)(h i k:Nat):List (Nat × AM.Obj):=if k<h then[(4100,⟨.arr,30,1,btss (zDg d h i k)⟩),(T,⟨.box,211,5,[.agg [.int .i64 0,.int .u8 0,.sl 3 [],.obj 4100 k,.bool false]]⟩)]else[(T,⟨.box,211,5,[.agg [.int .i64 0,.int .u8 0,.sl 3 [],.sl 1 (btss (zDg d h i k)),.bool false]]⟩)]
def slF(d:List UInt8)(m:Nat)(sl:List (Nat × V))(hp:List (Nat × AM.Obj))(arr:List V)(nx:Nat):St:=
 ⟨sl++[(4,.int .i64 m),(2,.ptr 16 1 0 0),(1,.ptr 0 1 0 0)],hp++[(16,⟨.box,206,2,[.agg arr]⟩),(0,⟨.box,32,1,[.agg [.sl 1 (bts d)]]⟩)],nx,[],65,0,[]⟩
def slO(d:List UInt8)(m h:Nat)(R0 R1:Option KepN)(i:Nat):St:=match i with
 |0=>slF d m [(21,.int .i64 0)] [] [.nilP,.nilP] 8192
 |1=>slF d m [(21,.int .i64 1)] [(1001,zNv d h 0 R0)] [.ptr 1001 1 0 0,.nilP] 8192
 |_=>slF d m [(21,.int .i64 2)] [(1002,zNv d h 1 R1),(1001,zNv d h 0 R0)] [.ptr 1001 1 0 0,.ptr 1002 1 0 0] 8192
set_option maxHeartbeats 8000000 in
theorem yHz(d:List UInt8)(h0:blkE d.length=0)(h2:2≤d.length / 64) :
  FnR Tryz.prog 120 [] [devV d] [zNv d (d.length / 64 / 2) 0 (zCj d 0),zNv d (d.length / 64 / 2) 1 (zCj d 1)] (.tup [.agg [.ptr 0 1 0 0,.ptr 1 1 0 0],.int .i64 0]):=by
 have q1:=zMa d
 have hmN:blkM d=((d.length / 64:Nat):Int):=by unfold blkM;rw[if_pos h0]
 have hlen:d.length≤4096:=by
  unfold blkE at h0;by_cases h:d.length<64∨4096<d.length∨d.length % 64≠0
  ·rw[if_pos h]at h0;exact absurd h0 (by decide)
  ·omega
 have hrd:∀n:Nat,n<d.length / 64→FnD Tryz.prog 182 [devV d,.int .i64 n] (.tup [.sl 1 (bts (atB d n)),.int .i64 0]):=fun n hn=>by
  have q:=yOm d n;have e:bkE d n=0:=by unfold bkE;rw[if_neg (by simp[h0]),hmN,if_neg (by omega)]
  have e2:yDd d n=atB d n:=by unfold yDd;rw[if_pos e];simp
  rw[e,e2]at q;exact q
 rw[hmN,h0]at q1
 have q0:=zNw (zDg d (d.length / 64 / 2) 0 (d.length / 64 / 2)) (by rw[zLa];omega) (zSf (by omega) (by omega))
 have q2:=zNw (zDg d (d.length / 64 / 2) 1 (d.length / 64 / 2)) (by rw[zLa];omega) (zSf (by omega) (by omega))
 have eK0:zPt (zDg d (d.length / 64 / 2) 0 (d.length / 64 / 2))=zCj d 0:=rfl
 have eK1:zPt (zDg d (d.length / 64 / 2) 1 (d.length / 64 / 2))=zCj d 1:=rfl
 rw[eK0]at q0
 rw[eK1]at q2
 generalize zCj d 0=R0 at *
 generalize zCj d 1=R1 at *
 clear eK0 eK1
 generalize hm:d.length / 64=m at *
 have hmm:2≤m∧m≤64:=by omega
 generalize hh:m / 2=h at *
 have hh1:1≤h∧h≤32∧2*h≤m:=by omega
 have hpos:0<h:=by omega
 have hq:((m:Nat):Int).tdiv 2=h:=by rw[Int.tdiv_eq_ediv_of_nonneg (by omega)];omega
 have hz:∀bl,zMr zJz bl false= .agg [.int .i64 0,.int .u8 0,.sl 3 [],.sl 1 (btss bl),.bool false]:=fun bl=>by simp[zMr,zJz]
 rw[hz]at q0 q2
 have hlL:=zLa d h
 have hsL:=yNs d h
 have p0:=zBs (zDg d h 0 h)
 have p1:=zBs (zDg d h 1 h)
 have pp0:=zAs (zKj R0)
 have pp1:=zAs (zKj R1)
 unfold devV at *
 refine zAv mixed Tryz.func120 rfl rfl (by simp[Tryz.ntmps120]) (by simp) fun hwf E=>?_
 clear hwf
 simp(disch:=omega)[Tryz.ntmps120,go_sem]
 refine zAa q1 [] (by simp[go_sem]) (.inl rfl) (by simp[go_sem]) (fun _=>?_)
 simp(disch:=omega)[go_sem]
 refine zAc (fun b1=>?_) (fun b1=>?_)<;>simp at b1
 ·exact absurd b1 (by omega)
 ·simp(disch:=omega)[go_sem];refine zAe mixed (slO d m h R0 R1) (fun i=>i≤2) (fun i=>2-i) 0 ?_ ?_ ?_
  ·omega
  ·refine Le.mk [(0,some 16),(16,some 32)] [16,32] ⟨rfl,rfl,rfl⟩ ?_ ?_ ?_<;>simp[go_sem,slO,slF]
  ·intro i hi
   match i,hi with
   |0,_=>
    simp(disch:=omega)[go_sem,slO,slF,hq];refine zAe mixed (fun k:Nat=>slF d m [(30,.int .i64 k),(29,.int .i64 h),(21,.int .i64 0),(5,.int .i64 0)] (slt0 8272 d h 0 k++[]) [.ptr 8272 1 0 0,.nilP] 16384) (fun k=>k≤h) (fun k=>h-k) 0 ?_ ?_ ?_
    ·omega
    ·refine Le.mk [(4100,none),(8272,some 8272),(16,some 16),(0,some 0)] [8272,16,0] ⟨rfl,rfl,rfl⟩ ?_ ?_ ?_<;>simp[go_sem,slF,slt0,hpos,btss,zDg]
    ·intro k hk;by_cases hkh:k<h
     ·have q:=hrd (0*h+k) (by omega)
      have hc:(((0*h+k:Nat)):Int)=(k:Int):=by push_cast;omega
      rw[hc]at q;have e1:=hlL 0 k;have e2:=hlL 0 (k+1);have e3:=hsL 0 k;have e4:btss (zDg d h 0 k)++[.sl 1 (bts (atB d (k)))]=btss (zDg d h 0 (k+1)):=by rw[e3];simp[btss]
      have e5:=zBs (zDg d h 0 (k+1));simp(disch:=omega)[go_sem,slF,slt0,hkh,hq];refine zAa q [] (by simp[go_sem]) (.inl rfl) (by simp[go_sem]) (fun _=>?_)
      simp(disch:=omega)[go_sem,zBk];simp(disch:=omega)[go_sem,e1];refine⟨⟨by omega,by omega⟩,?_⟩
      refine⟨.inl (by kernel_rfl),?_⟩
      by_cases hk1:k+1<h
      ·refine zAb (k+1) (by omega) (by omega) (Le.mk [(4100,some 4100),(8272,some 8272),(16,some 16),(0,some 0)] [4100,8272,16,0] ⟨rfl,rfl,rfl⟩ ?_ ?_ ?_)<;>simp[go_sem,hk1,e4,e5]
      ·have hkk:k+1=h:=by omega
       refine zAb (k+1) (by omega) (by omega) (Le.mk [(8272,some 8272),(16,some 16),(0,some 0)] [8272,16,0] ⟨rfl,rfl,rfl⟩ ?_ ?_ ?_)<;>simp[go_sem,zBk,hk1,e4,e5,e2]
     ·have hkk:k=h:=by omega
      subst hkk;simp(disch:=omega)[go_sem,slF,slt0];refine zAf q0 [(0,some 8272)] [8272] [] [] ?_ ?_ ?_ (.inl ⟨rfl,.inl rfl⟩) (fun _=>?_)
      iterate 3 (· simp[go_sem])
      simp(disch:=omega)[go_sem];refine zAb 1 (by omega) (by omega) (Le.mk [(1001,some 8272),(16,some 16),(0,some 0)] [8272,16,0] ⟨rfl,rfl,rfl⟩ ?_ ?_ ?_)<;>simp[go_sem,slO,slF,zNv,zDc]
   |1,_=>
    simp(disch:=omega)[go_sem,slO,slF,hq];refine zAe mixed (fun k:Nat=>slF d m [(30,.int .i64 k),(29,.int .i64 h),(21,.int .i64 1),(5,.int .i64 1)] (slt0 8272 d h 1 k++[(1001,zNv d h 0 R0)]) [.ptr 1001 1 0 0,.ptr 8272 1 0 0] 16384) (fun k=>k≤h) (fun k=>h-k) 0 ?_ ?_ ?_
    ·omega
    ·refine Le.mk [(4100,none),(8272,some 8272),(16,some 16),(0,some 0),(1001,some 1001)] [8272,16,0,1001] ⟨rfl,rfl,rfl⟩ ?_ ?_ ?_<;>simp[go_sem,slF,slt0,hpos,btss,zNv,zDc,zDg]
    ·intro k hk;by_cases hkh:k<h
     ·have q:=hrd (1*h+k) (by omega)
      have hc:(((1*h+k:Nat)):Int)=(h:Int)+k:=by push_cast;omega
      rw[hc]at q;have e1:=hlL 1 k;have e2:=hlL 1 (k+1);have e3:=hsL 1 k;have e4:btss (zDg d h 1 k)++[.sl 1 (bts (atB d (h+k)))]=btss (zDg d h 1 (k+1)):=by rw[e3];simp[btss]
      have e5:=zBs (zDg d h 1 (k+1));simp(disch:=omega)[go_sem,slF,slt0,hkh,hq];refine zAa q [] (by simp[go_sem]) (.inl rfl) (by simp[go_sem]) (fun _=>?_)
      simp(disch:=omega)[go_sem,zBk];simp(disch:=omega)[go_sem,e1];refine⟨⟨by omega,by omega⟩,?_⟩
      refine⟨.inl (by kernel_rfl),?_⟩
      by_cases hk1:k+1<h
      ·refine zAb (k+1) (by omega) (by omega) (Le.mk [(4100,some 4100),(8272,some 8272),(16,some 16),(0,some 0),(1001,some 1001)] [4100,8272,16,0,1001] ⟨rfl,rfl,rfl⟩ ?_ ?_ ?_)<;>simp[go_sem,hk1,e4,e5,zNv,zDc]
      ·have hkk:k+1=h:=by omega
       refine zAb (k+1) (by omega) (by omega) (Le.mk [(8272,some 8272),(16,some 16),(0,some 0),(1001,some 1001)] [8272,16,0,1001] ⟨rfl,rfl,rfl⟩ ?_ ?_ ?_)<;>simp[go_sem,zBk,hk1,e4,e5,e2,zNv,zDc]
     ·have hkk:k=h:=by omega
      subst hkk;simp(disch:=omega)[go_sem,slF,slt0];refine zAf q2 [(0,some 8272)] [8272] [] [] ?_ ?_ ?_ (.inl ⟨rfl,.inl rfl⟩) (fun _=>?_)
      iterate 3 (· simp[go_sem])
      simp(disch:=omega)[go_sem];refine zAb 2 (by omega) (by omega) (Le.mk [(1002,some 8272),(1001,some 1001),(16,some 16),(0,some 0)] [8272,1001,16,0] ⟨rfl,rfl,rfl⟩ ?_ ?_ ?_)<;>simp[go_sem,slO,slF,zNv,zDc]
   |2,_=>
    simp(disch:=omega)[go_sem,slO,slF];refine Le.mk [(0,some 1001),(1,some 1002)] [1001,1002] ⟨rfl,rfl,rfl⟩ ?_ ?_ ?_<;>simp[go_sem,zNv,zDc]
end
section
def sltE(d:List UInt8):Int:=if blkE d.length≠0 then blkE d.length else if d.length / 64<2 then 190 else 0
theorem yAr(d:List UInt8)(h:sltE d≠0):FnR Tryz.prog 120 [] [devV d] [] (.tup [.agg [.nilP,.nilP],.int .i64 (sltE d)]):=by
 have q1:=zMa d
 have hE:sltE d=if blkE d.length≠0 then blkE d.length else if d.length / 64<2 then 190 else 0:=rfl
 have hmN:blkM d=if blkE d.length=0 then((d.length / 64:Nat):Int)else 0:=rfl
 generalize sltE d=e at *
 generalize blkE d.length=b at *
 generalize blkM d=mn at *
 generalize d.length / 64=m at *
 unfold devV at *
 by_cases hb:b≠0
 ·rw[if_pos hb]at hE;subst hE;refine zAv mixed Tryz.func120 rfl rfl (by simp[Tryz.ntmps120]) (by simp) fun hwf E=>?_
  clear hwf;simp(disch:=omega)[Tryz.ntmps120,go_sem];refine zAa q1 [] (by simp[go_sem]) (.inl rfl) (by simp[go_sem]) (fun _=>?_)
  simp(disch:=omega)[go_sem];refine zAc (fun b1=>?_) (fun b1=>?_)<;>simp at b1
  ·simp(disch:=omega)[go_sem];refine Le.mk [] [] ⟨rfl,rfl,rfl⟩ ?_ ?_ ?_<;>simp[go_sem]
  ·exact absurd b1 hb
 ·rw[if_neg hb]at hE;rw[if_pos (by omega)]at hmN
  by_cases hm:m<2
  ·rw[if_pos hm]at hE;subst hE;subst hmN;refine zAv mixed Tryz.func120 rfl rfl (by simp[Tryz.ntmps120]) (by simp) fun hwf E=>?_
   clear hwf;simp(disch:=omega)[Tryz.ntmps120,go_sem];refine zAa q1 [] (by simp[go_sem]) (.inl rfl) (by simp[go_sem]) (fun _=>?_)
   simp(disch:=omega)[go_sem];refine zAc (fun b1=>?_) (fun b1=>?_)<;>simp at b1
   ·exact absurd b1 hb
   ·simp(disch:=omega)[go_sem];refine zAc (fun b2=>?_) (fun b2=>?_)<;>simp at b2
    ·simp(disch:=omega)[go_sem];refine Le.mk [] [] ⟨rfl,rfl,rfl⟩ ?_ ?_ ?_<;>simp[go_sem]
    ·exact absurd b2 (by omega)
  ·rw[if_neg hm]at hE;exact absurd hE h
theorem yAq{d:List UInt8}(h:sltE d=0):blkE d.length=0∧2≤d.length / 64:=by
 unfold sltE at h
 by_cases hb:blkE d.length≠0
 ·rw[if_pos hb]at h;exact absurd h hb
 ·rw[if_neg hb]at h;by_cases hm:d.length / 64<2
  ·rw[if_pos hm]at h;exact absurd h (by decide)
  ·exact⟨by omega,by omega⟩
noncomputable def cntD(d:List UInt8):Int:=zIn (zCj d 0) (zCj d 1)
noncomputable def zHg(d:List UInt8):Int:=if sltE d≠0 then sltE d else if cntD d<0 then 190 else 0
noncomputable def zCe(d:List UInt8):KepN:=
 if zHg d≠0 then zJz else if cntD d=0 then⟨zFu (zCj d 0),zVg (zCj d 0),zKj (zCj d 0)⟩else⟨zFu (zCj d 1),zVg (zCj d 1),zKj (zCj d 1)⟩
theorem yCo(a b:Option KepN):zIn a b=0∨zIn a b=1∨zIn a b= -1:=by
 unfold zIn
 split
 ·exact .inl rfl
 ·split
  ·exact .inr (.inl rfl)
  ·exact .inr (.inr rfl)
set_option maxHeartbeats 2000000 in
theorem zKi(d:List UInt8):FnD Tryz.prog 59 [devV d] (.tup [kepV (zCe d),.int .i64 (zHg d)]):=by
 have hE:zHg d=if sltE d≠0 then sltE d else if cntD d<0 then 190 else 0:=rfl
 have hK:zCe d=if zHg d≠0 then zJz else if cntD d=0 then⟨zFu (zCj d 0),zVg (zCj d 0),zKj (zCj d 0)⟩else⟨zFu (zCj d 1),zVg (zCj d 1),zKj (zCj d 1)⟩:=rfl
 have hC:cntD d=zIn (zCj d 0) (zCj d 1):=rfl
 have hci:=yCo (zCj d 0) (zCj d 1)
 generalize zCe d=R at *
 generalize zHg d=e at *
 have q0:=yAr d
 have q1:=fun h=>yHz d (yAq h).1 (yAq h).2
 have q2:=zUo (zCj d 0) (zCj d 1) (zDg d (d.length / 64 / 2) 0 (d.length / 64 / 2)) (zDg d (d.length / 64 / 2) 1 (d.length / 64 / 2))
 rw[← hC]at hci q2
 generalize cntD d=c at *
 generalize sltE d=se at *
 by_cases hs:se≠0
 ·rw[if_pos hs]at hE;subst hE;rw[if_pos hs]at hK;subst hK;have q:=q0 hs;unfold devV at *;refine zAd mixed Tryz.func59 rfl rfl (by simp[Tryz.ntmps59]) fun hwf E=>?_
  clear hwf;simp(disch:=omega)[Tryz.ntmps59,go_sem];refine zAf q [] [] [] [] ?_ ?_ ?_ (.inl ⟨rfl,.inl rfl⟩) (fun _=>?_)
  iterate 3 (· simp[go_sem])
  simp(disch:=omega)[go_sem];refine zAc (fun b1=>?_) (fun b1=>?_)<;>simp at b1
  ·simp(disch:=omega)[go_sem,kepV,zJz]
  ·exact absurd b1 hs
 ·have hs0:se=0:=by omega
  subst hs0;have q:=q1 rfl;unfold zNv at q;rw[zDc,zDc]at q q2;generalize zDg d (d.length / 64 / 2) 0 (d.length / 64 / 2)=x at *;generalize zDg d (d.length / 64 / 2) 1 (d.length / 64 / 2)=y at *;generalize zCj d 0=R0 at *;generalize zCj d 1=R1 at *;have p0:=zBs x;have p1:=zBs y;have pp0:=zAs (zKj R0);have pp1:=zAs (zKj R1);unfold devV at *;rw[if_neg hs]at hE;refine zAd mixed Tryz.func59 rfl rfl (by simp[Tryz.ntmps59]) fun hwf E=>?_
  clear hwf;simp(disch:=omega)[Tryz.ntmps59,go_sem];rcases hci with hc|hc|hc
  ·rw[hc]at hE hK q2;rw[if_neg (by decide)]at hE
   subst hE;rw[if_neg (by decide),if_pos rfl]at hK
   subst hK;refine zAf q [] [] [] [] ?_ ?_ ?_ (.inl ⟨rfl,.inl rfl⟩) (fun _=>?_)
   iterate 3 (· simp[go_sem])
   simp(disch:=omega)[go_sem];refine zBm q2 [(0,some 64),(1,some 65)] [64,65] ?_ ?_ ?_ ?_ (fun _=>?_)
   iterate 4 (· simp[go_sem])
   simp(disch:=omega)[go_sem];simp(disch:=omega)[go_sem,kepV]
  ·rw[hc]at hE hK q2;rw[if_neg (by decide)]at hE
   subst hE;rw[if_neg (by decide),if_neg (by decide)]at hK
   subst hK;refine zAf q [] [] [] [] ?_ ?_ ?_ (.inl ⟨rfl,.inl rfl⟩) (fun _=>?_)
   iterate 3 (· simp[go_sem])
   simp(disch:=omega)[go_sem];refine zBm q2 [(0,some 64),(1,some 65)] [64,65] ?_ ?_ ?_ ?_ (fun _=>?_)
   iterate 4 (· simp[go_sem])
   simp(disch:=omega)[go_sem];simp(disch:=omega)[go_sem,kepV]
  ·rw[hc]at hE hK q2;rw[if_pos (by decide)]at hE
   subst hE;rw[if_pos (by decide)]at hK
   subst hK;refine zAf q [] [] [] [] ?_ ?_ ?_ (.inl ⟨rfl,.inl rfl⟩) (fun _=>?_)
   iterate 3 (· simp[go_sem])
   simp(disch:=omega)[go_sem];refine zBm q2 [(0,some 64),(1,some 65)] [64,65] ?_ ?_ ?_ ?_ (fun _=>?_)
   iterate 4 (· simp[go_sem])
   simp(disch:=omega)[go_sem];simp(disch:=omega)[go_sem,kepV,zJz]
end
section
def g2(g n:Int):Int:=if n<4611686018427387904 then(if g<n then n else g)else g
def numA(b:List UInt8):Int:=(getV (b.take 8)).1
def numZ(b:List UInt8):Int:=(getV (b.drop 56)).1
def zDn(bl:List (List UInt8))(gen:Int):Nat→Int
 |0=>gen
 |k+1=>g2 (g2 (zDn bl gen k) (numA (bl.getD k []))) (numZ (bl.getD k []))
theorem xPu{g n:Int}(h:0≤g∧g<4611686018427387904)(hn:0≤n):0≤g2 g n∧g2 g n<4611686018427387904:=by
 unfold g2;split
 ·split<;>omega
 ·omega
theorem zUd(bl:List (List UInt8))(gen:Int)(h:0≤gen∧gen<4611686018427387904):∀k,0≤zDn bl gen k∧zDn bl gen k<4611686018427387904
 |0=>h
 |k+1=>xPu (xPu (zUd bl gen h k) (zQf _).1) (zQf _).1
def b56(b:List UInt8):Int:=byAt b 56
def hitB(bl:List (List UInt8))(g:Int):Bool:=bl.any fun b=>b56 b == g % 256
def zYp(bl:List (List UInt8))(g:Int):Nat→Nat→Int
 |0,j=>g+j
 |f+1,j=>if hitB bl (g+j)then zYp bl g f (j+1)else g+j
def yBk(bl:List (List UInt8))(gen:Int):Int:=zYp bl (zDn bl gen bl.length+1) 64 0
theorem yBj:∀(xs ys:List Int),xs.Nodup→(∀x∈xs,x∈ys)→xs.length≤ys.length
 |[],ys,_,_=>by simp
 |x::xs,ys,hn,hs=>by
  rw[List.nodup_cons]at hn;have hx:=hs x (by simp)
  have ih:=yBj xs (ys.erase x) hn.2 fun y hy=>by
   have hne:y≠x:=fun e=>hn.1 (by rw[← e];exact hy)
   exact(List.mem_erase_of_ne hne).2 (hs y (by simp[hy]))
  rw[List.length_erase_of_mem hx]at ih;have:=List.length_pos_of_mem hx;simp only[List.length_cons];omega
theorem xEm(bl:List (List UInt8))(g:Int)(hl:bl.length≤32):∃j:Nat,j<33∧hitB bl (g+j)=false:=by
 apply Classical.byContradiction
 intro hno
 have hall:∀j:Nat,j<33→hitB bl (g+j)=true:=fun j hj=>by
  cases h:hitB bl (g+j)with
  |true=>rfl
  |false=>exact absurd ⟨j,hj,h⟩ hno
 have h1:=yBj ((List.range 33).map fun j:Nat=>(g+j) % 256) (bl.map b56) (by
  rw[List.nodup_iff_pairwise_ne,List.pairwise_map];have hp:List.Pairwise (fun a b:Nat=>a≠b) (List.range 33):=List.nodup_range
  refine List.Pairwise.imp_of_mem ?_ hp;intro a b ha hb hab;have ha:=List.mem_range.1 ha;have hb:=List.mem_range.1 hb;omega) (fun x hx=>by
  obtain⟨j,hj,rfl⟩:=List.mem_map.1 hx;have:=hall j (List.mem_range.1 hj);unfold hitB at this;obtain⟨b,hb,hbe⟩:=List.any_eq_true.1 this;exact List.mem_map.2 ⟨b,hb,by simpa using hbe⟩)
 simp at h1
 omega
theorem yIu(bl:List (List UInt8))(g:Int)(j0:Nat)(h0:hitB bl (g+j0)=false)(h1:∀i:Nat,i<j0→hitB bl (g+i)=true):∀f j:Nat,j≤j0→j0<j+f→zYp bl g f j=g+j0
 |0,j,h2,h3=>by omega
 |f+1,j,h2,h3=>by
  unfold zYp;by_cases e:j=j0
  ·subst e;rw[h0,if_neg (by decide)]
  ·rw[h1 j (by omega),if_pos rfl]
   exact yIu bl g j0 h0 h1 f (j+1) (by omega) (by omega)
theorem yNj(bl:List (List UInt8))(g:Int)(hl:bl.length≤32):∃j0:Nat,j0<33∧hitB bl (g+j0)=false∧∀i:Nat,i<j0→hitB bl (g+i)=true:=by
 obtain⟨j,hj,hf⟩:=xEm bl g hl
 have key:∀n:Nat,n≤j→hitB bl (g+n)=false→∃j0:Nat,j0≤j∧hitB bl (g+j0)=false∧∀i:Nat,i<j0→hitB bl (g+i)=true:=by
  intro n;induction n using Nat.strongRecOn with
  |_ n ih=>
   intro hn hnf;by_cases h:∀i:Nat,i<n→hitB bl (g+i)=true
   ·exact⟨n,hn,hnf,h⟩
   ·obtain⟨i,hi⟩:=Classical.not_forall.1 h;have hlt:i<n:=Classical.byContradiction fun e=>hi fun h=>absurd h e
    refine ih i hlt (by omega) ?_
    cases hb:hitB bl (g+i)with
    |false=>rfl
    |true=>exact absurd (fun _=>hb) hi
 obtain⟨j0,a,b,c⟩:=key j (Nat.le_refl _) hf
 exact⟨j0,by omega,b,c⟩
theorem yIt(bl:List (List UInt8))(g:Int):∀f j,g+j≤zYp bl g f j∧zYp bl g f j≤g+j+f
 |0,j=>by unfold zYp;omega
 |f+1,j=>by
  unfold zYp;have:=yIt bl g f (j+1);split<;>omega
theorem xDp(bl:List (List UInt8))(gen:Int)(h:0≤gen∧gen<4611686018427387904):1≤yBk bl gen∧yBk bl gen≤4611686018427387968:=by
 have h1:=zUd bl gen h bl.length
 have h2:=yIt bl (zDn bl gen bl.length+1) 64 0
 unfold yBk
 omega
def nxS(bl:List (List UInt8))(b:V)(sl:List (Nat × V))(hp:List (Nat × AM.Obj))(nx:Nat):St:=⟨sl++[(0,.ptr 0 1 0 0)],hp++[(0,⟨.box,211,5,[b]⟩)],nx,[],61,1,[]⟩
set_option maxHeartbeats 8000000 in
theorem zSt(bl:List (List UInt8))(R:Option KepN)(gen:Int)(hl:bl.length≤32)(h64:∀b∈bl,b.length=64)(hg:0≤gen∧gen<4611686018427387904) :
  FnR Tryz.prog 147 [⟨.box,211,5,[zIl bl R]⟩] [.ptr 0 1 0 0,.int .i64 gen] [⟨.box,211,5,[zIl bl R]⟩] (.int .i64 (yBk bl gen)):=by
 have hN:yBk bl gen=zYp bl (zDn bl gen bl.length+1) 64 0:=rfl
 have hNi:=xDp bl gen hg
 have hbp:=zBs bl
 have hpp:=zAs (zKj R)
 obtain⟨j0,hj0,hf0,hf1⟩:=yNj bl (zDn bl gen bl.length+1) hl
 have hJ:=yIu bl _ j0 hf0 hf1 64 0 (Nat.zero_le _) (by omega)
 rw[hJ]at hN
 rw[zDc]
 generalize yBk bl gen=r at *
 obtain⟨B,hB⟩:∃B,B=V.agg [.int .i64 (zFu R),.int .u8 (zVg R),.sl 3 ((zKj R).map plnV),.sl 1 (btss bl),.bool R.isSome]:=⟨_,rfl⟩
 refine zAv mixed Tryz.func147 rfl rfl (by simp[Tryz.ntmps147]) (by simp) fun hwf E=>?_
 clear hwf
 simp(disch:=omega)[Tryz.ntmps147,go_sem,zBk]
 refine zAe mixed (fun k:Nat=>nxS bl (.agg [.int .i64 (zFu R),.int .u8 (zVg R),.sl 3 ((zKj R).map plnV),.sl 1 (btss bl),.bool R.isSome]) [(16,.int .i64 k),(15,.int .i64 bl.length),(14,.sl 1 (btss bl)),(1,.int .i64 (zDn bl gen k))] [] 2048) (fun k=>k≤bl.length) (fun k=>bl.length-k) 0 ?_ ?_ ?_
 ·omega
 ·refine Le.mk [(0,some 0)] [0] ⟨rfl,rfl,rfl⟩ ?_ ?_ ?_<;>simp[go_sem,nxS,zDn]
 ·intro k hk;have hgi:=zUd bl gen hg k;simp(disch:=omega)[go_sem,nxS];refine zAc (fun h=>?_) (fun h=>?_)<;>simp at h
  ·have h6:=h64 bl[k] (List.getElem_mem h);have hb:=zYl h;have hget:bl.getD k []=bl[k]:=by rw[List.getD_eq_getElem?_getD,List.getElem?_eq_getElem h];rfl
   have hsu:zDn bl gen (k+1)=g2 (g2 (zDn bl gen k) (numA bl[k])) (numZ bl[k]):=by rw[zDn,hget]
   generalize bl[k]=x at *;have q1:=zMw (x.take 8);have q2:=zMw (x.drop 56);have i1:0≤numA x:=(zQf _).1;have i2:0≤numZ x:=(zQf _).1;have e1:(getV (x.take 8)).1=numA x:=rfl;have e2:(getV (x.drop 56)).1=numZ x:=rfl;rw[e1]at q1;rw[e2]at q2;generalize numA x=a at *;generalize numZ x=z at *;have ht:(bts x).take 64=bts x:=List.take_of_length_le (by rw[zAm];omega)
   simp(disch:=omega)[go_sem,zBk,hb,h,h6,zBy];refine zAa q1 [] (by simp[go_sem]) (.inl rfl) (by simp[go_sem]) (fun _=>?_)
   simp(disch:=omega)[go_sem];have ht2:x.take 64=x:=List.take_of_length_le (by omega)
   simp(disch:=omega)[go_sem,h6,zBy,zDs,ht2];refine zAa q2 [] (by simp[go_sem]) (.inl rfl) (by simp[go_sem]) (fun _=>?_)
   simp(disch:=omega)[go_sem];refine⟨.inl (by kernel_rfl),?_⟩
   have gi1:=xPu (g:=zDn bl gen k) (n:=a) hgi i1;have hs1:g2 (zDn bl gen k) a=if a<4611686018427387904 then(if zDn bl gen k<a then a else zDn bl gen k)else zDn bl gen k:=rfl
   have hs2:g2 (g2 (zDn bl gen k) a) z=if z<4611686018427387904 then(if g2 (zDn bl gen k) a<z then z else g2 (zDn bl gen k) a)else g2 (zDn bl gen k) a:=rfl
   rw[← hsu]at hs2;generalize hG2e:zDn bl gen (k+1)=G2 at *;generalize g2 (zDn bl gen k) a=G1 at *;generalize hG0e:zDn bl gen k=G0 at *;refine zAe mixed (fun j:Nat=>nxS bl (.agg [.int .i64 (zFu R),.int .u8 (zVg R),.sl 3 ((zKj R).map plnV),.sl 1 (btss bl),.bool R.isSome]) [(28,.int .i64 j),(27,.int .i64 2),(26,.obj 2208 2),(16,.int .i64 k),(15,.int .i64 bl.length),(14,.sl 1 (btss bl)),(1,.int .i64 (if j=0 then G0 else if j=1 then G1 else G2))] [(2208,⟨.arr,165,1,[.int .u64 a,.int .u64 z]⟩)] 4096) (fun j=>j≤2) (fun j=>2-j) 0 ?_ ?_ ?_
   ·omega
   ·refine Le.mk [(2208,some 2208),(0,some 0)] [2208,0] ⟨rfl,rfl,rfl⟩ ?_ ?_ ?_<;>simp[go_sem,nxS]
   ·intro j hj
    match j,hj with
    |0,_=>
     simp(disch:=omega)[go_sem,nxS];refine zAc (fun b1=>?_) (fun b1=>?_)<;>simp at b1
     ·have hw:IntKind.i64.wrap a=a:=zDr (by omega) (by omega)
      rw[if_pos b1]at hs1;simp(disch:=omega)[go_sem,hw];refine zAb 1 (by omega) (by omega) (Le.mk [(2208,some 2208),(0,some 0)] [2208,0] ⟨rfl,rfl,rfl⟩ ?_ ?_ ?_)<;>simp[go_sem,hs1]
     ·rw[if_neg (by omega)]at hs1
      simp(disch:=omega)[go_sem];refine zAb 1 (by omega) (by omega) (Le.mk [(2208,some 2208),(0,some 0)] [2208,0] ⟨rfl,rfl,rfl⟩ ?_ ?_ ?_)<;>simp[go_sem,hs1]
    |1,_=>
     simp(disch:=omega)[go_sem,nxS];refine zAc (fun b1=>?_) (fun b1=>?_)<;>simp at b1
     ·have hw:IntKind.i64.wrap z=z:=zDr (by omega) (by omega)
      rw[if_pos b1]at hs2;simp(disch:=omega)[go_sem,hw];refine zAb 2 (by omega) (by omega) (Le.mk [(2208,some 2208),(0,some 0)] [2208,0] ⟨rfl,rfl,rfl⟩ ?_ ?_ ?_)<;>simp[go_sem,hs2]
     ·rw[if_neg (by omega)]at hs2
      simp(disch:=omega)[go_sem];refine zAb 2 (by omega) (by omega) (Le.mk [(2208,some 2208),(0,some 0)] [2208,0] ⟨rfl,rfl,rfl⟩ ?_ ?_ ?_)<;>simp[go_sem,hs2]
    |2,_=>
     simp(disch:=omega)[go_sem,nxS];refine zAb (k+1) (by omega) (by omega) (Le.mk [(0,some 0)] [0] ⟨rfl,rfl,rfl⟩ ?_ ?_ ?_)<;>simp[go_sem,hG2e]
  ·have hkk:k=bl.length:=by omega
   subst hkk;generalize zDn bl gen bl.length=G at *;simp(disch:=omega)[go_sem];refine zAe mixed (fun j:Nat=>nxS bl (.agg [.int .i64 (zFu R),.int .u8 (zVg R),.sl 3 ((zKj R).map plnV),.sl 1 (btss bl),.bool R.isSome]) [(1,.int .i64 (G+1+j))] [] 4096) (fun j=>j≤j0) (fun j=>j0-j) 0 ?_ ?_ ?_
   ·omega
   ·refine Le.mk [(0,some 0)] [0] ⟨rfl,rfl,rfl⟩ ?_ ?_ ?_<;>simp[go_sem,nxS]
   ·intro j hj;simp(disch:=omega)[go_sem,zBk,nxS];refine zAe mixed (fun k:Nat=>nxS bl (.agg [.int .i64 (zFu R),.int .u8 (zVg R),.sl 3 ((zKj R).map plnV),.sl 1 (btss bl),.bool R.isSome]) [(49,.int .i64 k),(48,.int .i64 bl.length),(47,.sl 1 (btss bl)),(1,.int .i64 (G+1+j))] [] 8192) (fun k=>k≤bl.length∧∀i (h:i<bl.length),i<k→b56 bl[i]≠(G+1+j) % 256) (fun k=>bl.length-k) 0 ?_ ?_ ?_
    ·exact⟨by omega,fun i _ hi=>absurd hi (Nat.not_lt_zero i)⟩
    ·refine Le.mk [(0,some 0)] [0] ⟨rfl,rfl,rfl⟩ ?_ ?_ ?_<;>simp[go_sem,nxS]
    ·rintro k ⟨hk2,hno⟩
     simp(disch:=omega)[go_sem,nxS];refine zAc (fun h=>?_) (fun h=>?_)<;>simp at h
     ·have h6:=h64 bl[k] (List.getElem_mem h);have hb:=zYl h;have hby:=xOw (l:=bl[k]) (k:=56) (by omega)
      have hu:IntKind.u8.wrap (G+1+j)=(G+1+j) % 256:=by
       obtain⟨n,hn⟩:=Int.eq_ofNat_of_zero_le (show 0≤G+1+(j:Int) by omega)
       rw[hn,w8];omega
      have hb5:byAt bl[k] 56=b56 bl[k]:=rfl;rw[hb5]at hby;simp(disch:=omega)[go_sem,zBk,hb,h,h6,hby,hu];refine zAc (fun h7=>?_) (fun h7=>?_)<;>simp at h7
      ·have hlt:j<j0:=by
        refine Classical.byContradiction fun e=>?_
        have e:j=j0:=by omega
        subst e;have:hitB bl (G+1+j)=true:=List.any_eq_true.2 ⟨bl[k],List.getElem_mem h,by simpa using h7⟩
        rw[hf0]at this;cases this
       have hw:IntKind.i64.wrap (G+1+j+1)=G+1+(j+1:Nat):=by rw[zDr (by omega) (by omega)];omega
       simp(disch:=omega)[go_sem,hw];refine zAb (j+1) (by omega) (by omega) (Le.mk [(0,some 0)] [0] ⟨rfl,rfl,rfl⟩ ?_ ?_ ?_)<;>simp[go_sem]
      ·have hno2:∀i (h:i<bl.length),i<k+1→b56 bl[i]≠(G+1+j) % 256:=fun i h1 hi=>by
        by_cases e:i=k
        ·subst e;exact h7
        ·exact hno i h1 (by omega)
       simp(disch:=omega)[go_sem];refine zAb (k+1) (⟨by omega,hno2⟩) (by omega) (Le.mk [(0,some 0)] [0] ⟨rfl,rfl,rfl⟩ ?_ ?_ ?_)<;>simp[go_sem]
     ·have hkk:k=bl.length:=by omega
      have hnh:hitB bl (G+1+j)=false:=by
       cases hb:hitB bl (G+1+j)with
       |false=>rfl
       |true=>
        obtain⟨b,hb1,hb2⟩:=List.any_eq_true.1 hb;obtain⟨i,hi,rfl⟩:=List.getElem_of_mem hb1;exact absurd (by simpa using hb2) (hno i hi (by omega))
      have hje:j=j0:=by
       refine Classical.byContradiction fun e=>?_
       rw[hf1 j (by omega)]at hnh;cases hnh
      subst hje;subst hN;simp(disch:=omega)[go_sem];refine Le.mk [(0,some 0)] [0] ⟨rfl,rfl,rfl⟩ ?_ ?_ ?_<;>simp[go_sem]
end
section
attribute [local go_sem] zAm
def stf1(x:UInt8):List UInt8:=if x=125∨x=126 then[125,x-32]else[x]
def zDi(b:List UInt8)(k:Nat):List UInt8:=(b.take k).flatMap stf1
theorem zSq{b:List UInt8}{k:Nat}(h:k<b.length):zDi b (k+1)=zDi b k++stf1 b[k]:=by
 unfold zDi
 rw[List.take_succ_eq_append_getElem h,List.flatMap_append];simp
theorem xBv(x:UInt8):1≤(stf1 x).length∧(stf1 x).length≤2:=by unfold stf1;split<;>simp
theorem zPr{b:List UInt8}:∀k,k≤b.length→(zDi b k).length≤2*k
 |0,_=>by simp[zDi]
 |k+1,hk=>by
  rw[zSq (by omega),List.length_append]
  have:=zPr (b:=b) k (by omega)
  have:=xBv (b[k]'(by omega))
  omega
theorem yLm(b:List UInt8)(hb:b.length≤1099511627776):FnD Tryz.prog 177 [.sl 1 (bts b)] (.sl 1 (bts (zDi b b.length))):=by
 refine zAd mixed Tryz.func177 rfl rfl (by simp[Tryz.ntmps177]) fun hwf E=>?_
 clear hwf
 simp(disch:=omega)[Tryz.ntmps177,go_sem]
 refine⟨by omega,?_⟩
 refine zAe mixed (fun k:Nat=>⟨[(11,.int .i64 k),(10,.int .i64 b.length),(9,.sl 1 (bts b)),(3,.obj 48 (zDi b k).length)],[(48,⟨.arr,5,1,bts (zDi b k)⟩)],1024,[],32,0,[]⟩) (fun k=>k≤b.length) (fun k=>b.length-k) 0 ?_ ?_ ?_
 ·omega
 ·refine Le.mk [(48,some 48)] [48] ⟨rfl,rfl,rfl⟩ ?_ ?_ ?_<;>simp[go_sem,zDi,bts]
 ·intro k hk;have hl:=zPr (b:=b) k hk;have hpk:=zAg (zDi b k);simp(disch:=omega)[go_sem];refine zAc (fun h=>?_) (fun h=>?_)<;>simp at h
  ·have hn:=zJn h;have hsu:=zSq h;have hpk2:=zAg (zDi b (k+1));generalize hx:b[k]=x at *;by_cases h1:x=125
   ·subst h1;have e1:bts (zDi b k)++([.int .u8 125,.int .u8 93])=bts (zDi b (k+1)):=by rw[hsu,zCh];rfl
    have e2:(zDi b (k+1)).length=(zDi b k).length+2:=by rw[hsu,List.length_append];rfl
    simp(disch:=omega)[go_sem,hn,h];refine⟨by omega,by omega,?_⟩
    refine zAb (k+1) (by omega) (by omega) (Le.mk [(48,some 48)] [48] ⟨rfl,rfl,rfl⟩ ?_ ?_ ?_)<;>simp[go_sem,e1,e2,hpk2]
   ·by_cases h2:x=126
    ·subst h2;have e1:bts (zDi b k)++([.int .u8 125,.int .u8 94])=bts (zDi b (k+1)):=by rw[hsu,zCh];rfl
     have e2:(zDi b (k+1)).length=(zDi b k).length+2:=by rw[hsu,List.length_append];rfl
     simp(disch:=omega)[go_sem,hn,h];refine⟨by omega,by omega,?_⟩
     refine zAb (k+1) (by omega) (by omega) (Le.mk [(48,some 48)] [48] ⟨rfl,rfl,rfl⟩ ?_ ?_ ?_)<;>simp[go_sem,e1,e2,hpk2]
    ·have hst:stf1 x=[x]:=by unfold stf1;rw[if_neg (by simp[h1,h2])]
     have e1:bts (zDi b k)++[.int .u8 (x.toNat:Int)]=bts (zDi b (k+1)):=by rw[hsu,zCh,hst];rfl
     have e2:(zDi b (k+1)).length=(zDi b k).length+1:=by rw[hsu,List.length_append,hst];rfl
     have n1:¬x.toNat=125:=fun e=>h1 (UInt8.toNat_inj.1 e)
     have n2:¬x.toNat=126:=fun e=>h2 (UInt8.toNat_inj.1 e)
     simp(disch:=omega)[go_sem,hn,h];refine zAc (fun h5=>?_) (fun h5=>?_)<;>simp at h5
     ·exact absurd h5 (by omega)
     ·simp(disch:=omega)[go_sem];refine⟨by omega,?_⟩
      refine zAb (k+1) (by omega) (by omega) (Le.mk [(48,some 48)] [48] ⟨rfl,rfl,rfl⟩ ?_ ?_ ?_)<;>simp[go_sem,e1,e2,hpk2]
  ·have hkk:k=b.length:=by omega
   subst hkk;simp(disch:=omega)[go_sem]
def zVm:Bool→List UInt8→List UInt8→Option (List UInt8)
 |sg,acc,[]=>if sg then none else some acc
 |sg,acc,x::r=>if(sg=true∧x≠93∧x≠94)∨x=126 then none else if sg then zVm false (acc++[x+32]) r else if x=125 then zVm true acc r else zVm false (acc++[x]) r
def yOp(b:List UInt8):Option (List UInt8):=zVm false [] b
def yHm:Option (List UInt8)→V
 |none=> .tup [.sl 1 [],.int .i64 8]
 |some l=> .tup [.sl 1 (bts l),.int .i64 0]
def baS(b:List UInt8)(p:Nat × List UInt8 × Bool):St:=⟨[(13,.int .i64 p.1),(12,.int .i64 b.length),(11,.sl 1 (bts b)),(5,.bool p.2.2),(4,.obj 64 p.2.1.length)],[(64,⟨.arr,5,1,bts p.2.1⟩)],1024,[],46,0,[]⟩
set_option maxHeartbeats 1000000 in
theorem yZq(b:List UInt8):FnD Tryz.prog 208 [.sl 1 (bts b)] (yHm (yOp b)):=by
 have hN:yOp b=zVm false [] b:=rfl
 generalize yOp b=r at *
 refine zAd mixed Tryz.func208 rfl rfl (by simp[Tryz.ntmps208]) fun hwf E=>?_
 simp(disch:=omega)[go_sem]at hwf
 simp(disch:=omega)[Tryz.ntmps208,go_sem]
 refine⟨by omega,?_⟩
 refine zAe mixed (baS b) (fun p:Nat × List UInt8 × Bool=>p.1≤b.length∧p.2.1.length≤p.1∧r=zVm p.2.2 p.2.1 (b.drop p.1)) (fun p=>b.length-p.1) (0,[],false) ?_ ?_ ?_
 ·exact⟨by simp,by simp,by simpa using hN⟩
 ·refine Le.mk [(64,some 64)] [64] ⟨rfl,rfl,rfl⟩ ?_ ?_ ?_<;>simp[go_sem,baS,bts]
 ·rintro⟨k,acc,sg⟩ ⟨h1,h2,h3⟩
  simp only at h1 h2 h3;have hpk:=zAg acc;simp(disch:=omega)[go_sem,baS];refine zAc (fun h=>?_) (fun h=>?_)<;>simp at h
  ·have hn:=zJn h;rw[List.drop_eq_getElem_cons h]at h3;generalize hx:b[k]=x at *;unfold zVm at h3;have k2:∀(acc2:List UInt8) (sg2:Bool),acc2.length≤k+1→r=zVm sg2 acc2 (b.drop (k+1))→(fun p:Nat × List UInt8 × Bool=>p.1≤b.length∧p.2.1.length≤p.1∧r=zVm p.2.2 p.2.1 (b.drop p.1)) (k+1,acc2,sg2):=fun a s h4 h5=>⟨h,h4,h5⟩
   cases sg
   ·by_cases c1:x=126
    ·subst c1;rw[if_pos (by simp)]at h3
     subst h3;simp(disch:=omega)[go_sem,hn,h,yHm]
    ·rw[if_neg (by simp[c1]),if_neg (by decide)]at h3
     by_cases c2:x=125
     ·subst c2;rw[if_pos rfl]at h3;simp(disch:=omega)[go_sem,hn,h];refine zAb ((k+1,acc,true)) (k2 _ _ (by omega) h3) (by omega) (Le.mk [(64,some 64)] [64] ⟨rfl,rfl,rfl⟩ ?_ ?_ ?_)<;>simp[go_sem,baS,hpk]
     ·rw[if_neg c2]at h3;have n1:¬x.toNat=126:=fun e=>c1 (UInt8.toNat_inj.1 e)
      have n2:¬x.toNat=125:=fun e=>c2 (UInt8.toNat_inj.1 e)
      have e1:bts acc++[.int .u8 (x.toNat:Int)]=bts (acc++[x]):=by rw[zCh];rfl
      simp(disch:=omega)[go_sem,hn,h];refine zAc (fun b1=>?_) (fun b1=>?_)<;>simp at b1
      ·exact absurd b1 (by omega)
      ·simp(disch:=omega)[go_sem];refine zAc (fun b2=>?_) (fun b2=>?_)<;>simp at b2
       ·exact absurd b2 (by omega)
       ·simp(disch:=omega)[go_sem];refine⟨by omega,?_⟩
        refine zAb ((k+1,acc++[x],false)) (k2 _ _ (by simp;omega) h3) (by omega) (Le.mk [(64,some 64)] [64] ⟨rfl,rfl,rfl⟩ ?_ ?_ ?_)<;>simp[go_sem,baS,e1]
   ·by_cases c1:x=93
    ·subst c1;rw[if_neg (by decide),if_pos rfl]at h3
     have e1:bts acc++[.int .u8 125]=bts (acc++[93+32]):=by rw[zCh];rfl
     simp(disch:=omega)[go_sem,hn,h];refine⟨by omega,?_⟩
     refine zAb ((k+1,acc++[93+32],false)) (k2 _ _ (by simp;omega) h3) (by omega) (Le.mk [(64,some 64)] [64] ⟨rfl,rfl,rfl⟩ ?_ ?_ ?_)<;>simp[go_sem,baS,e1]
    ·by_cases c2:x=94
     ·subst c2;rw[if_neg (by decide),if_pos rfl]at h3
      have e1:bts acc++[.int .u8 126]=bts (acc++[94+32]):=by rw[zCh];rfl
      simp(disch:=omega)[go_sem,hn,h];refine⟨by omega,?_⟩
      refine zAb ((k+1,acc++[94+32],false)) (k2 _ _ (by simp;omega) h3) (by omega) (Le.mk [(64,some 64)] [64] ⟨rfl,rfl,rfl⟩ ?_ ?_ ?_)<;>simp[go_sem,baS,e1]
     ·rw[if_pos (.inl ⟨rfl,c1,c2⟩)]at h3;subst h3;have n1:¬x.toNat=93:=fun e=>c1 (UInt8.toNat_inj.1 e)
      have n2:¬x.toNat=94:=fun e=>c2 (UInt8.toNat_inj.1 e)
      simp(disch:=omega)[go_sem,hn,h,yHm];refine zAc (fun b1=>?_) (fun b1=>?_)<;>simp at b1
      ·refine zAc (fun b2=>?_) (fun b2=>?_)<;>simp at b2
       ·simp(disch:=omega)[go_sem]
       ·exact absurd b2 (by omega)
      ·exact absurd b1 (by omega)
  ·have hkk:k=b.length:=by omega
   subst hkk;rw[List.drop_length]at h3;unfold zVm at h3;cases sg
   ·rw[if_neg (by decide)]at h3
    subst h3;simp(disch:=omega)[go_sem,yHm]
   ·rw[if_pos rfl]at h3;subst h3;simp(disch:=omega)[go_sem,yHm]
structure MsgN where
 kind:Int
 seq:Int
 body:List UInt8
def msgV(m:MsgN):V:= .agg [.int .u8 m.kind,.int .u32 m.seq,.sl 1 (bts m.body)]
def insI(m:MsgN):List UInt8:=[UInt8.ofNat m.kind.toNat]++put4 m.seq.toNat++m.body
def insB(m:MsgN):List UInt8:=insI m++put4 (crc (insI m))
theorem zRx(n:Nat):(put4 n).length=4:=zRw n 4
theorem yTh(m:MsgN)(h:m.body.length≤512):FnD Tryz.prog 176 [msgV m] (.tup [.sl 1 (bts (insB m)),.int .i64 0]):=by
 obtain⟨kd,sq,bd⟩:=m
 simp only at h
 unfold msgV
 simp only
 refine zAd mixed Tryz.func176 rfl rfl (by simp[Tryz.ntmps176]) fun hwf E=>?_
 simp(disch:=omega)[go_sem]at hwf
 simp(disch:=omega)[Tryz.ntmps176,go_sem]
 obtain⟨k,rfl⟩:=Int.eq_ofNat_of_zero_le (show 0≤kd by omega)
 obtain⟨s,rfl⟩:=Int.eq_ofNat_of_zero_le (show 0≤sq by omega)
 have hI:insI ⟨k,s,bd⟩=[UInt8.ofNat k]++put4 s++bd:=rfl
 have hB:insB ⟨k,s,bd⟩=insI ⟨k,s,bd⟩++put4 (crc (insI ⟨k,s,bd⟩)):=rfl
 have q1:=yIm s (by omega)
 have q2:=zMv (insI ⟨k,s,bd⟩)
 have q3:=yIm (crc (insI ⟨k,s,bd⟩)) (yJy _)
 have hcl:=yJy (insI ⟨k,s,bd⟩)
 have hk:(UInt8.ofNat k).toNat=k:=by rw[UInt8.toNat_ofNat'];omega
 have hc1:V.int .u8 (k:Int)::(bts (put4 s)++bts bd)=bts (insI ⟨k,s,bd⟩):=by rw[hI,zCh,zCh];simp[bts,hk]
 have hl1:5+bd.length=(insI ⟨k,s,bd⟩).length:=by rw[hI];simp[zRx];omega
 have h41:=zRx s
 have h42:=zRx (crc (insI ⟨k,s,bd⟩))
 have hw:IntKind.u64.wrap (s:Int)=s:=w64 (by omega)
 generalize insB ⟨k,s,bd⟩=B at *
 generalize insI ⟨k,s,bd⟩=I at *
 generalize hcr:crc I=c at *
 have hw2:IntKind.u64.wrap (c:Int)=c:=w64 (by omega)
 have hpp:=fun l=>zAg l
 refine zAc (fun b1=>?_) (fun b1=>?_)<;>simp at b1
 ·exact absurd b1 (by omega)
 ·simp(disch:=omega)[go_sem,hw];refine zAa q1 [] (by simp[go_sem]) (.inl rfl) (by simp[go_sem]) (fun _=>?_)
  simp(disch:=omega)[go_sem];simp(disch:=omega)[go_sem,h41];refine⟨by omega,?_⟩
  refine⟨.inl (by kernel_rfl),?_⟩
  rw[hc1,hl1];refine zAa q2 [288] (by simp[go_sem,hpp]) (.inr (by simp[go_sem])) (by simp[go_sem]) (fun _=>?_)
  simp(disch:=omega)[go_sem,hw2];refine zAa q3 [] (by simp[go_sem]) (.inl rfl) (by simp[go_sem]) (fun _=>?_)
  simp(disch:=omega)[go_sem];simp(disch:=omega)[go_sem,h42];rw[hB,zCh];exact⟨by omega,zAt (by simp[zCs,hpp])⟩
def insE(m:MsgN):Int:=if 512<m.body.length then 3 else 0
theorem yNp(m:MsgN)(h:512<m.body.length):FnD Tryz.prog 176 [msgV m] (.tup [.sl 1 [],.int .i64 3]):=by
 obtain⟨kd,sq,bd⟩:=m
 simp only at h
 unfold msgV
 simp only
 refine zAd mixed Tryz.func176 rfl rfl (by simp[Tryz.ntmps176]) fun hwf E=>?_
 clear hwf
 simp(disch:=omega)[Tryz.ntmps176,go_sem]
 refine zAc (fun b1=>?_) (fun b1=>?_)<;>simp at b1
 ·simp(disch:=omega)[go_sem]
 ·exact absurd b1 (by omega)
def wrtB(m:MsgN):List UInt8:=if insE m=0 then[126]++zDi (insB m) (insB m).length++[126]else[]
theorem yGn(m:MsgN):FnD Tryz.prog 112 [msgV m] (.tup [.sl 1 (bts (wrtB m)),.int .i64 (insE m)]):=by
 have hE:insE m=if 512<m.body.length then 3 else 0:=rfl
 have hW:wrtB m=if insE m=0 then[126]++zDi (insB m) (insB m).length++[126]else[]:=rfl
 have q1:=yTh m
 have q2:=yNp m
 have hIl:m.body.length≤512→(insB m).length≤600:=fun h=>by
  simp[insB,insI,zRx];omega
 generalize insB m=I at *
 generalize wrtB m=W at *
 generalize insE m=e at *
 obtain⟨kd,sq,bd⟩:=m
 unfold msgV at *
 simp only at *
 by_cases h:512<bd.length
 ·rw[if_pos h]at hE;subst hE;rw[if_neg (by decide)]at hW
  subst hW;have q:=q2 h;refine zAd mixed Tryz.func112 rfl rfl (by simp[Tryz.ntmps112]) fun hwf E=>?_
  clear hwf;simp(disch:=omega)[Tryz.ntmps112,go_sem];refine zAa q [] (by simp[go_sem]) (.inl rfl) (by simp[go_sem]) (fun _=>?_)
  simp(disch:=omega)[go_sem];simp(disch:=omega)[go_sem,bts]
 ·rw[if_neg h]at hE;subst hE;rw[if_pos rfl]at hW;have q:=q1 (by omega)
  have hIl:=hIl (by omega)
  have q3:=yLm I (by omega)
  have hsl:=zPr (b:=I) I.length (Nat.le_refl _);generalize zDi I I.length=S at *;have hpp:=fun l=>zAg l
  have hW2:V.int .u8 126::(bts S++[.int .u8 126])=bts W:=by rw[hW,zCh,zCh];rfl
  refine zAd mixed Tryz.func112 rfl rfl (by simp[Tryz.ntmps112]) fun hwf E=>?_
  clear hwf;simp(disch:=omega)[Tryz.ntmps112,go_sem];refine zAa q [] (by simp[go_sem]) (.inl rfl) (by simp[go_sem]) (fun _=>?_)
  simp(disch:=omega)[go_sem];refine zAa q3 [] (by simp[go_sem]) (.inl rfl) (by simp[go_sem]) (fun _=>?_)
  simp(disch:=omega)[go_sem];rw[← hW2];exact⟨by omega,⟨by omega,by omega⟩,by omega,zAt (by simp[go_sem,zCs,hpp])⟩
def zYh(b:List UInt8):MsgN:=⟨byAt b 0,IntKind.u32.wrap (getV ((b.take 5).drop 1)).1,(b.take (b.length-4)).drop 5⟩
theorem yKg(l:List UInt8):(bts l).tail=bts l.tail:=by cases l<;>rfl
def zRh(b:List UInt8):Prop:=(9≤b.length∧b.length≤521)∧(crc (b.take (b.length-4)):Int)=(getV (b.drop (b.length-4))).1
instance (b:List UInt8):Decidable (zRh b):=by unfold zRh;infer_instance
set_option maxHeartbeats 1000000 in
theorem xDj(b:List UInt8)(h:¬zRh b):FnR Tryz.prog 209 [] [.sl 1 (bts b)] [] (.tup [.agg [.int .u8 0,.int .u32 0,.nilS],.int .i64 8]):=by
 unfold zRh at h
 by_cases c1:9≤b.length∧b.length≤521
 ·have hc:¬(crc (b.take (b.length-4)):Int)=(getV (b.drop (b.length-4))).1:=fun e=>h ⟨c1,e⟩
  have q1:=zOu ((b.take 5).drop 1);have q2:=zOu (b.drop (b.length-4));have q3:=zMv (b.take (b.length-4));have hcl:=yJy (b.take (b.length-4));generalize crc (b.take (b.length-4))=c at *;generalize getV (b.drop (b.length-4))=g at *;generalize getV ((b.take 5).drop 1)=g1 at *;obtain⟨n,hn⟩:∃n,b.length=n+4:=⟨b.length-4,by omega⟩
  have hn4:b.length-4=n:=by omega
  rw[hn4]at q2 q3;have hd:List.drop n (List.take (n+4) b)=List.drop n b:=by rw[List.take_of_length_le (by omega)]
  have hw:IntKind.u64.wrap (c:Int)=c:=w64 (by omega)
  have htn:((n:Int)+4).toNat=n+4:=by omega
  refine zAv mixed Tryz.func209 rfl rfl (by simp[Tryz.ntmps209]) (by simp) fun hwf E=>?_
  clear hwf;simp(disch:=omega)[Tryz.ntmps209,go_sem,hn];refine zAc (fun b1=>?_) (fun b1=>?_)<;>simp at b1
  ·exact absurd b1 (by omega)
  ·simp(disch:=omega)[go_sem,hn,zBy,yKg];refine⟨by omega,?_⟩
   refine zAa q1 [] (by simp[go_sem]) (.inl rfl) (by simp[go_sem]) (fun _=>?_)
   simp(disch:=omega)[go_sem,hn,zBy,zDs,hd,htn];refine⟨by omega,?_⟩
   refine zAa q2 [] (by simp[go_sem]) (.inl rfl) (by simp[go_sem]) (fun _=>?_)
   simp(disch:=omega)[go_sem,hn,zBy];refine⟨by omega,?_⟩
   refine zAa q3 [] (by simp[go_sem]) (.inl rfl) (by simp[go_sem]) (fun _=>?_)
   simp(disch:=omega)[go_sem,hw];refine zAc (fun b2=>?_) (fun b2=>?_)<;>simp at b2
   ·simp(disch:=omega)[go_sem];refine Le.mk [] [] ⟨rfl,rfl,rfl⟩ ?_ ?_ ?_<;>simp[go_sem]
   ·exact absurd b2 hc
 ·refine zAv mixed Tryz.func209 rfl rfl (by simp[Tryz.ntmps209]) (by simp) fun hwf E=>?_
  simp(disch:=omega)[go_sem]at hwf;simp(disch:=omega)[Tryz.ntmps209,go_sem];refine zAc (fun b1=>?_) (fun b1=>?_)<;>simp at b1
  ·simp(disch:=omega)[go_sem];refine Le.mk [] [] ⟨rfl,rfl,rfl⟩ ?_ ?_ ?_<;>simp[go_sem]
  ·exact absurd b1 (by omega)
end
section
theorem xBz{n:Nat}{bl:List (List UInt8)}{gen:Int}{m:Nat}{pl:List UInt8}{k:KepN}(h:xCa n bl gen m pl=some k):k.gen=gen∧0≤k.mode∧k.mode=m∧k.plans=zKq pl∧zOe pl=0∧kepE k n=0:=by
 unfold xCa at h
 split at h
 ·cases h
 ·rename_i h1;split at h
  ·cases h
  ·rename_i h2;split at h
   ·cases h;exact⟨rfl,by simp,rfl,rfl,by omega,by omega⟩
   ·cases h
theorem xBy{bl:List (List UInt8)}{k:KepN}(h:zPt bl=some k):(0≤k.gen∧k.gen<4611686018427387904)∧(0≤k.mode∧k.mode≤3)∧kepE k bl.length=0:=by
 unfold zPt yLp at h
 split at h
 ·cases h
 ·split at h
  ·cases h
  ·rename_i h1;unfold xNu at h;split at h
   ·cases h
   ·split at h
    ·cases h
    ·rename_i h2;have:=xBz h;have hg:=zQf ((bl.getD 0 []).take 8);unfold genB at *;exact⟨by omega,by omega,this.2.2.2.2.2⟩
theorem yIa(bl:List (List UInt8)):0≤zFu (zPt bl)∧zFu (zPt bl)<4611686018427387904:=by
 cases h:zPt bl with
 |none=>simp[zFu]
 |some k=>exact(xBy h).1
def yBa(to h:Nat)(b:List (List UInt8)):List (Int × List UInt8):=(List.range b.length).map fun i=>((to*h+i:Nat),b.getD i [])
def zDw(to h:Nat)(b:List (List UInt8))(k:Nat):List (Int × List UInt8):=(List.range k).map fun i=>((to*h+i:Nat),b.getD i [])
noncomputable def yBy(d:List UInt8):Int:=yBk (zDg d (d.length / 64 / 2) (if cntD d=0 then 1 else 0) (d.length / 64 / 2)) (if cntD d=0 then zFu (zCj d 0)else if cntD d=1 then zFu (zCj d 1)else 0)
noncomputable def putE(d:List UInt8)(m:Int)(l:List Pln):Int:=
 if sltE d≠0 then sltE d else if 3<m then 2 else if kepE ⟨1,m,l⟩ (d.length / 64 / 2:Nat)≠0 then kepE ⟨1,m,l⟩ (d.length / 64 / 2:Nat)
 else if 4611686018427387904≤yBy d then 190 else kepE ⟨yBy d,m,l⟩ (d.length / 64 / 2:Nat)
noncomputable def putL(d:List UInt8)(m:Int)(l:List Pln):List (Int × List UInt8):=
 if putE d m l≠0 then[]else yBa (if cntD d=0 then 1 else 0) (d.length / 64 / 2) (kepL ⟨yBy d,m,l⟩ (d.length / 64 / 2:Nat))
theorem xEe(k:KepN)(n:Nat):(kepL k n).length=if kepE k n=0 then n else 0:=by
 unfold kepL
 split<;>simp[zNl]
set_option maxHeartbeats 8000000 in
theorem yQi(d:List UInt8)(m:Int)(l:List Pln):FnD Tryz.prog 83 [devV d,.int .u8 m,.sl 3 (l.map plnV)] (.tup [.sl 2 ((putL d m l).map putV),.int .i64 (putE d m l)]):=by
 have hE:putE d m l=if sltE d≠0 then sltE d else if 3<m then 2 else if kepE ⟨1,m,l⟩ (d.length / 64 / 2:Nat)≠0 then kepE ⟨1,m,l⟩ (d.length / 64 / 2:Nat)
  else if 4611686018427387904≤yBy d then 190 else kepE ⟨yBy d,m,l⟩ (d.length / 64 / 2:Nat):=rfl
 have hL:putL d m l=if putE d m l≠0 then[]else yBa (if cntD d=0 then 1 else 0) (d.length / 64 / 2) (kepL ⟨yBy d,m,l⟩ (d.length / 64 / 2:Nat)):=rfl
 have hT:yBy d=yBk (zDg d (d.length / 64 / 2) (if cntD d=0 then 1 else 0) (d.length / 64 / 2)) (if cntD d=0 then zFu (zCj d 0)else if cntD d=1 then zFu (zCj d 1)else 0):=rfl
 have hC:cntD d=zIn (zCj d 0) (zCj d 1):=rfl
 have hci:=yCo (zCj d 0) (zCj d 1)
 generalize putL d m l=PL at *
 generalize putE d m l=e at *
 have q0:=yAr d
 have q1:=fun h=>yHz d (yAq h).1 (yAq h).2
 have q2:=zUo (zCj d 0) (zCj d 1) (zDg d (d.length / 64 / 2) 0 (d.length / 64 / 2)) (zDg d (d.length / 64 / 2) 1 (d.length / 64 / 2))
 have q3:=zNk ⟨1,m,l⟩ (d.length / 64 / 2:Nat)
 have q4:=fun g=>zNk ⟨g,m,l⟩ (d.length / 64 / 2:Nat)
 have hll:=fun g=>xEe ⟨g,m,l⟩ (d.length / 64 / 2)
 have hlp:=zAs l
 rw[← hC]at hci q2
 have hslt:= @yAq d
 generalize cntD d=c at *
 generalize sltE d=se at *
 by_cases hs:se≠0
 ·rw[if_pos hs]at hE;subst hE;rw[if_pos hs]at hL;subst hL;have q:=q0 hs;clear q1 q2 q3 q4 hT;unfold devV at *;refine zAd mixed Tryz.func83 rfl rfl (by simp[Tryz.ntmps83]) fun hwf E=>?_
  clear hwf;simp(disch:=omega)[Tryz.ntmps83,go_sem];refine zAf q [] [] [] [] ?_ ?_ ?_ (.inl ⟨rfl,.inl rfl⟩) (fun _=>?_)
  iterate 3 (· simp[go_sem])
  simp(disch:=omega)[go_sem];refine zAc (fun b1=>?_) (fun b1=>?_)<;>simp at b1
  ·simp(disch:=omega)[go_sem]
  ·exact absurd b1 hs
 ·have hs0:se=0:=by omega
  subst hs0;rw[if_neg hs]at hE;have q:=q1 rfl;obtain⟨hb0,hd2⟩:=hslt rfl;have hlen:d.length≤4096:=by
   unfold blkE at hb0;by_cases h:d.length<64∨4096<d.length∨d.length % 64≠0
   ·rw[if_pos h]at hb0;exact absurd hb0 (by decide)
   ·omega
  unfold zNv at q;rw[zDc,zDc]at q q2;have g0:0≤zFu (zCj d 0)∧zFu (zCj d 0)<4611686018427387904:=yIa _;have g1:0≤zFu (zCj d 1)∧zFu (zCj d 1)<4611686018427387904:=yIa _;have x64:=zSf (d:=d) (h:=d.length / 64 / 2) (i:=0) (by omega) (by omega)
  have y64:=zSf (d:=d) (h:=d.length / 64 / 2) (i:=1) (by omega) (by omega)
  have xl:=zLa d (d.length / 64 / 2) 0 (d.length / 64 / 2);have yl:=zLa d (d.length / 64 / 2) 1 (d.length / 64 / 2);have n0:=fun g hg=>zSt (zDg d (d.length / 64 / 2) 0 (d.length / 64 / 2)) (zCj d 0) g (by omega) x64 hg
  have n1:=fun g hg=>zSt (zDg d (d.length / 64 / 2) 1 (d.length / 64 / 2)) (zCj d 1) g (by omega) y64 hg
  rw[zDc]at n0 n1;have hh:1≤d.length / 64 / 2∧d.length / 64 / 2≤32:=by omega
  generalize hT2:yBy d=G at *;generalize hx:zDg d (d.length / 64 / 2) 0 (d.length / 64 / 2)=x at *;generalize hy:zDg d (d.length / 64 / 2) 1 (d.length / 64 / 2)=y at *;generalize zCj d 0=R0 at *;generalize zCj d 1=R1 at *;generalize d.length / 64 / 2=h at *;clear q1 q0 hslt hd2 hb0;have p0:=zBs x;have p1:=zBs y;have pp0:=zAs (zKj R0);have pp1:=zAs (zKj R1);unfold devV kepV at *;simp only at q3 q4;have hx1:kepL ⟨1,m,l⟩ h=kepL ⟨1,m,l⟩ h:=rfl;generalize kepE ⟨1,m,l⟩ h=k1 at *;generalize kepL ⟨1,m,l⟩ h=kl1 at *;have hkp:=zBs kl1;by_cases c1:3<m
  ·rw[if_pos c1]at hE;subst hE;rw[if_pos (by decide)]at hL
   subst hL;refine zAd mixed Tryz.func83 rfl rfl (by simp[Tryz.ntmps83]) fun hwf E=>?_
   clear hwf;simp(disch:=omega)[Tryz.ntmps83,go_sem];refine zAf q [] [] [] [] ?_ ?_ ?_ (.inl ⟨rfl,.inl rfl⟩) (fun _=>?_)
   iterate 3 (· simp[go_sem])
   simp(disch:=omega)[go_sem];refine zAc (fun b1=>?_) (fun b1=>?_)<;>simp at b1
   ·simp(disch:=omega)[go_sem]
   ·exact absurd c1 (by omega)
  ·rw[if_neg c1]at hE;by_cases c2:k1≠0
   ·rw[if_pos c2]at hE;subst hE;rw[if_pos c2]at hL;subst hL;refine zAd mixed Tryz.func83 rfl rfl (by simp[Tryz.ntmps83]) fun hwf E=>?_
    clear hwf;simp(disch:=omega)[Tryz.ntmps83,go_sem];refine zAf q [] [] [] [] ?_ ?_ ?_ (.inl ⟨rfl,.inl rfl⟩) (fun _=>?_)
    iterate 3 (· simp[go_sem])
    simp(disch:=omega)[go_sem];refine zAc (fun b1=>?_) (fun b1=>?_)<;>simp at b1
    ·exact absurd c1 (by omega)
    ·simp(disch:=omega)[go_sem,zBk,xl];refine zAa q3 [] (by simp[go_sem]) (.inl rfl) (by simp[go_sem]) (fun _=>?_)
     simp(disch:=omega)[go_sem];refine zAc (fun b2=>?_) (fun b2=>?_)<;>simp at b2
     ·simp(disch:=omega)[go_sem]
     ·exact absurd b2 c2
   ·rw[if_neg c2]at hE;rcases hci with hc|hc|hc
    ·rw[hc]at hL hT q2;rw[if_pos rfl,if_pos rfl]at hT;rw[if_pos rfl]at hL;rw[hy]at hT;have qn:=n1 (zFu R0) g0;rw[← hT]at qn;have q5:=q4 G;have hl5:=hll G;clear q4 hll n0 n1;refine zAd mixed Tryz.func83 rfl rfl (by simp[Tryz.ntmps83]) fun hwf E=>?_
     clear hwf;simp(disch:=omega)[Tryz.ntmps83,go_sem];refine zAf q [] [] [] [] ?_ ?_ ?_ (.inl ⟨rfl,.inl rfl⟩) (fun _=>?_)
     iterate 3 (· simp[go_sem])
     simp(disch:=omega)[go_sem];refine zAc (fun b1=>?_) (fun b1=>?_)<;>simp at b1
     ·exact absurd b1 (by omega)
     ·simp(disch:=omega)[go_sem,zBk,xl];refine zAa q3 [] (by simp[go_sem]) (.inl rfl) (by simp[go_sem]) (fun _=>?_)
      simp(disch:=omega)[go_sem];refine zAc (fun b2=>?_) (fun b2=>?_)<;>simp at b2
      ·exact absurd b2 c2
      ·simp(disch:=omega)[go_sem];refine zBm q2 [(0,some 64),(1,some 65)] [64,65] ?_ ?_ ?_ ?_ (fun _=>?_)
       iterate 4 (· simp[go_sem])
       simp(disch:=omega)[go_sem];refine zBm qn [(0,some 65)] [65] ?_ ?_ ?_ ?_ (fun _=>?_)
       iterate 4 (· simp[go_sem])
       simp(disch:=omega)[go_sem];by_cases c3:4611686018427387904≤G
       ·rw[if_pos c3]at hE;subst hE;rw[if_pos (by decide)]at hL
        subst hL;refine zAc (fun b3=>?_) (fun b3=>?_)<;>simp at b3
        ·simp(disch:=omega)[go_sem]
        ·exact absurd c3 (by omega)
       ·rw[if_neg c3]at hE;subst hE;refine zAc (fun b3=>?_) (fun b3=>?_)<;>simp at b3
        ·exact absurd b3 c3
        ·generalize kepE ⟨G,m,l⟩ h=k2 at *;generalize kepL ⟨G,m,l⟩ h=kl2 at *;have hkp2:=zBs kl2;have hk2l:kl2.length≤32:=by rw[hl5];split<;>omega
         simp(disch:=omega)[go_sem];refine zAa q5 [] (by simp[go_sem]) (.inl rfl) (by simp[go_sem]) (fun _=>?_)
         simp(disch:=omega)[go_sem,zBk];have hPL:PL=yBa 1 h kl2:=by
          rw[hL];by_cases hk2:k2=0
          ·rw[if_neg (by simpa using hk2)]
          ·rw[if_pos hk2];rw[if_neg hk2]at hl5;have:kl2=[]:=List.length_eq_zero_iff.1 hl5;subst this;rfl
         have hPe:yBa 1 h kl2=zDw 1 h kl2 kl2.length:=rfl;rw[hPe]at hPL;have hsu:∀k,zDw 1 h kl2 (k+1)=zDw 1 h kl2 k++[(((1*h+k:Nat):Int),kl2.getD k [])]:=fun k=>by simp[zDw,List.range_succ]
         have hkl:∀k,(zDw 1 h kl2 k).length=k:=fun k=>by simp[zDw]
         refine zAe mixed (fun k:Nat=>⟨[(79,.int .i64 k),(78,.int .i64 kl2.length),(77,.sl 1 (btss kl2)),(18,.obj 4000 k),(15,.int .i64 1),(11,.int .i64 h),(9,.int .i64 k2)],[(4000,⟨.arr,158,2,(zDw 1 h kl2 k).map putV⟩)],8192,[],97,0,[]⟩) (fun k=>k≤kl2.length) (fun k=>kl2.length-k) 0 ?_ ?_ ?_
         ·omega
         ·refine Le.mk [(4000,none)] [] ⟨rfl,rfl,rfl⟩ ?_ ?_ ?_<;>simp[go_sem,zDw]
         ·intro k hk;have e1:=hkl k;simp(disch:=omega)[go_sem];refine zAc (fun h9=>?_) (fun h9=>?_)<;>simp at h9
          ·have hb:=zYl h9;have hget:kl2.getD k []=kl2[k]:=by rw[List.getD_eq_getElem?_getD,List.getElem?_eq_getElem h9];rfl
           have e2:=hkl (k+1);have e3:=hsu k;rw[hget]at e3;have hm1:(zDw 1 h kl2 k).map putV++[.agg [.int .i64 ((h:Int)+k),.sl 1 (bts kl2[k])]]=(zDw 1 h kl2 (k+1)).map putV:=by rw[e3,List.map_append];simp[putV]
           have hpz:=zEp (zDw 1 h kl2 (k+1));have hpy:=zEp (zDw 1 h kl2 k);simp(disch:=omega)[go_sem,zBk,hb,h9,e1,List.length_map];refine⟨⟨by omega,by omega⟩,?_⟩
           refine zAb (k+1) (by omega) (by omega) (Le.mk [(4000,some 4000)] [4000] ⟨rfl,rfl,rfl⟩ ?_ ?_ ?_)<;>simp[go_sem,hm1,hpz]
          ·have hkk:k=kl2.length:=by omega
           subst hkk;rw[← hPL]at e1 ⊢;have hpz:=zEp PL;simp(disch:=omega)[go_sem,e1]
    ·rw[hc]at hL hT q2;rw[if_neg (show ¬(1:Int)=0 by decide),if_neg (show ¬(1:Int)=0 by decide),if_pos rfl]at hT
     rw[if_neg (show ¬(1:Int)=0 by decide)]at hL
     rw[hx]at hT;have qn:=n0 (zFu R1) g1;rw[← hT]at qn;have q5:=q4 G;have hl5:=hll G;clear q4 hll n0 n1;refine zAd mixed Tryz.func83 rfl rfl (by simp[Tryz.ntmps83]) fun hwf E=>?_
     clear hwf;simp(disch:=omega)[Tryz.ntmps83,go_sem];refine zAf q [] [] [] [] ?_ ?_ ?_ (.inl ⟨rfl,.inl rfl⟩) (fun _=>?_)
     iterate 3 (· simp[go_sem])
     simp(disch:=omega)[go_sem];refine zAc (fun b1=>?_) (fun b1=>?_)<;>simp at b1
     ·exact absurd b1 (by omega)
     ·simp(disch:=omega)[go_sem,zBk,xl];refine zAa q3 [] (by simp[go_sem]) (.inl rfl) (by simp[go_sem]) (fun _=>?_)
      simp(disch:=omega)[go_sem];refine zAc (fun b2=>?_) (fun b2=>?_)<;>simp at b2
      ·exact absurd b2 c2
      ·simp(disch:=omega)[go_sem];refine zBm q2 [(0,some 64),(1,some 65)] [64,65] ?_ ?_ ?_ ?_ (fun _=>?_)
       iterate 4 (· simp[go_sem])
       simp(disch:=omega)[go_sem];refine zBm qn [(0,some 64)] [64] ?_ ?_ ?_ ?_ (fun _=>?_)
       iterate 4 (· simp[go_sem])
       simp(disch:=omega)[go_sem];by_cases c3:4611686018427387904≤G
       ·rw[if_pos c3]at hE;subst hE;rw[if_pos (by decide)]at hL
        subst hL;refine zAc (fun b3=>?_) (fun b3=>?_)<;>simp at b3
        ·simp(disch:=omega)[go_sem]
        ·exact absurd c3 (by omega)
       ·rw[if_neg c3]at hE;subst hE;refine zAc (fun b3=>?_) (fun b3=>?_)<;>simp at b3
        ·exact absurd b3 c3
        ·generalize kepE ⟨G,m,l⟩ h=k2 at *;generalize kepL ⟨G,m,l⟩ h=kl2 at *;have hkp2:=zBs kl2;have hk2l:kl2.length≤32:=by rw[hl5];split<;>omega
         simp(disch:=omega)[go_sem];refine zAa q5 [] (by simp[go_sem]) (.inl rfl) (by simp[go_sem]) (fun _=>?_)
         simp(disch:=omega)[go_sem,zBk];have hPL:PL=yBa 0 h kl2:=by
          rw[hL];by_cases hk2:k2=0
          ·rw[if_neg (by simpa using hk2)]
          ·rw[if_pos hk2];rw[if_neg hk2]at hl5;have:kl2=[]:=List.length_eq_zero_iff.1 hl5;subst this;rfl
         have hPe:yBa 0 h kl2=zDw 0 h kl2 kl2.length:=rfl;rw[hPe]at hPL;have hsu:∀k,zDw 0 h kl2 (k+1)=zDw 0 h kl2 k++[(((0*h+k:Nat):Int),kl2.getD k [])]:=fun k=>by simp[zDw,List.range_succ]
         have hkl:∀k,(zDw 0 h kl2 k).length=k:=fun k=>by simp[zDw]
         refine zAe mixed (fun k:Nat=>⟨[(79,.int .i64 k),(78,.int .i64 kl2.length),(77,.sl 1 (btss kl2)),(18,.obj 4000 k),(15,.int .i64 0),(11,.int .i64 h),(9,.int .i64 k2)],[(4000,⟨.arr,158,2,(zDw 0 h kl2 k).map putV⟩)],8192,[],97,0,[]⟩) (fun k=>k≤kl2.length) (fun k=>kl2.length-k) 0 ?_ ?_ ?_
         ·omega
         ·refine Le.mk [(4000,none)] [] ⟨rfl,rfl,rfl⟩ ?_ ?_ ?_<;>simp[go_sem,zDw]
         ·intro k hk;have e1:=hkl k;simp(disch:=omega)[go_sem];refine zAc (fun h9=>?_) (fun h9=>?_)<;>simp at h9
          ·have hb:=zYl h9;have hget:kl2.getD k []=kl2[k]:=by rw[List.getD_eq_getElem?_getD,List.getElem?_eq_getElem h9];rfl
           have e2:=hkl (k+1);have e3:=hsu k;rw[hget]at e3;have hm1:(zDw 0 h kl2 k).map putV++[.agg [.int .i64 ((k:Int)),.sl 1 (bts kl2[k])]]=(zDw 0 h kl2 (k+1)).map putV:=by rw[e3,List.map_append];simp[putV]
           have hpz:=zEp (zDw 0 h kl2 (k+1));have hpy:=zEp (zDw 0 h kl2 k);simp(disch:=omega)[go_sem,zBk,hb,h9,e1,List.length_map];refine⟨⟨by omega,by omega⟩,?_⟩
           refine zAb (k+1) (by omega) (by omega) (Le.mk [(4000,some 4000)] [4000] ⟨rfl,rfl,rfl⟩ ?_ ?_ ?_)<;>simp[go_sem,hm1,hpz]
          ·have hkk:k=kl2.length:=by omega
           subst hkk;rw[← hPL]at e1 ⊢;have hpz:=zEp PL;simp(disch:=omega)[go_sem,e1]
    ·rw[hc]at hL hT q2;rw[if_neg (show ¬(-1:Int)=0 by decide),if_neg (show ¬(-1:Int)=0 by decide),if_neg (show ¬(-1:Int)=1 by decide)]at hT
     rw[if_neg (show ¬(-1:Int)=0 by decide)]at hL
     rw[hx]at hT;have qn:=n0 (0) ⟨by decide,by decide⟩
     rw[← hT]at qn;have q5:=q4 G;have hl5:=hll G;clear q4 hll n0 n1;refine zAd mixed Tryz.func83 rfl rfl (by simp[Tryz.ntmps83]) fun hwf E=>?_
     clear hwf;simp(disch:=omega)[Tryz.ntmps83,go_sem];refine zAf q [] [] [] [] ?_ ?_ ?_ (.inl ⟨rfl,.inl rfl⟩) (fun _=>?_)
     iterate 3 (· simp[go_sem])
     simp(disch:=omega)[go_sem];refine zAc (fun b1=>?_) (fun b1=>?_)<;>simp at b1
     ·exact absurd b1 (by omega)
     ·simp(disch:=omega)[go_sem,zBk,xl];refine zAa q3 [] (by simp[go_sem]) (.inl rfl) (by simp[go_sem]) (fun _=>?_)
      simp(disch:=omega)[go_sem];refine zAc (fun b2=>?_) (fun b2=>?_)<;>simp at b2
      ·exact absurd b2 c2
      ·simp(disch:=omega)[go_sem];refine zBm q2 [(0,some 64),(1,some 65)] [64,65] ?_ ?_ ?_ ?_ (fun _=>?_)
       iterate 4 (· simp[go_sem])
       simp(disch:=omega)[go_sem];refine zBm qn [(0,some 64)] [64] ?_ ?_ ?_ ?_ (fun _=>?_)
       iterate 4 (· simp[go_sem])
       simp(disch:=omega)[go_sem];by_cases c3:4611686018427387904≤G
       ·rw[if_pos c3]at hE;subst hE;rw[if_pos (by decide)]at hL
        subst hL;refine zAc (fun b3=>?_) (fun b3=>?_)<;>simp at b3
        ·simp(disch:=omega)[go_sem]
        ·exact absurd c3 (by omega)
       ·rw[if_neg c3]at hE;subst hE;refine zAc (fun b3=>?_) (fun b3=>?_)<;>simp at b3
        ·exact absurd b3 c3
        ·generalize kepE ⟨G,m,l⟩ h=k2 at *;generalize kepL ⟨G,m,l⟩ h=kl2 at *;have hkp2:=zBs kl2;have hk2l:kl2.length≤32:=by rw[hl5];split<;>omega
         simp(disch:=omega)[go_sem];refine zAa q5 [] (by simp[go_sem]) (.inl rfl) (by simp[go_sem]) (fun _=>?_)
         simp(disch:=omega)[go_sem,zBk];have hPL:PL=yBa 0 h kl2:=by
          rw[hL];by_cases hk2:k2=0
          ·rw[if_neg (by simpa using hk2)]
          ·rw[if_pos hk2];rw[if_neg hk2]at hl5;have:kl2=[]:=List.length_eq_zero_iff.1 hl5;subst this;rfl
         have hPe:yBa 0 h kl2=zDw 0 h kl2 kl2.length:=rfl;rw[hPe]at hPL;have hsu:∀k,zDw 0 h kl2 (k+1)=zDw 0 h kl2 k++[(((0*h+k:Nat):Int),kl2.getD k [])]:=fun k=>by simp[zDw,List.range_succ]
         have hkl:∀k,(zDw 0 h kl2 k).length=k:=fun k=>by simp[zDw]
         refine zAe mixed (fun k:Nat=>⟨[(79,.int .i64 k),(78,.int .i64 kl2.length),(77,.sl 1 (btss kl2)),(18,.obj 4000 k),(15,.int .i64 0),(11,.int .i64 h),(9,.int .i64 k2)],[(4000,⟨.arr,158,2,(zDw 0 h kl2 k).map putV⟩)],8192,[],97,0,[]⟩) (fun k=>k≤kl2.length) (fun k=>kl2.length-k) 0 ?_ ?_ ?_
         ·omega
         ·refine Le.mk [(4000,none)] [] ⟨rfl,rfl,rfl⟩ ?_ ?_ ?_<;>simp[go_sem,zDw]
         ·intro k hk;have e1:=hkl k;simp(disch:=omega)[go_sem];refine zAc (fun h9=>?_) (fun h9=>?_)<;>simp at h9
          ·have hb:=zYl h9;have hget:kl2.getD k []=kl2[k]:=by rw[List.getD_eq_getElem?_getD,List.getElem?_eq_getElem h9];rfl
           have e2:=hkl (k+1);have e3:=hsu k;rw[hget]at e3;have hm1:(zDw 0 h kl2 k).map putV++[.agg [.int .i64 ((k:Int)),.sl 1 (bts kl2[k])]]=(zDw 0 h kl2 (k+1)).map putV:=by rw[e3,List.map_append];simp[putV]
           have hpz:=zEp (zDw 0 h kl2 (k+1));have hpy:=zEp (zDw 0 h kl2 k);simp(disch:=omega)[go_sem,zBk,hb,h9,e1,List.length_map];refine⟨⟨by omega,by omega⟩,?_⟩
           refine zAb (k+1) (by omega) (by omega) (Le.mk [(4000,some 4000)] [4000] ⟨rfl,rfl,rfl⟩ ?_ ?_ ?_)<;>simp[go_sem,hm1,hpz]
          ·have hkk:k=kl2.length:=by omega
           subst hkk;rw[← hPL]at e1 ⊢;have hpz:=zEp PL;simp(disch:=omega)[go_sem,e1]
end
section
attribute [local go_sem] zAm
set_option maxHeartbeats 1000000 in
theorem xOs(b:List UInt8)(h:zRh b):FnR Tryz.prog 209 [] [.sl 1 (bts b)] [⟨.arr,5,1,bts (zYh b).body⟩] (.tup [.agg [.int .u8 (zYh b).kind,.int .u32 (zYh b).seq,.obj 0 (zYh b).body.length],.int .i64 0]):=by
 obtain⟨c1,hc⟩:=h
 have q1:=zOu ((b.take 5).drop 1)
 have q2:=zOu (b.drop (b.length-4))
 have q3:=zMv (b.take (b.length-4))
 have q4:=zXm ((b.take (b.length-4)).drop 5)
 have hcl:=yJy (b.take (b.length-4))
 have hn0:=xOw (l:=b) (k:=0) (by omega)
 have hM:zYh b=⟨byAt b 0,IntKind.u32.wrap (getV ((b.take 5).drop 1)).1,(b.take (b.length-4)).drop 5⟩:=rfl
 generalize zYh b=M at *
 subst hM
 generalize crc (b.take (b.length-4))=c at *
 generalize getV (b.drop (b.length-4))=g at *
 generalize getV ((b.take 5).drop 1)=g1 at *
 obtain⟨n,hn⟩:∃n,b.length=n+4:=⟨b.length-4,by omega⟩
 have hn4:b.length-4=n:=by omega
 rw[hn4]at q2 q3 q4
 have hd:List.drop n (List.take (n+4) b)=List.drop n b:=by rw[List.take_of_length_le (by omega)]
 have hw:IntKind.u64.wrap (c:Int)=c:=w64 (by omega)
 have htn:((n:Int)+4).toNat=n+4:=by omega
 refine zAv mixed Tryz.func209 rfl rfl (by simp[Tryz.ntmps209]) (by simp) fun hwf E=>?_
 clear hwf
 simp(disch:=omega)[Tryz.ntmps209,go_sem,hn]
 refine zAc (fun b1=>?_) (fun b1=>?_)<;>simp at b1
 ·exact absurd b1 (by omega)
 ·simp(disch:=omega)[go_sem,hn,zBy,yKg];refine⟨by omega,?_⟩
  refine zAa q1 [] (by simp[go_sem]) (.inl rfl) (by simp[go_sem]) (fun _=>?_)
  simp(disch:=omega)[go_sem,hn,zBy,zDs,hd,htn];refine⟨by omega,?_⟩
  refine zAa q2 [] (by simp[go_sem]) (.inl rfl) (by simp[go_sem]) (fun _=>?_)
  simp(disch:=omega)[go_sem,hn,zBy];refine⟨by omega,?_⟩
  refine zAa q3 [] (by simp[go_sem]) (.inl rfl) (by simp[go_sem]) (fun _=>?_)
  simp(disch:=omega)[go_sem,hw];refine zAc (fun b2=>?_) (fun b2=>?_)<;>simp at b2
  ·exact absurd hc b2
  ·simp(disch:=omega)[go_sem,hn,zBy,zDs,hn0];refine⟨by omega,⟨by omega,by omega⟩,?_⟩
   refine zAf q4 [] [] [] [] ?_ ?_ ?_ (.inl ⟨rfl,.inl rfl⟩) (fun _=>?_)
   iterate 3 (· simp[go_sem])
   simp(disch:=omega)[go_sem,hn];refine⟨.inl (by kernel_rfl),?_⟩
   refine Le.mk [(0,some 720)] [720] ⟨rfl,rfl,rfl⟩ ?_ ?_ ?_<;>simp[go_sem]
def pieN(b:List UInt8):Option MsgN:=(yOp b).bind fun x=>if zRh x then some (zYh x)else none
def msg0:V:= .agg [.int .u8 0,.int .u32 0,.nilS]
def pieV:Option MsgN→V
 |some m=> .tup [msgV m,.bool true]
 |none=> .tup [msg0,.bool false]
theorem yMj(b:List UInt8):FnF Tryz.prog 186 [.sl 1 (bts b)] (pieV (pieN b)):=by
 have q:=yZq b
 have hP:pieN b=(yOp b).bind fun x=>if zRh x then some (zYh x)else none:=rfl
 generalize yOp b=r at *
 cases r with
 |none=>
  rw[Option.bind_none]at hP;generalize pieN b=P at *;subst hP;unfold yHm at q;refine zWs mixed Tryz.func186 rfl rfl (by simp[Tryz.ntmps186]) fun hwf E=>?_
  clear hwf;simp(disch:=omega)[Tryz.ntmps186,go_sem];refine zAa q [] (by simp[go_sem]) (.inl rfl) (by simp[go_sem]) (fun _=>?_)
  simp(disch:=omega)[go_sem];simp[pieV,msg0,go_sem]
 |some x=>
  have hpx:=zAg x;rw[Option.bind_some]at hP;unfold yHm at q;by_cases ho:zRh x
  ·rw[if_pos ho]at hP;have q2:=xOs x ho;generalize zYh x=M at *;generalize pieN b=P at *;subst hP;refine zWs mixed Tryz.func186 rfl rfl (by simp[Tryz.ntmps186]) fun hwf E=>?_
   clear hwf;simp(disch:=omega)[Tryz.ntmps186,go_sem];refine zAa q [] (by simp[go_sem]) (.inl rfl) (by simp[go_sem]) (fun _=>?_)
   simp(disch:=omega)[go_sem];refine zAf q2 [] [] [] [] ?_ ?_ ?_ (.inl ⟨rfl,.inl rfl⟩) (fun _=>?_)
   iterate 3 (· simp[go_sem])
   simp(disch:=omega)[go_sem];simp[pieV,msgV,go_sem];exact yDo _
  ·rw[if_neg ho]at hP;have q2:=xDj x ho;generalize pieN b=P at *;subst hP;refine zWs mixed Tryz.func186 rfl rfl (by simp[Tryz.ntmps186]) fun hwf E=>?_
   clear hwf;simp(disch:=omega)[Tryz.ntmps186,go_sem];refine zAa q [] (by simp[go_sem]) (.inl rfl) (by simp[go_sem]) (fun _=>?_)
   simp(disch:=omega)[go_sem];refine zAf q2 [] [] [] [] ?_ ?_ ?_ (.inl ⟨rfl,.inl rfl⟩) (fun _=>?_)
   iterate 3 (· simp[go_sem])
   simp(disch:=omega)[go_sem];simp[pieV,msg0,go_sem]
theorem xDq:FnR Tryz.prog 137 [] [] [⟨.box,263,4,[.agg [.nilS,.bool false,.bool false,.bool true]]⟩] (.ptr 0 1 0 0):=by
 refine zAv mixed Tryz.func137 rfl rfl (by simp[Tryz.ntmps137]) (by simp) fun hwf E=>?_
 clear hwf
 simp(disch:=omega)[Tryz.ntmps137,go_sem]
 refine Le.mk [(0,some 48)] [48] ⟨rfl,rfl,rfl⟩ ?_ ?_ ?_
 iterate 3 (· simp[go_sem])
end
section
attribute [local go_sem] zAm
theorem yKl{P:Program}{E:zBf}{c:Operand}{x y:Code}{s:St}{Q:Exit→St→Prop}(hm:P.follows .mixedOrders=true)(hc:s.ev c= .bool true)(h:AW P E x s Q):AW P E (.cond c x y) s Q:=fun a w η hr=>by
 have hv:=zAi hr c
 rw[St.ev_F,hc]at hv
 simp only[RV]at hv
 exact wp_cond_true hv (h a w η hr)
theorem zZs{P:Program}{E:zBf}{id:Nat}{ops:Array Oper}{s:St}{Q:Exit→St→Prop}(n:Nat){oy:Oper}(hn:ops[n]?=some oy)(hd:(ops.toList.take n++ops.toList.drop (n+1)).all zCo=true)
  (h:walk P ops 0 (ops.toList.take n) s [] fun s1 _=>zZx P E oy s1 fun s2=>walk P ops ((ops.toList.take n).length+1) (ops.toList.drop (n+1)) s2 [] fun s3 _=>exOk s3.ex (s3.nx+16*ops.size)∧Q .normal (s3.next ops.size)):AW P E (.region id ops false) s Q:=by
 refine yZr (l1:=ops.toList.take n) (oy:=oy) (l2:=ops.toList.drop (n+1)) ?_ hd h
 obtain⟨hl,he⟩:=Array.getElem?_eq_some_iff.1 hn
 rw[← he,← Array.getElem_toList]
 rw[List.getElem_cons_drop,List.take_append_drop]
structure FdN where
 under:List UInt8
 begun:Bool
 long:Bool
 msgs:List MsgN
def zWz(s:FdN)(x:UInt8):FdN:=
 if x=126 then⟨[],true,false,match pieN s.under with|some m=>if s.begun&& !s.long then s.msgs++[m]else s.msgs|none=>s.msgs⟩
 else if 1043≤s.under.length then{ s with long:=true } else if s.begun then{ s with under:=s.under++[x] } else s
def fdK(b:List UInt8):Nat→FdN
 |0=>⟨[],false,false,[]⟩
 |k+1=>zWz (fdK b k) (b.getD k 0)
theorem yCk(b:List UInt8):∀k,(fdK b k).under.length≤1043
 |0=>by simp[fdK]
 |k+1=>by
  have ih:=yCk b k;simp only[fdK,zWz];split
  ·simp
  ·split
   ·exact ih
   ·split
    ·simp;omega
    ·exact ih
theorem zZi(b:List UInt8):∀k,(fdK b k).msgs.length≤k
 |0=>by simp[fdK]
 |k+1=>by
  have ih:=zZi b k;simp only[fdK,zWz];split
  ·simp only;split
   ·split
    ·simp;omega
    ·omega
   ·omega
  ·split
   ·simp only;omega
   ·split
    ·simp only;omega
    ·omega
theorem zOh(l:List MsgN):zBa (l.map msgV):=zBc _ (fun m=>by simp[msgV,go_sem]) l
def rdrO(s:FdN)(id:Nat):Go.AM.Obj:=⟨.box,263,4,[.agg [.obj id s.under.length,.bool s.begun,.bool s.long,.bool true]]⟩
def fdF(b:List UInt8)(k:Nat):St:=⟨[(25,.int .i64 k),(24,.int .i64 b.length),(23,.sl 1 (bts b)),(6,.obj 1024 (fdK b k).msgs.length),(0,.ptr 0 1 0 0)],[(0,rdrO (fdK b k) 1040),(1040,⟨.arr,5,1,bts (fdK b k).under⟩),(1024,⟨.arr,146,3,(fdK b k).msgs.map msgV⟩)],2048,[],99,1,[]⟩
set_option maxHeartbeats 1000000 in
theorem yWz(b:List UInt8)(hb:b.length≤16384):FnR Tryz.prog 138 [⟨.box,263,4,[.agg [.nilS,.bool false,.bool false,.bool true]]⟩] [.ptr 0 1 0 0,.sl 1 (bts b)]
  [rdrO (fdK b b.length) 1,⟨.arr,5,1,bts (fdK b b.length).under⟩,⟨.arr,146,3,(fdK b b.length).msgs.map msgV⟩] (.tup [.obj 2 (fdK b b.length).msgs.length,.int .i64 0]):=by
 have hmp:∀l:List MsgN,zBa (l.map msgV):=zOh
 refine zAv mixed Tryz.func138 rfl rfl (by simp[Tryz.ntmps138]) (by simp) fun hwf E=>?_
 clear hwf
 simp(disch:=omega)[Tryz.ntmps138,go_sem,rdrO]
 refine zAc (fun b1=>?_) (fun b1=>?_)<;>simp at b1
 ·exact absurd b1 (by omega)
 ·simp(disch:=omega)[go_sem];refine yKk (fdF b) (fun k=>k≤b.length) (fun k=>b.length-k) 0 (by omega) ?_ ?_
  ·refine Le.mk [(0,some 0),(1040,none),(1024,none)] [0] ⟨rfl,rfl,rfl⟩ ?_ ?_ ?_<;>simp[go_sem,rdrO,fdF,fdK,bts]
  ·intro k hk;have hmk:=zZi b k;have huk:=yCk b k;have hSk:fdK b (k+1)=zWz (fdK b k) (b.getD k 0):=rfl;have hF1:fdF b (k+1)=⟨[(25,.int .i64 (k+1:Nat)),(24,.int .i64 b.length),(23,.sl 1 (bts b)),(6,.obj 1024 (fdK b (k+1)).msgs.length),(0,.ptr 0 1 0 0)],[(0,rdrO (fdK b (k+1)) 1040),(1040,⟨.arr,5,1,bts (fdK b (k+1)).under⟩),(1024,⟨.arr,146,3,(fdK b (k+1)).msgs.map msgV⟩)],2048,[],99,1,[]⟩:=rfl;have hF0:fdF b k=⟨[(25,.int .i64 k),(24,.int .i64 b.length),(23,.sl 1 (bts b)),(6,.obj 1024 (fdK b k).msgs.length),(0,.ptr 0 1 0 0)],[(0,rdrO (fdK b k) 1040),(1040,⟨.arr,5,1,bts (fdK b k).under⟩),(1024,⟨.arr,146,3,(fdK b k).msgs.map msgV⟩)],2048,[],99,1,[]⟩:=rfl;have hend:k=b.length→fdK b k=fdK b b.length:=fun e=>by rw[e]
   by_cases h:k<b.length
   ·have hn:=zJn h;have hgd:b.getD k 0=b[k]:=by simp[h]
    rw[hgd]at hSk;generalize hx:b[k]=x at *;generalize fdK b (k+1)=S1 at *;rw[hF0];generalize fdK b k=S0 at *;obtain⟨u,bg,lg,ms⟩:=S0;simp only at hmk huk;refine zDt mixed ?_;simp(disch:=omega)[go_sem,rdrO,h];refine zDt mixed ?_;simp(disch:=omega)[go_sem];refine zFz (zPk ?_);refine zDt mixed ?_;simp(disch:=omega)[go_sem,hn,h];refine zPk ?_;refine zDt mixed ?_;simp(disch:=omega)[go_sem];by_cases hx1:x=126
    ·subst hx1;refine yKl mixed (by simp[go_sem]) ?_
     have q:=yMj u;have hSk1:S1=⟨[],true,false,match pieN u with|some m=>if bg&& !lg then ms++[m]else ms|none=>ms⟩:=hSk
     have hpu:=zAg u;cases hp:pieN u with
     |none=>
      rw[hp]at q hSk1;simp only at hSk1;unfold pieV msg0 at q;subst hSk1;refine zFz (zAy ?_ mixed);simp(disch:=omega)[go_sem];refine zHs q [1040] (by simp[go_sem,hpu]) (by simp[go_sem]) (fun _=>?_)
      simp(disch:=omega)[go_sem];refine zZs 7 rfl rfl ?_;simp(disch:=omega)[go_sem];refine zRt (T':=5) (id:=1040) (o:=⟨.arr,5,1,bts u⟩) 2672 rfl rfl (by simp[go_sem]) (by kernel_rfl) (by simp[go_sem]) (by simp[go_sem]) rfl (by simp) (by simp) (by kernel_rfl) (by decide) ?_
      simp(disch:=omega)[go_sem,kill];refine zAy ?_ mixed;simp(disch:=omega)[go_sem];refine zAb (k+1) (by omega) (by omega) (Le.mk [(0,some 0),(1040,some 2672),(1024,some 1024)] [0,2672,1024] ⟨rfl,rfl,rfl⟩ ?_ ?_ ?_)<;>simp[go_sem,rdrO,hmp,hF1,bts]
     |some m=>
      rw[hp]at q hSk1;simp only at hSk1;unfold pieV at q;obtain⟨kd,sq,bd⟩:=m;have hpd:=zAg bd;by_cases hbl:bg=true∧lg=false
      ·obtain⟨rfl,rfl⟩:=hbl;simp only[Bool.not_false,Bool.and_self,if_true]at hSk1;subst hSk1;refine zFz (zAy ?_ mixed);simp(disch:=omega)[go_sem];refine zHs q [1040] (by simp[go_sem,hpu]) (by simp[go_sem,msgV]) (fun _=>?_)
       simp(disch:=omega)[go_sem,msgV];refine⟨by omega,?_⟩
       refine zZs 7 rfl rfl ?_;simp(disch:=omega)[go_sem];refine zRt (T':=5) (id:=1040) (o:=⟨.arr,5,1,bts u⟩) 2752 rfl rfl (by simp[go_sem]) (by kernel_rfl) (by simp[go_sem]) (by simp[go_sem]) rfl (by simp) (by simp) (by kernel_rfl) (by decide) ?_
       simp(disch:=omega)[go_sem,kill];refine zAy ?_ mixed;simp(disch:=omega)[go_sem];refine zAb (k+1) (by omega) (by omega) (Le.mk [(0,some 0),(1040,some 2752),(1024,some 1024)] [0,2752,1024] ⟨rfl,rfl,rfl⟩ ?_ ?_ ?_)<;>simp[go_sem,rdrO,hmp,msgV,hF1,bts]
      ·have hbl2:(bg&& !lg)=false:=by
        cases bg<;>cases lg<;>simp_all
       rw[hbl2]at hSk1;simp only[Bool.false_eq_true,if_false]at hSk1;subst hSk1;refine zFz (zAy ?_ mixed);simp(disch:=omega)[go_sem];refine zHs q [1040] (by simp[go_sem,hpu]) (by simp[go_sem,msgV]) (fun _=>?_)
       simp(disch:=omega)[go_sem,msgV];refine zAc (fun b3=>?_) (fun b3=>?_)<;>simp at b3
       ·exact absurd b3 (by simpa using hbl)
       ·simp(disch:=omega)[go_sem];refine zZs 7 rfl rfl ?_;simp(disch:=omega)[go_sem];refine zRt (T':=5) (id:=1040) (o:=⟨.arr,5,1,bts u⟩) 2672 rfl rfl (by simp[go_sem]) (by kernel_rfl) (by simp[go_sem]) (by simp[go_sem]) rfl (by simp) (by simp) (by kernel_rfl) (by decide) ?_
        simp(disch:=omega)[go_sem,kill];refine zAy ?_ mixed;simp(disch:=omega)[go_sem];refine zAb (k+1) (by omega) (by omega) (Le.mk [(0,some 0),(1040,some 2672),(1024,some 1024)] [0,2672,1024] ⟨rfl,rfl,rfl⟩ ?_ ?_ ?_)<;>simp[go_sem,rdrO,hmp,hF1,bts]
    ·refine zAy ?_ mixed;have hx0:¬x.toNat=126:=fun e=>hx1 (UInt8.toNat_inj.1 e)
     have hSk1:S1=if 1043≤u.length then⟨u,bg,true,ms⟩else if bg=true then⟨u++[x],bg,lg,ms⟩else⟨u,bg,lg,ms⟩:=by
      rw[hSk];unfold zWz;rw[if_neg hx1]
     have hpu:=zAg u;by_cases hl:1043≤u.length
     ·rw[if_pos hl]at hSk1;subst hSk1;refine zAc (fun b0=>?_) (fun b0=>?_)<;>simp at b0
      ·exact absurd b0 (by omega)
      ·simp(disch:=omega)[go_sem];refine zAc (fun b3=>?_) (fun b3=>?_)<;>simp at b3
       ·simp(disch:=omega)[go_sem];refine zAy ?_ mixed;simp(disch:=omega)[go_sem];refine zAb (k+1) (by omega) (by omega) (Le.mk [(0,some 0),(1040,some 1040),(1024,some 1024)] [0,1040,1024] ⟨rfl,rfl,rfl⟩ ?_ ?_ ?_)<;>simp[go_sem,rdrO,hmp,hF1,hpu]
       ·exact absurd b3 (by omega)
     ·rw[if_neg hl]at hSk1;cases bg with
      |true=>
       rw[if_pos rfl]at hSk1;subst hSk1;have e1:bts u++[.int .u8 (x.toNat:Int)]=bts (u++[x]):=by rw[zCh];rfl
       have hpx:=zAg (u++[x]);refine zAc (fun b0=>?_) (fun b0=>?_)<;>simp at b0
       ·exact absurd b0 (by omega)
       ·simp(disch:=omega)[go_sem];refine zAc (fun b3=>?_) (fun b3=>?_)<;>simp at b3
        ·exact absurd b3 (by omega)
        ·simp(disch:=omega)[go_sem];refine⟨by omega,?_⟩
         refine zAy ?_ mixed;simp(disch:=omega)[go_sem];refine zAb (k+1) (by omega) (by omega) (Le.mk [(0,some 0),(1040,some 1040),(1024,some 1024)] [0,1040,1024] ⟨rfl,rfl,rfl⟩ ?_ ?_ ?_)<;>simp[go_sem,rdrO,hmp,hF1,e1,hpx]
      |false=>
       rw[if_neg (by decide)]at hSk1
       subst hSk1;refine zAc (fun b0=>?_) (fun b0=>?_)<;>simp at b0
       ·exact absurd b0 (by omega)
       ·simp(disch:=omega)[go_sem];refine zAc (fun b3=>?_) (fun b3=>?_)<;>simp at b3
        ·exact absurd b3 (by omega)
        ·simp(disch:=omega)[go_sem];refine zAy ?_ mixed;simp(disch:=omega)[go_sem];refine zAb (k+1) (by omega) (by omega) (Le.mk [(0,some 0),(1040,some 1040),(1024,some 1024)] [0,1040,1024] ⟨rfl,rfl,rfl⟩ ?_ ?_ ?_)<;>simp[go_sem,rdrO,hmp,hF1,hpu]
   ·have hkb:k=b.length:=by omega
    refine zAy ?_ mixed;subst hkb;rw[hF0];simp(disch:=omega)[go_sem,rdrO];refine Le.mk [(0,some 0),(1,some 1040),(2,some 1024)] [0,1040,1024] ⟨rfl,rfl,rfl⟩ ?_ ?_ ?_<;>simp[go_sem,hmp]
end
section
attribute [local go_sem] zAm
section
variable {P : Program} {E : zBf}
theorem xBw{oy:Oper}{s s':St}{K:St→Prop}(hnx:s'.nx=s.nx)(hle:Le s s')(h:zZx P E oy s' K):zZx P E oy s K:=by
 obtain⟨h1,h2,s2,h3,h4,h5⟩:=h
 refine⟨h1,h2,s2,h3.trans hnx,fun a w η hr=>?_,h5⟩
 obtain⟨η',hr'⟩:=hle E a w η hr
 exact h4 a w η' hr'
theorem yEl{ops:Array Oper}{oy:Oper}{i:Nat}{rest:List Nat}{Qf:Exit→Act→World→Prop}{s:St}{K:St→Prop}{a:Act}{w:World}{η:Nat→Value}(hoy:ops[i]?=some oy)(h:zZx P E oy s K)(hr:Rel E s.F a w η)
  (hrest:∀s2 a2 w2 η2,K s2→s2.nx=s.nx→Rel E s2.F a2 w2 η2→wpOpsIn (Rw none) 1 P ops Qf rest a2 w2):wpOpsIn (Rw none) 1 P ops Qf (i::rest) a w:=by
 obtain⟨hg,hdf,s2,hnx2,hrun,hK⟩:=h
 rw[wpOpsIn_cons]
 obtain⟨v,w2,η2,hrun,hr2⟩:=hrun a w η hr
 have key:=hrest s2 _ w2 η2 hK hnx2 hr2
 unfold wpOpIn
 simp only[hoy]
 have hw:Region.wanted oy (yielded ops a.tmps)=true:=by simp[Region.wanted,hg]
 rw[if_pos hw]
 refine⟨fun _ _=>trivial,?_⟩
 rw[Oper.semAt_eq _ _ _ (fun c hc=>by simp[zCo,hc]at hdf),hrun]
 exact key
def Wk(P:Program)(E:zBf)(ops:Array Oper)(i:Nat)(l:List Oper)(s:St)(K:St→Prop):Prop:=
 ∀a w η (Qf:Exit→Act→World→Prop) (rest:List Nat),(∀j o,l[j]?=some o→ops[i+j]?=some o)→l.all zCo=true→Rel E s.F a w η→(∀s' a' w' η',K s'→Rel E s'.F a' w' η'→wpOpsIn (Rw none) 1 P ops Qf rest a' w')→wpOpsIn (Rw none) 1 P ops Qf (List.range' i l.length++rest) a w
theorem zXu{ops:Array Oper}{i:Nat}{l1 l2:List Oper}{s:St}{K:St→Prop}(h:walk P ops i l1 s [] fun s' _=>Wk P E ops (i+l1.length) l2 s' K):Wk P E ops i (l1++l2) s K:=by
 intro a w η Qf rest hat hd hr hK
 simp only[List.all_append,Bool.and_eq_true]at hd
 rw[List.length_append,← List.range'_append_1,List.append_assoc]
 refine zCr (r:=none) l1 i s [] _ _ a w η (fun j o ho=>?_) hd.1 h hr fun s1 log a1 w1 η1 hy hnx hr1=>?_
 ·exact hat j o (by rw[List.getElem?_append_left (List.getElem?_eq_some_iff.1 ho).1];exact ho)
 ·exact hy a1 w1 η1 Qf rest (fun j o ho=>by
   have:=hat (l1.length+j) o (by rw[List.getElem?_append_right (by omega),show l1.length+j-l1.length=j by omega];exact ho)
   rwa [← Nat.add_assoc]at this) hd.2 hr1 hK
theorem yHt{ops:Array Oper}{i:Nat}{oy:Oper}{l2:List Oper}{s:St}{K:St→Prop}(h:zZx P E oy s fun s'=>Wk P E ops (i+1) l2 s' K):Wk P E ops i (oy::l2) s K:=by
 intro a w η Qf rest hat hd hr hK
 simp only[List.all_cons,Bool.and_eq_true]at hd
 rw[List.length_cons,List.range'_succ,List.cons_append]
 refine yEl (hat 0 oy rfl) h hr fun s2 a2 w2 η2 hy hnx hr2=>?_
 exact hy a2 w2 η2 Qf rest (fun j o ho=>by
  have:=hat (j+1) o (by simpa using ho)
  rwa [show i+(j+1)=i+1+j by omega]at this) hd.2 hr2 hK
theorem xLr{ops:Array Oper}{i:Nat}{l:List Oper}{s:St}{K:St→Prop}(h:walk P ops i l s [] fun s' _=>K s'):Wk P E ops i l s K:=by
 intro a w η Qf rest hat hd hr hK
 exact zCr (r:=none) l i s [] _ _ a w η hat hd h hr fun s1 log a1 w1 η1 hy hnx hr1=>hK s1 a1 w1 η1 hy hr1
theorem xXc{id:Nat}{ops:Array Oper}{s:St}{Q:Exit→St→Prop}(hd:ops.toList.all zCo=true)(h:Wk P E ops 0 ops.toList s fun s5=>exOk s5.ex (s5.nx+16*ops.size)∧Q .normal (s5.next ops.size)):AW P E (.region id ops false) s Q:=by
 intro a w η hr
 refine(wpIn_wide (n:=1)).1 (wpIn_region ?_)
 have:=h a w η (fun e a' w'=>∃s' η',Q e s'∧Rel E s'.F a' w' η') [] (fun j o ho=>by rw[Nat.zero_add,← Array.getElem?_toList];exact ho) hd hr (fun s5 a5 w5 η5 hk5 hr5=>by
  simp only[wpOpsIn];obtain⟨hx,hq⟩:=hk5;refine⟨s5.next ops.size,η5,hq,?_⟩;have:=hr5.more (kn':=fun i=>i<s5.nx+16*ops.size∨i∈[]) (fun i hi=>?_)
  ·exact this
  ·rcases hi with hi|hi
   ·exact .inl (Nat.lt_of_lt_of_le hi (Nat.le_add_right _ _))
   ·exact .inl (zId hx i hi))
 rw[List.append_nil,Array.length_toList,← List.range_eq_range']at this
 exact this
theorem zSr{oy:Oper}{s:St}{K:St→Prop}{T T':TypeId}{x:Operand}(hg:oy.guard=none)(hop:oy.op= .call { callee:= .builtin .cap,args:= #[x],argTypes:= #[T] })(hT:zAu P T=some T')(hx:s.ev x= .nilS)(hK:K (s.app oy.dst ⟨.int .i64 0,[],[]⟩)):zZx P E oy s K:=by
 refine⟨hg,by simp[zCo,hop],s.app oy.dst ⟨.int .i64 0,[],[]⟩,rfl,fun a w η hr=>?_,hK⟩
 have hxx:=zAi hr x
 rw[St.ev_F,hx]at hxx
 simp only[RV]at hxx
 have hrun:(execOp a.eval oy).run P w= .ok (.value (.int .i64 0)) w:=by
  unfold execOp;simp[hop,hxx,resolve,invoke,builtin,Builtin.cap_,run_underlying (zAw hT),goInt]
 refine⟨_,w,η,hrun,?_⟩
 rw[St.app_F,FSt.app_nil]
 exact hr.put oy.dst (x:= .int .i64 0) (v:= .int .i64 0) (by simp[RV,IntKind.has,IntKind.min,IntKind.max,IntKind.signed,IntKind.bits])
end
theorem xEr(n:Nat)(hn:n≤1048576):FnR Tryz.prog 136 [] [.nilS,.int .i64 n] [⟨.arr,5,1,[]⟩] (.obj 0 0):=by
 refine yUh Tryz.func136 rfl rfl (by simp[Tryz.ntmps136]) (by simp) fun hwf E=>?_
 clear hwf
 refine zDt mixed ?_
 simp(disch:=omega)[Tryz.ntmps136,go_sem]
 refine zDt mixed ?_
 simp(disch:=omega)[go_sem]
 refine zAc (fun b1=>?_) (fun b1=>?_)<;>simp at b1
 ·exact absurd b1 (by omega)
 ·simp(disch:=omega)[go_sem];refine zFz (zFz (xXc rfl ?_));refine zXu (l1:=[_,_]) ?_;simp(disch:=omega)[go_sem];refine yHt (zSr (T':=5) rfl rfl (by kernel_rfl) (by simp[go_sem]) ?_)
  simp(disch:=omega)[go_sem];refine xLr ?_;simp(disch:=omega)[go_sem];by_cases hn0:n=0
  ·subst hn0;refine zAy ?_ mixed;simp(disch:=omega)[go_sem];refine zAy ?_ mixed;simp(disch:=omega)[go_sem];refine Le.mk [(0,none)] [] ⟨rfl,rfl,rfl⟩ ?_ ?_ ?_<;>simp[go_sem]
  ·refine zDt mixed ?_;simp(disch:=omega)[go_sem];refine yKl mixed (by simp[go_sem];omega) ?_
   refine xXc rfl ?_;refine zXu (l1:=[_,_]) ?_;simp(disch:=omega)[go_sem];refine yHt (zSr (T':=5) rfl rfl (by kernel_rfl) (by simp[go_sem]) ?_)
   simp(disch:=omega)[go_sem];refine zXu (l1:=[_,_]) ?_;simp(disch:=omega)[go_sem];refine yHt (xBw (s':=⟨[(20,.obj 8 0),(21,.int .i64 n),(0,.nilS)],[(8,⟨.arr,5,1,[]⟩)],224,[],27,0,[]⟩) rfl (Le.mk [(8,none)] [] ⟨rfl,rfl,rfl⟩ (by simp[go_sem]) (by simp[go_sem]) (by simp[go_sem]))
    (zVv (id:=8) (k:=n) (ob:=⟨.arr,5,1,[]⟩) (T':=5) rfl rfl (by kernel_rfl) (by kernel_rfl) (by kernel_rfl) (by simp[go_sem]) (by simp[go_sem]) rfl rfl rfl (by simp[go_sem]) (by simp;omega) ?_))
   simp(disch:=omega)[go_sem];refine zXu (l1:=[_,_]) ?_;simp(disch:=omega)[go_sem];refine yHt (zRt (T':=5) (id:=8) (o:=⟨.arr,5,1,List.replicate n (.int .u8 0)⟩) 352 rfl rfl (by simp[go_sem]) (by kernel_rfl) (by simp[go_sem]) (by simp[go_sem]) rfl (by simp) (by simp) (by kernel_rfl) (by decide) ?_)
   simp(disch:=omega)[go_sem,kill];refine xLr ?_;simp(disch:=omega)[go_sem];refine zAy ?_ mixed;simp(disch:=omega)[go_sem];refine Le.mk [(0,some 352)] [352] ⟨rfl,rfl,rfl⟩ ?_ ?_ ?_<;>simp[go_sem]
end
section
attribute [local go_sem] zAm
def nxtE(l:LnkN)(g:List MsgN):Int:=if lnkE l≠0 then lnkE l else if 1024<g.length then 4 else if g.any (fun m=>decide (512<m.body.length))then 3 else 0
def nxtS(p:LnkN × List MsgN)(m:MsgN):LnkN × List MsgN:=if p.1.any=true∧m.seq≤p.1.last then p else(⟨true,m.seq,p.1.age⟩,p.2++[m])
def nxtK(l:LnkN)(g:List MsgN):Nat→LnkN × List MsgN
 |0=>(l,[])
 |k+1=>nxtS (nxtK l g k) (g.getD k ⟨0,0,[]⟩)
def nxtL(l:LnkN)(g:List MsgN):LnkN:=if nxtE l g=0 then⟨(nxtK l g g.length).1.any,(nxtK l g g.length).1.last,if(nxtK l g g.length).2.length=0 then min (l.age+1) 1048576 else 0⟩else⟨false,0,0⟩
def nxtT(l:LnkN)(g:List MsgN):List MsgN:=if nxtE l g=0 then(nxtK l g g.length).2 else[]
theorem yIr(l:LnkN)(g:List MsgN):∀k,(nxtK l g k).1.age=l.age
 |0=>rfl
 |k+1=>by
  have:=yIr l g k;simp only[nxtK,nxtS];split
  ·exact this
  ·exact this
theorem zYk(l:LnkN)(g:List MsgN):∀k,(nxtK l g k).2.length≤k
 |0=>by simp[nxtK]
 |k+1=>by
  have:=zYk l g k;simp only[nxtK,nxtS];split
  ·omega
  ·simp;omega
def nx1F(l:LnkN)(g:List MsgN)(k:Nat):St:=⟨[(25,.int .i64 k),(24,.int .i64 g.length),(23,.sl 3 (g.map msgV)),(4,.ptr 16 1 0 0),(2,.ptr 0 1 0 0),(1,.sl 3 (g.map msgV))],[(0,⟨.box,53,3,[lnkV l]⟩),(16,⟨.box,53,3,[.agg [.bool false,.int .u32 0,.int .i64 0]]⟩)],2048,[],74,0,[]⟩
def nx2F(l:LnkN)(g:List MsgN)(k:Nat):St:=⟨[(37,.int .i64 k),(36,.int .i64 g.length),(35,.sl 3 (g.map msgV)),(10,.obj 4096 (nxtK l g k).2.length),(4,.ptr 16 1 0 0),(2,.ptr 0 1 0 0)],[(0,⟨.box,53,3,[lnkV (nxtK l g k).1]⟩),(16,⟨.box,53,3,[.agg [.bool false,.int .u32 0,.int .i64 0]]⟩),(4096,⟨.arr,146,3,(nxtK l g k).2.map msgV⟩)],5000,[],74,0,[]⟩
set_option maxHeartbeats 2000000 in
theorem yNd(l:LnkN)(g:List MsgN):FnD Tryz.prog 79 [lnkV l,.sl 3 (g.map msgV)] (.tup [lnkV (nxtL l g),.sl 3 ((nxtT l g).map msgV),.int .i64 (nxtE l g)]):=by
 have q:=zTu l
 have hmp:∀l:List MsgN,zBa (l.map msgV):=zOh
 have hE:nxtE l g=if lnkE l≠0 then lnkE l else if 1024<g.length then 4 else if g.any (fun m=>decide (512<m.body.length))then 3 else 0:=rfl
 have hL:nxtL l g=if nxtE l g=0 then⟨(nxtK l g g.length).1.any,(nxtK l g g.length).1.last,if(nxtK l g g.length).2.length=0 then min (l.age+1) 1048576 else 0⟩else⟨false,0,0⟩:=rfl
 have hT:nxtT l g=if nxtE l g=0 then(nxtK l g g.length).2 else[]:=rfl
 have hz:nxtE l g≠0→nxtL l g=⟨false,0,0⟩∧nxtT l g=[]:=fun h=>by rw[hL,hT,if_neg h,if_neg h];exact⟨rfl,rfl⟩
 have h1F:∀k,nx1F l g k=⟨[(25,.int .i64 k),(24,.int .i64 g.length),(23,.sl 3 (g.map msgV)),(4,.ptr 16 1 0 0),(2,.ptr 0 1 0 0),(1,.sl 3 (g.map msgV))],[(0,⟨.box,53,3,[lnkV l]⟩),(16,⟨.box,53,3,[.agg [.bool false,.int .u32 0,.int .i64 0]]⟩)],2048,[],74,0,[]⟩:=fun k=>rfl
 have h2F:∀k,nx2F l g k=⟨[(37,.int .i64 k),(36,.int .i64 g.length),(35,.sl 3 (g.map msgV)),(10,.obj 4096 (nxtK l g k).2.length),(4,.ptr 16 1 0 0),(2,.ptr 0 1 0 0)],[(0,⟨.box,53,3,[lnkV (nxtK l g k).1]⟩),(16,⟨.box,53,3,[.agg [.bool false,.int .u32 0,.int .i64 0]]⟩),(4096,⟨.arr,146,3,(nxtK l g k).2.map msgV⟩)],5000,[],74,0,[]⟩:=fun k=>rfl
 have hag:=yIr l g
 have hkl:=zYk l g
 by_cases he:lnkE l=0
 ·have hage:0≤l.age∧l.age≤1048576:=by
   unfold lnkE at he;by_cases h:l.age<0∨1048576<l.age∨(l.any=false∧l.last≠0)
   ·rw[if_pos h]at he;omega
   ·omega
  rw[he,if_neg (by simp)]at hE
  rw[he]at q;by_cases hg:1024<g.length
  ·rw[if_pos hg]at hE;obtain⟨z1,z2⟩:=hz (by rw[hE];decide)
   rw[z1,z2,hE];unfold lnkV at *;refine zAd mixed Tryz.func79 rfl rfl (by simp[Tryz.ntmps79]) fun hwf E=>?_
   clear hwf;simp(disch:=omega)[Tryz.ntmps79,go_sem];refine zAa q [] (by simp[go_sem]) (.inl rfl) (by simp[go_sem]) (fun _=>?_)
   simp(disch:=omega)[go_sem];refine zAc (fun b1=>?_) (fun b1=>?_)<;>simp at b1
   ·simp(disch:=omega)[go_sem]
   ·exact absurd b1 (by omega)
  ·rw[if_neg hg]at hE;unfold lnkV at *;refine zAd mixed Tryz.func79 rfl rfl (by simp[Tryz.ntmps79]) fun hwf E=>?_
   clear hwf;simp(disch:=omega)[Tryz.ntmps79,go_sem];refine zAa q [] (by simp[go_sem]) (.inl rfl) (by simp[go_sem]) (fun _=>?_)
   simp(disch:=omega)[go_sem];refine zAc (fun b1=>?_) (fun b1=>?_)<;>simp at b1
   ·exact absurd b1 (by omega)
   ·simp(disch:=omega)[go_sem];refine zAe mixed (nx1F l g) (fun k=>k≤g.length∧∀i (hi:i<g.length),i<k→(g[i]).body.length≤512) (fun k=>g.length-k) 0 ⟨by omega,by omega⟩ ?_ ?_
    ·refine Le.mk [(0,some 0),(16,some 16)] [0,16] ⟨rfl,rfl,rfl⟩ ?_ ?_ ?_<;>simp[go_sem,lnkV,nx1F]
    ·rintro k ⟨hk,hall⟩
     rw[h1F];simp(disch:=omega)[go_sem];refine zAc (fun c1=>?_) (fun c1=>?_)<;>simp at c1
     ·have hmem:=List.getElem_mem c1;generalize hx:g[k]=m at *;obtain⟨kd,sq,bd⟩:=m;have hpd:=zAg bd;have hmV:msgV ⟨kd,sq,bd⟩= .agg [.int .u8 kd,.int .u32 sq,.sl 1 (bts bd)]:=rfl;by_cases hb:512<bd.length
      ·rw[if_pos (List.any_eq_true.2 ⟨_,hmem,by simpa using hb⟩)]at hE
       obtain⟨z1,z2⟩:=hz (by rw[hE];decide)
       rw[z1,z2,hE];simp(disch:=omega)[go_sem,c1,hx,hmV];refine zAc (fun c2=>?_) (fun c2=>?_)<;>simp at c2
       ·simp(disch:=omega)[go_sem]
       ·exact absurd c2 (by omega)
      ·have hall2:∀i (hi:i<g.length),i<k+1→(g[i]).body.length≤512:=by
        intro i hi hlt;by_cases hik:i=k
        ·subst hik;rw[hx];simp only;omega
        ·exact hall i hi (by omega)
       simp(disch:=omega)[go_sem,c1,hx,hmV];refine zAc (fun c2=>?_) (fun c2=>?_)<;>simp at c2
       ·exact absurd c2 (by omega)
       ·simp(disch:=omega)[go_sem];refine zAb (k+1) (⟨by omega,hall2⟩) (by omega) (Le.mk [(0,some 0),(16,some 16)] [0,16] ⟨rfl,rfl,rfl⟩ ?_ ?_ ?_)<;>simp[go_sem,lnkV,nx1F]
     ·have hkk:k=g.length:=by omega
      subst hkk;have hE2:nxtE l g=0:=by
       rw[hE,if_neg];intro h;obtain⟨x,hx,h2⟩:=List.any_eq_true.1 h;obtain⟨i,hi,rfl⟩:=List.getElem_of_mem hx;have:=hall i hi hi;simp at h2;omega
      rw[hE2,if_pos rfl]at hL hT;simp(disch:=omega)[go_sem];refine zAe mixed (nx2F l g) (fun k=>k≤g.length) (fun k=>g.length-k) 0 (by omega) ?_ ?_
      ·refine Le.mk [(0,some 0),(16,some 16),(4096,none)] [0,16] ⟨rfl,rfl,rfl⟩ ?_ ?_ ?_<;>simp[go_sem,lnkV,nx2F,nxtK]
      ·intro k hk;have hak:=hag k;have hlk:=hkl k;rw[h2F];simp(disch:=omega)[go_sem];refine zAc (fun d1=>?_) (fun d1=>?_)<;>simp at d1
       ·have hsu:nxtK l g (k+1)=nxtS (nxtK l g k) (g[k]):=by
         simp[nxtK,d1]
        generalize hx:g[k]=m at *;obtain⟨kd,sq,bd⟩:=m;have hpd:=zAg bd;have hmV:msgV ⟨kd,sq,bd⟩= .agg [.int .u8 kd,.int .u32 sq,.sl 1 (bts bd)]:=rfl;have hF:=h2F (k+1);generalize nxtK l g (k+1)=K1 at *;generalize nxtK l g k=K0 at *;obtain⟨⟨an,la,ag⟩,t⟩:=K0;simp only at hak hlk;unfold nxtS at hsu;simp only at hsu;have q4:=(zQj bd).data;simp(disch:=omega)[go_sem,d1,hx,hmV];cases an with
        |false=>
         rw[if_neg (fun h=>by simp at h)]at hsu
         have e1:t.map msgV++[.agg [.int .u8 kd,.int .u32 sq,.sl 1 (bts bd)]]=(t++[(⟨kd,sq,bd⟩:MsgN)]).map msgV:=by rw[List.map_append];rfl
         subst hsu;refine zAc (fun d2=>?_) (fun d2=>?_)<;>simp at d2
         ·simp(disch:=omega)[go_sem];refine⟨.inl (by kernel_rfl),?_⟩
          refine zAa q4 [] (by simp[go_sem]) (.inl rfl) (by simp[go_sem]) (fun _=>?_)
          simp(disch:=omega)[go_sem];refine⟨by omega,?_⟩
          refine zAb (k+1) (by omega) (by omega) (Le.mk [(0,some 0),(16,some 16),(4096,some 4096)] [0,16,4096] ⟨rfl,rfl,rfl⟩ ?_ ?_ ?_)<;>simp[go_sem,hmp,hF,hmV,zCs]
        |true=>
         by_cases hsl:sq≤la
         ·rw[if_pos ⟨rfl,hsl⟩]at hsu;subst hsu;refine zAc (fun d2=>?_) (fun d2=>?_)<;>simp at d2
          ·simp(disch:=omega)[go_sem];refine zAb (k+1) (by omega) (by omega) (Le.mk [(0,some 0),(16,some 16),(4096,some 4096)] [0,16,4096] ⟨rfl,rfl,rfl⟩ ?_ ?_ ?_)<;>simp[go_sem,hmp,hF]
          ·exact absurd d2 (by omega)
         ·rw[if_neg (fun h=>hsl h.2)]at hsu
          have e1:t.map msgV++[.agg [.int .u8 kd,.int .u32 sq,.sl 1 (bts bd)]]=(t++[(⟨kd,sq,bd⟩:MsgN)]).map msgV:=by rw[List.map_append];rfl
          subst hsu;refine zAc (fun d2=>?_) (fun d2=>?_)<;>simp at d2
          ·exact absurd d2 (by omega)
          ·simp(disch:=omega)[go_sem];refine⟨.inl (by kernel_rfl),?_⟩
           refine zAa q4 [] (by simp[go_sem]) (.inl rfl) (by simp[go_sem]) (fun _=>?_)
           simp(disch:=omega)[go_sem];refine⟨by omega,?_⟩
           refine zAb (k+1) (by omega) (by omega) (Le.mk [(0,some 0),(16,some 16),(4096,some 4096)] [0,16,4096] ⟨rfl,rfl,rfl⟩ ?_ ?_ ?_)<;>simp[go_sem,hmp,hF,hmV,zCs]
       ·have hkk:k=g.length:=by omega
        subst hkk;generalize nxtL l g=L at *;generalize nxtT l g=T at *;subst hL hT;rw[hE2];generalize nxtK l g g.length=K0 at *;obtain⟨⟨an,la,ag⟩,t⟩:=K0;simp only at hak hlk;subst hak;have hmin:min (l.age+1) 1048576=if 1048576<l.age+1 then 1048576 else l.age+1:=by omega
        simp(disch:=omega)[go_sem];generalize (if 1048576<l.age+1 then 1048576 else l.age+1)=mm at *
        cases t with
        |nil=>
         refine zAc (fun d2=>?_) (fun d2=>?_)<;>simp at d2
         simp(disch:=omega)[go_sem,hmin]
        |cons t0 tr=>
         refine zAc (fun d2=>?_) (fun d2=>?_)<;>simp at d2
         simp(disch:=omega)[go_sem];exact zAt (hmp (t0::tr))
 ·rw[if_pos he]at hE;obtain⟨z1,z2⟩:=hz (by rw[hE];exact he)
  rw[z1,z2,hE];unfold lnkV at *;refine zAd mixed Tryz.func79 rfl rfl (by simp[Tryz.ntmps79]) fun hwf E=>?_
  clear hwf;simp(disch:=omega)[Tryz.ntmps79,go_sem];refine zAa q [] (by simp[go_sem]) (.inl rfl) (by simp[go_sem]) (fun _=>?_)
  simp(disch:=omega)[go_sem];refine zAc (fun b1=>?_) (fun b1=>?_)<;>simp at b1
  ·simp(disch:=omega)[go_sem]
  ·exact absurd b1 he
end
section
attribute [local go_sem] zAm
def zVi(b:List UInt8)(x:UInt8):Nat→Int
 |0=> -1
 |k+1=>if b.getD k 0=x then(k:Int)else zVi b x k
def zKy(b:List UInt8)(x:UInt8):Int:=zVi b x b.length
theorem yJc(b:List UInt8)(x:UInt8):∀k,-1≤zVi b x k∧zVi b x k<k
 |0=>by simp[zVi]
 |k+1=>by
  have:=yJc b x k;unfold zVi;split<;>omega
def liF(b:List UInt8)(x:UInt8)(k:Nat):St:=⟨[(5,.int .i64 ((k:Int)-1)),(1,.int .u8 x.toNat),(0,.sl 1 (bts b))],[],1024,[],20,0,[]⟩
theorem yNl(b:List UInt8)(x:UInt8):FnD Tryz.prog 187 [.sl 1 (bts b),.int .u8 x.toNat] (.int .i64 (zKy b x)):=by
 have hpb:=zAg b
 refine zAd mixed Tryz.func187 rfl rfl (by simp[Tryz.ntmps187]) fun hwf E=>?_
 simp(disch:=omega)[go_sem]at hwf
 simp(disch:=omega)[Tryz.ntmps187,go_sem]
 refine zAe mixed (liF b x) (fun k=>k≤b.length∧zKy b x=zVi b x k) (fun k=>k) b.length ⟨by omega,rfl⟩ ?_ ?_
 ·refine Le.mk [] [] ⟨rfl,rfl,rfl⟩ ?_ ?_ ?_<;>simp[go_sem,liF]
 ·rintro k ⟨hk,hl⟩
  simp(disch:=omega)[go_sem,liF];refine zAc (fun h=>?_) (fun h=>?_)<;>simp at h
  ·obtain⟨j,rfl⟩:∃j,k=j+1:=⟨k-1,by omega⟩
   have hn:=zJn (show j<b.length by omega)
   have hlj:j<b.length:=by omega
   have hs:zVi b x (j+1)=if b.getD j 0=x then(j:Int)else zVi b x j:=rfl
   have hg:b.getD j 0=b[j]:=by simp[hlj]
   rw[hg]at hs;have ej:((j+1:Nat):Int)-1=j:=by omega
   simp(disch:=omega)[go_sem,hn,hlj];refine zAc (fun h2=>?_) (fun h2=>?_)<;>simp at h2
   ·have e2:b[j]=x:=UInt8.toNat_inj.1 (by omega)
    rw[if_pos e2]at hs;simp(disch:=omega)[go_sem];rw[hl,hs]
   ·have e2:¬b[j]=x:=fun e=>h2 (by rw[e])
    rw[if_neg e2]at hs;simp(disch:=omega)[go_sem];refine zAb j (⟨by omega,by rw[hl,hs]⟩) (by omega) (Le.mk [] [] ⟨rfl,rfl,rfl⟩ ?_ ?_ ?_)<;>simp[go_sem,liF]
  ·have:k=0:=by omega
   subst this;simp(disch:=omega)[go_sem];rw[hl];rfl
theorem yNm(b:List UInt8)(x:UInt8):FnD Tryz.prog 139 [.sl 1 (bts b),.int .u8 x.toNat] (.int .i64 (zKy b x)):=by
 have hpb:=zAg b
 have q:=yNl b x
 refine zAd mixed Tryz.func139 rfl rfl (by simp[Tryz.ntmps139]) fun hwf E=>?_
 clear hwf
 simp(disch:=omega)[Tryz.ntmps139,go_sem]
 refine zAa q [] (by simp[go_sem]) (.inl rfl) (by simp[go_sem]) (fun _=>?_)
 simp(disch:=omega)[go_sem]
def zPv(b:List UInt8):List MsgN:=(fdK b b.length).msgs
theorem yQt(b:List UInt8)(hb:b.length≤16384):FnD Tryz.prog 78 [.sl 1 (bts b)] (.tup [.sl 3 ((zPv b).map msgV),.int .i64 (zKy b 126),.int .i64 0]):=by
 have hpb:=zAg b
 have hmp:=zOh (zPv b)
 have q1:=xDq
 have q2:=yWz b hb
 have q3:=yNm b 126
 have hM:(fdK b b.length).msgs=zPv b:=rfl
 rw[hM]at q2
 have h26:((126:UInt8).toNat:Int)=126:=by decide
 rw[h26]at q3
 generalize zPv b=M at *
 generalize zKy b 126=L at *
 refine zAd mixed Tryz.func78 rfl rfl (by simp[Tryz.ntmps78]) fun hwf E=>?_
 clear hwf
 simp(disch:=omega)[Tryz.ntmps78,go_sem]
 refine zAc (fun b1=>?_) (fun b1=>?_)<;>simp at b1
 ·exact absurd b1 (by omega)
 ·simp(disch:=omega)[go_sem];refine zAf q1 [] [] [] [] ?_ ?_ ?_ (.inl ⟨rfl,.inl rfl⟩) (fun _=>?_)
  iterate 3 (· simp[go_sem])
  simp(disch:=omega)[go_sem];refine zAf q2 [(0,some 96)] [96] [] [] ?_ ?_ ?_ (.inl ⟨rfl,.inl rfl⟩) (fun _=>?_)
  ·simp[go_sem]
  ·simp[go_sem]
  ·simp[go_sem,rdrO]
  simp(disch:=omega)[go_sem,rdrO];refine zAa q3 [] (by simp[go_sem]) (.inl rfl) (by simp[go_sem]) (fun _=>?_)
  simp(disch:=omega)[go_sem]
def luF(pre:List UInt8)(l:List Int)(k:Nat):St:=⟨[(9,.int .i64 k),(8,.int .i64 l.length),(7,.sl 1 (ints l)),(0,.obj 0 (pre++putN (l.take k)).length)],[(0,⟨.arr,5,1,bts (pre++putN (l.take k))⟩)],1024,[],20,1,[]⟩
theorem zSc(pre:List UInt8)(l:List Int)(h0:∀x∈l,0≤x)(h1:pre.length≤1099511627776)(h2:l.length≤1099511627776) :
  FnR Tryz.prog 175 [⟨.arr,5,1,bts pre⟩] [.obj 0 pre.length,.sl 1 (ints l)] [⟨.arr,5,1,bts (pre++putN l)⟩] (.obj 0 (pre++putN l).length):=by
 have hil:=zAo l
 refine zAv mixed Tryz.func175 rfl rfl (by simp[Tryz.ntmps175]) (by simp) fun hwf E=>?_
 simp(disch:=omega)[go_sem,zAh]at hwf
 simp(disch:=omega)[Tryz.ntmps175,go_sem,zAh]
 refine zAe mixed (luF pre l) (fun k=>k≤l.length) (fun k=>l.length-k) 0 (by omega) ?_ ?_
 ·refine Le.mk [(0,some 0)] [0] ⟨rfl,rfl,rfl⟩ ?_ ?_ ?_<;>simp[go_sem,luF,zAg,putN]
 ·intro k hk;have hpb:=zAg (pre++putN (l.take k));have hbl:=zAm (pre++putN (l.take k));have hpl:=zLn (l.take k);rw[List.length_take]at hpl;simp(disch:=omega)[go_sem,luF];refine zAc (fun h=>?_) (fun h=>?_)<;>simp at h
  ·have hx:=h0 _ (List.getElem_mem h);have hxb:=(yEa hwf.2 _ (List.getElem_mem h)).2;obtain⟨x,hx'⟩:=Int.eq_ofNat_of_zero_le hx;have hsm:=zVw x (by omega)
   have hs1:=(zGz 10 x).2;have hsp:=zAg (zDv x);have hsl:=zAm (zDv x);have hsu:putN (l.take (k+1))=putN (l.take k)++zDv x:=by rw[yBb h,hx'];rfl
   have hsa:bts (pre++putN (l.take k))++bts (zDv x)=bts (pre++putN (l.take (k+1))):=by rw[← zCh,hsu,List.append_assoc]
   have hln:(pre++putN (l.take (k+1))).length=(pre++putN (l.take k)).length+(zDv x).length:=by rw[hsu,← List.append_assoc,List.length_append]
   have hpb1:=zAg (pre++putN (l.take (k+1)));rw[List.length_append]at hbl hln;have hs2:(zDv x).length≤11:=hs1;simp(disch:=omega)[go_sem,zAh,zAz,h,hx'];refine zAa hsm [] (by simp[go_sem]) (.inl rfl) (by simp[go_sem]) (fun _=>?_)
   simp(disch:=omega)[go_sem,hsl,hbl];refine⟨by omega,?_⟩
   refine zAb (k+1) (by omega) (by omega) (Le.mk [(0,some 0)] [0] ⟨rfl,rfl,rfl⟩ ?_ ?_ ?_)<;>simp[go_sem,luF,hsa,hpb1]
   all_goals (simp only[List.length_append]at hln;omega)
  ·have hkl:k=l.length:=by omega
   subst hkl;rw[List.take_length]at *;simp(disch:=omega)[go_sem];refine Le.mk [(0,some 0)] [0] ⟨rfl,rfl,rfl⟩ ?_ ?_ ?_<;>simp[go_sem,hpb]
end
section
attribute [local go_sem] zAm
def btlV(b:List UInt8):V:= .sl 1 (bts b)
theorem yZi(l:List (List UInt8)):zBa (l.map btlV):=zBc _ (fun b=>by simp[btlV,go_sem]) l
def catL(l:List (List UInt8))(k:Nat):List UInt8:=(l.take k).flatten
theorem yCu{l:List (List UInt8)}{k:Nat}(h:k<l.length):catL l (k+1)=catL l k++l[k]:=by
 unfold catL
 rw[List.take_succ_eq_append_getElem h,List.flatten_append];simp
theorem xKl(l:List (List UInt8))(k:Nat):(catL l k).length≤l.flatten.length:=by
 unfold catL
 rw[show l.flatten=(l.take k).flatten++(l.drop k).flatten by rw[← List.flatten_append,List.take_append_drop],List.length_append]
 omega
def ct1F(l:List (List UInt8))(k:Nat):St:=⟨[(11,.int .i64 k),(10,.int .i64 l.length),(9,.sl 1 (l.map btlV)),(3,.int .i64 (catL l k).length),(0,.sl 1 (l.map btlV))],[],1024,[],36,0,[]⟩
def ct2F(l:List (List UInt8))(k:Nat):St:=⟨[(27,.int .i64 k),(26,.int .i64 l.length),(25,.sl 1 (l.map btlV)),(6,.obj 2048 (catL l k).length)],[(2048,⟨.arr,5,1,bts (catL l k)⟩)],4096,[],36,0,[]⟩
set_option maxHeartbeats 1000000 in
theorem yOf(l:List (List UInt8))(hl:l.flatten.length≤1048576)(hn:l.length≤1048576):FnR Tryz.prog 77 [] [.sl 1 (l.map btlV)] [⟨.arr,5,1,bts l.flatten⟩] (.obj 0 l.flatten.length):=by
 have hpl:=yZi l
 have hcl:=xKl l
 have he:catL l l.length=l.flatten:=by unfold catL;rw[List.take_length]
 have q:=xEr l.flatten.length hl
 have h0:catL l 0=[]:=rfl
 generalize l.flatten=fl at *
 have hb0:bts ([]:List UInt8)=[]:=rfl
 have h1F:∀k,ct1F l k=⟨[(11,.int .i64 k),(10,.int .i64 l.length),(9,.sl 1 (l.map btlV)),(3,.int .i64 (catL l k).length),(0,.sl 1 (l.map btlV))],[],1024,[],36,0,[]⟩:=fun _=>rfl
 have h2F:∀k,ct2F l k=⟨[(27,.int .i64 k),(26,.int .i64 l.length),(25,.sl 1 (l.map btlV)),(6,.obj 2048 (catL l k).length)],[(2048,⟨.arr,5,1,bts (catL l k)⟩)],4096,[],36,0,[]⟩:=fun _=>rfl
 refine zAv mixed Tryz.func77 rfl rfl (by simp[Tryz.ntmps77]) (by simp) fun hwf E=>?_
 clear hwf
 simp(disch:=omega)[Tryz.ntmps77,go_sem]
 refine zAe mixed (ct1F l) (fun k=>k≤l.length) (fun k=>l.length-k) 0 (by omega) ?_ ?_
 ·refine Le.mk [] [] ⟨rfl,rfl,rfl⟩ ?_ ?_ ?_<;>simp[go_sem,ct1F,h0]
 ·intro k hk;rw[h1F];simp(disch:=omega)[go_sem];refine zAc (fun c1=>?_) (fun c1=>?_)<;>simp at c1
  ·have hsu:=yCu c1;have hck:=hcl (k+1);have hlk:(catL l (k+1)).length=(catL l k).length+l[k].length:=by rw[hsu,List.length_append]
   have hbv:btlV l[k]= .sl 1 (bts l[k]):=rfl;simp(disch:=omega)[go_sem,c1,hbv];refine zAc (fun c2=>?_) (fun c2=>?_)<;>simp at c2
   ·exact absurd c2 (by omega)
   ·simp(disch:=omega)[go_sem];refine zAb (k+1) (by omega) (by omega) (Le.mk [] [] ⟨rfl,rfl,rfl⟩ ?_ ?_ ?_)<;>simp[go_sem,h1F,hlk]
  ·have hkk:k=l.length:=by omega
   subst hkk;rw[he];simp(disch:=omega)[go_sem];refine zAf q [] [] [] [] ?_ ?_ ?_ (.inl ⟨rfl,.inl rfl⟩) (fun _=>?_)
   iterate 3 (· simp[go_sem])
   simp(disch:=omega)[go_sem];refine zAe mixed (ct2F l) (fun k=>k≤l.length) (fun k=>l.length-k) 0 (by omega) ?_ ?_
   ·refine Le.mk [(2048,some 1056)] [1056] ⟨rfl,rfl,rfl⟩ ?_ ?_ ?_<;>simp[go_sem,ct2F,h0,hb0]
   ·intro k hk;have hck:=hcl k;rw[h2F];simp(disch:=omega)[go_sem];refine zAc (fun d1=>?_) (fun d1=>?_)<;>simp at d1
    ·have hsu:=yCu d1;have hck:=hcl (k+1);have hlk:(catL l (k+1)).length=(catL l k).length+l[k].length:=by rw[hsu,List.length_append]
     have hbv:btlV l[k]= .sl 1 (bts l[k]):=rfl;have e1:bts (catL l k)++bts l[k]=bts (catL l (k+1)):=by rw[hsu,zCh]
     simp(disch:=omega)[go_sem,d1,hbv];refine⟨by omega,?_⟩
     refine zAb (k+1) (by omega) (by omega) (Le.mk [(2048,some 2048)] [2048] ⟨rfl,rfl,rfl⟩ ?_ ?_ ?_)<;>simp[go_sem,h2F,hlk,e1]
    ·have hkk:k=l.length:=by omega
     subst hkk;rw[he];simp(disch:=omega)[go_sem];refine Le.mk [(0,some 2048)] [2048] ⟨rfl,rfl,rfl⟩ ?_ ?_ ?_<;>simp[go_sem]
end
section
theorem xAi(a:Nat)(h:a<4294967296):zDk .and .u64 (a:Int) 4294967295=some (.int .u64 (a:Int)):=by
 have h2:(BitVec.ofInt 64 (a:Int) &&& BitVec.ofInt 64 4294967295).toNat=a:=by
  simp[BitVec.toNat_and];rw[Nat.mod_eq_of_lt (by omega),show (4294967295:Nat)=2 ^ 32-1 from rfl,Nat.and_two_pow_sub_one_eq_mod,Nat.mod_eq_of_lt (by omega)]
 simp only[zDk]
 rw[show IntKind.u64.bits=64 from rfl,h2]
 simp[IntKind.wrap,IntKind.bits,IntKind.signed]
 omega
theorem yGs{a:Nat}(h:a<4294967296):(a:Int).fdiv 4294967296=0:=by
 rw[Int.fdiv_eq_ediv_of_nonneg _ (by omega)]
 omega
theorem xTk{a:Nat}(h:a<4294967296):IntKind.u64.wrap (a:Int)=a:=by
 simp[IntKind.wrap,IntKind.bits,IntKind.signed]
 omega
theorem yFw(x y:Nat)(h:x≤65536)(h2:y≤16384):FnD Tryz.prog 216 [.int .u64 x,.int .u64 y] (.tup [.int .u64 0,.int .u64 (x*y:Nat)]):=by
 have a1:=xAi x (by omega)
 have a2:=xAi y (by omega)
 have b1:=yGs (a:=x) (by omega)
 have b2:=yGs (a:=y) (by omega)
 have hp:x*y≤65536*16384:=Nat.mul_le_mul h h2
 have b3:=yGs (a:=x*y) (by omega)
 have b4:=xTk (a:=x*y) (by omega)
 have b5:=xTk (a:=0) (by omega)
 have a3:=xAi 0 (by omega)
 rw[Int.natCast_mul]at b3 b4
 have b5:IntKind.u64.wrap 0=0:=rfl
 have a3:zDk .and .u64 0 4294967295=some (.int .u64 0):=a3
 refine zAd mixed Tryz.func216 rfl rfl (by simp[Tryz.ntmps216]) fun hwf E=>?_
 clear hwf
 simp(disch:=omega)[Tryz.ntmps216,go_sem]
 simp(disch:=omega)[go_sem,a1,a2,a3,b1,b2,b3,b4,b5]
theorem ySk(b:Nat)(hb:b≤16384):FnD Tryz.prog 195 [.int .u64 1,.int .u64 b] (.tup [.int .u64 0,.int .u64 b]):=by
 have q:=yFw 1 b (by omega) hb
 rw[Nat.one_mul]at q
 refine zAd mixed Tryz.func195 rfl rfl (by simp[Tryz.ntmps195]) fun hwf E=>?_
 clear hwf
 simp(disch:=omega)[Tryz.ntmps195,go_sem]
 refine zAa q [] (by simp[go_sem]) (.inl rfl) (by simp[go_sem]) (fun _=>?_)
 simp(disch:=omega)[go_sem]
theorem xAe{hp:Heap}{B:Nat→Prop}{k:Nat}(l:List Int):all2 (zAx hp B V.noRef (k+1)) (lts l) (lts l):=by
 induction l with
 |nil=>simp[lts,all2]
 |cons x l ih=>
  simp only[lts,List.map_cons,all2]at ih ⊢;refine⟨?_,ih⟩;simp[zAx,V.noRef]
theorem yNc(m:Nat)(v:Int):zBa (List.replicate m (.int .u8 v)):=by
 induction m with
 |zero=>simp[zBa]
 |succ m ih=>rw[List.replicate_succ];exact⟨by simp[V.pure],ih⟩
def flF(n k:Nat):List V:=lts (List.replicate k 4++List.replicate (n-k) 0)
theorem xMj(n k:Nat):flF n k=List.replicate k (.int .u8 4)++List.replicate (n-k) (.int .u8 0):=by simp[flF,lts]
theorem xFw{n k j:Nat}(h:j=j):List.take k (flF n k)++(List.take (min (n-k) k) (List.take k (flF n k))++List.drop (k+min (n-k) k) (flF n k))=flF n (k+min (n-k) k):=by
 rw[xMj,xMj]
 have e1:List.take k (List.replicate k (V.int .u8 4)++List.replicate (n-k) (.int .u8 0))=List.replicate k (.int .u8 4):=by
  rw[List.take_append_of_le_length (by simp)];simp
 have e2:List.drop (k+min (n-k) k) (List.replicate k (V.int .u8 4)++List.replicate (n-k) (.int .u8 0))=List.replicate (n-(k+min (n-k) k)) (.int .u8 0):=by
  rw[List.drop_append,List.drop_replicate,List.drop_replicate];simp;omega
 rw[e1,e2,List.take_replicate,← List.append_assoc,List.replicate_append_replicate]
 congr 2
 omega
def rpS(n k:Nat):St:=⟨[(8,.int .i64 k),(7,.obj 500 n)],[(500,⟨.arr,5,1,flF n k⟩)],1024,[],48,0,[]⟩
theorem yFj(n:Nat)(hn:n≤16384)(h1:1≤n):FnF Tryz.prog 148 [.sl 1 [.int .u8 4],.int .i64 n] (.sl 1 (lts (List.replicate n 4))):=by
 have q:=ySk n hn
 refine zWs mixed Tryz.func148 rfl rfl (by simp[Tryz.ntmps148]) fun hwf E=>?_
 clear hwf
 simp(disch:=omega)[Tryz.ntmps148,go_sem]
 refine zAc (fun b1=>?_) (fun b1=>?_)<;>simp at b1
 ·exact absurd b1 (by omega)
 ·simp(disch:=omega)[go_sem];refine zAa q [] (by simp[go_sem]) (.inl rfl) (by simp[go_sem]) (fun _=>?_)
  simp(disch:=omega)[go_sem];refine zAc (fun b2=>?_) (fun b2=>?_)<;>simp at b2
  ·exact absurd b2 (by omega)
  ·simp(disch:=omega)[go_sem];refine⟨by omega,by omega,?_⟩
   have hm1:min n 1=1:=by omega
   obtain⟨m,rfl⟩:∃m,n=m+1:=⟨n-1,by omega⟩
   simp(disch:=omega)[go_sem];refine zAe mixed (rpS (m+1)) (fun k=>1≤k∧k≤m+1) (fun k=>m+1-k) 1 (by omega) ?_ ?_
   ·have e1:flF (m+1) 1= .int .u8 4::List.replicate m (.int .u8 0):=by simp[flF,lts,List.replicate_succ]
    refine Le.mk [(500,some 352)] [352] ⟨rfl,rfl,rfl⟩ ?_ ?_ ?_<;>simp[go_sem,rpS,e1,yNc]
   ·rintro k ⟨hk1,hk⟩
    have hfl:(flF (m+1) k).length=m+1:=by simp[flF,lts];omega
    simp(disch:=omega)[go_sem,hfl,rpS];refine zAc (fun c1=>?_) (fun c1=>?_)<;>simp at c1
    ·simp(disch:=omega)[go_sem,hfl];refine⟨by omega,by omega,by omega,.inl (by kernel_rfl),?_⟩
     have e2:List.take k (flF (m+1) k)++(List.take (min (m+1-k) k) (List.take k (flF (m+1) k))++List.drop (k+min (m+1-k) k) (flF (m+1) k))=flF (m+1) (k+min (m+1-k) k):=xFw (j:=0) rfl;have hpf:zBa (flF (m+1) (k+min (m+1-k) k)):=zCl _;rw[e2];have hj:1≤min (m+1-k) k∧k+min (m+1-k) k≤m+1:=by omega
     generalize min (m+1-k) k=j at *;refine zAb (k+j) (by omega) (by omega) (Le.mk [(500,some 500)] [500] ⟨rfl,rfl,rfl⟩ ?_ ?_ ?_)<;>simp[go_sem,rpS,hpf]
    ·simp(disch:=omega)[go_sem,hfl];have hkk:k=m+1:=by omega
     subst hkk;rw[show flF (m+1) (m+1)=lts (List.replicate (m+1) 4) by simp[flF]]
     exact xAe _
end
section
attribute [local go_sem] zAm zAh
structure CmdN where
 site:Int
 cycle:Int
 offset:Int
 splits:List Int
def CmdN.pln(c:CmdN):Pln:=⟨c.cycle,c.offset,c.splits⟩
def lcmV(c:CmdN):V:= .agg [.int .i64 c.site,.int .i64 c.cycle,.int .i64 c.offset,.sl 1 (ints c.splits)]
def cmdE(c:CmdN):Int:=if zMi c.site=true then zEj [c.pln]else 2
def cmdB(c:CmdN):List UInt8:=if cmdE c=0 then putN ([c.site,c.cycle,c.offset,(c.splits.length:Int)]++c.splits)else[]
theorem xKi(c:CmdN):FnD Tryz.prog 142 [lcmV c] (.tup [.sl 1 (bts (cmdB c)),.int .i64 (cmdE c)]):=by
 have hE:cmdE c=if zMi c.site=true then zEj [c.pln]else 2:=rfl
 have hB:cmdB c=if cmdE c=0 then putN ([c.site,c.cycle,c.offset,(c.splits.length:Int)]++c.splits)else[]:=rfl
 have q1:=zTo c.site
 have q2:=zPp [c.pln]
 have q3:=zSc [] [c.site,c.cycle,c.offset,(c.splits.length:Int)]
 have q4:=zSc (putN [c.site,c.cycle,c.offset,(c.splits.length:Int)]) c.splits
 have hok:=yHu (l:=[c.pln])
 have hwl:=zLn [c.site,c.cycle,c.offset,(c.splits.length:Int)]
 have hpi:=zAo c.splits
 generalize cmdE c=e at *
 generalize cmdB c=B at *
 obtain⟨st,cy,of,sp⟩:=c
 unfold CmdN.pln at *
 unfold lcmV
 simp only at *
 cases hs:zMi st with
 |false=>
  rw[hs,if_neg (by decide)]at hE
  subst hE;rw[if_neg (by decide)]at hB
  subst hB;rw[hs]at q1;refine zAd mixed Tryz.func142 rfl rfl (by simp[Tryz.ntmps142]) fun hwf E=>?_
  clear hwf;simp(disch:=omega)[Tryz.ntmps142,go_sem];refine zAa q1 [] (by simp[go_sem]) (.inl rfl) (by simp[go_sem]) (fun _=>?_)
  simp(disch:=omega)[go_sem];simp(disch:=omega)[go_sem,bts]
 |true=>
  rw[hs,if_pos rfl]at hE;rw[hs]at q1;rw[← hE]at q2 hok;by_cases he:e=0
  ·subst he;rw[if_pos rfl]at hB;obtain⟨_,hw⟩:=hok rfl;have hw:=hw ⟨cy,of,sp⟩ (by simp)
   refine zAd mixed Tryz.func142 rfl rfl (by simp[Tryz.ntmps142]) fun hwf E=>?_
   clear hwf;simp(disch:=omega)[Tryz.ntmps142,go_sem];refine zAa q1 [] (by simp[go_sem]) (.inl rfl) (by simp[go_sem]) (fun _=>?_)
   simp(disch:=omega)[go_sem];refine zBx q2 [224] [(224,⟨.ro,56,3,[.agg [.int .i64 cy,.int .i64 of,.sl 1 (ints sp)]]⟩)] (by simp[go_sem,plnV]) (by simp[go_sem]) (by simp[go_sem]) (fun _=>?_)
   simp(disch:=omega)[go_sem];have hst:0≤st∧st≤65535:=by simpa[zMi] using hs
   obtain⟨hw1,hw2,hw3,hw4⟩:=hw;simp only at hw1 hw2 hw3 hw4;have q3:=q3 (by simp;omega) (by simp) (by simp)
   simp only[List.length_cons,List.length_nil]at hwl;have q4:=q4 (fun x hx=>(hw4 x hx).1) (by omega) (by omega)
   have hpo:putN [st,cy,of,(sp.length:Int)]++putN sp=B:=by rw[hB,zOb]
   rw[hpo]at q4;rw[List.nil_append]at q3;have i4:ints [st,cy,of,(sp.length:Int)]=[.int .i64 st,.int .i64 cy,.int .i64 of,.int .i64 (sp.length:Int)]:=rfl;rw[i4,show bts ([]:List UInt8)=[] from rfl,List.length_nil]at q3
   refine zAf q3 [(0,none)] [] [512] [] ?_ ?_ ?_ (.inl ⟨rfl,.inr (by simp[go_sem])⟩) (fun _=>?_)
   iterate 3 (· simp[go_sem])
   simp(disch:=omega)[go_sem];refine zAf q4 [(0,some 528)] [528] [] [] ?_ ?_ ?_ (.inl ⟨rfl,.inl rfl⟩) (fun _=>?_)
   iterate 3 (· simp[go_sem])
   simp(disch:=omega)[go_sem];refine⟨.inl (by kernel_rfl),?_⟩
   exact zAt (zAg B)
  ·rw[if_neg he]at hB;subst hB;have hbw:zFs [⟨cy,of,sp⟩]=[]:=by unfold zFs;rw[← hE,if_neg he]
   rw[hbw]at q2;refine zAd mixed Tryz.func142 rfl rfl (by simp[Tryz.ntmps142]) fun hwf E=>?_
   clear hwf;simp(disch:=omega)[Tryz.ntmps142,go_sem];refine zAa q1 [] (by simp[go_sem]) (.inl rfl) (by simp[go_sem]) (fun _=>?_)
   simp(disch:=omega)[go_sem];refine zBx q2 [224] [(224,⟨.ro,56,3,[.agg [.int .i64 cy,.int .i64 of,.sl 1 (ints sp)]]⟩)] (by simp[go_sem,plnV]) (by simp[go_sem]) (by simp[go_sem]) (fun _=>?_)
   simp(disch:=omega)[go_sem];refine zAc (fun b1=>?_) (fun b1=>?_)<;>simp at b1
   ·simp(disch:=omega)[go_sem,bts]
   ·exact absurd b1 he
end
section
attribute [local go_sem] zAm zAh
structure RepN where
 site:Int
 mode:Int
 tick:Int
 loads:List Int
def xDt(r:RepN):V:= .agg [.int .i64 r.site,.int .u8 r.mode,.int .i64 r.tick,.sl 1 (ints r.loads)]
def repG(r:RepN):Bool:=zMi r.site&&decide (r.mode≤3)&&decide (0≤r.tick)&&decide (r.tick≤1073741824)
def repE(r:RepN):Int:=if repG r=true then if 8<r.loads.length then 4 else if r.loads.all (fun x=>decide (0≤x)&&decide (x≤70368744177664))then 0 else 2 else 2
def repI(r:RepN):List Int:=[r.site,r.mode,r.tick,(r.loads.length:Int)]
def repB(r:RepN):List UInt8:=if repE r=0 then putN (repI r++r.loads)else[]
def rpF(r:RepN)(k:Nat):St:=⟨[(41,.int .i64 k),(40,.int .i64 r.loads.length),(39,.sl 1 (ints r.loads)),(4,.obj 512 (putN (repI r++r.loads.take k)).length)],[(512,⟨.arr,5,1,bts (putN (repI r++r.loads.take k))⟩)],2048,[],57,0,[]⟩
theorem xUg{r:RepN}(h:repE r=0):repG r=true∧r.loads.length≤8∧∀x∈r.loads,0≤x∧x≤70368744177664:=by
 unfold repE at h
 cases hg:repG r with
 |false=>rw[hg,if_neg (by decide)]at h;omega
 |true=>
  rw[hg,if_pos rfl]at h;by_cases h1:8<r.loads.length
  ·rw[if_pos h1]at h;omega
  ·rw[if_neg h1]at h;by_cases h2:r.loads.all (fun x=>decide (0≤x)&&decide (x≤70368744177664))=true
   ·exact⟨rfl,by omega,by simpa using h2⟩
   ·rw[if_neg h2]at h;omega
theorem xOh{r:RepN}(hg:repG r=true)(h8:r.loads.length≤8){x:Int}(hx:x∈r.loads)(h:x<0∨70368744177664<x):repE r=2:=by
 unfold repE
 rw[hg,if_pos rfl,if_neg (by omega),if_neg]
 intro h2
 simp at h2
 have:=h2 x hx
 omega
set_option maxHeartbeats 1000000 in
theorem xCs(r:RepN)(hm:0≤r.mode):FnD Tryz.prog 111 [xDt r] (.tup [.sl 1 (bts (repB r)),.int .i64 (repE r)]):=by
 have q1:=zTo r.site
 have hpi:=zAo r.loads
 have hB:repB r=if repE r=0 then putN (repI r++r.loads)else[]:=rfl
 have hE:repE r=if repG r=true then if 8<r.loads.length then 4 else if r.loads.all (fun x=>decide (0≤x)&&decide (x≤70368744177664))then 0 else 2 else 2:=rfl
 have hG:repG r=(zMi r.site&&decide (r.mode≤3)&&decide (0≤r.tick)&&decide (r.tick≤1073741824)):=rfl
 have hok:=xUg (r:=r)
 have hbad:=xOh (r:=r)
 have hF0:∀k,rpF r k=⟨[(41,.int .i64 k),(40,.int .i64 r.loads.length),(39,.sl 1 (ints r.loads)),(4,.obj 512 (putN (repI r++r.loads.take k)).length)],[(512,⟨.arr,5,1,bts (putN (repI r++r.loads.take k))⟩)],2048,[],57,0,[]⟩:=fun k=>rfl
 cases hg:repG r with
 |false=>
  rw[hg,if_neg (by decide)]at hE
  rw[hE,if_neg (by decide)]at hB
  rw[hE,hB];rw[hG]at hg;unfold xDt;generalize zMi r.site=sb at *;refine zAd mixed Tryz.func111 rfl rfl (by simp[Tryz.ntmps111]) fun hwf E=>?_
  clear hwf;simp(disch:=omega)[Tryz.ntmps111,go_sem];repeat' first
   |(refine zAc (fun hb=>?_) (fun hb=>?_)<;>simp at hb)
   |(refine zBj (fun hb=>?_) (fun hb=>?_)<;>(try simp only[hb])<;>(try simp at hb)<;>try simp(disch:=omega)[go_sem,hb])
   |(refine zAa q1 [] ?_ ?_ ?_ (fun _=>?_) (by simp[go_sem]);(focus (simp[go_sem];done));(focus (exact .inl rfl));(focus (simp[go_sem];done)))
   |refine⟨.inl (by kernel_rfl),?_⟩
   |simp(disch:=omega)[go_sem]
  all_goals first|omega|(simp_all [bts];done)|(simp_all [bts];omega)|((repeat' split)<;>first|omega|(simp_all [bts];done)|(simp_all [bts];omega))|skip
 |true=>
  rw[hg,if_pos rfl]at hE;rw[hG]at hg;simp only[Bool.and_eq_true,decide_eq_true_eq]at hg;obtain⟨⟨⟨g1,g2⟩,g3⟩,g4⟩:=hg;have hst:0≤r.site∧r.site≤65535:=by simpa[zMi] using g1
  rw[g1]at q1;have q3:=zSc [] (repI r) (by simp[repI];omega) (by simp) (by simp[repI])
  have i4:ints (repI r)=[.int .i64 r.site,.int .i64 r.mode,.int .i64 r.tick,.int .i64 (r.loads.length:Int)]:=rfl;rw[i4,show bts ([]:List UInt8)=[] from rfl,List.length_nil,List.nil_append]at q3
  unfold xDt;by_cases h8:8<r.loads.length
  ·rw[if_pos h8]at hE;rw[hE,if_neg (by decide)]at hB
   rw[hE,hB];refine zAd mixed Tryz.func111 rfl rfl (by simp[Tryz.ntmps111]) fun hwf E=>?_
   clear hwf;simp(disch:=omega)[Tryz.ntmps111,go_sem];repeat' first
    |(refine zAc (fun hb=>?_) (fun hb=>?_)<;>simp at hb)
    |(refine zBj (fun hb=>?_) (fun hb=>?_)<;>(try simp only[hb])<;>(try simp at hb)<;>try simp(disch:=omega)[go_sem,hpi,hb])
    |(refine zAa q1 [] ?_ ?_ ?_ (fun _=>?_) (by simp[go_sem]);(focus (simp[go_sem];done));(focus (exact .inl rfl));(focus (simp[go_sem];done)))
    |refine⟨.inl (by kernel_rfl),?_⟩
    |simp(disch:=omega)[go_sem]
   all_goals first|omega|(simp_all [bts];done)|(simp_all [bts];omega)|((repeat' split)<;>first|omega|(simp_all [bts];done)|(simp_all [bts];omega))|skip
  ·rw[if_neg h8]at hE;refine zAd mixed Tryz.func111 rfl rfl (by simp[Tryz.ntmps111]) fun hwf E=>?_
   clear hwf;simp(disch:=omega)[Tryz.ntmps111,go_sem];refine zAa q1 [] (by simp[go_sem]) (.inl rfl) (by simp[go_sem]) (fun _=>?_)
   simp(disch:=omega)[go_sem];refine zAc (fun b1=>?_) (fun b1=>?_)<;>simp at b1
   ·exact absurd b1 (by omega)
   ·simp(disch:=omega)[go_sem];refine zAc (fun b2=>?_) (fun b2=>?_)<;>simp at b2
    ·exact absurd b2 (by omega)
    ·simp(disch:=omega)[go_sem];refine zAc (fun b3=>?_) (fun b3=>?_)<;>simp at b3
     ·exact absurd b3 (by omega)
     ·simp(disch:=omega)[go_sem];refine zAc (fun b4=>?_) (fun b4=>?_)<;>simp at b4
      ·exact absurd b4 (by omega)
      ·simp(disch:=omega)[go_sem];refine zAf q3 [(0,none)] [] [560] [] ?_ ?_ ?_ (.inl ⟨rfl,.inr (by simp[go_sem])⟩) (fun _=>?_)
       iterate 3 (· simp[go_sem])
       simp(disch:=omega)[go_sem];refine zAe mixed (rpF r) (fun k=>k≤r.loads.length∧∀i (hi:i<r.loads.length),i<k→0≤r.loads[i]∧r.loads[i]≤70368744177664) (fun k=>r.loads.length-k) 0 ⟨by omega,by omega⟩ ?_ ?_
       ·have e0:repI r++r.loads.take 0=repI r:=by simp
        refine Le.mk [(512,some 576)] [576] ⟨rfl,rfl,rfl⟩ ?_ ?_ ?_<;>simp[go_sem,rpF]
       ·rintro k ⟨hk,hall⟩
        rw[hF0];simp(disch:=omega)[go_sem];refine zAc (fun c1=>?_) (fun c1=>?_)<;>simp at c1
        ·have hn:=zAz c1;have hmem:=List.getElem_mem c1;generalize hx:r.loads[k]=x at *;by_cases hx2:0≤x∧x≤70368744177664
         ·have hl4:(repI r++r.loads.take k).length≤12:=by simp[repI];omega
          have hl5:=zLn (repI r++r.loads.take k);have q4:=zSc (putN (repI r++r.loads.take k)) [x] (by simpa using hx2.1) (by omega) (by simp)
          have i1:ints [x]=[.int .i64 x]:=rfl;have e1:putN (repI r++r.loads.take k)++putN [x]=putN (repI r++r.loads.take (k+1)):=by
           rw[← zOb,List.take_succ_eq_append_getElem c1,hx,List.append_assoc]
          rw[i1,e1]at q4;have hall2:∀i (hi:i<r.loads.length),i<k+1→0≤r.loads[i]∧r.loads[i]≤70368744177664:=by
           intro i hi hlt;by_cases hik:i=k
           ·subst hik;rw[hx];exact hx2
           ·exact hall i hi (by omega)
          simp(disch:=omega)[go_sem,hn,c1];refine zAc (fun b5=>?_) (fun b5=>?_)<;>simp at b5
          ·exact absurd b5 (by omega)
          ·simp(disch:=omega)[go_sem];refine zAf q4 [(0,some 512)] [512] [2240] [] ?_ ?_ ?_ (.inl ⟨rfl,.inr (by simp[go_sem])⟩) (fun _=>?_)
           iterate 3 (· simp[go_sem])
           simp(disch:=omega)[go_sem];refine zAb (k+1) (⟨by omega,hall2⟩) (by omega) (Le.mk [(512,some 512)] [512] ⟨rfl,rfl,rfl⟩ ?_ ?_ ?_)<;>simp[go_sem,rpF]
         ·have hE2:=hbad (by rw[hG];simp[g1,g2,g3,g4]) (by omega) hmem (by omega)
          rw[hE2,if_neg (by decide)]at hB
          simp(disch:=omega)[go_sem,hn,c1];refine zAc (fun b5=>?_) (fun b5=>?_)<;>simp at b5
          ·simp(disch:=omega)[go_sem];rw[hE2,hB];simp[bts]
          ·exact absurd b5 (by omega)
        ·have hkk:k=r.loads.length:=by omega
         subst hkk;have hE2:repE r=0:=by
          rw[hE,if_pos];simp only[List.all_eq_true];intro x hx;obtain⟨i,hi,rfl⟩:=List.getElem_of_mem hx;simpa using hall i hi hi
         rw[hE2,if_pos rfl]at hB;simp(disch:=omega)[go_sem];rw[hE2,hB];exact⟨zAt (zAg _),rfl⟩
end
section
attribute [local go_sem] zAm zAh
def rdL(s:RdS):AM.Obj:=⟨.box,228,2,[.agg [.sl 1 (bts s.b),.bool s.bad]]⟩
set_option maxHeartbeats 1000000 in
theorem zKv(s:RdS)(most:Int)(hm:0≤most) :
  FnR Tryz.prog 141 [rdL s] [.ptr 0 1 0 0,.int .i64 most] [rdL (oneF s most).2] (.int .i64 (oneF s most).1):=by
 obtain⟨l,bad⟩:=s
 have hp:=zAg l
 have q:=zHx l
 refine zAv mixed Tryz.func141 rfl rfl (by simp[Tryz.ntmps141]) (by simp) fun hwf E=>?_
 simp(disch:=omega)[go_sem]at hwf
 have hmw:=w64 (m:=most.toNat) (by omega)
 rw[Int.toNat_of_nonneg hm]at hmw
 cases hn:zKc l with
 |none=>
  rw[hn]at q;rw[zTj hn];simp only[zMu]at q;simp(disch:=omega)[Tryz.ntmps141,go_sem,rdL];refine zAa q [] (by simp[go_sem]) (.inl rfl) (by simp[go_sem]) (fun _=>?_)
  simp(disch:=omega)[go_sem,hmw];refine Le.mk [(0,some 0)] [0] ⟨rfl,rfl,rfl⟩ ?_ ?_ ?_<;>simp[go_sem]
 |some p=>
  obtain⟨n,k⟩:=p;obtain⟨hk0,hkl⟩:=zRv hn;have hpd:=zAg (l.drop k);rw[hn]at q;simp only[zMu]at q;by_cases hc:(n:Int)≤most
  ·rw[zYi hn hc];simp(disch:=omega)[Tryz.ntmps141,go_sem,rdL];refine zAa q [] (by simp[go_sem]) (.inl rfl) (by simp[go_sem]) (fun _=>?_)
   simp(disch:=omega)[go_sem,hmw];refine zAc (fun h=>?_) (fun h=>?_)<;>simp at h
   ·omega
   ·simp(disch:=omega)[go_sem,zAm,zDs,zBy,List.take_of_length_le];exact⟨hkl,Le.mk [(0,some 0)] [0] ⟨rfl,rfl,rfl⟩ (by simp[go_sem]) (by simp[go_sem]) (by simp[go_sem])⟩
  ·rw[zYj hn (by omega)]
   simp(disch:=omega)[Tryz.ntmps141,go_sem,rdL];refine zAa q [] (by simp[go_sem]) (.inl rfl) (by simp[go_sem]) (fun _=>?_)
   simp(disch:=omega)[go_sem,hmw];refine zAc (fun h=>?_) (fun h=>?_)<;>simp at h
   ·simp(disch:=omega)[go_sem];refine Le.mk [(0,some 0)] [0] ⟨rfl,rfl,rfl⟩ ?_ ?_ ?_<;>simp[go_sem]
   ·omega
def ocK(s:RdS)(k:Nat):List Int × RdS:=match k with
 |0=>([],s)
 |k+1=>let p:=ocK s k;((p.1++[(oneF p.2 1048576).1]),(oneF p.2 1048576).2)
def ocS(b:List UInt8):CmdN × RdS:=
 let a:=oneF ⟨b,false⟩ 65535
 let c:=oneF a.2 1048576
 let o:=oneF c.2 1048576
 let n:=oneF o.2 8
 let p:=ocK n.2 n.1.toNat
 (⟨a.1,c.1,o.1,p.1⟩,p.2)
def ocG(b:List UInt8):Bool:= !(ocS b).2.bad&&(cmdE (ocS b).1 == 0)&&(cmdB (ocS b).1 == b)
def ocC(b:List UInt8):CmdN:=if ocG b=true then(ocS b).1 else⟨0,0,0,[]⟩
def ocE(b:List UInt8):Int:=if ocG b=true then 0 else 8
theorem xOu(s:RdS){most:Int}(hm:0≤most):0≤(oneF s most).1∧(oneF s most).1≤most:=by
 obtain⟨l,bad⟩:=s
 cases hn:zKc l with
 |none=>rw[zTj hn];exact⟨Int.le_refl _,hm⟩
 |some p=>
  obtain⟨n,k⟩:=p;by_cases hc:(n:Int)≤most
  ·rw[zYi hn hc];exact⟨by simp only;omega,hc⟩
  ·rw[zYj hn (by omega)];exact⟨Int.le_refl _,hm⟩
theorem yFv(s:RdS):∀k,(ocK s k).1.length=k
 |0=>rfl
 |k+1=>by simp[ocK,yFv s k]
def ocF(b:List UInt8)(a c o:Int)(s:RdS)(n:Int)(k:Nat):St:=⟨[(23,.int .i64 k),(22,.int .i64 n),(6,.ptr 32 1 0 0),(5,.func (.func 141) [.ptr 64 1 0 0] []),(4,.ptr 64 1 0 0),(2,.ptr 0 1 0 0),(0,.sl 1 (bts b)),(3,.int .i64 0)],
 [(64,rdL (ocK s k).2),(32,⟨.box,148,4,[.agg [.int .i64 a,.int .i64 c,.int .i64 o,.obj 48 k]]⟩),(48,⟨.arr,3,1,ints (ocK s k).1⟩),(0,⟨.box,148,4,[.agg [.int .i64 0,.int .i64 0,.int .i64 0,.nilS]]⟩)],4096,[],54,0,[]⟩
set_option maxHeartbeats 2000000 in
theorem ySd(b:List UInt8):FnD Tryz.prog 80 [.sl 1 (bts b)] (.tup [lcmV (ocC b),.int .i64 (ocE b)]):=by
 have hpb:=zAg b
 have hS:ocS b=(⟨(oneF ⟨b,false⟩ 65535).1,(oneF (oneF ⟨b,false⟩ 65535).2 1048576).1,(oneF (oneF (oneF ⟨b,false⟩ 65535).2 1048576).2 1048576).1,(ocK (oneF (oneF (oneF (oneF ⟨b,false⟩ 65535).2 1048576).2 1048576).2 8).2 (oneF (oneF (oneF (oneF ⟨b,false⟩ 65535).2 1048576).2 1048576).2 8).1.toNat).1⟩,
  (ocK (oneF (oneF (oneF (oneF ⟨b,false⟩ 65535).2 1048576).2 1048576).2 8).2 (oneF (oneF (oneF (oneF ⟨b,false⟩ 65535).2 1048576).2 1048576).2 8).1.toNat).2):=rfl
 have q1:=zKv ⟨b,false⟩ 65535 (by decide)
 have q2:=zKv (oneF ⟨b,false⟩ 65535).2 1048576 (by decide)
 have q3:=zKv (oneF (oneF ⟨b,false⟩ 65535).2 1048576).2 1048576 (by decide)
 have q4:=zKv (oneF (oneF (oneF ⟨b,false⟩ 65535).2 1048576).2 1048576).2 8 (by decide)
 have hn:=xOu (oneF (oneF (oneF ⟨b,false⟩ 65535).2 1048576).2 1048576).2 (most:=8) (by decide)
 generalize oneF ⟨b,false⟩ 65535=A at *
 obtain⟨a,s1⟩:=A
 simp only at *
 generalize oneF s1 1048576=C at *
 obtain⟨c,s2⟩:=C
 simp only at *
 generalize oneF s2 1048576=O at *
 obtain⟨o,s3⟩:=O
 simp only at *
 generalize oneF s3 8=N at *
 obtain⟨n,s4⟩:=N
 simp only at *
 obtain⟨m,rfl⟩:=Int.eq_ofNat_of_zero_le hn.1
 have hm8:m≤8:=by omega
 simp only[Int.toNat_natCast]at hS
 have hG:ocG b=(!(ocS b).2.bad&&(cmdE (ocS b).1 == 0)&&(cmdB (ocS b).1 == b)):=rfl
 have hC:ocC b=if ocG b=true then(ocS b).1 else⟨0,0,0,[]⟩:=rfl
 have hE:ocE b=if ocG b=true then 0 else 8:=rfl
 rw[hS]at hG hC
 simp only at hG hC
 have hF0:∀k,ocF b a c o s4 m k=⟨[(23,.int .i64 k),(22,.int .i64 (m:Int)),(6,.ptr 32 1 0 0),(5,.func (.func 141) [.ptr 64 1 0 0] []),(4,.ptr 64 1 0 0),(2,.ptr 0 1 0 0),(0,.sl 1 (bts b)),(3,.int .i64 0)],
  [(64,rdL (ocK s4 k).2),(32,⟨.box,148,4,[.agg [.int .i64 a,.int .i64 c,.int .i64 o,.obj 48 k]]⟩),(48,⟨.arr,3,1,ints (ocK s4 k).1⟩),(0,⟨.box,148,4,[.agg [.int .i64 0,.int .i64 0,.int .i64 0,.nilS]]⟩)],4096,[],54,0,[]⟩:=fun k=>rfl
 refine zAd mixed Tryz.func80 rfl rfl (by simp[Tryz.ntmps80]) fun hwf E=>?_
 clear hwf
 simp(disch:=omega)[Tryz.ntmps80,go_sem]
 refine zAf q1 [(0,some 64)] [64] [] [] ?_ ?_ ?_ (.inl ⟨rfl,.inl rfl⟩) (fun _=>?_)
 ·simp[go_sem]
 ·simp[go_sem,rdL]
 ·simp[go_sem,rdL]
 simp(disch:=omega)[go_sem,rdL]
 refine zAf q2 [(0,some 64)] [64] [] [] ?_ ?_ ?_ (.inl ⟨rfl,.inl rfl⟩) (fun _=>?_)
 ·simp[go_sem]
 ·simp[go_sem,rdL]
 ·simp[go_sem,rdL]
 simp(disch:=omega)[go_sem,rdL]
 refine zAf q3 [(0,some 64)] [64] [] [] ?_ ?_ ?_ (.inl ⟨rfl,.inl rfl⟩) (fun _=>?_)
 ·simp[go_sem]
 ·simp[go_sem,rdL]
 ·simp[go_sem,rdL]
 simp(disch:=omega)[go_sem,rdL]
 refine zAf q4 [(0,some 64)] [64] [] [] ?_ ?_ ?_ (.inl ⟨rfl,.inl rfl⟩) (fun _=>?_)
 ·simp[go_sem]
 ·simp[go_sem,rdL]
 ·simp[go_sem,rdL]
 simp(disch:=omega)[go_sem,rdL]
 have hi0:ints []=[]:=rfl
 refine zAe mixed (ocF b a c o s4 m) (fun k=>k≤m) (fun k=>m-k) 0 (by omega) ?_ ?_
 ·refine Le.mk [(64,some 64),(32,some 256),(48,none),(0,some 0)] [64,256,0] ⟨rfl,rfl,rfl⟩ ?_ ?_ ?_<;>simp[go_sem,rdL,ocF,ocK,hi0]
 ·intro k hk;rw[hF0];simp(disch:=omega)[go_sem,rdL];refine zAc (fun h=>?_) (fun h=>?_)<;>simp at h
  ·have hkl:=yFv s4 k;have q5:=zKv (ocK s4 k).2 1048576 (by decide)
   have e1:ints (ocK s4 k).1++[.int .i64 (oneF (ocK s4 k).2 1048576).1]=ints (ocK s4 (k+1)).1:=by simp[ocK,ints]
   have e2:(ocK s4 (k+1)).2=(oneF (ocK s4 k).2 1048576).2:=rfl;have hpi:=zAo (ocK s4 (k+1)).1;rw[← e2]at q5;simp(disch:=omega)[go_sem];refine zAf q5 [(0,some 64)] [64] [] [] ?_ ?_ ?_ (.inl ⟨rfl,.inl rfl⟩) (fun _=>?_)
   ·simp[go_sem]
   ·simp[go_sem,rdL]
   ·simp[go_sem,rdL]
   simp(disch:=omega)[go_sem,rdL,hkl];refine⟨by omega,.inl (by kernel_rfl),?_⟩
   refine zAb (k+1) (by omega) (by omega) (Le.mk [(64,some 64),(32,some 32),(48,some 48),(0,some 0)] [64,32,48,0] ⟨rfl,rfl,rfl⟩ ?_ ?_ ?_)<;>simp[go_sem,rdL,ocF,e1,hpi]
  ·have hkm:k=m:=by omega
   subst hkm;have hkl:=yFv s4 k;have hpi:=zAo (ocK s4 k).1;have q6:=xKi ⟨a,c,o,(ocK s4 k).1⟩;have q7:=zQh (cmdB ⟨a,c,o,(ocK s4 k).1⟩) b;have hpB:=zAg (cmdB ⟨a,c,o,(ocK s4 k).1⟩);unfold lcmV at *;generalize ocG b=G at *;generalize ocC b=C at *;generalize ocE b=e at *;subst hC hE;generalize cmdE ⟨a,c,o,(ocK s4 k).1⟩=e at *;generalize cmdB ⟨a,c,o,(ocK s4 k).1⟩=B at *;generalize (ocK s4 k).1=sp at *;generalize (ocK s4 k).2=s5 at *;obtain⟨b5,bad⟩:=s5;simp only at *;have hil:(ints sp).length=k:=by rw[zAh,hkl]
   simp(disch:=omega)[go_sem];refine zBx q6 [48] [(48,⟨.ro,3,1,ints sp⟩)] (by simp[go_sem,hil,hpi]) (by simp[go_sem,hpi]) (by simp[go_sem]) (fun _=>?_)
   simp(disch:=omega)[go_sem];cases bad with
   |true=>
    simp only[Bool.not_true,Bool.false_and]at hG;subst hG;simp(disch:=omega)[go_sem,ints]
   |false=>
    by_cases he:e=0
    ·subst he;cases hB:B == b with
     |true=>
      rw[hB]at hG q7;simp only[Bool.not_false,Bool.and_self,BEq.rfl]at hG;subst hG;refine zBj (fun hb=>?_) (fun hb=>?_)
      ·simp(disch:=omega)[go_sem];refine zAa q7 [] (by simp[go_sem]) (.inl rfl) (by simp[go_sem]) (fun _=>?_)
       simp(disch:=omega)[go_sem,hil]
      ·exact absurd hb (by simp)
     |false=>
      rw[hB]at hG q7;simp only[Bool.not_false,Bool.and_false,BEq.rfl]at hG;subst hG;refine zBj (fun hb=>?_) (fun hb=>?_)
      ·simp(disch:=omega)[go_sem];refine zAa q7 [] (by simp[go_sem]) (.inl rfl) (by simp[go_sem]) (fun _=>?_)
       simp(disch:=omega)[go_sem];simp(disch:=omega)[go_sem,ints]
      ·exact absurd hb (by simp)
    ·have hz:(e == 0)=false:=by simpa using he
     rw[hz]at hG;simp only[Bool.not_false,Bool.and_false,Bool.false_and]at hG;subst hG;have hne:(e != 0)=true:=by simpa using he
     simp(disch:=omega)[go_sem,hne,ints]
end
section
attribute [local go_sem] zAm zAh
def zGl(n m:Int):Int:=min (n+1) m
theorem zHi(n m:Int)(h: -4611686018427387904≤n∧n≤4611686018427387904):FnD Tryz.prog 49 [.int .i64 n,.int .i64 m] (.int .i64 (zGl n m)):=by
 unfold zGl
 refine zAd mixed Tryz.func49 rfl rfl (by simp[Tryz.ntmps49]) fun hwf E=>?_
 clear hwf
 simp(disch:=omega)[Tryz.ntmps49,go_sem]
 split<;>omega
def yDy(p:Pln):Bool:=decide (p.cycle=0)&&decide (p.offset=0)&&decide (p.splits.length=0)
theorem yAa(p:Pln):FnD Tryz.prog 98 [plnV p] (.bool (yDy p)):=by
 have e:((p.splits.length:Int) == 0)=decide (p.splits.length=0):=by rw[Bool.eq_iff_iff];simp
 unfold plnV yDy
 refine zAd mixed Tryz.func98 rfl rfl (by simp[Tryz.ntmps98]) fun hwf E=>?_
 clear hwf
 simp(disch:=omega)[Tryz.ntmps98,go_sem]
 rw[e]
 simp[List.length_eq_zero_iff]
def yLy(a b:Pln):Bool:=decide (a.cycle=b.cycle)&&decide (a.offset=b.offset)&&decide (a.splits=b.splits)
theorem yNb(a b:Pln):FnD Tryz.prog 82 [plnV a,plnV b] (.bool (yLy a b)):=by
 have q:=yOc a.splits b.splits
 have ha:=zAo a.splits
 have hb:=zAo b.splits
 have hS:yLy a b=(decide (a.cycle=b.cycle)&&decide (a.offset=b.offset)&&decide (a.splits=b.splits)):=rfl
 generalize yLy a b=r at *
 generalize decide (a.splits=b.splits)=t at *
 unfold plnV
 refine zAd mixed Tryz.func82 rfl rfl (by simp[Tryz.ntmps82]) fun hwf E=>?_
 clear hwf
 simp(disch:=omega)[Tryz.ntmps82,go_sem]
 have e:(decide (a.cycle=b.cycle)&&a.offset == b.offset)=(decide (a.cycle=b.cycle)&&decide (a.offset=b.offset)):=by rw[Bool.eq_iff_iff];simp
 rw[e]
 generalize (decide (a.cycle=b.cycle)&&decide (a.offset=b.offset))=g at *
 cases g with
 |true=>
  simp(disch:=omega)[go_sem];refine zAa q [] (by simp[go_sem]) (.inl rfl) (by simp[go_sem]) (fun _=>?_)
  simp(disch:=omega)[go_sem];rw[hS];simp
 |false=>
  simp(disch:=omega)[go_sem];rw[hS];simp
def twoB(d:List UInt8):Bool:=decide (blkE d.length=0)&&decide (2≤blkM d)
theorem zKw(d:List UInt8):FnD Tryz.prog 25 [devV d] (.bool (twoB d)):=by
 have q1:=zMa d
 have q2:=zNn d
 have hT:twoB d=(decide (blkE d.length=0)&&decide (2≤blkM d)):=rfl
 generalize twoB d=r at *
 generalize blkE d.length=e at *
 generalize blkM d=m at *
 unfold devV at *
 have hd:=zAg d
 refine zAd mixed Tryz.func25 rfl rfl (by simp[Tryz.ntmps25]) fun hwf E=>?_
 clear hwf
 simp(disch:=omega)[Tryz.ntmps25,go_sem]
 refine zAa q1 [] (by simp[go_sem]) (.inl rfl) (by simp[go_sem]) (fun _=>?_)
 simp(disch:=omega)[go_sem]
 refine zAa q2 [] (by simp[go_sem]) (.inl rfl) (by simp[go_sem]) (fun _=>?_)
 simp(disch:=omega)[go_sem]
 rw[hT]
theorem zKp(l:List Pul):zBa (l.map pulV):=zBc _ (fun c=>by simp[pulV,go_sem]) l
theorem yRe(τ:Nat→Nat)(l:List Pul):rens τ (l.map pulV)=l.map pulV:=zDe _ (zKp l)
attribute [go_sem] zKp yRe
theorem yOh(l:List Pul)(hb:l.length≤1048576):FnR Tryz.prog 89 [] [.sl 3 (l.map pulV)] [⟨.arr,163,3,l.map pulV⟩] (.obj 0 l.length):=by
 have hp:=zKp l
 refine zJa (fun hx=>?_) ?_
 ·have hl:l=[]:=by simpa using hx
  subst hl;refine zAv mixed Tryz.func89 rfl rfl (by simp[Tryz.ntmps89]) (by simp) fun hwf E=>?_
  simp(disch:=omega)[Tryz.ntmps89,go_sem];refine Le.mk [(0,none)] [] ⟨rfl,rfl,rfl⟩ ?_ ?_ ?_<;>simp[go_sem]
 ·refine zAv mixed Tryz.func89 rfl rfl (by simp[Tryz.ntmps89]) (by simp) fun hwf E=>?_
  simp(disch:=omega)[go_sem,List.length_map]at hwf;simp(disch:=omega)[Tryz.ntmps89,go_sem,List.length_map];refine⟨⟨by omega,by omega⟩,Le.mk [(0,some 64)] [64] ⟨rfl,rfl,rfl⟩ ?_ ?_ ?_⟩<;>simp[go_sem,hp]
end
section
attribute [local go_sem] zAm zAh
structure LocN where
 disk:List UInt8
 now:SafN
 rung:RunN
 sph:Int
 ssi:Int
 link:LnkN
 rest:List UInt8
 told:Pln
 age:Int
 puls:List Pul
 eyes:List zCx
 gaps:List GapN
 calls:Nat
 wrong:Int
 tick:Int
 greens:List Int
 busy:List Int
 came:List Int
 sent:Int
structure InpN where
 bytes:List UInt8
 eyes:Nat
 back:List Int
 lost:Bool
 whole:Int
 torn:Int
 rot:Bool
structure TckN where
 s:Sit
 x:LocN
 i:InpN
 writes:List (Int × List UInt8)
 was:List Pul
 asks:List Int
 lights:List Int
 out:List UInt8
def tckL(t:TckN)(pu ga gr bu ca:V):List V:=
 [.int .i64 t.s.id,.sl 3 (t.s.groups.map grpV),.sl 1 (sets t.s.apart),.sl 1 (rows t.s.between),.sl 5 (t.s.phases.map phaV),.sl 4 (t.s.eyes.map eyeV),.int .i64 t.s.watch,.int .i64 t.s.feed,.int .i64 t.s.heal,.int .i64 t.s.low,.int .i64 t.s.high,.sl 3 (t.s.plans.map plnV),
  .sl 1 (bts t.x.disk),.sl 3 (t.x.now.groups.map zBb),.int .i64 t.x.now.start,.bool t.x.now.flashed,.int .u8 t.x.rung.mode,.int .i64 t.x.rung.well,.bool t.x.rung.lat,.int .i64 t.x.sph,.int .i64 t.x.ssi,.bool t.x.link.any,.int .u32 t.x.link.last,.int .i64 t.x.link.age,
  .sl 1 (bts t.x.rest),.int .i64 t.x.told.cycle,.int .i64 t.x.told.offset,.sl 1 (ints t.x.told.splits),.int .i64 t.x.age,pu,.sl 5 (t.x.eyes.map zCp),ga,.int .u32 t.x.calls,.int .i64 t.x.wrong,.int .i64 t.x.tick,gr,bu,ca,.int .u32 t.x.sent,
  .sl 1 (bts t.i.bytes),.int .u32 t.i.eyes,.sl 1 (lts t.i.back),.bool t.i.lost,.int .i64 t.i.whole,.int .i64 t.i.torn,.bool t.i.rot,
  .sl 2 (t.writes.map putV),.sl 3 (t.was.map pulV),.sl 1 (lts t.asks),.sl 1 (lts t.lights),.sl 1 (bts t.out)]
def tckD(t:TckN):List V:=tckL t (.sl 3 (t.x.puls.map pulV)) (.sl 5 (t.x.gaps.map gapV)) (.sl 1 (ints t.x.greens)) (.sl 1 (ints t.x.busy)) (.sl 1 (ints t.x.came))
def tckO(t:TckN):AM.Obj:=⟨.box,86,51,[.agg (tckD t)]⟩
theorem zWb(l:List (Int × List UInt8)):zBa (l.map putV):=zBc _ (fun p=>by simp[putV,go_sem]) l
attribute [go_sem] zWb
def zFl(s:Sit):List Int:=List.replicate s.groups.length 4
theorem zWu(t:TckN)(h1:1≤t.s.groups.length)(hg:t.s.groups.length≤16384):FnR Tryz.prog 84 [tckO t] [.ptr 0 1 0 0] [tckO t] (.sl 1 (lts (zFl t.s))):=by
 have q:=yFj t.s.groups.length hg h1
 have hF:zFl t.s=List.replicate t.s.groups.length 4:=rfl
 rw[← hF]at q
 generalize zFl t.s=F at *
 refine zAv mixed Tryz.func84 rfl rfl (by simp[Tryz.ntmps84]) (by simp) fun hwf E=>?_
 clear hwf
 simp(disch:=omega)[Tryz.ntmps84,go_sem,tckO,tckD,tckL]
 refine zHs q [32] (by simp[go_sem]) (by simp[go_sem]) (fun _=>?_)
 simp(disch:=omega)[go_sem]
 refine Le.mk [(0,some 0)] [0] ⟨rfl,rfl,rfl⟩ ?_ ?_ ?_<;>simp[go_sem]
noncomputable def yJg(t:TckN):Bool:=decide (zHg t.x.disk=0)&&decide ((zCe t.x.disk).mode=t.x.rung.mode)&&decide ((zCe t.x.disk).plans.length=1)&&yLy ((zCe t.x.disk).plans.getD 0 ⟨0,0,[]⟩) t.x.told
noncomputable def zJv(t:TckN):TckN:={ t with writes:=if yJg t=true then t.writes else putL t.x.disk t.x.rung.mode [t.x.told] }
set_option maxHeartbeats 4000000 in
theorem zSk(t:TckN):FnR Tryz.prog 38 [tckO t] [.ptr 0 1 0 0] [tckO (zJv t)] (.tup []):=by
 have q1:=zKi t.x.disk
 have q2:=fun a=>yNb a t.x.told
 have q3:=yQi t.x.disk t.x.rung.mode [t.x.told]
 have hW:zJv t={ t with writes:=if yJg t=true then t.writes else putL t.x.disk t.x.rung.mode [t.x.told] }:=rfl
 have hK:yJg t=(decide (zHg t.x.disk=0)&&decide ((zCe t.x.disk).mode=t.x.rung.mode)&&decide ((zCe t.x.disk).plans.length=1)&&yLy ((zCe t.x.disk).plans.getD 0 ⟨0,0,[]⟩) t.x.told):=rfl
 generalize zJv t=T at *
 generalize yJg t=B at *
 generalize zHg t.x.disk=e at *
 generalize zCe t.x.disk=k at *
 obtain⟨kg,km,kp⟩:=k
 unfold devV kepV plnV at *
 simp only at *
 have hq3l:[t.x.told].map (fun p:Pln=>V.agg [.int .i64 p.cycle,.int .i64 p.offset,.sl 1 (ints p.splits)])=[.agg [.int .i64 t.x.told.cycle,.int .i64 t.x.told.offset,.sl 1 (ints t.x.told.splits)]]:=rfl
 rw[hq3l]at q3
 have hP:zBa ((putL t.x.disk t.x.rung.mode [t.x.told]).map putV):=zWb _
 have hbot:zCt Tryz.prog 56 V.bot 0=none:=by rfl
 by_cases he:e=0
 ·subst he;by_cases hm:km=t.x.rung.mode
  ·rw[decide_eq_true hm]at hK;subst hm;rcases kp with _|⟨a,_|⟨a2,r⟩⟩
   ·simp only[List.length_nil,Nat.zero_ne_one,decide_false,Bool.and_false,Bool.false_and]at hK;subst hK;rw[if_neg (by decide)]at hW
    subst hW;refine zAv mixed Tryz.func38 rfl rfl (by simp[Tryz.ntmps38]) (by simp) fun hwf E=>?_
    clear hwf;simp(disch:=omega)[Tryz.ntmps38,go_sem,tckO,tckD,tckL];refine zAa q1 [] (by simp[go_sem]) (.inl rfl) (by simp[go_sem]) (fun _=>?_)
    simp(disch:=omega)[go_sem,hbot];refine⟨.inl (by kernel_rfl),?_⟩
    refine zBx q3 [976] [(976,⟨.ro,56,3,[.agg [.int .i64 t.x.told.cycle,.int .i64 t.x.told.offset,.sl 1 (ints t.x.told.splits)]]⟩)] (by simp[go_sem]) (by simp[go_sem]) (by simp[go_sem]) (fun _=>?_)
    simp(disch:=omega)[go_sem];refine⟨.inl (by kernel_rfl),?_⟩
    refine Le.mk [(0,some 0)] [0] ⟨rfl,rfl,rfl⟩ ?_ ?_ ?_<;>simp[go_sem]
   ·have q2:=q2 a;simp only[List.length_cons,List.length_nil,Nat.zero_add,decide_true,Bool.and_true,Bool.true_and,List.getD_cons_zero]at hK;cases hsm:yLy a t.x.told with
    |true=>
     rw[hsm]at q2 hK;subst hK;rw[if_pos rfl]at hW;subst hW;refine zAv mixed Tryz.func38 rfl rfl (by simp[Tryz.ntmps38]) (by simp) fun hwf E=>?_
     clear hwf;simp(disch:=omega)[Tryz.ntmps38,go_sem,tckO,tckD,tckL];refine zAa q1 [] (by simp[go_sem]) (.inl rfl) (by simp[go_sem]) (fun _=>?_)
     simp(disch:=omega)[go_sem];refine zAa q2 [] (by simp[go_sem]) (.inl rfl) (by simp[go_sem]) (fun _=>?_)
     simp(disch:=omega)[go_sem];refine⟨.inl (by kernel_rfl),?_⟩
     refine Le.mk [(0,some 0)] [0] ⟨rfl,rfl,rfl⟩ ?_ ?_ ?_<;>simp[go_sem]
    |false=>
     rw[hsm]at q2 hK;subst hK;rw[if_neg (by decide)]at hW
     subst hW;refine zAv mixed Tryz.func38 rfl rfl (by simp[Tryz.ntmps38]) (by simp) fun hwf E=>?_
     clear hwf;simp(disch:=omega)[Tryz.ntmps38,go_sem,tckO,tckD,tckL];refine zAa q1 [] (by simp[go_sem]) (.inl rfl) (by simp[go_sem]) (fun _=>?_)
     simp(disch:=omega)[go_sem];refine zAa q2 [] (by simp[go_sem]) (.inl rfl) (by simp[go_sem]) (fun _=>?_)
     simp(disch:=omega)[go_sem];refine⟨.inl (by kernel_rfl),?_⟩
     refine zBx q3 [976] [(976,⟨.ro,56,3,[.agg [.int .i64 t.x.told.cycle,.int .i64 t.x.told.offset,.sl 1 (ints t.x.told.splits)]]⟩)] (by simp[go_sem]) (by simp[go_sem]) (by simp[go_sem]) (fun _=>?_)
     simp(disch:=omega)[go_sem];refine⟨.inl (by kernel_rfl),?_⟩
     refine Le.mk [(0,some 0)] [0] ⟨rfl,rfl,rfl⟩ ?_ ?_ ?_<;>simp[go_sem]
   ·simp only[List.length_cons,Bool.and_false,Bool.false_and,decide_eq_false (show ¬r.length+1+1=1 by omega)]at hK
    subst hK;rw[if_neg (by decide)]at hW
    subst hW;have hl2:(((r.length:Int)+1+1) == 1)=false:=by rw[beq_eq_false_iff_ne];omega
    refine zAv mixed Tryz.func38 rfl rfl (by simp[Tryz.ntmps38]) (by simp) fun hwf E=>?_
    clear hwf;simp(disch:=omega)[Tryz.ntmps38,go_sem,tckO,tckD,tckL];refine zAa q1 [] (by simp[go_sem]) (.inl rfl) (by simp[go_sem]) (fun _=>?_)
    simp(disch:=omega)[go_sem,hl2];refine⟨.inl (by kernel_rfl),?_⟩
    refine zBx q3 [976] [(976,⟨.ro,56,3,[.agg [.int .i64 t.x.told.cycle,.int .i64 t.x.told.offset,.sl 1 (ints t.x.told.splits)]]⟩)] (by simp[go_sem]) (by simp[go_sem]) (by simp[go_sem]) (fun _=>?_)
    simp(disch:=omega)[go_sem];refine⟨.inl (by kernel_rfl),?_⟩
    refine Le.mk [(0,some 0)] [0] ⟨rfl,rfl,rfl⟩ ?_ ?_ ?_<;>simp[go_sem]
  ·rw[decide_eq_false hm]at hK;simp only[Bool.and_false,Bool.false_and]at hK;subst hK;rw[if_neg (by decide)]at hW
   have hm2:(km == t.x.rung.mode)=false:=by simpa using hm
   subst hW;rcases kp with _|⟨a,r⟩
   ·skip
    refine zAv mixed Tryz.func38 rfl rfl (by simp[Tryz.ntmps38]) (by simp) fun hwf E=>?_
    clear hwf;simp(disch:=omega)[Tryz.ntmps38,go_sem,tckO,tckD,tckL];refine zAa q1 [] (by simp[go_sem]) (.inl rfl) (by simp[go_sem]) (fun _=>?_)
    simp(disch:=omega)[go_sem,hbot,hm2];refine⟨.inl (by kernel_rfl),?_⟩
    refine zBx q3 [976] [(976,⟨.ro,56,3,[.agg [.int .i64 t.x.told.cycle,.int .i64 t.x.told.offset,.sl 1 (ints t.x.told.splits)]]⟩)] (by simp[go_sem]) (by simp[go_sem]) (by simp[go_sem]) (fun _=>?_)
    simp(disch:=omega)[go_sem];refine⟨.inl (by kernel_rfl),?_⟩
    refine Le.mk [(0,some 0)] [0] ⟨rfl,rfl,rfl⟩ ?_ ?_ ?_<;>simp[go_sem]
   ·skip
    refine zAv mixed Tryz.func38 rfl rfl (by simp[Tryz.ntmps38]) (by simp) fun hwf E=>?_
    clear hwf;simp(disch:=omega)[Tryz.ntmps38,go_sem,tckO,tckD,tckL];refine zAa q1 [] (by simp[go_sem]) (.inl rfl) (by simp[go_sem]) (fun _=>?_)
    simp(disch:=omega)[go_sem,hm2];refine⟨.inl (by kernel_rfl),?_⟩
    refine zBx q3 [976] [(976,⟨.ro,56,3,[.agg [.int .i64 t.x.told.cycle,.int .i64 t.x.told.offset,.sl 1 (ints t.x.told.splits)]]⟩)] (by simp[go_sem]) (by simp[go_sem]) (by simp[go_sem]) (fun _=>?_)
    simp(disch:=omega)[go_sem];refine⟨.inl (by kernel_rfl),?_⟩
    refine Le.mk [(0,some 0)] [0] ⟨rfl,rfl,rfl⟩ ?_ ?_ ?_<;>simp[go_sem]
 ·rw[decide_eq_false he]at hK;simp only[Bool.false_and]at hK;subst hK;rw[if_neg (by decide)]at hW
  have he2:(e == 0)=false:=by simpa using he
  subst hW;rcases kp with _|⟨a,r⟩
  ·skip
   refine zAv mixed Tryz.func38 rfl rfl (by simp[Tryz.ntmps38]) (by simp) fun hwf E=>?_
   clear hwf;simp(disch:=omega)[Tryz.ntmps38,go_sem,tckO,tckD,tckL];refine zAa q1 [] (by simp[go_sem]) (.inl rfl) (by simp[go_sem]) (fun _=>?_)
   simp(disch:=omega)[go_sem,hbot,he2];refine⟨.inl (by kernel_rfl),?_⟩
   refine zBx q3 [976] [(976,⟨.ro,56,3,[.agg [.int .i64 t.x.told.cycle,.int .i64 t.x.told.offset,.sl 1 (ints t.x.told.splits)]]⟩)] (by simp[go_sem]) (by simp[go_sem]) (by simp[go_sem]) (fun _=>?_)
   simp(disch:=omega)[go_sem];refine⟨.inl (by kernel_rfl),?_⟩
   refine Le.mk [(0,some 0)] [0] ⟨rfl,rfl,rfl⟩ ?_ ?_ ?_<;>simp[go_sem]
  ·skip
   refine zAv mixed Tryz.func38 rfl rfl (by simp[Tryz.ntmps38]) (by simp) fun hwf E=>?_
   clear hwf;simp(disch:=omega)[Tryz.ntmps38,go_sem,tckO,tckD,tckL];refine zAa q1 [] (by simp[go_sem]) (.inl rfl) (by simp[go_sem]) (fun _=>?_)
   simp(disch:=omega)[go_sem,he2];refine⟨.inl (by kernel_rfl),?_⟩
   refine zBx q3 [976] [(976,⟨.ro,56,3,[.agg [.int .i64 t.x.told.cycle,.int .i64 t.x.told.offset,.sl 1 (ints t.x.told.splits)]]⟩)] (by simp[go_sem]) (by simp[go_sem]) (by simp[go_sem]) (fun _=>?_)
   simp(disch:=omega)[go_sem];refine⟨.inl (by kernel_rfl),?_⟩
   refine Le.mk [(0,some 0)] [0] ⟨rfl,rfl,rfl⟩ ?_ ?_ ?_<;>simp[go_sem]
end
section
attribute [local go_sem] zAm zAh
def zCq(t:TckN):List UInt8:=t.x.rest++t.i.bytes.take 8192
def yNr(a:List UInt8):List UInt8:=if 0≤zKy a 126∧(a.length:Int)-zKy a 126≤2048 then a.drop (zKy a 126).toNat else[]
noncomputable def lheS(s:Sit)(p:Pln × Bool)(m:MsgN):Pln × Bool:=
 if m.kind=2∧ocE m.body=0∧(ocC m.body).site=s.id then(zPf s (ocC m.body).pln,true)else p
noncomputable def heK(s:Sit)(p:Pln)(l:List MsgN):Nat→Pln × Bool
 |0=>(p,false)
 |k+1=>lheS s (heK s p l k) (l.getD k ⟨0,0,[]⟩)
noncomputable def zBv(t:TckN):List MsgN:=nxtT t.x.link (zPv (zCq t))
noncomputable def zQc(t:TckN):Pln × Bool:=heK t.s t.x.told (zBv t) (zBv t).length
noncomputable def zEx(t:TckN):TckN:={ t with x:={ t.x with rest:=yNr (zCq t),link:=nxtL t.x.link (zPv (zCq t)),told:=(zQc t).1,age:=if(zQc t).2=true then 0 else zGl t.x.age 1048576 } }
noncomputable def heT(t:TckN)(k:Nat):TckN:={ t with x:={ t.x with rest:=yNr (zCq t),link:=nxtL t.x.link (zPv (zCq t)),told:=(heK t.s t.x.told (zBv t) k).1 } }
noncomputable def heF(t:TckN)(k:Nat):St:=⟨[(80,.int .i64 k),(79,.int .i64 (zBv t).length),(78,.sl 3 ((zBv t).map msgV)),(10,.bool (heK t.s t.x.told (zBv t) k).2),(0,.ptr 0 1 0 0)],[(0,tckO (heT t k))],8192,[],143,1,tabG⟩
set_option maxHeartbeats 4000000 in
theorem zVt(t:TckN)(hOk:zAk t.s)(hr:t.x.rest.length≤2048)(hage:0≤t.x.age∧t.x.age≤1048576):FnR Tryz.prog 37 [tckO t] [.ptr 0 1 0 0] [tckO (zEx t)] (.bool (zQc t).2) tabG:=by
 have hA:zCq t=t.x.rest++t.i.bytes.take 8192:=rfl
 have hAl:(zCq t).length≤10240:=by rw[hA];simp;omega
 have hA2:[t.x.rest,t.i.bytes.take 8192].flatten=zCq t:=by simp[hA]
 have q1:=yOf [t.x.rest,t.i.bytes.take 8192] (by rw[hA2];omega) (by simp)
 rw[hA2]at q1
 have hbl:[t.x.rest,t.i.bytes.take 8192].map btlV=[.sl 1 (bts t.x.rest),.sl 1 (bts (t.i.bytes.take 8192))]:=rfl
 rw[hbl]at q1
 have q2:=yQt (zCq t) (by omega)
 have q3:=yNd t.x.link (zPv (zCq t))
 have hM:nxtT t.x.link (zPv (zCq t))=zBv t:=rfl
 rw[hM]at q3
 unfold lnkV at q3
 have hmp:∀l:List MsgN,zBa (l.map msgV):=zOh
 have hlx:=yJc (zCq t) 126 (zCq t).length
 have hlN:zKy (zCq t) 126=zVi (zCq t) 126 (zCq t).length:=rfl
 rw[← hlN]at hlx
 have hR:yNr (zCq t)=if 0≤zKy (zCq t) 126∧((zCq t).length:Int)-zKy (zCq t) 126≤2048 then(zCq t).drop (zKy (zCq t) 126).toNat else[]:=rfl
 have q4:=fun b=>zQj b
 have hmn:(if(t.i.bytes.length:Int)<8192 then(t.i.bytes.length:Int)else 8192)=((min t.i.bytes.length 8192:Nat):Int):=by split<;>omega
 have htk:List.take (min t.i.bytes.length 8192) (bts t.i.bytes)=bts (t.i.bytes.take 8192):=by
  rw[zBy];congr 1;by_cases h:t.i.bytes.length≤8192
  ·rw[List.take_of_length_le (by omega),List.take_of_length_le (by omega)]
  ·rw[show min t.i.bytes.length 8192=8192 by omega]
 have hpA:=zAg (zCq t)
 have hcl:∀b:List UInt8,b.length≤1048576→FnR Tryz.prog 61 [] [.sl 1 (bts b)] [⟨.arr,5,1,bts b⟩] (.obj 0 b.length):=by
  intro b hb;have:=zZm (b.map fun x=>(x.toNat:Int)) (by simpa using hb)
  have e:lts (b.map fun x=>(x.toNat:Int))=bts b:=by simp[lts,bts]
  rw[e,List.length_map]at this;exact this
 have hF:∀k,heF t k=⟨[(80,.int .i64 k),(79,.int .i64 (zBv t).length),(78,.sl 3 ((zBv t).map msgV)),(10,.bool (heK t.s t.x.told (zBv t) k).2),(0,.ptr 0 1 0 0)],[(0,tckO (heT t k))],8192,[],143,1,tabG⟩:=fun _=>rfl
 have hml:(zBv t).length≤10240:=by
  have h1:(zPv (zCq t)).length≤(zCq t).length:=zZi _ _;have h2:=zYk t.x.link (zPv (zCq t)) (zPv (zCq t)).length;unfold zBv nxtT;split
  ·omega
  ·simp
 have hb0:bts ([]:List UInt8)=[]:=rfl
 have hPd:zQc t=heK t.s t.x.told (zBv t) (zBv t).length:=rfl
 have qm:=zHi t.x.age 1048576 (by omega)
 have hsv:=zAr t.s
 by_cases hc:0≤zKy (zCq t) 126∧((zCq t).length:Int)-zKy (zCq t) 126≤2048
 ·rw[if_pos hc]at hR;have q5:=hcl ((zCq t).drop (zKy (zCq t) 126).toNat) (by rw[List.length_drop];omega)
  generalize zKy (zCq t) 126=last at *;obtain⟨ln,rfl⟩:=Int.eq_ofNat_of_zero_le hc.1;have hdr:List.drop ln (List.take (zCq t).length (bts (zCq t)))=bts ((zCq t).drop ln):=by rw[List.take_of_length_le (by rw[zAm];omega),zDs]
  rw[Int.toNat_natCast]at q5 hR;refine zAv mixed Tryz.func37 rfl rfl (by simp[Tryz.ntmps37]) (by simp) fun hwf E=>?_
  clear hwf;simp(disch:=omega)[Tryz.ntmps37,go_sem,tckO,tckD,tckL,hmn,htk];refine⟨by omega,?_⟩
  refine zAf q1 [] [] [320] [] ?_ ?_ ?_ (.inl ⟨rfl,.inr (by simp[go_sem])⟩) (fun _=>?_) (by simp[tabG,go_sem])
  iterate 3 (· simp[go_sem])
  simp(disch:=omega)[go_sem];refine⟨.inl (by kernel_rfl),?_⟩
  refine zBx q2 [336] [(336,⟨.ro,5,1,bts (zCq t)⟩)] (by simp[go_sem]) (by simp[go_sem]) (by simp[go_sem]) (fun _=>?_) (by simp[tabG,go_sem])
  simp(disch:=omega)[go_sem];refine zAc (fun b1=>?_) (fun b1=>?_)<;>simp at b1
  ·have hhd:List.drop ln (bts (zCq t))=bts ((zCq t).drop ln):=zDs _ _;simp(disch:=omega)[go_sem,hdr];refine⟨by omega,?_⟩
   refine zAf q5 [] [] [] [] ?_ ?_ ?_ (.inl ⟨rfl,.inl rfl⟩) (fun _=>?_) (by simp[tabG,go_sem])
   iterate 3 (· simp[go_sem])
   simp(disch:=omega)[go_sem];refine zAa q3 [] (by simp[go_sem]) (.inl rfl) (by simp[go_sem]) (fun _=>?_) (by simp[tabG,go_sem])
   simp(disch:=omega)[go_sem];refine zAe mixed (heF t) (fun k=>k≤(zBv t).length) (fun k=>(zBv t).length-k) 0 (by omega) ?_ ?_
   ·refine Le.mk [(0,some 0)] [0] ⟨rfl,rfl,rfl⟩ ?_ ?_ ?_<;>simp[go_sem,tckO,tckD,tckL,heF,heT,heK,hR]
   ·intro k hk;rw[hF k];simp(disch:=omega)[go_sem,tckO,tckD,tckL,heT];refine zAc (fun d1=>?_) (fun d1=>?_)<;>simp at d1
    ·have hsu:heK t.s t.x.told (zBv t) (k+1)=lheS t.s (heK t.s t.x.told (zBv t) k) (zBv t)[k]:=by simp[heK,d1]
     have hF1:=hF (k+1);have q6:=ySd (zBv t)[k].body;have q7:=fun p=>zQi t.s p hOk
     unfold lheS at hsu;generalize hx:(zBv t)[k]=m at *;obtain⟨kd,sq,bd⟩:=m;have hpd:=zAg bd;have hmV:msgV ⟨kd,sq,bd⟩= .agg [.int .u8 kd,.int .u32 sq,.sl 1 (bts bd)]:=rfl;simp only at hsu q6;generalize ocC bd=C at *;generalize ocE bd=e at *;generalize hK1:heK t.s t.x.told (zBv t) (k+1)=K1 at *;generalize heK t.s t.x.told (zBv t) k=K0 at *;obtain⟨cs,cc,co,csp⟩:=C;unfold lcmV at q6;unfold CmdN.pln at hsu;simp only at hsu q6;have hcp:=zAo csp;simp(disch:=omega)[go_sem,d1,hx,hmV];refine zAa q6 [] (by simp[go_sem]) (.inl rfl) (by simp[go_sem]) (fun _=>?_)
     simp(disch:=omega)[go_sem];refine⟨.inl (by kernel_rfl),?_⟩
     refine zAc (fun d2=>?_) (fun d2=>?_)<;>simp at d2
     ·rw[if_pos ⟨d2.1.1,d2.1.2,d2.2⟩]at hsu;have q8:=q7 ⟨cc,co,csp⟩;have hpv:plnV ⟨cc,co,csp⟩= .agg [.int .i64 cc,.int .i64 co,.sl 1 (ints csp)]:=rfl;have hcv:∀p:Pln,plnV p= .agg [.int .i64 p.cycle,.int .i64 p.offset,.sl 1 (ints p.splits)]:=fun _=>rfl
      rw[hsv,hpv,hcv]at q8;generalize zPf t.s ⟨cc,co,csp⟩=Q at *;subst hsu;simp(disch:=omega)[go_sem];refine zAa q8 [] (by simp[go_sem]) (.inl rfl) (by simp[go_sem]) (fun _=>?_) (by simp[tabG,go_sem])
      simp(disch:=omega)[go_sem];refine⟨.inl (by kernel_rfl),?_⟩
      refine zAb (k+1) (by omega) (by omega) (Le.mk [(0,some 0)] [0] ⟨rfl,rfl,rfl⟩ ?_ ?_ ?_)<;>simp[go_sem,tckO,tckD,tckL,hF1,heT,hK1]
     ·rw[if_neg (fun h=>d2 h.1 h.2.1 h.2.2)]at hsu
      subst hsu;simp(disch:=omega)[go_sem];refine zAb (k+1) (by omega) (by omega) (Le.mk [(0,some 0)] [0] ⟨rfl,rfl,rfl⟩ ?_ ?_ ?_)<;>simp[go_sem,tckO,tckD,tckL,hF1,heT,hK1]
    ·have hkk:k=(zBv t).length:=by omega
     subst hkk;simp(disch:=omega)[go_sem];refine zAa qm [] (by simp[go_sem]) (.inl rfl) (by simp[go_sem]) (fun _=>?_)
     simp(disch:=omega)[go_sem];rw[hPd];generalize heK t.s t.x.told (zBv t) (zBv t).length=KK at *;obtain⟨kp,kf⟩:=KK;cases kf with
     |true=>
      simp(disch:=omega)[go_sem];refine Le.mk [(0,some 0)] [0] ⟨rfl,rfl,rfl⟩ ?_ ?_ ?_<;>simp[go_sem,zEx,hPd,hR]
     |false=>
      simp(disch:=omega)[go_sem];refine Le.mk [(0,some 0)] [0] ⟨rfl,rfl,rfl⟩ ?_ ?_ ?_<;>simp[go_sem,zEx,hPd,hR]
  ·exact absurd b1 (by omega)
 ·rw[if_neg hc]at hR;generalize zKy (zCq t) 126=last at *;refine zAv mixed Tryz.func37 rfl rfl (by simp[Tryz.ntmps37]) (by simp) fun hwf E=>?_
  clear hwf;simp(disch:=omega)[Tryz.ntmps37,go_sem,tckO,tckD,tckL,hmn,htk];refine⟨by omega,?_⟩
  refine zAf q1 [] [] [320] [] ?_ ?_ ?_ (.inl ⟨rfl,.inr (by simp[go_sem])⟩) (fun _=>?_) (by simp[tabG,go_sem])
  iterate 3 (· simp[go_sem])
  simp(disch:=omega)[go_sem];refine⟨.inl (by kernel_rfl),?_⟩
  refine zBx q2 [336] [(336,⟨.ro,5,1,bts (zCq t)⟩)] (by simp[go_sem]) (by simp[go_sem]) (by simp[go_sem]) (fun _=>?_) (by simp[tabG,go_sem])
  simp(disch:=omega)[go_sem];refine zAc (fun b1=>?_) (fun b1=>?_)<;>simp at b1
  ·exact absurd b1 (by omega)
  ·simp(disch:=omega)[go_sem];refine zAa q3 [] (by simp[go_sem]) (.inl rfl) (by simp[go_sem]) (fun _=>?_) (by simp[tabG,go_sem])
   simp(disch:=omega)[go_sem];refine zAe mixed (heF t) (fun k=>k≤(zBv t).length) (fun k=>(zBv t).length-k) 0 (by omega) ?_ ?_
   ·refine Le.mk [(0,some 0)] [0] ⟨rfl,rfl,rfl⟩ ?_ ?_ ?_<;>simp[go_sem,tckO,tckD,tckL,heF,heT,heK,hR,hb0]
   ·intro k hk;rw[hF k];simp(disch:=omega)[go_sem,tckO,tckD,tckL,heT];refine zAc (fun d1=>?_) (fun d1=>?_)<;>simp at d1
    ·have hsu:heK t.s t.x.told (zBv t) (k+1)=lheS t.s (heK t.s t.x.told (zBv t) k) (zBv t)[k]:=by simp[heK,d1]
     have hF1:=hF (k+1);have q6:=ySd (zBv t)[k].body;have q7:=fun p=>zQi t.s p hOk
     unfold lheS at hsu;generalize hx:(zBv t)[k]=m at *;obtain⟨kd,sq,bd⟩:=m;have hpd:=zAg bd;have hmV:msgV ⟨kd,sq,bd⟩= .agg [.int .u8 kd,.int .u32 sq,.sl 1 (bts bd)]:=rfl;simp only at hsu q6;generalize ocC bd=C at *;generalize ocE bd=e at *;generalize hK1:heK t.s t.x.told (zBv t) (k+1)=K1 at *;generalize heK t.s t.x.told (zBv t) k=K0 at *;obtain⟨cs,cc,co,csp⟩:=C;unfold lcmV at q6;unfold CmdN.pln at hsu;simp only at hsu q6;have hcp:=zAo csp;simp(disch:=omega)[go_sem,d1,hx,hmV];refine zAa q6 [] (by simp[go_sem]) (.inl rfl) (by simp[go_sem]) (fun _=>?_)
     simp(disch:=omega)[go_sem];refine⟨.inl (by kernel_rfl),?_⟩
     refine zAc (fun d2=>?_) (fun d2=>?_)<;>simp at d2
     ·rw[if_pos ⟨d2.1.1,d2.1.2,d2.2⟩]at hsu;have q8:=q7 ⟨cc,co,csp⟩;have hpv:plnV ⟨cc,co,csp⟩= .agg [.int .i64 cc,.int .i64 co,.sl 1 (ints csp)]:=rfl;have hcv:∀p:Pln,plnV p= .agg [.int .i64 p.cycle,.int .i64 p.offset,.sl 1 (ints p.splits)]:=fun _=>rfl
      rw[hsv,hpv,hcv]at q8;generalize zPf t.s ⟨cc,co,csp⟩=Q at *;subst hsu;simp(disch:=omega)[go_sem];refine zAa q8 [] (by simp[go_sem]) (.inl rfl) (by simp[go_sem]) (fun _=>?_) (by simp[tabG,go_sem])
      simp(disch:=omega)[go_sem];refine⟨.inl (by kernel_rfl),?_⟩
      refine zAb (k+1) (by omega) (by omega) (Le.mk [(0,some 0)] [0] ⟨rfl,rfl,rfl⟩ ?_ ?_ ?_)<;>simp[go_sem,tckO,tckD,tckL,hF1,heT,hK1]
     ·rw[if_neg (fun h=>d2 h.1 h.2.1 h.2.2)]at hsu
      subst hsu;simp(disch:=omega)[go_sem];refine zAb (k+1) (by omega) (by omega) (Le.mk [(0,some 0)] [0] ⟨rfl,rfl,rfl⟩ ?_ ?_ ?_)<;>simp[go_sem,tckO,tckD,tckL,hF1,heT,hK1]
    ·have hkk:k=(zBv t).length:=by omega
     subst hkk;simp(disch:=omega)[go_sem];refine zAa qm [] (by simp[go_sem]) (.inl rfl) (by simp[go_sem]) (fun _=>?_)
     simp(disch:=omega)[go_sem];rw[hPd];generalize heK t.s t.x.told (zBv t) (zBv t).length=KK at *;obtain⟨kp,kf⟩:=KK;cases kf with
     |true=>
      simp(disch:=omega)[go_sem];refine Le.mk [(0,some 0)] [0] ⟨rfl,rfl,rfl⟩ ?_ ?_ ?_<;>simp[go_sem,zEx,hPd,hR]
     |false=>
      simp(disch:=omega)[go_sem];refine Le.mk [(0,some 0)] [0] ⟨rfl,rfl,rfl⟩ ?_ ?_ ?_<;>simp[go_sem,zEx,hPd,hR]
end
end Go.Proofs.YtlgbdpabcbcmcaaGreatDoor
