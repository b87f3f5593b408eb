/- Contracts and laws beneath the statement, in build order. -/
import Derived.Test.YtlgbdpabcbcmcaaGreatDoorLNAmClose
import Derived.Test.YtlgbdpabcbcmcaaGreatDoorLNFacts
import Derived.Test.YtlgbdpabcbcmcaaGreatDoorRows
import Derived.Test.YtlgbdpabcbcmcaaGreatDoorTie
import Derived.Test.YtlgbdpabcbcmcaaGreatDoorCards
import Derived.Carry
import Derived.ProofKit
import Derived.LaidMore
import Derived.OpenShut
import Derived.Stop.Joined
import Derived.Test.YtlgbdpabcbcmcaaGreatDoorLNAmMore
import Derived.Shelf.Bytes.SlJoin
set_option linter.unusedSimpArgs false
set_option linter.unusedVariables false
namespace Go.Proofs.YtlgbdpabcbcmcaaGreatDoor
open Go.AM Go.RowKit
set_option maxRecDepth 100000
section
def bitN(i:Int):Nat:=if i<0∨i>31 then 0 else 2 ^ i.toNat
theorem zFy(i:Int):bitN i<4294967296:=by
 unfold bitN
 split
 ·omega
 ·have:i.toNat≤31:=by omega
  calc 2 ^ i.toNat≤2 ^ 31:=Nat.pow_le_pow_right (by omega) this
   _<_:=by decide
theorem zZo(i:Int):FnD Tryz.prog 178 [.int .i64 i] (.int .u32 (bitN i)):=by
 refine zAd mixed Tryz.func178 rfl rfl (by simp[Tryz.ntmps178]) fun hwf E=>?_
 simp(disch:=omega)[Tryz.ntmps178,go_sem]
 refine zAc (fun h=>?_) (fun h=>?_)<;>simp at h<;>simp(disch:=omega)[go_sem]
 ·unfold bitN;rw[if_pos (by omega)];rfl
 ·have e:bitN i=2 ^ i.toNat:=by unfold bitN;rw[if_neg (by omega)]
  have:=zFy i;refine⟨by omega,?_⟩
  rw[e]at this ⊢;have e2:(2:Int) ^ i.toNat=((2 ^ i.toNat:Nat):Int):=by simp
  rw[e2];generalize 2 ^ i.toNat=q at this ⊢;exact zLl (by omega) (by omega)
def zEa(s:Nat)(i:Int):Nat:=zNo s (bitN i)
theorem yDg(i:Int)(j:Nat)(hj:j<32):(bitN i).testBit j=decide ((j:Int)=i):=by
 unfold bitN
 split
 ·rename_i h;simp;omega
 ·rename_i h;rw[Nat.testBit_two_pow]
  congr 1
  rw[eq_iff_iff];omega
theorem zOr{s:Nat}(hs:s<4294967296){j:Nat}(hj:¬j<32):s.testBit j=false:=by
 have h2:2 ^ 32≤2 ^ j:=Nat.pow_le_pow_right (by omega) (by omega)
 exact Nat.testBit_lt_two_pow (Nat.lt_of_lt_of_le hs h2)
theorem zJd(s:Nat)(i:Int):zEa s i<4294967296:=BitVec.isLt _
theorem zGj{s:Nat}(hs:s<4294967296)(i:Int)(j:Nat):(zEa s i).testBit j=(s.testBit j&& !decide ((j:Int)=i)):=by
 by_cases hj:j<32
 ·unfold zEa zNo;rw[BitVec.toNat_and,BitVec.toNat_not,Nat.testBit_and];simp[Nat.mod_eq_of_lt hs,Nat.mod_eq_of_lt (zFy i)];have hb:=zFy i;rw[show 4294967295-bitN i=2 ^ 32-(bitN i+1) by omega,Nat.testBit_two_pow_sub_succ (n:=32) hb,yDg i j hj]
  simp[hj]
 ·rw[zOr (zJd s i) hj,zOr hs hj];rfl
def hasN(s:Nat)(i:Int):Bool:=decide (0≤i)&&s.testBit i.toNat
theorem xEp{s:Nat}(hs:s<4294967296)(i:Int):((((s &&& bitN i:Nat):Int)) != 0)=hasN s i:=by
 unfold hasN
 by_cases h:i<0∨i>31
 ·have:bitN i=0:=by unfold bitN;rw[if_pos h]
  rw[this];rcases h with h|h
  ·simp[show ¬0≤i by omega]
  ·rw[zOr hs (by omega:¬i.toNat<32)];simp
 ·have:bitN i=2 ^ i.toNat:=by unfold bitN;rw[if_neg h]
  rw[this];simp only[show 0≤i by omega,decide_true,Bool.true_and]
  cases hb:s.testBit i.toNat
  ·have:s &&& 2 ^ i.toNat=0:=by
    apply Nat.eq_of_testBit_eq
    intro j;rw[Nat.testBit_and,Nat.testBit_two_pow,Nat.zero_testBit];by_cases e:i.toNat=j
    ·subst e;simp[hb]
    ·simp[e]
   rw[this];rfl
  ·have:s &&& 2 ^ i.toNat≠0:=by
    intro e;have h2:(s &&& 2 ^ i.toNat).testBit i.toNat=true:=by rw[Nat.testBit_and,hb,Nat.testBit_two_pow];simp
    rw[e]at h2;simp at h2
   simp;omega
theorem zYz(s:Nat)(i:Int)(hs:s<4294967296):FnD Tryz.prog 114 [.int .u32 s,.int .i64 i] (.bool (hasN s i)):=by
 refine zAd mixed Tryz.func114 rfl rfl (by simp[Tryz.ntmps114]) fun hwf E=>?_
 simp(disch:=omega)[Tryz.ntmps114,go_sem]
 refine zAa (zZo i) [] (by simp[go_sem]) (.inl rfl) (by simp[go_sem]) fun _=>?_
 simp(disch:=omega)[go_sem]
 have:=zFy i
 simp(disch:=omega)[go_sem]
 exact xEp hs i
theorem zKe(s:Nat)(i:Int)(hs:s<4294967296):FnD Tryz.prog 116 [.int .u32 s,.int .i64 i] (.int .u32 (zEa s i)):=by
 refine zAd mixed Tryz.func116 rfl rfl (by simp[Tryz.ntmps116]) fun hwf E=>?_
 simp(disch:=omega)[Tryz.ntmps116,go_sem]
 refine zAa (zZo i) [] (by simp[go_sem]) (.inl rfl) (by simp[go_sem]) fun _=>?_
 simp(disch:=omega)[go_sem]
 rfl
theorem xDm:∀(s:Nat),s≠0→∃k m,s=2 ^ (k+1)*m+2 ^ k:=by
 intro s
 induction s using Nat.strongRecOn with
 |ind s ih=>
  intro h;by_cases ho:s % 2=1
  ·exact⟨0,s / 2,by simp;omega⟩
  ·obtain⟨k,m,e⟩:=ih (s / 2) (by omega) (by omega)
   refine⟨k+1,m,?_⟩;have h2:s=2*(s / 2):=by omega
   rw[h2,e,Nat.pow_succ 2 (k+1),Nat.pow_succ 2 k];rw[Nat.mul_add,← Nat.mul_assoc,Nat.mul_comm 2 (2 ^ k*2),Nat.mul_comm 2 (2 ^ k)]
def lowN(s:Nat):Nat:=((List.range 32).find? fun j=>s.testBit j).getD 32
theorem yIx(s:Nat)(h:s≠0)(hs:s<4294967296):lowN s<32∧s.testBit (lowN s)=true∧(∀j,j<lowN s→s.testBit j=false) ∧
  s &&& (4294967296-s)=2 ^ lowN s:=by
 obtain⟨k,m,e⟩:=xDm s h
 have hp:2 ^ k<2 ^ (k+1):=Nat.pow_lt_pow_right (by omega) (by omega)
 have hpos:0<2 ^ k:=Nat.two_pow_pos k
 have b1:∀j,s.testBit j=if j<k+1 then decide (k=j)else m.testBit (j-(k+1)):=by
  intro j;rw[e,Nat.testBit_two_pow_mul_add _ hp,Nat.testBit_two_pow]
 have b2:∀j,(s-1).testBit j=if j<k+1 then decide (j<k)else m.testBit (j-(k+1)):=by
  intro j;have:s-1=2 ^ (k+1)*m+(2 ^ k-1):=by omega
  rw[this,Nat.testBit_two_pow_mul_add _ (by omega),Nat.testBit_two_pow_sub_one]
 have hk:s.testBit k=true:=by rw[b1];simp
 have hlo:∀j,j<k→s.testBit j=false:=by
  intro j hj;rw[b1,if_pos (by omega)];simp;omega
 have hk32:k<32:=by
  apply Classical.byContradiction
  intro h';rw[zOr hs h']at hk;cases hk
 have hlow:lowN s=k:=by
  unfold lowN;have:(List.range 32).find? (fun j=>s.testBit j)=some k:=by
   rw[List.find?_range_eq_some];exact⟨hk,by simp[hk32],fun j hj=>by simp[hlo j hj]⟩
  rw[this];rfl
 rw[hlow]
 refine⟨hk32,hk,hlo,?_⟩
 apply Nat.eq_of_testBit_eq
 intro j
 rw[Nat.testBit_and,Nat.testBit_two_pow]
 have e3:4294967296-s=2 ^ 32-((s-1)+1):=by omega
 rw[e3,Nat.testBit_two_pow_sub_succ (n:=32) (by omega),b1,b2]
 by_cases h1:j<k+1
 ·rw[if_pos h1,if_pos h1];by_cases h2:k=j
  ·subst h2;simp[hk32]
  ·simp[h2]
 ·rw[if_neg h1,if_neg h1];cases m.testBit (j-(k+1))<;>simp<;>omega
def tab:List V:=[.agg ([0,1,28,2,29,14,24,3,30,22,20,15,25,17,4,8,31,27,13,23,21,19,16,7,26,12,18,6,11,5,10,9].map fun n=>V.int .u8 n)]
def zIr:List Int:=[0,1,56,2,57,49,28,3,61,58,42,50,38,29,17,4,62,47,59,36,45,43,51,22,53,39,33,30,24,18,12,5,63,55,48,27,60,41,37,16,46,35,44,21,52,32,23,11,54,26,40,15,34,20,31,10,25,14,19,9,13,8,7,6]
def yEi:List V:=[.agg (zIr.map fun n=> .int .u8 n)]
def tabG:zCd:=[(0,32,tab),(2,64,yEi)]
def zNe(k:Nat):Int:=(IntKind.u32.wrap ((2 ^ k:Nat)*125613361)).fdiv 134217728
theorem xPn(k:Nat)(hk:k<32):0≤zNe k∧zNe k<32∧zCt Tryz.prog 5 (nth tab 0) (zNe k).toNat=some (.int .u8 k):=by
 have h:∀k:Fin 32,0≤zNe k∧zNe k<32:=by decide +kernel
 refine⟨(h ⟨k,hk⟩).1,(h ⟨k,hk⟩).2,?_⟩
 have h2:∀k:Fin 32,([0,1,28,2,29,14,24,3,30,22,20,15,25,17,4,8,31,27,13,23,21,19,16,7,26,12,18,6,11,5,10,9]:List Nat)[(zNe k).toNat]?=some k.val:=by decide +kernel
 have h3:=h2 ⟨k,hk⟩
 show (match zAn Tryz.prog 5,(nth tab 0).cl with
  |some true,some cs=>if(zNe k).toNat=0∧cs.length=Tryz.prog.cellsOf 5 then some (nth tab 0)else if(zNe k).toNat+Tryz.prog.cellsOf 5≤cs.length then some (.agg ((cs.drop (zNe k).toNat).take (Tryz.prog.cellsOf 5)))else none
  |some false,some cs=>cs[(zNe k).toNat]?
  |some false,none=>if(zNe k).toNat=0 then(match nth tab 0 with | .opt _ _ | .tup _=>none|_=>some (nth tab 0))else none
  |_,_=>none)=_
 simp only[xQm]
 show ([0,1,28,2,29,14,24,3,30,22,20,15,25,17,4,8,31,27,13,23,21,19,16,7,26,12,18,6,11,5,10,9].map fun n:Nat=>V.int .u8 n)[(zNe k).toNat]?=_
 rw[List.getElem?_map]
 show (([0,1,28,2,29,14,24,3,30,22,20,15,25,17,4,8,31,27,13,23,21,19,16,7,26,12,18,6,11,5,10,9]:List Nat)[(zNe k).toNat]?).map _=_
 rw[h3];rfl
theorem yLd(s:Nat)(h0:s≠0)(hs:s<4294967296):FnD Tryz.prog 179 [.int .u32 s] (.int .i64 (lowN s)) tabG:=by
 obtain⟨hk,-,-,he⟩:=yIx s h0 hs
 refine zAd mixed Tryz.func179 rfl rfl (by simp[Tryz.ntmps179]) fun hwf E=>?_
 simp(disch:=omega)[Tryz.ntmps179,go_sem,tabG]
 refine zAc (fun h=>?_) (fun h=>?_)<;>simp at h
 ·exact absurd h h0
 ·have hpos:0<s:=by omega
  simp(disch:=omega)[go_sem,he];clear he;generalize lowN s=k at hk ⊢;have hx:(IntKind.u32.wrap ((2:Int) ^ k*125613361)).fdiv 134217728=zNe k:=by simp[zNe]
  have hb:=xPn k hk;simp only[hx];refine⟨⟨hb.1,hb.2.1⟩,?_⟩;have hl:(0:Nat)<tab.length:=by decide
  rw[hb.2.2];simp(disch:=omega)[go_sem,hl]
def zTt(s:Nat):Int:=if s=0 then -1 else lowN s
theorem zWk(s:Nat)(hs:s<4294967296):FnD Tryz.prog 115 [.int .u32 s] (.int .i64 (zTt s)) tabG:=by
 refine zAd mixed Tryz.func115 rfl rfl (by simp[Tryz.ntmps115]) fun hwf E=>?_
 simp(disch:=omega)[Tryz.ntmps115,go_sem]
 refine zAc (fun h=>?_) (fun h=>?_)<;>simp at h
 ·simp(disch:=omega)[go_sem,zTt,h]
 ·simp(disch:=omega)[go_sem];refine zAa (yLd s h hs) [] (by simp[go_sem]) (.inl rfl) (by simp[go_sem]) (fun _=>?_) (by simp[tabG,go_sem])
  simp(disch:=omega)[go_sem,zTt,h]
def pop8(n:Nat):Nat:=(List.range 8).countP fun j=>n.testBit j
def popN(s:Nat):Nat:=(List.range 32).countP fun j=>s.testBit j
theorem yRm(s:Nat)(hs:s<4294967296):popN s=pop8 (s % 256)+pop8 (s / 256 % 256)+pop8 (s / 65536 % 256)+pop8 (s / 16777216):=by
 have r:List.range 32=List.range 8++(List.range 8).map (8+·)++(List.range 8).map (16+·)++(List.range 8).map (24+·):=by decide
 unfold popN
 rw[r,List.countP_append,List.countP_append,List.countP_append,List.countP_map,List.countP_map,List.countP_map]
 unfold pop8
 have e0:∀j∈List.range 8,(s.testBit j=true↔(s % 256).testBit j=true):=by
  intro j hj;have hj:j<8:=by simpa using hj
  rw[show (256:Nat)=2 ^ 8 from rfl,Nat.testBit_mod_two_pow];simp[hj]
 have e1:∀j∈List.range 8,(((fun j=>s.testBit j)∘(8+·)) j=true↔(s / 256 % 256).testBit j=true):=by
  intro j hj;have hj:j<8:=by simpa using hj
  rw[show (256:Nat)=2 ^ 8 from rfl,Nat.testBit_mod_two_pow,Nat.testBit_div_two_pow];simp[hj,Nat.add_comm]
 have e2:∀j∈List.range 8,(((fun j=>s.testBit j)∘(16+·)) j=true↔(s / 65536 % 256).testBit j=true):=by
  intro j hj;have hj:j<8:=by simpa using hj
  rw[show (256:Nat)=2 ^ 8 from rfl,show (65536:Nat)=2 ^ 16 from rfl,Nat.testBit_mod_two_pow,Nat.testBit_div_two_pow];simp[hj,Nat.add_comm]
 have e3:∀j∈List.range 8,(((fun j=>s.testBit j)∘(24+·)) j=true↔(s / 16777216).testBit j=true):=by
  intro j hj;rw[show (16777216:Nat)=2 ^ 24 from rfl,Nat.testBit_div_two_pow];simp[Nat.add_comm]
 rw[List.countP_congr e0,List.countP_congr e1,List.countP_congr e2,List.countP_congr e3]
theorem zYf(n:Nat):pop8 n≤8:=by
 have:=List.countP_le_length (p:=fun j=>n.testBit j) (l:=List.range 8)
 simpa[pop8] using this
theorem xDl(s:Nat)(hs:s<4294967296)(T:ByteArray)(hT:∀i,i<256→zLe T i=pop8 i) :
  IntKind.i64.wrap (IntKind.u8.wrap (IntKind.u8.wrap (IntKind.u8.wrap (zLe T ((s:Int) / 16777216).toNat+zLe T ((s:Int) / 65536 % 256).toNat)+zLe T ((s:Int) / 256 % 256).toNat)+zLe T ((s:Int) % 256).toNat))=popN s:=by
 rw[show ((s:Int) / 16777216).toNat=s / 16777216 by omega,show ((s:Int) / 65536 % 256).toNat=s / 65536 % 256 by omega,show ((s:Int) / 256 % 256).toNat=s / 256 % 256 by omega,show ((s:Int) % 256).toNat=s % 256 by omega]
 rw[hT _ (by omega),hT _ (by omega),hT _ (by omega),hT _ (by omega),yRm s hs]
 have h1:=zYf (s / 16777216)
 have h2:=zYf (s / 65536 % 256)
 have h3:=zYf (s / 256 % 256)
 have h4:=zYf (s % 256)
 rw[zXx (n:=(pop8 (s / 16777216):Int)+pop8 (s / 65536 % 256)) (by omega) (by omega),zXx (n:=(pop8 (s / 16777216):Int)+pop8 (s / 65536 % 256)+pop8 (s / 256 % 256)) (by omega) (by omega),
  zXx (n:=(pop8 (s / 16777216):Int)+pop8 (s / 65536 % 256)+pop8 (s / 256 % 256)+pop8 (s % 256)) (by omega) (by omega),zDr (by omega) (by omega)]
 omega
theorem ySa(s:Nat)(hs:s<4294967296):FnD Tryz.prog 180 [.int .u32 s] (.int .i64 (popN s)):=by
 refine zAd mixed Tryz.func180 rfl rfl (by simp[Tryz.ntmps180]) fun hwf E=>?_
 have f1:(s:Int).fdiv 16777216=((s / 16777216:Nat):Int):=by rw[Int.fdiv_eq_ediv_of_nonneg _ (by omega)];rfl
 have f2:(s:Int).fdiv 65536=((s / 65536:Nat):Int):=by rw[Int.fdiv_eq_ediv_of_nonneg _ (by omega)];rfl
 have f3:(s:Int).fdiv 256=((s / 256:Nat):Int):=by rw[Int.fdiv_eq_ediv_of_nonneg _ (by omega)];rfl
 simp(disch:=omega)[Tryz.ntmps180,go_sem,f1,f2,f3]
 refine⟨⟨by omega,by omega⟩,⟨by omega,by omega⟩,⟨by omega,by omega⟩,⟨by omega,by omega⟩,.inl (by kernel_rfl),?_⟩
 exact xDl s hs _ (by decide +kernel)
theorem yOe(s:Nat)(hs:s<4294967296):FnD Tryz.prog 117 [.int .u32 s] (.int .i64 (popN s)):=by
 refine zAd mixed Tryz.func117 rfl rfl (by simp[Tryz.ntmps117]) fun hwf E=>?_
 simp(disch:=omega)[Tryz.ntmps117,go_sem]
 refine zAa (ySa s hs) [] (by simp[go_sem]) (.inl rfl) (by simp[go_sem]) fun _=>?_
 simp(disch:=omega)[go_sem]
end
section
theorem own:ownKnob Tryz.prog.godebug=none:=by kernel_rfl
theorem yTa:laidOutB Tryz.prog=true:=by kernel_rfl
theorem gTab : Tryz.prog.globalNamed "math/bits.deBruijn32tab" = some 0 := by kernel_rfl
theorem tTab:(Tryz.prog.globals[0]?).map (·.type)=some 289:=by kernel_rfl
theorem xMi : Tryz.prog.globalNamed "math/bits.deBruijn64tab" = some 2 := by kernel_rfl
theorem xTw:(Tryz.prog.globals[2]?).map (·.type)=some 305:=by kernel_rfl
def yTb : List (String × DataW Unit) := [("math/bits.deBruijn32tab", Rows.laid_math_bits_deBruijn32tab), ("math/bits.deBruijn64tab", Rows.laid_math_bits_deBruijn64tab)]
set_option maxRecDepth 100000 in
theorem xKh(os:Os)(args:Array Value):laidMetH Tryz.prog yTb ((World.doorLaid Tryz.prog 14 os).forCall (fun _ _=>0) ⟨#[],args,[]⟩).memory:=
 laidMetH_of_parts3 (fuel:=8) (laidMet_of_run' 8 (by kernel_rfl) (by kernel_rfl)) (by kernel_rfl) (by kernel_rfl)
def tabI:List Int:=[0,1,28,2,29,14,24,3,30,22,20,15,25,17,4,8,31,27,13,23,21,19,16,7,26,12,18,6,11,5,10,9]
theorem xPg{xs:List (DataW Unit × List MemPlace)}{cs:List Value}{l:List Int}(hc:cs.length=l.length)(h:xs.map (·.1)=l.map fun n=> .lit (.int .u8 n))
  (hel:∀i,i<l.length→∃n,(cs.drop i).take 1=[.int .u8 n]∧∃p,xs[i]?=some (.lit (.int .u8 n),p)):cs=l.map fun n=> .int .u8 n:=by
 apply List.ext_getElem (by simpa using hc)
 intro i h1 h2
 have h2':i<l.length:=by simpa using h2
 obtain⟨n,hn,p,hp⟩:=hel i h2'
 have e1:=congrArg (fun z=>z[i]?) h
 simp only[List.getElem?_map,hp,List.getElem?_eq_getElem h2',Option.map_some,Option.some.injEq,DataW.lit.injEq,Lit.int.injEq,true_and]at e1
 have e2:cs[i]?=some (.int .u8 n):=by
  have:=congrArg (fun z=>z[0]?) hn
  simpa using this
 rw[List.getElem?_eq_getElem h1]at e2
 simp only[List.getElem_map]
 rw[← e1]
 exact Option.some.inj e2
theorem xMs{c:Ctx}:∀(l:List Int),(∀n∈l,0≤n∧n≤255)→RVl c (l.map fun n=>V.int .u8 n) (l.map fun n=>Value.int .u8 n)
 |[],_=>by simp[RVl]
 |n::l,h=>by
  simp only[List.map_cons,RVl];have hn:=h n (by simp)
  refine⟨_,_,rfl,?_,xMs l fun m hm=>h m (by simp[hm])⟩
  have hk:IntKind.u8.has n:=by simp[IntKind.has,xLt,xLu];omega
  simp[RV,hk]
theorem yAm{W:World}{nm:String}{g k:Nat}{T:TypeId}{D:DataW Unit}{L:List Int}{cs0:Array Value}{p0:List MemPlace}{f0:Nat}
  (hg0:Tryz.prog.globalNamed nm=some g) (hu:Tryz.prog.underlying T=some (.array k 5)) (hcn:Tryz.prog.cellsOf T=k) (hL:L.length=k) (hpos:0<k) (hb:∀n∈L,0≤n∧n≤255) (hD:D= .agg (L.map fun n=> .lit (.int .u8 n)))
  (hv0:World.var? Tryz.prog W nm=some cs0) (hd0:DataW.trod (fun _=>()) Tryz.prog W 0 (fun _=>true) false f0 T cs0.toList=some (D,p0)) :
  RV (dctx W fun _=>False) (.tptr k [.agg (L.map fun n=>V.int .u8 n)] 0 0) (Value.pointer (some ⟨g,0,none⟩)):=by
 obtain⟨xs,m1,rfl,hx1,hlen,hn,hel⟩:=DataW.trod_array hu hd0
 have c8:Tryz.prog.cellsOf 5=1:=by kernel_rfl
 have hxs:xs.map (·.1)=L.map fun n=> .lit (.int .u8 n):=by
  simp only[Prod.mk.injEq]at hx1;have:=hx1.1;rw[hD]at this;simp only[DataW.agg.injEq]at this;exact this.symm
 have hcs:cs0.toList=L.map fun n=> .int .u8 n:=by
  refine xPg (by rw[hlen,hcn,hL]) hxs fun i hi=>?_
  have h1:=hel i (by omega)
  rw[c8,Nat.mul_one]at h1;have hi':i<xs.length:=by omega
  rw[List.getElem?_eq_getElem hi']at h1;obtain⟨k,e1,e2,_⟩:=DataW.trod_int Tryz.underlying5 h1;exact⟨k,e1,[],by rw[List.getElem?_eq_getElem hi',e2]⟩
 simp only[RV]
 refine⟨g,0,[.agg cs0],?_,?_,fun h=>h,?_,?_,by simp⟩
 ·simp only[RVl];refine⟨_,[],rfl,?_,rfl⟩;simp only[RV];refine⟨cs0,rfl,?_,?_⟩
  ·rw[hcs];exact xMs L hb
  ·rw[hcs];intro c hc;obtain⟨n,_,rfl⟩:=List.mem_map.1 hc;rfl
 ·have:cs0.size=k:=by rw[← Array.length_toList,hcs,List.length_map,hL]
  simp[Value.cells,this]
 ·have h2:=World.var?_cell hg0 hv0 0;rw[← Array.getElem?_toList,hcs]at h2;show g<W.heap.size
  apply Classical.byContradiction
  intro hn;have h0:W.heap[g]?=none:=by rw[Array.getElem?_eq_none_iff];omega
  have h3:(L.map fun n=>Value.int .u8 n)[0]?≠none:=by
   rw[List.getElem?_eq_getElem (by simp;omega)];simp
  apply h3
  rw[← h2];unfold World.cell?;simp[h0]
 ·intro j v hj;have:=World.var?_cell hg0 hv0 j;simp only[flat,List.flatMap_cons,List.flatMap_nil,List.append_nil,Value.cells]at hj;rw[← Array.getElem?_toList]at this;rw[hj]at this;show W.cell? _=_
  simpa using this
set_option maxRecDepth 100000 in
theorem xPr{W:World}(h:laidMetH Tryz.prog yTb W):yDw W (fun _=>False) tabG:=by
 rw[MakeChecks.laidMetH_plain _ _ _ (by kernel_rfl)]at h
 obtain⟨ps,⟨g0,t0,cs0,f0,p0,q0,hg0,ht0,hv0,hd0,⟨g1,t1,cs1,f1,p1,q1,hg1,ht1,hv1,hd1,_,_⟩,_⟩,_,_⟩:=h
 obtain rfl:=Option.some.inj (tTab.symm.trans (by obtain rfl:=Option.some.inj (gTab.symm.trans hg0);exact ht0))
 have h32:=yAm (L:=tabI) gTab Tryz.underlying289 (by kernel_rfl) rfl (by decide) (by decide) rfl hv0 hd0
 obtain rfl:=Option.some.inj (xTw.symm.trans (by obtain rfl:=Option.some.inj (xMi.symm.trans hg1);exact ht1))
 have h64:=yAm (L:=zIr) xMi Tryz.underlying305 (by kernel_rfl) rfl (by decide) (by decide) rfl hv1 hd1
 intro p hp
 simp only[tabG,List.mem_cons,List.not_mem_nil,or_false]at hp
 rcases hp with rfl|rfl
 ·exact h32
 ·exact h64
end
section
structure Grp where
 kind:Int
 min:Int
 yellow:Int
structure Pha where
 set:Nat
 min:Int
 max:Int
 gap:Int
 always:Bool
structure Eye where
 phase:Int
 on:Int
 off:Int
 turns:Int
structure Pln where
 cycle:Int
 offset:Int
 splits:List Int
structure Sit where
 id:Int
 groups:List Grp
 apart:List Nat
 between:List (List Int)
 phases:List Pha
 eyes:List Eye
 watch:Int
 feed:Int
 heal:Int
 low:Int
 high:Int
 plans:List Pln
def ints(l:List Int):List V:=l.map fun n=> .int .i64 n
theorem zAh(l:List Int):(ints l).length=l.length:=by simp[ints]
theorem zAz{l:List Int}{k:Nat}(h:k<l.length):nth (ints l) k= .int .i64 l[k]:=by rw[ints,zBt h]
def grpV(g:Grp):V:= .agg [.int .u8 g.kind,.int .i64 g.min,.int .i64 g.yellow]
def phaV(p:Pha):V:= .agg [.int .u32 p.set,.int .i64 p.min,.int .i64 p.max,.int .i64 p.gap,.bool p.always]
def eyeV(e:Eye):V:= .agg [.int .i64 e.phase,.int .i64 e.on,.int .i64 e.off,.int .i64 e.turns]
def plnV(p:Pln):V:= .agg [.int .i64 p.cycle,.int .i64 p.offset,.sl 1 (ints p.splits)]
def sets(l:List Nat):List V:=l.map fun(n:Nat)=> .int .u32 (n:Int)
def rows(l:List (List Int)):List V:=l.map fun r=> .sl 1 (ints r)
def sitV(s:Sit):V:= .agg [.int .i64 s.id,.sl 3 (s.groups.map grpV),.sl 1 (sets s.apart),.sl 1 (rows s.between),.sl 5 (s.phases.map phaV),.sl 4 (s.eyes.map eyeV),.int .i64 s.watch,.int .i64 s.feed,.int .i64 s.heal,.int .i64 s.low,.int .i64 s.high,.sl 3 (s.plans.map plnV)]
theorem zAr(s:Sit):sitV s= .agg [.int .i64 s.id,.sl 3 (s.groups.map grpV),.sl 1 (sets s.apart),.sl 1 (rows s.between),.sl 5 (s.phases.map phaV),.sl 4 (s.eyes.map eyeV),.int .i64 s.watch,.int .i64 s.feed,.int .i64 s.heal,.int .i64 s.low,.int .i64 s.high,.sl 3 (s.plans.map plnV)]:=rfl
def inN(x a b:Int):Bool:=decide (a≤x)&&decide (x≤b)
theorem zFj(x a b:Int):FnD Tryz.prog 50 [.int .i64 x,.int .i64 a,.int .i64 b] (.bool (inN x a b)):=by
 refine zAd mixed Tryz.func50 rfl rfl (by simp[Tryz.ntmps50]) fun hwf E=>?_
 simp(disch:=omega)[Tryz.ntmps50,go_sem]
 rfl
theorem zAo(l:List Int):zBa (ints l):=by induction l with|nil=>simp[ints,zBa]|cons x l ih=>simp only[ints,List.map_cons,zBa,V.pure]at ih ⊢;exact⟨trivial,ih⟩
theorem zIp(l:List Int):FnD Tryz.prog 113 [.sl 1 (ints l)] (.bool (l.all fun x=>inN x 1 1048576)):=by
 refine zAd mixed Tryz.func113 rfl rfl (by simp[Tryz.ntmps113]) fun hwf E=>?_
 simp(disch:=omega)[go_sem,zAh]at hwf
 simp(disch:=omega)[Tryz.ntmps113,go_sem,zAh]
 refine zAe mixed (fun k:Nat=>⟨[(7,.int .i64 k),(6,.int .i64 l.length),(5,.sl 1 (ints l)),(2,.bool false)],[],1024,[],15,0,[]⟩)
  (fun k=>k≤l.length∧∀j (h:j<l.length),j<k→inN l[j] 1 1048576=true) (fun k=>l.length-k) 0 (by simp) ?_ ?_
 ·refine Le.mk [] [] ⟨rfl,rfl,rfl⟩ ?_ ?_ ?_<;>simp[go_sem]
 ·rintro k ⟨hk,hno⟩
  simp(disch:=omega)[go_sem];refine zAc (fun h=>?_) (fun h=>?_)<;>simp at h
  ·simp(disch:=omega)[go_sem,zAh,zAz,h];refine zAj (zFj l[k] 1 1048576) [] (by simp[go_sem]) (fun h1=>?_) (fun h1=>?_)
   ·simp(disch:=omega)[go_sem];refine zAb (k+1) ⟨by omega,fun j h3 hj=>?_⟩ (by omega) (Le.mk [] [] ⟨rfl,rfl,rfl⟩ ?_ ?_ ?_)
    ·by_cases e:j=k
     ·subst e;exact h1
     ·exact hno j h3 (by omega)
    all_goals simp(disch:=omega)[go_sem]
   ·simp(disch:=omega)[go_sem];exact⟨l[k],List.getElem_mem h,h1⟩
  ·simp(disch:=omega)[go_sem];intro x hx;obtain⟨j,hj,rfl⟩:=List.getElem_of_mem hx;exact hno j hj (by omega)
theorem zBc{α:Type}(f:α→V)(h:∀x,(f x).pure):∀(l:List α),zBa (l.map f)
 |[]=>by simp[zBa]
 |x::l=>by simp only[List.map_cons,zBa];exact⟨h x,zBc f h l⟩
theorem zBq(l:List Grp):zBa (l.map grpV):=zBc _ (fun g=>by simp[grpV,go_sem]) l
theorem zBp(l:List Pha):zBa (l.map phaV):=zBc _ (fun g=>by simp[phaV,go_sem]) l
theorem zBr(l:List Eye):zBa (l.map eyeV):=zBc _ (fun g=>by simp[eyeV,go_sem]) l
theorem zAs(l:List Pln):zBa (l.map plnV):=zBc _ (fun g=>by simp[plnV,go_sem]) l
theorem zBn(l:List Nat):zBa (sets l):=zBc _ (fun g=>by simp[go_sem]) l
theorem zBo(l:List (List Int)):zBa (rows l):=zBc _ (fun g=>by simp[go_sem]) l
def yOb(n:Nat)(e:Eye):Bool:=inN e.phase 0 ((n:Int)-1)&&(inN e.on 1 1048576&&inN e.off 1 1048576)&&inN e.turns 1 64
theorem yYf(s:Sit):FnD Tryz.prog 54 [sitV s] (.bool (s.eyes.all (yOb s.phases.length))):=by
 have hpu:=(⟨zBq s.groups,zBp s.phases,zBr s.eyes,zAs s.plans,zBn s.apart,zBo s.between⟩:_∧_∧_∧_∧_∧_)
 obtain⟨hp1,hp2,hp3,hp4,hp5,hp6⟩:=hpu
 unfold sitV
 refine zAd mixed Tryz.func54 rfl rfl (by simp[Tryz.ntmps54]) fun hwf E=>?_
 simp(disch:=omega)[go_sem]at hwf
 simp(disch:=omega)[Tryz.ntmps54,go_sem]
 refine zAe mixed (fun k:Nat=>⟨[(8,.int .i64 k),(7,.int .i64 s.eyes.length),(6,.sl 4 (s.eyes.map eyeV)),(1,.ptr 0 1 0 0),(2,.bool false)],[(0,⟨.box,29,12,[sitV s]⟩)],1024,[],36,0,[]⟩)
  (fun k=>k≤s.eyes.length∧∀j (h:j<s.eyes.length),j<k→yOb s.phases.length s.eyes[j]=true) (fun k=>s.eyes.length-k) 0 (by simp) ?_ ?_
 ·refine Le.mk [(0,some 0)] [0] ⟨rfl,rfl,rfl⟩ ?_ ?_ ?_<;>simp[go_sem,sitV]
 ·rintro k ⟨hk,hno⟩
  simp(disch:=omega)[go_sem,sitV];refine zAc (fun h=>?_) (fun h=>?_)<;>simp at h
  ·have he:nth (s.eyes.map eyeV) k=eyeV s.eyes[k]:=zBt h;simp(disch:=omega)[go_sem,h,he,eyeV];have hn:(inN s.eyes[k].phase 0 ((s.phases.length:Int)-1)&&(inN s.eyes[k].on 1 1048576&&inN s.eyes[k].off 1 1048576)&&inN s.eyes[k].turns 1 64)=yOb s.phases.length s.eyes[k]:=rfl;refine zAj (zFj s.eyes[k].phase 0 ((s.phases.length:Int)-1)) [] (by simp[go_sem]) (fun h1=>?_) (fun h1=>?_)
   ·simp(disch:=omega)[go_sem];refine zAj (zIp [s.eyes[k].on,s.eyes[k].off]) [1312] (by simp[go_sem,ints]) (fun h2=>?_) (fun h2=>?_)
    ·simp at h2;simp(disch:=omega)[go_sem];refine zAj (zFj s.eyes[k].turns 1 64) [] (by simp[go_sem]) (fun h3=>?_) (fun h3=>?_)
     ·simp(disch:=omega)[go_sem];refine zAb (k+1) ⟨by omega,fun j h4 hj=>?_⟩ (by omega) (Le.mk [(0,some 0)] [0] ⟨rfl,rfl,rfl⟩ ?_ ?_ ?_)
      ·by_cases e:j=k
       ·subst e;rw[← hn];simp[h1,h2,h3]
       ·exact hno j h4 (by omega)
      all_goals simp[go_sem]
     ·simp(disch:=omega)[go_sem];exact⟨s.eyes[k],List.getElem_mem h,by rw[← hn];simp[h3]⟩
    ·simp(disch:=omega)[go_sem];exact⟨s.eyes[k],List.getElem_mem h,by rw[← hn];simp at h2;simp;intro _ a b;exact absurd b (by simp[h2 a])⟩
   ·simp(disch:=omega)[go_sem];exact⟨s.eyes[k],List.getElem_mem h,by rw[← hn];simp[h1]⟩
  ·simp(disch:=omega)[go_sem];intro x hx;obtain⟨j,hj,rfl⟩:=List.getElem_of_mem hx;exact hno j hj (by omega)
def zYb(s:Sit)(i:Nat):Prop:=(s.between.getD i []).length=s.groups.length∧s.apart.getD i 0<2 ^ s.groups.length
instance (s:Sit)(i:Nat):Decidable (zYb s i):=by unfold zYb;infer_instance
def zFo(s:Sit):Prop:=(1≤s.groups.length∧s.groups.length≤16)∧s.apart.length=s.groups.length∧s.between.length=s.groups.length∧(1≤s.phases.length∧s.phases.length≤8)∧s.eyes.length≤24∧s.plans.length≤8 ∧
 ∀i,i<s.between.length→zYb s i
instance (s:Sit):Decidable (zFo s):=by unfold zFo;infer_instance
theorem zEv(l:List Nat):(sets l).length=l.length:=by simp[sets]
theorem zGa(l:List (List Int)):(rows l).length=l.length:=by simp[rows]
theorem zGu{l:List Nat}{k:Nat}(h:k<l.length):nth (sets l) k= .int .u32 (l[k]:Int):=by rw[sets,zBt h]
theorem zLp{l:List (List Int)}{k:Nat}(h:k<l.length):nth (rows l) k= .sl 1 (ints l[k]):=by rw[rows,zBt h]
theorem zEi{x a b:Int}:inN x a b=true↔a≤x∧x≤b:=by simp[inN]
theorem zXy(a n:Nat):((a:Int).fdiv (2 ^ n)=0)↔a<2 ^ n:=by
 rw[Int.fdiv_eq_ediv_of_nonneg _ (by exact_mod_cast Nat.zero_le (2 ^ n)),show ((2:Int) ^ n)=((2 ^ n:Nat):Int) by simp,← Int.natCast_ediv,Int.natCast_eq_zero,Nat.div_eq_zero_iff]
 have:=Nat.two_pow_pos n
 omega
theorem yLw(s:Sit):FnD Tryz.prog 51 [sitV s] (.bool (decide (zFo s))):=by
 have hpu:=(⟨zBq s.groups,zBp s.phases,zBr s.eyes,zAs s.plans,zBn s.apart,zBo s.between⟩:_∧_∧_∧_∧_∧_)
 obtain⟨hp1,hp2,hp3,hp4,hp5,hp6⟩:=hpu
 unfold sitV
 refine zAd mixed Tryz.func51 rfl rfl (by simp[Tryz.ntmps51]) fun hwf E=>?_
 simp(disch:=omega)[go_sem]at hwf
 simp(disch:=omega)[Tryz.ntmps51,go_sem]
 refine zAj (zFj s.groups.length 1 16) [] (by simp[go_sem]) (fun h1=>?_) (fun h1=>?_)
 ·rw[zEi]at h1;simp(disch:=omega)[go_sem,zEv,zGa];refine zBj (fun h2=>?_) (fun h2=>?_)
  ·simp at h2;simp(disch:=omega)[go_sem,h2];refine zAj (zFj s.phases.length 1 8) [] (by simp[go_sem]) (fun h3=>?_) (fun h3=>?_)
   ·rw[zEi]at h3;simp(disch:=omega)[go_sem];refine zAc (fun h4=>?_) (fun h4=>?_)<;>simp at h4
    ·simp(disch:=omega)[go_sem];rintro⟨_,_,_,_,a,b,_⟩;omega
    ·simp(disch:=omega)[go_sem,zGa];have ha:s.apart.length=s.groups.length:=by omega
     have hb:s.between.length=s.groups.length:=by omega
     refine zAe mixed (fun k:Nat=>⟨[(48,.int .i64 k),(47,.int .i64 s.between.length),(46,.sl 1 (rows s.between)),(1,.ptr 0 1 0 0),(3,.int .i64 s.groups.length),(2,.bool false)],[(0,⟨.box,29,12,[sitV s]⟩)],2048,[],68,0,[]⟩)
      (fun k=>k≤s.between.length∧∀i,i<k→zYb s i) (fun k=>s.between.length-k) 0 ⟨by omega,fun i hi=>by omega⟩ ?_ ?_
     ·refine Le.mk [(0,some 0)] [0] ⟨rfl,rfl,rfl⟩ ?_ ?_ ?_<;>simp[go_sem,sitV,hb]
     ·rintro k ⟨hk,hno⟩
      simp(disch:=omega)[go_sem,sitV];refine zAc (fun h=>?_) (fun h=>?_)<;>simp at h
      ·have hka:k<s.apart.length:=by omega
       simp(disch:=omega)[go_sem,h,zLp,zGa,zAh,zEv,zGu,hka];have hz:=zXy s.apart[k] s.groups.length;have g1:s.between.getD k []=s.between[k]:=by simp[h]
       have g2:s.apart.getD k 0=s.apart[k]:=by simp[hka]
       refine zAc (fun h5=>?_) (fun h5=>?_)
       ·simp(disch:=omega)[go_sem];rintro⟨_,_,_,_,_,_,hall⟩
        have:=hall k h;unfold zYb at this;rw[g1,g2]at this;simp[hz,this.1,this.2]at h5
       ·simp only[Bool.or_eq_false_iff,bne_eq_false_iff_eq,hz]at h5;simp(disch:=omega)[go_sem];refine zAb (k+1) ⟨by omega,fun j hj=>?_⟩ (by omega) (Le.mk [(0,some 0)] [0] ⟨rfl,rfl,rfl⟩ ?_ ?_ ?_)
        ·by_cases e:j=k
         ·subst e;unfold zYb;rw[g1,g2];exact⟨by have h6:=h5.1;simp at h6;omega,h5.2⟩
         ·exact hno j (by omega)
        all_goals simp[go_sem]
      ·simp(disch:=omega)[go_sem];exact⟨by omega,ha,hb,by omega,by omega,by omega,fun i hi=>hno i (by omega)⟩
   ·have h3':¬(1≤(s.phases.length:Int)∧(s.phases.length:Int)≤8):=by rw[← zEi];simp[h3]
    simp(disch:=omega)[go_sem];rintro⟨_,_,_,a,_⟩;omega
  ·simp at h2;simp(disch:=omega)[go_sem];refine⟨by omega,by omega,?_⟩
   rintro⟨_,a,b,_⟩;omega
 ·have h1':¬(1≤(s.groups.length:Int)∧(s.groups.length:Int)≤16):=by rw[← zEi];simp[h1]
  simp(disch:=omega)[go_sem];rintro⟨a,_⟩;omega
def zPj(s:Nat):List Nat:=(List.range 32).filter fun j=>s.testBit j
theorem yHi:zPj 0=[]:=by decide
theorem yOn{s b:Nat}:b∈zPj s↔b<32∧s.testBit b=true:=by simp[zPj]
theorem yFl(k:Nat)(hk:k<32):List.range 32=List.range k++[k]++(List.range (31-k)).map (k+1+·):=by
 have:∀k:Fin 32,List.range 32=List.range k.val++[k.val]++(List.range (31-k.val)).map (k.val+1+·):=by decide +kernel
 exact this ⟨k,hk⟩
theorem zNm{s:Nat}(h:s≠0)(hs:s<4294967296):zPj s=lowN s::zPj (zEa s (lowN s)):=by
 obtain⟨hk,h1,h2,-⟩:=yIx s h hs
 generalize lowN s=k at *
 have hw:=zGj hs (k:Int)
 unfold zPj
 rw[yFl k hk]
 simp only[List.filter_append]
 have a1:(List.range k).filter (fun j=>s.testBit j)=[]:=by
  rw[List.filter_eq_nil_iff];intro j hj;simp[h2 j (by simpa using hj)]
 have a2:(List.range k).filter (fun j=>(zEa s (k:Int)).testBit j)=[]:=by
  rw[List.filter_eq_nil_iff];intro j hj;simp[hw,h2 j (by simpa using hj)]
 have a3:([k]:List Nat).filter (fun j=>(zEa s (k:Int)).testBit j)=[]:=by simp[hw]
 have a4:((List.range (31-k)).map (k+1+·)).filter (fun j=>(zEa s (k:Int)).testBit j)=((List.range (31-k)).map (k+1+·)).filter (fun j=>s.testBit j):=by
  apply List.filter_congr
  intro j hj;simp only[List.mem_map,List.mem_range]at hj;obtain⟨i,_,rfl⟩:=hj;rw[hw];rw[decide_eq_false (show ¬((k+1+i:Nat):Int)=(k:Int) by omega)];simp
 rw[a1,a2,a3,a4]
 simp[h1]
def maxI(m x:Int):Int:=if m<x then x else m
def most(row:List Int)(t:Nat)(n:Int):Int:=(zPj t).foldl (fun m b=>maxI m (row.getD b 0)) n
theorem ySl(row:List Int)(n:Int):most row 0 n=n:=by simp[most,yHi]
theorem ySm{row:List Int}{t:Nat}{n:Int}(h:t≠0)(ht:t<4294967296):most row t n=most row (zEa t (lowN t)) (maxI n (row.getD (lowN t) 0)):=by
 unfold most;rw[zNm h ht];rfl
def zPe(s:Sit)(A B a:Nat)(n:Int):Int:=if A.testBit a=true then most (s.between.getD a []) (s.apart.getD a 0 &&& B) n else n
def zHr(s:Sit)(A B k:Nat):Int:=(List.range k).foldl (fun m a=>zPe s A B a m) 0
theorem zNj(s:Sit)(A B k:Nat):zHr s A B (k+1)=zPe s A B k (zHr s A B k):=by
 simp[zHr,List.range_succ]
def zMd(s:Sit)(i:Nat):Nat:=((s.phases[i]?).map Pha.set).getD 0
def zGs(s:Sit)(i j:Nat):Int:=zHr s (zMd s i) (zMd s j) s.groups.length
theorem yDz:∀ {l:List Pha},wfs (l.map phaV)→∀p∈l,p.set<4294967296
 |[],_,p,hp=>by simp at hp
 |x::l,h,p,hp=>by
  simp only[List.map_cons,wfs]at h;rcases List.mem_cons.1 hp with rfl|hp
  ·have:=h.1;simp[phaV,go_sem]at this;omega
  ·exact yDz h.2 p hp
theorem zXg(s:Sit)(i j:Nat)(hS:zFo s)(hi:i<s.phases.length)(hj:j<s.phases.length):FnD Tryz.prog 181 [sitV s,.int .i64 i,.int .i64 j] (.int .i64 (zGs s i j)) tabG:=by
 have hpu:=(⟨zBq s.groups,zBp s.phases,zBr s.eyes,zAs s.plans,zBn s.apart,zBo s.between⟩:_∧_∧_∧_∧_∧_)
 obtain⟨hp1,hp2,hp3,hp4,hp5,hp6⟩:=hpu
 obtain⟨hn,ha,hb,hph,-,-,hrow⟩:=hS
 unfold sitV
 refine zAd mixed Tryz.func181 rfl rfl (by simp[Tryz.ntmps181]) fun hwf E=>?_
 simp(disch:=omega)[go_sem]at hwf
 have hws:=yDz hwf.1.2.2.2.2.1.2
 have hA:zMd s i<4294967296:=by simp only[zMd,List.getElem?_eq_getElem hi];exact hws _ (List.getElem_mem hi)
 have hB:zMd s j<4294967296:=by simp only[zMd,List.getElem?_eq_getElem hj];exact hws _ (List.getElem_mem hj)
 have hpi:nth (s.phases.map phaV) i=phaV s.phases[i]:=zBt hi
 have hpj:nth (s.phases.map phaV) j=phaV s.phases[j]:=zBt hj
 have hsi:s.phases[i].set=zMd s i:=by simp[zMd,hi]
 have hsj:s.phases[j].set=zMd s j:=by simp[zMd,hj]
 simp(disch:=omega)[Tryz.ntmps181,go_sem]
 unfold zGs
 generalize zMd s i=A at *
 generalize zMd s j=B at *
 refine zAe mixed (fun k:Nat=>⟨[(13,.int .i64 k),(12,.int .i64 s.groups.length),(6,.int .i64 (zHr s A B k)),(3,.ptr 0 1 0 0),(1,.int .i64 i),(2,.int .i64 j)],[(0,⟨.box,29,12,[sitV s]⟩)],1024,[],56,0,tabG⟩)
  (fun k=>k≤s.groups.length) (fun k=>s.groups.length-k) 0 (by simp) ?_ ?_
 ·refine Le.mk [(0,some 0)] [0] ⟨rfl,rfl,rfl⟩ ?_ ?_ ?_<;>simp[go_sem,sitV,zHr]
 ·intro k hk;simp(disch:=omega)[go_sem,sitV];refine zAc (fun h=>?_) (fun h=>?_)<;>simp at h
  ·simp(disch:=omega)[go_sem,hpi,phaV,hi,hsi];refine zAj (zYz A k hA) [] (by simp[go_sem]) (fun h1=>?_) (fun h1=>?_)
   ·have hA1:A.testBit k=true:=by simpa[hasN] using h1
    have hka:k<s.apart.length:=by omega
    have hkb:k<s.between.length:=by omega
    have hro:=hrow k hkb;unfold zYb at hro;have g1:s.between.getD k []=s.between[k]:=by simp[hkb]
    have g2:s.apart.getD k 0=s.apart[k]:=by simp[hka]
    rw[g1,g2]at hro;obtain⟨hr1,hr2⟩:=hro;have hr3:s.apart[k]<65536:=Nat.lt_of_lt_of_le hr2 (show 2 ^ s.groups.length≤2 ^ 16 from Nat.pow_le_pow_right (by omega) hn.2)
    have hgoal:zHr s A B (k+1)=most s.between[k] (s.apart[k] &&& B) (zHr s A B k):=by
     rw[zNj];unfold zPe;rw[if_pos hA1,g1,g2]
    have hlt:s.apart[k] &&& B<4294967296:=xMp (by omega)
    have hbits:∀b,(s.apart[k] &&& B).testBit b=true→b<s.groups.length:=by
     intro b hb;rw[Nat.testBit_and]at hb;apply Classical.byContradiction
     intro hnb;have:s.apart[k].testBit b=false:=Nat.testBit_lt_two_pow (Nat.lt_of_lt_of_le hr2 (Nat.pow_le_pow_right (by omega) (by omega)))
     simp[this]at hb
    simp(disch:=omega)[go_sem,hpj,phaV,hj,hsj,zGu,hka,zEv];refine⟨.inl (by kernel_rfl),?_⟩
    refine zAe mixed (fun q:Nat × Int=>⟨[(8,.int .u32 (q.1:Int)),(6,.int .i64 q.2),(7,.int .i64 k),(13,.int .i64 k),(12,.int .i64 s.groups.length),(3,.ptr 0 1 0 0),(1,.int .i64 i),(2,.int .i64 j)],[(0,⟨.box,29,12,[sitV s]⟩)],2048,[],56,0,tabG⟩)
     (fun q=>q.1<4294967296∧(∀b,q.1.testBit b=true→b<s.groups.length)∧most s.between[k] q.1 q.2=zHr s A B (k+1)) (fun q=>(zPj q.1).length) (s.apart[k] &&& B,zHr s A B k) ⟨hlt,hbits,hgoal.symm⟩ ?_ ?_
    ·refine Le.mk [(0,some 0)] [0] ⟨rfl,rfl,rfl⟩ ?_ ?_ ?_<;>simp[go_sem,sitV]
    ·rintro⟨t,m⟩ ⟨ht,htb,htm⟩
     simp only at ht htb htm;simp(disch:=omega)[go_sem,sitV];refine zAc (fun h3=>?_) (fun h3=>?_)<;>simp at h3
     ·obtain⟨hk1,hk2,-,-⟩:=yIx t h3 ht;have hls:=zWk t ht;rw[show zTt t=(lowN t:Int) by simp[zTt,h3]]at hls
      have hwo:=zKe t (lowN t) ht;have hbl:=htb _ hk2;have hst:=ySm (row:=s.between[k]) (n:=m) h3 ht;have hlen:=congrArg List.length (zNm h3 ht);generalize lowN t=b at *;have hbr:b<s.between[k].length:=by omega
      have g3:s.between[k].getD b 0=s.between[k][b]:=by simp[hbr]
      simp(disch:=omega)[go_sem];refine zAa hls [] (by simp[go_sem]) (.inl rfl) (by simp[go_sem]) (fun _=>?_) (by simp[tabG,go_sem])
      simp(disch:=omega)[go_sem];refine zAa hwo [] (by simp[go_sem]) (.inl rfl) (by simp[go_sem]) (fun _=>?_)
      simp(disch:=omega)[go_sem,zLp,hkb,zGa,zAz,zAh,hbr];refine zAb (zEa t b,maxI m s.between[k][b]) ⟨zJd _ _,fun c hc=>?_,?_⟩ ?_ (Le.mk [(0,some 0)] [0] ⟨rfl,rfl,rfl⟩ ?_ ?_ ?_)
      ·rw[zGj ht]at hc;exact htb c (by simp at hc;exact hc.1)
      ·rw[← htm,hst,g3]
      ·simp at hlen ⊢;omega
      all_goals simp[go_sem,maxI]
     ·subst h3;rw[ySl]at htm;simp(disch:=omega)[go_sem];refine zAb (k+1) (by omega) (by omega) (Le.mk [(0,some 0)] [0] ⟨rfl,rfl,rfl⟩ ?_ ?_ ?_)
      all_goals simp[go_sem,htm]
   ·have hA1:A.testBit k=false:=by simpa[hasN] using h1
    have hcs:zHr s A B (k+1)=zHr s A B k:=by rw[zNj];unfold zPe;rw[if_neg (by simp[hA1])]
    simp(disch:=omega)[go_sem];refine zAb (k+1) (by omega) (by omega) (Le.mk [(0,some 0)] [0] ⟨rfl,rfl,rfl⟩ ?_ ?_ ?_)
    all_goals simp[go_sem,hcs]
  ·have hkn:k=s.groups.length:=by omega
   subst hkn;simp(disch:=omega)[go_sem]
def zMe(s:Sit)(i:Nat):Int:=((s.phases[i]?).map Pha.min).getD 0
def zCi(s:Sit)(i:Nat):Int:=zMe s i+zGs s i ((i+1) % s.phases.length)
theorem zWg(s:Sit)(i:Nat)(hS:zFo s)(hi:i<s.phases.length)(hw:0≤zCi s i∧zCi s i≤4294967296):FnD Tryz.prog 118 [sitV s,.int .i64 i] (.int .i64 (zCi s i)) tabG:=by
 have hpu:=(⟨zBq s.groups,zBp s.phases,zBr s.eyes,zAs s.plans,zBn s.apart,zBo s.between⟩:_∧_∧_∧_∧_∧_)
 obtain⟨hp1,hp2,hp3,hp4,hp5,hp6⟩:=hpu
 have hc:=zXg s i ((i+1) % s.phases.length) hS hi (Nat.mod_lt _ (by omega))
 obtain⟨hn,ha,hb,hph,-,-,hrow⟩:=hS
 have hpi:nth (s.phases.map phaV) i=phaV s.phases[i]:=zBt hi
 have hmi:s.phases[i].min=zMe s i:=by simp[zMe,hi]
 have hsv:=zAr s
 rw[hsv]at hc ⊢
 refine zAd mixed Tryz.func118 rfl rfl (by simp[Tryz.ntmps118]) fun hwf E=>?_
 simp(disch:=omega)[go_sem]at hwf
 have hmod:((i:Int)+1).tmod (s.phases.length:Int)=(((i+1) % s.phases.length:Nat):Int):=by
  rw[Int.tmod_eq_emod_of_nonneg (by omega)];rfl
 have hph0:¬s.phases.length=0:=by omega
 simp(disch:=omega)[Tryz.ntmps118,go_sem,hpi,phaV,hi,hmi,hmod,hph0]
 refine zAa hc [] (by simp[go_sem]) (.inl rfl) (by simp[go_sem]) (fun _=>?_) (by simp[tabG,go_sem])
 have hne:zCi s i=zMe s i+zGs s i ((i+1) % s.phases.length):=rfl
 rw[hne]at hw ⊢
 simp(disch:=omega)[go_sem]
 exact .inl (by kernel_rfl)
def zMz(p:Pln)(k:Nat):Int:=p.cycle-(p.splits.take k).sum
theorem yNi(p:Pln)(k:Nat)(h:k<p.splits.length):zMz p (k+1)=zMz p k-p.splits[k]:=by
 unfold zMz
 rw[List.take_succ_eq_append_getElem h,List.sum_append];simp;omega
def yNx(s:Sit)(p:Pln)(i:Nat):Prop:=zCi s i≤p.splits.getD i 0∧p.splits.getD i 0≤zMz p i
instance (s:Sit)(p:Pln)(i:Nat):Decidable (yNx s p i):=by unfold yNx;infer_instance
def Fits(s:Sit)(p:Pln):Prop:=(s.low≤p.cycle∧p.cycle≤s.high)∧(0≤p.offset∧p.offset≤p.cycle-1)∧p.splits.length=s.phases.length∧(∀i,i<p.splits.length→yNx s p i)∧zMz p p.splits.length=0
instance (s:Sit)(p:Pln):Decidable (Fits s p):=by unfold Fits;infer_instance
def zFa(s:Sit):Prop:=∀i,i<s.phases.length→0≤zCi s i∧zCi s i≤4294967296
theorem yCc(s:Sit)(p:Pln)(hS:zFo s)(hN:zFa s)(hL:0≤s.low∧s.high≤1048576):FnD Tryz.prog 119 [sitV s,plnV p] (.bool (decide (Fits s p))) tabG:=by
 have hpu:=(⟨zBq s.groups,zBp s.phases,zBr s.eyes,zAs s.plans,zBn s.apart,zBo s.between⟩:_∧_∧_∧_∧_∧_)
 obtain⟨hp1,hp2,hp3,hp4,hp5,hp6⟩:=hpu
 have hne:=fun i hi=>zWg s i hS hi (hN i hi)
 have hsv:=zAr s
 have hpv:plnV p= .agg [.int .i64 p.cycle,.int .i64 p.offset,.sl 1 (ints p.splits)]:=rfl
 rw[hsv]at hne ⊢
 rw[hpv]
 refine zAd mixed Tryz.func119 rfl rfl (by simp[Tryz.ntmps119]) fun hwf E=>?_
 simp(disch:=omega)[go_sem,zAh]at hwf
 simp(disch:=omega)[Tryz.ntmps119,go_sem]
 refine zAj (zFj p.cycle s.low s.high) [] (by simp[go_sem]) (fun h1=>?_) (fun h1=>?_)
 ·rw[zEi]at h1;simp(disch:=omega)[go_sem];refine zAj (zFj p.offset 0 (p.cycle-1)) [] (by simp[go_sem]) (fun h2=>?_) (fun h2=>?_)
  ·rw[zEi]at h2;simp(disch:=omega)[go_sem,zAh];refine zAc (fun h3=>?_) (fun h3=>?_)<;>simp at h3
   ·simp(disch:=omega)[go_sem];rintro⟨_,_,a,_⟩;omega
   ·have hl:p.splits.length=s.phases.length:=by omega
    simp(disch:=omega)[go_sem,zAh];have hz:zMz p 0=p.cycle:=by simp[zMz]
    refine zAe mixed (fun k:Nat=>⟨[(39,.int .i64 k),(38,.int .i64 p.splits.length),(37,.sl 1 (ints p.splits)),(5,.int .i64 (zMz p k)),(2,.ptr 0 1 0 0),(4,.bool false)],[(0,⟨.box,29,12,[sitV s]⟩)],2048,[],57,0,tabG⟩)
     (fun k=>k≤p.splits.length∧(0≤zMz p k∧zMz p k≤1048576)∧∀i,i<k→yNx s p i) (fun k=>p.splits.length-k) 0 ⟨by omega,by rw[hz];omega,fun i hi=>by omega⟩ ?_ ?_
    ·refine Le.mk [(0,some 0)] [0] ⟨rfl,rfl,rfl⟩ ?_ ?_ ?_<;>simp[go_sem,sitV,hz]
    ·rintro k ⟨hk,hlk,hno⟩
     simp(disch:=omega)[go_sem];refine zAc (fun h=>?_) (fun h=>?_)<;>simp at h
     ·have hnk:=hN k (by omega)
      have g1:p.splits.getD k 0=p.splits[k]:=by simp[h]
      have hfa:yNx s p k↔inN p.splits[k] (zCi s k) (zMz p k)=true:=by unfold yNx;rw[g1,zEi]
      have hls:=yNi p k h;simp(disch:=omega)[go_sem,zAh,zAz,h,sitV];refine zAa (hne k (by omega)) [] (by simp[go_sem]) (.inl rfl) (by simp[go_sem]) (fun _=>?_) (by simp[tabG,go_sem])
      simp(disch:=omega)[go_sem];refine zAj (zFj p.splits[k] (zCi s k) (zMz p k)) [] (by simp[go_sem]) (fun h4=>?_) (fun h4=>?_)
      ·have h5:=zEi.1 h4;simp(disch:=omega)[go_sem];refine zAb (k+1) ⟨by omega,by omega,fun j hj=>?_⟩ (by omega) (Le.mk [(0,some 0)] [0] ⟨rfl,rfl,rfl⟩ ?_ ?_ ?_)
       ·by_cases e:j=k
        ·subst e;exact hfa.2 h4
        ·exact hno j (by omega)
       all_goals simp[go_sem,hls]
      ·simp(disch:=omega)[go_sem];rintro⟨_,_,_,hall,_⟩
       have:=hfa.1 (hall k h);rw[h4]at this;cases this
     ·have hkl:k=p.splits.length:=by omega
      subst hkl;simp(disch:=omega)[go_sem];rw[Bool.eq_iff_iff];simp;constructor
      ·intro h5;exact⟨h1,h2,hl,hno,h5⟩
      ·rintro⟨_,_,_,_,h5⟩;exact h5
  ·simp(disch:=omega)[go_sem];rintro⟨_,a,_⟩
   rw[← zEi]at a;simp[h2]at a
 ·simp(disch:=omega)[go_sem];rintro⟨a,_⟩
  rw[← zEi]at a;simp[h1]at a
theorem yBe(s:Sit)(hS:zFo s)(hN:zFa s)(hL:0≤s.low∧s.high≤1048576):FnD Tryz.prog 56 [sitV s] (.bool (s.plans.all fun p=>decide (Fits s p))) tabG:=by
 have hpu:=(⟨zBq s.groups,zBp s.phases,zBr s.eyes,zAs s.plans,zBn s.apart,zBo s.between⟩:_∧_∧_∧_∧_∧_)
 obtain⟨hp1,hp2,hp3,hp4,hp5,hp6⟩:=hpu
 have hf:=fun p=>yCc s p hS hN hL
 have hsv:=zAr s
 rw[hsv]at hf ⊢
 refine zAd mixed Tryz.func56 rfl rfl (by simp[Tryz.ntmps56]) fun hwf E=>?_
 simp(disch:=omega)[go_sem]at hwf
 simp(disch:=omega)[Tryz.ntmps56,go_sem]
 refine zAe mixed (fun k:Nat=>⟨[(8,.int .i64 k),(7,.int .i64 s.plans.length),(6,.sl 3 (s.plans.map plnV)),(1,.ptr 0 1 0 0),(2,.bool false)],[(0,⟨.box,29,12,[sitV s]⟩)],1024,[],17,0,tabG⟩)
  (fun k=>k≤s.plans.length∧∀j (h:j<s.plans.length),j<k→Fits s s.plans[j]) (fun k=>s.plans.length-k) 0 (by simp) ?_ ?_
 ·refine Le.mk [(0,some 0)] [0] ⟨rfl,rfl,rfl⟩ ?_ ?_ ?_<;>simp[go_sem,sitV]
 ·rintro k ⟨hk,hno⟩
  simp(disch:=omega)[go_sem,sitV];refine zAc (fun h=>?_) (fun h=>?_)<;>simp at h
  ·have he:nth (s.plans.map plnV) k=plnV s.plans[k]:=zBt h;simp(disch:=omega)[go_sem,h,he,plnV];refine zAj (hf s.plans[k]) [] (by simp[go_sem,plnV]) (fun h1=>?_) (fun h1=>?_) (by simp[tabG,go_sem])
   ·simp at h1;simp(disch:=omega)[go_sem];refine zAb (k+1) ⟨by omega,fun j h4 hj=>?_⟩ (by omega) (Le.mk [(0,some 0)] [0] ⟨rfl,rfl,rfl⟩ ?_ ?_ ?_)
    ·by_cases e:j=k
     ·subst e;exact h1
     ·exact hno j h4 (by omega)
    all_goals simp[go_sem]
   ·simp at h1;simp(disch:=omega)[go_sem];exact⟨s.plans[k],List.getElem_mem h,h1⟩
  ·simp(disch:=omega)[go_sem];intro x hx;obtain⟨j,hj,rfl⟩:=List.getElem_of_mem hx;exact hno j hj (by omega)
def zFe(s:Sit)(k:Nat):Int:=((List.range k).map (zCi s)).sum
theorem zJj(s:Sit)(k:Nat):zFe s (k+1)=zFe s k+zCi s k:=by
 unfold zFe
 rw[List.range_succ,List.map_append,List.sum_append];simp
theorem zKm(s:Sit)(hN:zFa s):∀k,k≤s.phases.length→0≤zFe s k∧zFe s k≤4294967296*k
 |0,_=>by simp[zFe]
 |k+1,h=>by
  have:=zKm s hN k (by omega)
  have:=hN k (by omega)
  rw[zJj];omega
def zEl(s:Sit):Bool:=[s.watch,s.feed,s.heal,s.low,s.high].all (fun x=>inN x 1 1048576)&&decide (zFe s s.phases.length≤s.low)&&decide (s.low≤s.high)
theorem yLj(s:Sit)(hS:zFo s)(hN:zFa s):FnD Tryz.prog 55 [sitV s] (.bool (zEl s)) tabG:=by
 have hpu:=(⟨zBq s.groups,zBp s.phases,zBr s.eyes,zAs s.plans,zBn s.apart,zBo s.between⟩:_∧_∧_∧_∧_∧_)
 obtain⟨hp1,hp2,hp3,hp4,hp5,hp6⟩:=hpu
 have hne:=fun i hi=>zWg s i hS hi (hN i hi)
 have hph8:s.phases.length≤8:=hS.2.2.2.1.2
 have hsv:=zAr s
 rw[hsv]at hne ⊢
 refine zAd mixed Tryz.func55 rfl rfl (by simp[Tryz.ntmps55]) fun hwf E=>?_
 simp(disch:=omega)[go_sem]at hwf
 simp(disch:=omega)[Tryz.ntmps55,go_sem]
 refine zAe mixed (fun k:Nat=>⟨[(8,.int .i64 k),(7,.int .i64 s.phases.length),(3,.int .i64 (zFe s k)),(1,.ptr 0 1 0 0),(2,.bool false)],[(0,⟨.box,29,12,[sitV s]⟩)],1024,[],42,0,tabG⟩)
  (fun k=>k≤s.phases.length) (fun k=>s.phases.length-k) 0 (by simp) ?_ ?_
 ·refine Le.mk [(0,some 0)] [0] ⟨rfl,rfl,rfl⟩ ?_ ?_ ?_<;>simp[go_sem,sitV,zFe]
 ·intro k hk;have hb:=zKm s hN k hk;simp(disch:=omega)[go_sem,sitV];refine zAc (fun h=>?_) (fun h=>?_)<;>simp at h
  ·have hnk:=hN k h;simp(disch:=omega)[go_sem];refine zAa (hne k h) [] (by simp[go_sem]) (.inl rfl) (by simp[go_sem]) (fun _=>?_) (by simp[tabG,go_sem])
   simp(disch:=omega)[go_sem];refine zAb (k+1) (by omega) (by omega) (Le.mk [(0,some 0)] [0] ⟨rfl,rfl,rfl⟩ ?_ ?_ ?_)
   all_goals simp[go_sem,zJj]
  ·have hkl:k=s.phases.length:=by omega
   subst hkl;simp(disch:=omega)[go_sem];refine zAj (zIp [s.watch,s.feed,s.heal,s.low,s.high]) [1200] (by simp[go_sem,ints]) (fun h2=>?_) (fun h2=>?_)
   ·simp(disch:=omega)[go_sem,zEl,h2]
   ·simp(disch:=omega)[go_sem,zEl,h2]
end
section
def xEq(g:Grp):Prop:=(g.kind=1∨g.kind=2)∧(1≤g.min∧g.min≤1048576)∧(1≤g.yellow∧g.yellow≤1048576)
def betw(s:Sit)(a b:Nat):Int:=(s.between.getD a []).getD b 0
def isAp(s:Sit)(a b:Nat):Bool:=(s.apart.getD a 0).testBit b
def yKu(s:Sit)(a:Nat):Int:=((s.groups[a]?).map Grp.yellow).getD 0
def yCt(s:Sit)(a b:Nat):Prop:=isAp s a b=isAp s b a∧(isAp s a b=true→a≠b∧yKu s a≤betw s a b∧betw s a b≤1048576)∧(isAp s a b=false→betw s a b=0)
def xMb(s:Sit)(a:Nat):Prop:=(∀h:a<s.groups.length,xEq s.groups[a])∧∀b,b<s.groups.length→yCt s a b
def zHv(s:Sit):Prop:=∀a,a<s.groups.length→xMb s a
noncomputable instance (s:Sit):Decidable (zHv s):=Classical.propDecidable _
theorem zTz(t b:Nat)(ht:t<4294967296):FnD Tryz.prog 114 [.int .u32 t,.int .i64 b] (.bool (t.testBit b)):=by
 have h:=zYz t b ht
 rwa [show hasN t b=t.testBit b by simp[hasN]]at h
set_option maxHeartbeats 1000000 in
theorem apart_spec(s:Sit)(hS:zFo s):FnD Tryz.prog 52 [sitV s] (.bool (decide (zHv s))):=by
 have hpu:=(⟨zBq s.groups,zBp s.phases,zBr s.eyes,zAs s.plans,zBn s.apart,zBo s.between⟩:_∧_∧_∧_∧_∧_)
 obtain⟨hp1,hp2,hp3,hp4,hp5,hp6⟩:=hpu
 obtain⟨hn,ha,hb,hph,-,-,hrow⟩:=hS
 unfold sitV
 refine zAd mixed Tryz.func52 rfl rfl (by simp[Tryz.ntmps52]) fun hwf E=>?_
 simp(disch:=omega)[go_sem]at hwf
 simp(disch:=omega)[Tryz.ntmps52,go_sem]
 refine zAe mixed (fun k:Nat=>⟨[(11,.int .i64 k),(10,.int .i64 s.groups.length),(9,.sl 3 (s.groups.map grpV)),(1,.ptr 0 1 0 0),(2,.bool false)],[(0,⟨.box,29,12,[sitV s]⟩)],1024,[],83,0,[]⟩)
  (fun k=>k≤s.groups.length∧∀a,a<k→xMb s a) (fun k=>s.groups.length-k) 0 ⟨by omega,fun a ha=>by omega⟩ ?_ ?_
 ·refine Le.mk [(0,some 0)] [0] ⟨rfl,rfl,rfl⟩ ?_ ?_ ?_<;>simp[go_sem,sitV]
 ·rintro k ⟨hk,hno⟩
  simp(disch:=omega)[go_sem,sitV];refine zAc (fun h=>?_) (fun h=>?_)<;>simp at h
  ·have hg:nth (s.groups.map grpV) k=grpV s.groups[k]:=zBt h;have bad:¬xEq s.groups[k]→¬zHv s:=fun hb hA=>hb ((hA k h).1 h)
   have hka:k<s.apart.length:=by omega
   have hkb:k<s.between.length:=by omega
   have hap:∀a (h:a<s.apart.length),s.apart[a]<4294967296:=fun a h=>by
    have h2:=(hrow a (by omega)).2
    rw[show s.apart.getD a 0=s.apart[a] by simp[h]]at h2
    have h3:2 ^ s.groups.length≤2 ^ 16:=Nat.pow_le_pow_right (by omega) hn.2
    omega
   have hrl:s.between[k].length=s.groups.length:=by
    have h2:=(hrow k hkb).1;rwa [show s.between.getD k []=s.between[k] by simp[hkb]]at h2
   have hy:s.groups[k].yellow=yKu s k:=by simp[yKu,h]
   have pure6:=(⟨hp1,hp2,hp3,hp4,hp5,hp6⟩:_∧_∧_∧_∧_∧_);by_cases hkd:s.groups[k].kind=1∨s.groups[k].kind=2
   ·have tail:∀kd:Int,(kd=1∨kd=2)→s.groups[k].kind=kd→True:=fun _ _ _=>trivial
    rcases hkd with e|e
    all_goals
     simp(disch:=omega)[go_sem,h,hg,grpV,e];refine zAj (zIp [s.groups[k].min,s.groups[k].yellow]) [1344] (by simp[go_sem,ints]) (fun h2=>?_) (fun h2=>?_)
     ·have hgo:xEq s.groups[k]:=⟨by omega,by simp[inN]at h2;omega,by simp[inN]at h2;omega⟩
      have hyb:=hgo.2.2;rw[hy]at hyb;simp(disch:=omega)[go_sem,zLp,zGa,hkb,zAh,hrl,hy];refine zAe mixed (fun m:Nat=>⟨[(39,.int .i64 m),(38,.int .i64 s.groups.length),(37,.sl 1 (ints s.between[k])),(3,.int .i64 k),(4,.ptr 32 1 0 0),(11,.int .i64 k),(10,.int .i64 s.groups.length),(9,.sl 3 (s.groups.map grpV)),(1,.ptr 0 1 0 0),(2,.bool false)],
        [(0,⟨.box,29,12,[sitV s]⟩),(32,⟨.box,94,3,[grpV s.groups[k]]⟩)],4096,[],83,0,[]⟩)
       (fun m=>m≤s.groups.length∧∀b,b<m→yCt s k b) (fun m=>s.groups.length-m) 0 ⟨by omega,fun b hb=>by omega⟩ ?_ ?_
      ·refine Le.mk [(0,some 0),(32,some 1088)] [0,1088] ⟨rfl,rfl,rfl⟩ ?_ ?_ ?_<;>simp[go_sem,sitV,grpV,e,hy]
      ·rintro m ⟨hm,hmo⟩
       simp(disch:=omega)[go_sem,sitV];refine zAc (fun h3=>?_) (fun h3=>?_)<;>simp at h3
       ·have hma:m<s.apart.length:=by omega
        have hmr:m<s.between[k].length:=by omega
        have i1:s.apart[k].testBit m=isAp s k m:=by simp[isAp,hka]
        have i2:s.apart[m].testBit k=isAp s m k:=by simp[isAp,hma]
        have i3:s.between[k][m]=betw s k m:=by simp[betw,hkb,hmr]
        have q1:=zTz s.apart[k] m (hap k hka);have q2:=zTz s.apart[m] k (hap m hma);rw[i1]at q1;rw[i2]at q2;have badc:¬yCt s k m→¬zHv s:=fun hb hA=>hb ((hA k h).2 m h3)
        simp(disch:=omega)[go_sem,grpV,zGu,zEv,hka,zAz,zAh,hmr,i3];refine zAj q1 [] (by simp[go_sem]) (fun j1=>?_) (fun j1=>?_)
        ·simp(disch:=omega)[go_sem,zGu,zEv,hma];refine zAj q2 [] (by simp[go_sem]) (fun j2=>?_) (fun j2=>?_)
         ·simp(disch:=omega)[go_sem];refine zAc (fun j3=>?_) (fun j3=>?_)<;>simp at j3
          ·simp(disch:=omega)[go_sem,j3];exact badc fun hc=>(hc.2.1 j1).1 (by omega)
          ·simp(disch:=omega)[go_sem,hy];refine zAj (zFj (betw s k m) (yKu s k) 1048576) [] (by simp[go_sem]) (fun j4=>?_) (fun j4=>?_)
           ·have j5:=zEi.1 j4;simp(disch:=omega)[go_sem];refine zAb (m+1) ⟨by omega,fun b hb=>?_⟩ (by omega) (Le.mk [(0,some 0),(32,some 32)] [0,32] ⟨rfl,rfl,rfl⟩ ?_ ?_ ?_)
            ·by_cases eb:b=m
             ·subst eb;exact⟨by rw[j1,j2],fun _=>⟨by omega,j5⟩,fun j6=>by rw[j1]at j6;cases j6⟩
             ·exact hmo b (by omega)
            all_goals simp[go_sem]
           ·simp(disch:=omega)[go_sem];exact badc fun hc=>by have:=(hc.2.1 j1).2;rw[← zEi,j4]at this;cases this
         ·simp(disch:=omega)[go_sem];exact badc fun hc=>by have:=hc.1;rw[j1,j2]at this;cases this
        ·simp(disch:=omega)[go_sem,zGu,zEv,hma];refine zAj q2 [] (by simp[go_sem]) (fun j2=>?_) (fun j2=>?_)
         ·simp(disch:=omega)[go_sem];exact badc fun hc=>by have:=hc.1;rw[j1,j2]at this;cases this
         ·simp(disch:=omega)[go_sem];refine zAc (fun j3=>?_) (fun j3=>?_)<;>simp at j3
          ·simp(disch:=omega)[go_sem];exact badc fun hc=>j3 (hc.2.2 j1)
          ·simp(disch:=omega)[go_sem,j3];refine zAb (m+1) ⟨by omega,fun b hb=>?_⟩ (by omega) (Le.mk [(0,some 0),(32,some 32)] [0,32] ⟨rfl,rfl,rfl⟩ ?_ ?_ ?_)
           ·by_cases eb:b=m
            ·subst eb;exact⟨by rw[j1,j2],fun j6=>(by rw[j1]at j6;cases j6),fun _=>j3⟩
            ·exact hmo b (by omega)
           all_goals simp[go_sem,hy]
       ·simp(disch:=omega)[go_sem];refine zAb (k+1) ⟨by omega,fun b hb=>?_⟩ (by omega) (Le.mk [(0,some 0)] [0] ⟨rfl,rfl,rfl⟩ ?_ ?_ ?_)
        ·by_cases eb:b=k
         ·subst eb;exact⟨fun _=>hgo,fun c hc=>hmo c (by omega)⟩
         ·exact hno b (by omega)
        all_goals simp[go_sem,grpV]
     ·simp(disch:=omega)[go_sem];apply bad
      rintro⟨_,c1,c2⟩
      simp[inN]at h2;omega
   ·have e1:¬s.groups[k].kind=1:=fun e=>hkd (.inl e)
    have e2:¬s.groups[k].kind=2:=fun e=>hkd (.inr e)
    have e1':(s.groups[k].kind != 1)=true:=by simp[e1]
    have e2':(s.groups[k].kind != 2)=true:=by simp[e2]
    simp(disch:=omega)[go_sem,h,hg,grpV,e1',e2'];exact bad fun hh=>hkd hh.1
  ·simp(disch:=omega)[go_sem];exact fun a ha=>hno a (by omega)
def zKt(s:Sit)(a:Nat):Int:=((s.groups[a]?).map Grp.min).getD 0
def yTv(s:Sit)(p:Pha)(a:Nat):Prop:=zKt s a≤p.min∧(s.apart.getD a 0 &&& p.set)=0
def xDc(s:Sit)(p:Pha):Prop:=p.set≠0∧p.set<2 ^ s.groups.length∧((1≤p.min∧p.min≤1048576)∧(1≤p.max∧p.max≤1048576)∧(1≤p.gap∧p.gap≤1048576))∧p.min≤p.max∧∀a,p.set.testBit a=true→yTv s p a
def allK(s:Sit)(k:Nat):Nat:=(s.phases.take k).foldl (fun t p=>t ||| p.set) 0
theorem xAl(s:Sit)(k:Nat)(h:k<s.phases.length):allK s (k+1)=allK s k ||| s.phases[k].set:=by
 unfold allK
 rw[List.take_succ_eq_append_getElem h,List.foldl_append];rfl
def xDd(s:Sit)(k:Nat):Prop:=∀h:k<s.phases.length,xDc s s.phases[k]
def zJt(s:Sit):Prop:=(∀k,k<s.phases.length→xDd s k)∧popN (allK s s.phases.length)=s.groups.length
noncomputable instance (s:Sit):Decidable (zJt s):=Classical.propDecidable _
set_option maxHeartbeats 1000000 in
theorem yFr(s:Sit)(hS:zFo s):FnD Tryz.prog 53 [sitV s] (.bool (decide (zJt s))) tabG:=by
 have hpu:=(⟨zBq s.groups,zBp s.phases,zBr s.eyes,zAs s.plans,zBn s.apart,zBo s.between⟩:_∧_∧_∧_∧_∧_)
 obtain⟨hp1,hp2,hp3,hp4,hp5,hp6⟩:=hpu
 obtain⟨hn,ha,hb,hph,-,-,hrow⟩:=hS
 unfold sitV
 refine zAd mixed Tryz.func53 rfl rfl (by simp[Tryz.ntmps53]) fun hwf E=>?_
 simp(disch:=omega)[go_sem]at hwf
 have hws:=yDz hwf.2.2.2.2.1.2
 simp(disch:=omega)[Tryz.ntmps53,go_sem]
 refine zAe mixed (fun k:Nat=>⟨[(11,.int .i64 k),(10,.int .i64 s.phases.length),(9,.sl 5 (s.phases.map phaV)),(3,.int .u32 (allK s k:Int)),(1,.ptr 0 1 0 0),(2,.bool false)],[(0,⟨.box,29,12,[sitV s]⟩)],1024,[],85,0,tabG⟩)
  (fun k=>k≤s.phases.length∧allK s k<4294967296∧∀i,i<k→xDd s i) (fun k=>s.phases.length-k) 0 ⟨by omega,by simp[allK],fun a ha=>by omega⟩ ?_ ?_
 ·refine Le.mk [(0,some 0)] [0] ⟨rfl,rfl,rfl⟩ ?_ ?_ ?_<;>simp[go_sem,sitV,allK]
 ·rintro k ⟨hk,hall,hno⟩
  simp(disch:=omega)[go_sem,sitV];refine zAc (fun h=>?_) (fun h=>?_)<;>simp at h
  ·have hg:nth (s.phases.map phaV) k=phaV s.phases[k]:=zBt h;have hset:=hws _ (List.getElem_mem h);have bad:¬xDc s s.phases[k]→¬zJt s:=fun hb hA=>hb (hA.1 k h h)
   have hz:=zXy s.phases[k].set s.groups.length;have hpv:phaV s.phases[k]= .agg [.int .u32 s.phases[k].set,.int .i64 s.phases[k].min,.int .i64 s.phases[k].max,.int .i64 s.phases[k].gap,.bool s.phases[k].always]:=rfl;have hsucc:=xAl s k h;obtain⟨p,hpk⟩:∃p,s.phases[k]=p:=⟨_,rfl⟩;rw[hpk]at hset bad hz hpv hsucc hg;by_cases c1:p.set=0
   ·simp(disch:=omega)[go_sem,h,hg,hpv,c1];exact bad fun hh=>hh.1 c1
   ·by_cases c2:p.set<2 ^ s.groups.length
    ·simp(disch:=omega)[go_sem,h,hg,hpv,c1,hz.2 c2];refine zAj (zIp [p.min,p.max,p.gap]) [1408] (by simp[go_sem,ints]) (fun h2=>?_) (fun h2=>?_)
     ·simp only[List.all_cons,List.all_nil,Bool.and_true,Bool.and_eq_true,zEi]at h2;simp(disch:=omega)[go_sem];refine zAc (fun h3=>?_) (fun h3=>?_)<;>simp at h3
      ·simp(disch:=omega)[go_sem];apply bad
       rintro⟨_,_,_,c,_⟩;omega
      ·have hor:allK s k ||| p.set<4294967296:=xDi hall hset
       simp(disch:=omega)[go_sem];refine zAe mixed (fun t:Nat=>⟨[(6,.int .u32 (t:Int)),(11,.int .i64 k),(10,.int .i64 s.phases.length),(9,.sl 5 (s.phases.map phaV)),(3,.int .u32 ((allK s k ||| p.set:Nat):Int)),(5,.ptr 32 1 0 0),(1,.ptr 0 1 0 0),(2,.bool false)],
         [(0,⟨.box,29,12,[sitV s]⟩),(32,⟨.box,78,5,[phaV p]⟩)],4096,[],85,0,tabG⟩)
        (fun t=>t<4294967296∧(∀a,t.testBit a=true→p.set.testBit a=true)∧∀a,p.set.testBit a=true→t.testBit a=false→yTv s p a) (fun t=>(zPj t).length) p.set ⟨hset,fun a ha=>ha,fun a ha hb=>by rw[ha]at hb;cases hb⟩ ?_ ?_
       ·refine Le.mk [(0,some 0),(32,some 1072)] [0,1072] ⟨rfl,rfl,rfl⟩ ?_ ?_ ?_<;>simp[go_sem,sitV,hpv]
       ·rintro t ⟨ht,hsub,hdone⟩
        simp(disch:=omega)[go_sem,sitV];refine zAc (fun h4=>?_) (fun h4=>?_)<;>simp at h4
        ·obtain⟨hk1,hk2,-,-⟩:=yIx t h4 ht;have hls:=zWk t ht;rw[show zTt t=(lowN t:Int) by simp[zTt,h4]]at hls
         have hwo:=zKe t (lowN t) ht;have hlen:=congrArg List.length (zNm h4 ht);have hwt:=zGj ht (lowN t:Int);have hpb:=hsub _ hk2;generalize lowN t=b at *;have hbn:b<s.groups.length:=by
          apply Classical.byContradiction
          intro hnb;have:p.set.testBit b=false:=Nat.testBit_lt_two_pow (Nat.lt_of_lt_of_le c2 (Nat.pow_le_pow_right (by omega) (by omega)))
          rw[this]at hpb;cases hpb
         have hba:b<s.apart.length:=by omega
         have hgb:nth (s.groups.map grpV) b=grpV s.groups[b]:=zBt hbn;have hgm:s.groups[b].min=zKt s b:=by simp[zKt,hbn]
         have g2:s.apart.getD b 0=s.apart[b]:=by simp[hba]
         have hapb:s.apart[b]<4294967296:=by
          have h5:=(hrow b (by omega)).2
          rw[g2]at h5;have h6:2 ^ s.groups.length≤2 ^ 16:=Nat.pow_le_pow_right (by omega) hn.2
          omega
         have hgi:yTv s p b↔zKt s b≤p.min∧(s.apart[b] &&& p.set)=0:=by unfold yTv;rw[g2]
         simp(disch:=omega)[go_sem];refine zAa hls [] (by simp[go_sem]) (.inl rfl) (by simp[go_sem]) (fun _=>?_) (by simp[tabG,go_sem])
         simp(disch:=omega)[go_sem];refine zAa hwo [] (by simp[go_sem]) (.inl rfl) (by simp[go_sem]) (fun _=>?_)
         simp(disch:=omega)[go_sem,hgb,grpV,hbn,hgm,hpv,zGu,zEv,hba];refine⟨.inl (by kernel_rfl),zAc (fun h5=>?_) (fun h5=>?_)⟩
         ·simp(disch:=omega)[go_sem];apply bad
          rintro⟨_,_,_,_,hall2⟩
          have h6:=hgi.1 (hall2 b hpb);simp at h5;rcases h5 with h5|h5
          ·omega
          ·exact h5 (by simpa using h6.2)
         ·have h6:yTv s p b:=by
           rw[hgi];simp at h5;exact⟨by omega,by simpa using h5.2⟩
          simp(disch:=omega)[go_sem];refine zAb (zEa t b) ⟨zJd _ _,fun a ha=>?_,fun a ha hb=>?_⟩ ?_ (Le.mk [(0,some 0),(32,some 32)] [0,32] ⟨rfl,rfl,rfl⟩ ?_ ?_ ?_)
          ·rw[hwt]at ha;simp at ha;exact hsub a ha.1
          ·rw[hwt]at hb;by_cases e:a=b
           ·subst e;exact h6
           ·refine hdone a ha ?_;rw[decide_eq_false (show ¬(a:Int)=(b:Int) by omega)]at hb
            simpa using hb
          ·simp at hlen ⊢;omega
          all_goals simp[go_sem]
        ·subst h4;simp(disch:=omega)[go_sem];refine zAb (k+1) ⟨by omega,by rw[hsucc];exact hor,fun i hi=>?_⟩ (by omega) (Le.mk [(0,some 0)] [0] ⟨rfl,rfl,rfl⟩ ?_ ?_ ?_)
         ·by_cases e:i=k
          ·subst e;intro h';rw[hpk];exact⟨c1,c2,h2,h3,fun a ha=>hdone a ha (by simp)⟩
          ·exact hno i (by omega)
         all_goals simp[go_sem,hsucc]
     ·simp(disch:=omega)[go_sem];apply bad
      rintro⟨_,_,⟨b1,b2,b3⟩,_⟩
      simp[inN]at h2;omega
    ·have c2':((p.set:Int).fdiv (2 ^ s.groups.length) != 0)=true:=by simp[hz,c2]
     simp(disch:=omega)[go_sem,h,hg,hpv,c1,c2'];exact bad fun hh=>c2 hh.2.1
  ·have hkl:k=s.phases.length:=by omega
   subst hkl;simp(disch:=omega)[go_sem];refine zAa (yOe (allK s s.phases.length) hall) [] (by simp[go_sem]) (.inl rfl) (by simp[go_sem]) (fun _=>?_)
   simp(disch:=omega)[go_sem];refine⟨.inl (by kernel_rfl),?_⟩
   rw[Bool.eq_iff_iff];simp;constructor
   ·intro h5;exact⟨hno,by omega⟩
   ·rintro⟨_,h5⟩;omega
theorem zWq(f:Nat→Int):∀(l:List Nat) (n:Int),(∀b∈l,0≤f b∧f b≤1048576)→0≤n∧n≤1048576→0≤l.foldl (fun m b=>maxI m (f b)) n∧l.foldl (fun m b=>maxI m (f b)) n≤1048576
 |[],n,_,h=>h
 |b::l,n,hf,h=>by
  have hb:=hf b (by simp)
  refine zWq f l _ (fun c hc=>hf c (by simp[hc])) ?_
  show 0≤maxI n (f b)∧maxI n (f b)≤1048576
  unfold maxI;split<;>omega
theorem zXk(s:Sit)(hA:zHv s)(a b:Nat)(ha:a<s.groups.length)(hb:b<s.groups.length):0≤betw s a b∧betw s a b≤1048576:=by
 obtain⟨h1,h2⟩:=hA a ha
 obtain⟨-,h3,h4⟩:=h2 b hb
 have hy:=(h1 ha).2.2
 have hya:yKu s a=s.groups[a].yellow:=by simp[yKu,ha]
 cases h:isAp s a b
 ·rw[h4 h];omega
 ·have:=h3 h;omega
theorem zUq(s:Sit)(hS:zFo s)(hA:zHv s)(i j:Nat):0≤zGs s i j∧zGs s i j≤1048576:=by
 unfold zGs
 have:∀k,k≤s.groups.length→0≤zHr s (zMd s i) (zMd s j) k∧zHr s (zMd s i) (zMd s j) k≤1048576:=by
  intro k;induction k with
  |zero=>intro _;simp[zHr]
  |succ k ih=>
   intro hk;have ih:=ih (by omega)
   rw[zNj];unfold zPe;split
   ·unfold most;refine zWq _ _ _ (fun b hb=>?_) ih
    have hb2:=(yOn.1 hb).2;rw[Nat.testBit_and]at hb2;have hbn:b<s.groups.length:=by
     apply Classical.byContradiction
     intro hnb;have hr:=(hS.2.2.2.2.2.2 k (by rw[hS.2.2.1];omega)).2
     have:(s.apart.getD k 0).testBit b=false:=Nat.testBit_lt_two_pow (Nat.lt_of_lt_of_le hr (Nat.pow_le_pow_right (by omega) (by omega)))
     simp only[this,Bool.false_and]at hb2;cases hb2
    exact zXk s hA k b (by omega) hbn
   ·exact ih
 exact this _ (Nat.le_refl _)
theorem zYq(s:Sit)(hS:zFo s)(hA:zHv s)(hP:zJt s):zFa s:=by
 intro i hi
 have hc:=zUq s hS hA i ((i+1) % s.phases.length)
 have hm:=(hP.1 i hi hi).2.2.1.1
 have:zMe s i=s.phases[i].min:=by simp[zMe,hi]
 unfold zCi;omega
def chk(s:Sit):Nat→Prop
 |0=>(0≤s.id∧s.id≤65535)∧zFo s
 |1=>zHv s
 |2=>zJt s
 |3=>s.eyes.all (yOb s.phases.length)=true
 |4=>zEl s=true
 |5=>(s.plans.all fun p=>decide (Fits s p))=true
 |_=>True
def zAk(s:Sit):Prop:=∀i,i<6→chk s i
noncomputable instance (s:Sit):Decidable (zAk s):=Classical.propDecidable _
noncomputable def zAl(s:Sit):Int:=if zAk s then 0 else 50
set_option maxHeartbeats 1000000 in
theorem zCc(s:Sit):FnD Tryz.prog 24 [sitV s] (.int .i64 (zAl s)) tabG:=by
 have hpu:=(⟨zBq s.groups,zBp s.phases,zBr s.eyes,zAs s.plans,zBn s.apart,zBo s.between⟩:_∧_∧_∧_∧_∧_)
 obtain⟨hp1,hp2,hp3,hp4,hp5,hp6⟩:=hpu
 unfold sitV
 refine zAd mixed Tryz.func24 rfl rfl (by simp[Tryz.ntmps24]) fun hwf E=>?_
 simp(disch:=omega)[go_sem]at hwf
 simp(disch:=omega)[Tryz.ntmps24,go_sem]
 have bad:∀i,i<6→¬chk s i→zAl s=50:=fun i hi h=>by unfold zAl;rw[if_neg fun hA=>h (hA i hi)]
 refine zAe mixed (fun k:Nat=>⟨[(5,.int .i64 k),(3,.bool false),(1,.ptr 0 1 0 0),(2,.int .i64 0)],[(0,⟨.box,29,12,[sitV s]⟩)],1024,[],48,0,tabG⟩)
  (fun k=>k≤6∧∀i,i<k→chk s i) (fun k=>6-k) 0 ⟨by omega,fun a ha=>by omega⟩ ?_ ?_
 ·refine Le.mk [(0,some 0)] [0] ⟨rfl,rfl,rfl⟩ ?_ ?_ ?_<;>simp[go_sem,sitV]
 ·rintro k ⟨hk,hno⟩
  have hcases:k=0∨k=1∨k=2∨k=3∨k=4∨k=5∨k=6:=by omega
  rcases hcases with rfl|rfl|rfl|rfl|rfl|rfl|rfl
  ·simp(disch:=omega)[go_sem,sitV];refine zAj (zFj s.id 0 65535) [] (by simp[go_sem]) (fun h0=>?_) (fun h0=>?_)
   ·simp(disch:=omega)[go_sem];refine zAj (yLw s) [] (by simp[go_sem,sitV]) (fun h1=>?_) (fun h1=>?_)
    ·simp(disch:=omega)[go_sem];refine zAb 1 ⟨by omega,fun i hi=>?_⟩ (by omega) (Le.mk [(0,some 0)] [0] ⟨rfl,rfl,rfl⟩ ?_ ?_ ?_)
     ·have:i=0:=by omega
      subst this;exact⟨zEi.1 h0,by simpa using h1⟩
     all_goals simp[go_sem]
    ·simp(disch:=omega)[go_sem];exact(bad 0 (by omega) (fun hc=>by simp at h1;exact h1 hc.2)).symm
   ·simp(disch:=omega)[go_sem];exact(bad 0 (by omega) (fun hc=>by have:=zEi.2 hc.1;rw[h0]at this;cases this)).symm
  ·have hS:zFo s:=(hno 0 (by omega)).2
   simp(disch:=omega)[go_sem,sitV];refine zAj (apart_spec s hS) [] (by simp[go_sem,sitV]) (fun h1=>?_) (fun h1=>?_)
   ·simp(disch:=omega)[go_sem];refine zAb 2 ⟨by omega,fun i hi=>?_⟩ (by omega) (Le.mk [(0,some 0)] [0] ⟨rfl,rfl,rfl⟩ ?_ ?_ ?_)
    ·by_cases e:i=1
     ·subst e;simpa[chk] using h1
     ·exact hno i (by omega)
    all_goals simp[go_sem]
   ·simp(disch:=omega)[go_sem];exact(bad 1 (by omega) (by simpa[chk] using h1)).symm
  ·have hS:zFo s:=(hno 0 (by omega)).2
   simp(disch:=omega)[go_sem,sitV];refine zAj (yFr s hS) [] (by simp[go_sem,sitV]) (fun h1=>?_) (fun h1=>?_) (by simp[tabG,go_sem])
   ·simp(disch:=omega)[go_sem];refine zAb 3 ⟨by omega,fun i hi=>?_⟩ (by omega) (Le.mk [(0,some 0)] [0] ⟨rfl,rfl,rfl⟩ ?_ ?_ ?_)
    ·by_cases e:i=2
     ·subst e;simpa[chk] using h1
     ·exact hno i (by omega)
    all_goals simp[go_sem]
   ·simp(disch:=omega)[go_sem];exact(bad 2 (by omega) (by simpa[chk] using h1)).symm
  ·simp(disch:=omega)[go_sem,sitV];refine zAj (yYf s) [] (by simp[go_sem,sitV]) (fun h1=>?_) (fun h1=>?_)
   ·simp(disch:=omega)[go_sem];refine zAb 4 ⟨by omega,fun i hi=>?_⟩ (by omega) (Le.mk [(0,some 0)] [0] ⟨rfl,rfl,rfl⟩ ?_ ?_ ?_)
    ·by_cases e:i=3
     ·subst e;simpa[chk] using h1
     ·exact hno i (by omega)
    all_goals simp[go_sem]
   ·simp(disch:=omega)[go_sem];exact(bad 3 (by omega) (by simpa[chk] using h1)).symm
  ·have hS:zFo s:=(hno 0 (by omega)).2
   have hN:zFa s:=zYq s hS (hno 1 (by omega)) (hno 2 (by omega))
   simp(disch:=omega)[go_sem,sitV];refine zAj (yLj s hS hN) [] (by simp[go_sem,sitV]) (fun h1=>?_) (fun h1=>?_) (by simp[tabG,go_sem])
   ·simp(disch:=omega)[go_sem];refine zAb 5 ⟨by omega,fun i hi=>?_⟩ (by omega) (Le.mk [(0,some 0)] [0] ⟨rfl,rfl,rfl⟩ ?_ ?_ ?_)
    ·by_cases e:i=4
     ·subst e;simpa[chk] using h1
     ·exact hno i (by omega)
    all_goals simp[go_sem]
   ·simp(disch:=omega)[go_sem];exact(bad 4 (by omega) (by simpa[chk] using h1)).symm
  ·have hS:zFo s:=(hno 0 (by omega)).2
   have hN:zFa s:=zYq s hS (hno 1 (by omega)) (hno 2 (by omega))
   have hL:0≤s.low∧s.high≤1048576:=by
    have h4:zEl s=true:=hno 4 (by omega)
    simp[zEl,inN]at h4;omega
   simp(disch:=omega)[go_sem,sitV];refine zAj (yBe s hS hN hL) [] (by simp[go_sem,sitV]) (fun h1=>?_) (fun h1=>?_) (by simp[tabG,go_sem])
   ·simp(disch:=omega)[go_sem];refine zAb 6 ⟨by omega,fun i hi=>?_⟩ (by omega) (Le.mk [(0,some 0)] [0] ⟨rfl,rfl,rfl⟩ ?_ ?_ ?_)
    ·by_cases e:i=5
     ·subst e;simpa[chk] using h1
     ·exact hno i (by omega)
    all_goals simp[go_sem]
   ·simp(disch:=omega)[go_sem];exact(bad 5 (by omega) (by simpa[chk] using h1)).symm
  ·simp(disch:=omega)[go_sem];unfold zAl;rw[if_pos (show zAk s from hno)]
theorem zAk.shaped{s:Sit}(h:zAk s):zFo s:=(h 0 (by omega)).2
theorem zAk.apart{s:Sit}(h:zAk s):zHv s:=h 1 (by omega)
theorem zAk.phased{s:Sit}(h:zAk s):zJt s:=h 2 (by omega)
theorem zAk.needs{s:Sit}(h:zAk s):zFa s:=zYq s h.shaped h.apart h.phased
theorem zAk.low{s:Sit}(h:zAk s):0≤s.low∧s.high≤1048576:=by
 have h4:zEl s=true:=h 4 (by omega)
 simp[zEl,inN]at h4
 omega
theorem zEr{s:Sit}(h:zAk s):zAl s=0:=by unfold zAl;rw[if_pos h]
theorem zLy{s:Sit}(h:¬zAk s):zAl s=50:=by unfold zAl;rw[if_neg h]
theorem yBf(s:Sit)(p:Pln):FnD Tryz.prog 133 [sitV s,plnV p] (.tup [.bool (decide (zAk s)&&decide (Fits s p)),.int .i64 (zAl s)]) tabG:=by
 have hpu:=(⟨zBq s.groups,zBp s.phases,zBr s.eyes,zAs s.plans,zBn s.apart,zBo s.between⟩:_∧_∧_∧_∧_∧_)
 obtain⟨hp1,hp2,hp3,hp4,hp5,hp6⟩:=hpu
 have hc:=zCc s
 have hf:=fun(h:zAk s)=>yCc s p h.shaped h.needs h.low
 have hsv:=zAr s
 have hpv:plnV p= .agg [.int .i64 p.cycle,.int .i64 p.offset,.sl 1 (ints p.splits)]:=rfl
 rw[hsv]at hc hf ⊢
 rw[hpv]at hf ⊢
 refine zAd mixed Tryz.func133 rfl rfl (by simp[Tryz.ntmps133]) fun hwf E=>?_
 simp(disch:=omega)[Tryz.ntmps133,go_sem]
 refine zAa hc [] (by simp[go_sem]) (.inl rfl) (by simp[go_sem]) (fun _=>?_) (by simp[tabG,go_sem])
 by_cases hOk:zAk s
 ·rw[zEr hOk];simp(disch:=omega)[go_sem];refine zAa (hf hOk) [] (by simp[go_sem]) (.inl rfl) (by simp[go_sem]) (fun _=>?_) (by simp[tabG,go_sem])
  simp(disch:=omega)[go_sem,hOk]
 ·rw[zLy hOk];simp(disch:=omega)[go_sem,hOk]
theorem zGt(s:Sit):(sitV s).pure:=by
 simp[sitV,go_sem]
def yGj(s:Sit)(g:FuncId):V:= .func (.func g) [] [.tptr 12 [sitV s] 0 0]
noncomputable def askN(s:Sit)(b:Int)(l:List Int):Int:=if zAk s then if(l.all fun x=>inN x 0 (b-1))=true then 0 else 2 else 50
theorem yOq(s:Sit)(g:FuncId)(b:Int)(l:List Int)(hb:0≤b∧b≤140737488355328)(hg:FnD Tryz.prog g [.tptr 12 [sitV s] 0 0] (.int .i64 b)) :
  FnD Tryz.prog 211 [sitV s,yGj s g,.sl 1 (ints l)] (.int .i64 (askN s b l)) tabG:=by
 have hpu:=(⟨zBq s.groups,zBp s.phases,zBr s.eyes,zAs s.plans,zBn s.apart,zBo s.between⟩:_∧_∧_∧_∧_∧_)
 obtain⟨hp1,hp2,hp3,hp4,hp5,hp6⟩:=hpu
 have hc:=zCc s
 have hsv:=zAr s
 unfold yGj
 rw[hsv]at hc hg ⊢
 refine zAd mixed Tryz.func211 rfl rfl (by simp[Tryz.ntmps211]) fun hwf E=>?_
 simp(disch:=omega)[go_sem,zAh]at hwf
 simp(disch:=omega)[Tryz.ntmps211,go_sem]
 refine zAa hc [] (by simp[go_sem]) (.inl rfl) (by simp[go_sem]) (fun _=>?_) (by simp[tabG,go_sem])
 by_cases hOk:zAk s
 ·rw[zEr hOk];simp(disch:=omega)[go_sem,zAh];refine zAe mixed (fun k:Nat=>⟨[(17,.int .i64 k),(16,.int .i64 l.length),(15,.sl 1 (ints l)),(1,.func (.func g) [] [.tptr 12 [sitV s] 0 0]),(6,.int .i64 0)],[],1024,[],28,0,tabG⟩)
   (fun k=>k≤l.length∧∀j (h:j<l.length),j<k→inN l[j] 0 (b-1)=true) (fun k=>l.length-k) 0 (by simp) ?_ ?_
  ·refine Le.mk [] [] ⟨rfl,rfl,rfl⟩ ?_ ?_ ?_<;>simp[go_sem,sitV]
  ·rintro k ⟨hk,hno⟩
   simp(disch:=omega)[go_sem];refine zAc (fun h=>?_) (fun h=>?_)<;>simp at h
   ·simp(disch:=omega)[go_sem,zAh,zAz,h];refine zAa hg [] (by simp[go_sem,sitV]) (.inl rfl) (by simp[go_sem]) (fun _=>?_)
    simp(disch:=omega)[go_sem];refine zAj (zFj l[k] 0 (b-1)) [] (by simp[go_sem]) (fun h1=>?_) (fun h1=>?_)
    ·simp(disch:=omega)[go_sem];refine zAb (k+1) ⟨by omega,fun j h3 hj=>?_⟩ (by omega) (Le.mk [] [] ⟨rfl,rfl,rfl⟩ ?_ ?_ ?_)
     ·by_cases e:j=k
      ·subst e;exact h1
      ·exact hno j h3 (by omega)
     all_goals simp(disch:=omega)[go_sem,sitV]
    ·simp(disch:=omega)[go_sem];unfold askN;rw[if_pos hOk,if_neg];simp only[List.all_eq_true];intro hA;have:=hA _ (List.getElem_mem h);rw[h1]at this;cases this
   ·simp(disch:=omega)[go_sem];unfold askN;rw[if_pos hOk,if_pos];simp only[List.all_eq_true];intro x hx;obtain⟨j,hj,rfl⟩:=List.getElem_of_mem hx;exact hno j hj (by omega)
 ·rw[zLy hOk];simp(disch:=omega)[go_sem];unfold askN;rw[if_neg hOk]
theorem yHc(s:Sit):FnD Tryz.prog 212 [.tptr 12 [sitV s] 0 0] (.int .i64 s.phases.length):=by
 unfold sitV
 refine zAd mixed Tryz.func212 rfl rfl (by simp[Tryz.ntmps212]) fun hwf E=>?_
 simp(disch:=omega)[Tryz.ntmps212,go_sem]
theorem yZy{s:Sit}{b:Int}{l:List Int}(h:askN s b l=0):zAk s∧∀x∈l,0≤x∧x≤b-1:=by
 unfold askN at h
 split at h
 ·rename_i hOk;split at h
  ·rename_i hA;simp only[List.all_eq_true,zEi]at hA;exact⟨hOk,hA⟩
  ·cases h
 ·cases h
theorem yEv(s:Sit)(a b:Int):FnD Tryz.prog 190 [sitV s,.int .i64 a,.int .i64 b] (.tup [.int .i64 (if askN s s.phases.length [a,b]=0 then zGs s a.toNat b.toNat else 0),.int .i64 (askN s s.phases.length [a,b])]) tabG:=by
 have hpu:=(⟨zBq s.groups,zBp s.phases,zBr s.eyes,zAs s.plans,zBn s.apart,zBo s.between⟩:_∧_∧_∧_∧_∧_)
 obtain⟨hp1,hp2,hp3,hp4,hp5,hp6⟩:=hpu
 have hsv:=zAr s
 have hq:=fun hb=>yOq s 212 s.phases.length [a,b] hb (yHc s)
 have hc:=zXg s
 unfold yGj at hq
 rw[hsv]at hq hc ⊢
 refine zAd mixed Tryz.func190 rfl rfl (by simp[Tryz.ntmps190]) fun hwf E=>?_
 simp(disch:=omega)[go_sem]at hwf
 simp(disch:=omega)[Tryz.ntmps190,go_sem]
 refine zAa (hq ⟨by omega,by omega⟩) [0,112] (by simp[go_sem,ints]) (.inr (by simp[go_sem])) (by simp[go_sem]) (fun _=>?_) (by simp[tabG,go_sem])
 simp(disch:=omega)[go_sem]
 refine zAc (fun h=>?_) (fun h=>?_)<;>simp at h
 ·simp(disch:=omega)[go_sem,h]
 ·obtain⟨hOk,hl⟩:=yZy h;have ha:=hl a (by simp)
  have hb:=hl b (by simp)
  obtain⟨i,rfl⟩:=Int.eq_ofNat_of_zero_le ha.1;obtain⟨j,rfl⟩:=Int.eq_ofNat_of_zero_le hb.1;simp(disch:=omega)[go_sem];refine zAa (hc i j hOk.shaped (by omega) (by omega)) [] (by simp[go_sem]) (.inl rfl) (by simp[go_sem]) (fun _=>?_) (by simp[tabG,go_sem])
  simp(disch:=omega)[go_sem,h]
end
section
structure SubN where
 sites:List Int
 critical:Int
structure WedN where
 a:Int
 b:Int
 votes:Int
 offsets:List Int
structure NetN where
 sites:List Sit
 subs:List SubN
 weds:List WedN
 low:Int
 high:Int
 step:Int
def subV(u:SubN):V:= .agg [.sl 1 (ints u.sites),.int .i64 u.critical]
def wedV(w:WedN):V:= .agg [.int .i64 w.a,.int .i64 w.b,.int .i64 w.votes,.sl 1 (ints w.offsets)]
theorem yQk(l:List Sit):zBa (l.map sitV):=zBc _ zGt l
theorem yQf(l:List SubN):zBa (l.map subV):=zBc _ (fun u=>by simp[subV,go_sem]) l
theorem yPn(l:List WedN):zBa (l.map wedV):=zBc _ (fun u=>by simp[wedV,go_sem]) l
def zQr(l:List Int)(x:Int):Int:=match l.findIdx? (· == x)with|some i=>i|none=> -1
theorem yRn{l:List Int}{x:Int}{k:Nat}(h:k<l.length)(hno:∀j (hj:j<l.length),j<k→l[j]≠x)(hk:l[k]=x):zQr l x=k:=by
 have:l.findIdx? (· == x)=some k:=by
  rw[List.findIdx?_eq_some_iff_getElem];exact⟨h,by simpa using hk,fun j hj=>by simpa using hno j (by omega) hj⟩
 simp[zQr,this]
theorem yIn{l:List Int}{x:Int}(hno:∀j (hj:j<l.length),l[j]≠x):zQr l x= -1:=by
 have:l.findIdx? (· == x)=none:=by
  rw[List.findIdx?_eq_none_iff];intro y hy;obtain⟨j,hj,rfl⟩:=List.getElem_of_mem hy;simpa using hno j hj
 simp[zQr,this]
theorem yRo{l:List Int}{x:Int}:decide (zQr l x≥0)=decide (x∈l):=by
 by_cases h:x∈l
 ·obtain⟨j,hj,e⟩:=List.getElem_of_mem h;unfold zQr;cases hf:l.findIdx? (· == x)with
  |none=>
   have:=List.findIdx?_eq_none_iff.1 hf x h;simp at this
  |some i=>simp[h]
 ·have:zQr l x= -1:=yIn fun j hj e=>h (e▸List.getElem_mem hj)
  simp[this,h]
def zQm(n:NetN):Prop:=(1≤n.low∧n.low≤1048576)∧(n.low≤n.high∧n.high≤1048576)∧(1≤n.step∧n.step≤1048576)∧(n.high-n.low).tmod n.step=0∧(n.high-n.low).tdiv n.step≤64
instance (n:NetN):Decidable (zQm n):=by unfold zQm;infer_instance
def marks(l:List Int):List V:=l.map fun i=> .tup [.int .i64 i,.bool true]
theorem zSj{α:Type}{f:α→V}:∀ {l:List α},wfs (l.map f)→∀x∈l,(f x).wf
 |y::l,h,x,hx=>by
  simp only[List.map_cons,wfs]at h;rcases List.mem_cons.1 hx with rfl|hx
  ·exact h.1
  ·exact zSj h.2 x hx
def cycK(n:NetN):Nat:=((n.high-n.low) / n.step).toNat
def xWy(n:NetN)(i:Nat):Int:=n.low+n.step*i
theorem zQm.q{n:NetN}(h:zQm n):n.step*cycK n=n.high-n.low∧cycK n≤64:=by
 obtain⟨h1,h2,h3,h4,h5⟩:=h
 have hq:(n.high-n.low).tdiv n.step=(n.high-n.low) / n.step:=Int.tdiv_eq_ediv_of_nonneg (by omega)
 have hr:(n.high-n.low).tmod n.step=(n.high-n.low) % n.step:=Int.tmod_eq_emod_of_nonneg (by omega)
 have hq0:0≤(n.high-n.low) / n.step:=Int.ediv_nonneg (by omega) (by omega)
 rw[hq]at h5
 rw[hr]at h4
 have e:((cycK n:Nat):Int)=(n.high-n.low) / n.step:=by unfold cycK;omega
 constructor
 ·rw[e];exact Int.mul_ediv_cancel_of_emod_eq_zero h4
 ·omega
theorem zQm.at{n:NetN}(h:zQm n){i:Nat}:xWy n i≤n.high↔i≤cycK n:=by
 have hq:=h.q.1
 have hs:=h.2.2.1.1
 unfold xWy
 constructor
 ·intro h1;apply Classical.byContradiction
  intro h2;have:n.step*((cycK n:Int)+1)≤n.step*i:=Int.mul_le_mul_of_nonneg_left (by omega) (by omega)
  rw[Int.mul_add]at this;omega
 ·intro h1;have:n.step*(i:Int)≤n.step*(cycK n:Int):=Int.mul_le_mul_of_nonneg_left (by omega) (by omega)
  omega
theorem xEi(a b:List Int):ints (a++b)=ints a++ints b:=by simp[ints]
end
section
def xTl(r:Int × Int × Int):V:= .agg [.int .i64 r.1,.int .i64 r.2.1,.int .i64 r.2.2]
section
variable {now wish0 many wish need : Int}
end
end
section
def bts(l:List UInt8):List V:=l.map fun b=> .int .u8 (b.toNat:Int)
theorem zAm(l:List UInt8):(bts l).length=l.length:=by simp[bts]
theorem zCh(a b:List UInt8):bts (a++b)=bts a++bts b:=by simp[bts]
theorem zAg(l:List UInt8):zBa (bts l):=zBc _ (fun u=>by simp[go_sem]) l
theorem zJn{l:List UInt8}{k:Nat}(h:k<l.length):nth (bts l) k= .int .u8 (l[k].toNat:Int):=by rw[bts,zBt h]
theorem zBy(l:List UInt8)(k:Nat):(bts l).take k=bts (l.take k):=by simp[bts]
theorem zDs(l:List UInt8)(k:Nat):(bts l).drop k=bts (l.drop k):=by simp[bts]
theorem zLz:∀(l:List UInt8),zRd (bts l)=some l
 |[]=>rfl
 |b::l=>by
  have ih:=zLz l;unfold bts at ih ⊢;simp only[List.map_cons,zRd,ih,Option.map_some,Int.toNat_natCast,UInt8.ofNat_toNat]
theorem w8(m:Nat):IntKind.u8.wrap (m:Int)=((m % 256:Nat):Int):=by
 unfold IntKind.wrap
 simp[IntKind.bits,IntKind.signed]
theorem yGr(t b:Nat):(t:Int).fdiv (2 ^ b)=((t / 2 ^ b:Nat):Int):=by
 rw[show ((2:Int) ^ b)=((2 ^ b:Nat):Int) by simp,Int.fdiv_eq_ediv_of_nonneg _ (Int.natCast_nonneg _)]
 exact(Int.natCast_ediv _ _).symm
theorem w64{m:Nat}(h:m<18446744073709551616):IntKind.u64.wrap (m:Int)=(m:Int):=IntWalk.u64_in _ ⟨by omega,by omega⟩
theorem xXa(n:Nat)(hn:n<256):zDk .or .u8 (n:Int) 128=some (.int .u8 ((n % 128+128:Nat):Int)):=by
 unfold zDk
 show some (V.int .u8 (IntKind.u8.wrap (((BitVec.ofInt 8 (n:Int) ||| BitVec.ofInt 8 128).toNat:Nat):Int)))=_
 have e:(BitVec.ofInt 8 (n:Int) ||| BitVec.ofInt 8 128).toNat=n % 128+128:=by
  rw[BitVec.ofInt_natCast];have:∀m,m<256→(BitVec.ofNat 8 m ||| BitVec.ofInt 8 128).toNat=m % 128+128:=by decide +kernel
  exact this n hn
 rw[e,w8]
 congr 3
 omega
theorem xKo(n:Nat)(hn:n<256):zDk .and .u8 (n:Int) 127=some (.int .u8 ((n % 128:Nat):Int)):=by
 unfold zDk
 show some (V.int .u8 (IntKind.u8.wrap (((BitVec.ofInt 8 (n:Int) &&& BitVec.ofInt 8 127).toNat:Nat):Int)))=_
 have e:(BitVec.ofInt 8 (n:Int) &&& BitVec.ofInt 8 127).toNat=n % 128:=by
  rw[BitVec.ofInt_natCast];have:∀m,m<256→(BitVec.ofNat 8 m &&& BitVec.ofInt 8 127).toNat=m % 128:=by decide +kernel
  exact this n hn
 rw[e,w8]
 congr 3
 omega
theorem xKp{a b:Nat}(ha:a<18446744073709551616)(hb:b<18446744073709551616):zDk .or .u64 (a:Int) (b:Int)=some (.int .u64 ((a ||| b:Nat):Int)):=by
 unfold zDk
 show some (V.int .u64 (IntKind.u64.wrap (((BitVec.ofInt 64 (a:Int) ||| BitVec.ofInt 64 (b:Int)).toNat:Nat):Int)))=_
 rw[BitVec.ofInt_natCast,BitVec.ofInt_natCast,BitVec.toNat_or,BitVec.toNat_ofNat,BitVec.toNat_ofNat,Nat.mod_eq_of_lt ha,Nat.mod_eq_of_lt hb,w64 (Nat.or_lt_two_pow (n:=64) ha hb)]
theorem zLf{a b:Nat}(ha:a<4294967296)(hb:b<4294967296):zDk .xor .u32 (a:Int) (b:Int)=some (.int .u32 ((a ^^^ b:Nat):Int)):=by
 unfold zDk
 show some (V.int .u32 (IntKind.u32.wrap (((BitVec.ofInt 32 (a:Int) ^^^ BitVec.ofInt 32 (b:Int)).toNat:Nat):Int)))=_
 have h:=Nat.xor_lt_two_pow (n:=32) ha hb
 rw[BitVec.ofInt_natCast,BitVec.ofInt_natCast,BitVec.toNat_xor,BitVec.toNat_ofNat,BitVec.toNat_ofNat,Nat.mod_eq_of_lt ha,Nat.mod_eq_of_lt hb,IntWalk.u32_in _ ⟨by omega,by omega⟩]
theorem xUj{a x k:Nat}(h:a<2 ^ k):a ||| (x*2 ^ k)=a+x*2 ^ k:=by
 rw[Nat.or_comm,Nat.mul_comm,← Nat.two_pow_add_eq_or_of_lt h,Nat.add_comm]
def zEm:Nat→Nat→List UInt8
 |0,n=>[UInt8.ofNat n]
 |f+1,n=>if n≤127 then[UInt8.ofNat n]else UInt8.ofNat (n % 128+128)::zEm f (n / 128)
def zDv(n:Nat):List UInt8:=zEm 10 n
theorem zLm{f n:Nat}(h:n≤127):zEm f n=[UInt8.ofNat n]:=by cases f<;>simp[zEm,h]
theorem zGz:∀f n,1≤(zEm f n).length∧(zEm f n).length≤f+1
 |0,n=>by simp[zEm]
 |f+1,n=>by
  unfold zEm;have:=zGz f (n / 128);split
  ·simp
  ·simp;omega
def smF(p:List UInt8 × Nat × Nat):St:=match p.1 with
 |[]=>⟨[(3,.nilS),(0,.int .u64 p.2.1)],[],1024,[],19,0,[]⟩
 |b::r=>⟨[(3,.obj 1008 (r.length+1)),(0,.int .u64 p.2.1)],[(1008,⟨.arr,5,1,bts (b::r)⟩)],1024,[],19,0,[]⟩
def smI(n:Nat)(p:List UInt8 × Nat × Nat):Prop:=p.1++zEm p.2.2 p.2.1=zDv n∧p.2.1<18446744073709551616∧p.2.1<128 ^ (p.2.2+1)∧p.1.length+p.2.2=10
theorem zVw(n:Nat)(hn:n<18446744073709551616):FnD Tryz.prog 191 [.int .u64 n] (.sl 1 (bts (zDv n))):=by
 refine zAd mixed Tryz.func191 rfl rfl (by simp[Tryz.ntmps191]) fun hwf E=>?_
 clear hwf
 simp(disch:=omega)[Tryz.ntmps191,go_sem]
 refine zAe mixed smF (smI n) (fun p:List UInt8 × Nat × Nat=>p.2.2) ([],n,10) ⟨rfl,hn,by simp only;omega,rfl⟩ ?_ ?_
 ·refine Le.mk [] [] ⟨rfl,rfl,rfl⟩ ?_ ?_ ?_<;>simp[go_sem,smF]
 ·rintro⟨pre,m,f⟩ ⟨h1,h2,h3,h4⟩
  simp only at h1 h2 h3 h4;have hm256:m % 256<256:=Nat.mod_lt _ (by omega)
  have hmm:m % 256 % 128=m % 128:=by omega
  have e8:zDk .or .u8 ((m:Int) % 256) 128=some (.int .u8 ((m:Int) % 128+128)):=by
   have:=xXa (m % 256) hm256;rw[hmm]at this
   push_cast at this
   exact this
  have hby:(UInt8.ofNat (m % 128+128)).toNat=m % 128+128:=by rw[UInt8.toNat_ofNat'];omega
  have hby2:(UInt8.ofNat m).toNat=m % 256:=UInt8.toNat_ofNat' ..;have hdiv:((m:Int)).fdiv 128=(m:Int) / 128:=by
   have:=yGr m 7
   push_cast at this
   exact this
  have key:127<m→∃g,f=g+1∧smI n (pre++[UInt8.ofNat (m % 128+128)],m / 128,g):=fun hm=>by
   cases f with
   |zero=>simp at h3;omega
   |succ g=>
    refine⟨g,rfl,?_,by simp only;omega,?_,by simp;omega⟩
    ·rw[← h1,List.append_assoc]
     congr 1
     show UInt8.ofNat (m % 128+128)::zEm g (m / 128)=zEm (g+1) m
     rw[zEm,if_neg (by omega)]
    ·simp only;rw[Nat.pow_succ]at h3;exact Nat.div_lt_of_lt_mul (by rw[Nat.mul_comm];exact h3)
  cases pre with
  |nil=>
   simp(disch:=omega)[go_sem,smF];refine zAc (fun h=>?_) (fun h=>?_)<;>simp at h
   ·obtain⟨g,rfl,hI⟩:=key (by omega)
    simp(disch:=omega)[go_sem,w8,e8];refine zAb ([]++[UInt8.ofNat (m % 128+128)],m / 128,g) hI (by show g<g+1;omega) (Le.mk [(1008,some 1136)] [1136] ⟨rfl,rfl,rfl⟩ ?_ ?_ ?_)<;>simp[go_sem,smF,bts,hby,hdiv,-UInt8.ofNat_add,-UInt8.toNat_add]
   ·have hs:zDv n=[UInt8.ofNat m]:=by rw[← h1,zLm (by omega),List.nil_append]
    simp(disch:=omega)[go_sem,w8];rw[hs];simp[go_sem,bts,hby2]
  |cons b r=>
   have hl:r.length≤10:=by simp at h4;omega
   have hpb:=zAg (b::r);have hbl:=zAm (b::r);simp only[List.length_cons]at hbl;simp(disch:=omega)[go_sem,smF];refine zAc (fun h=>?_) (fun h=>?_)<;>simp at h
   ·obtain⟨g,rfl,hI⟩:=key (by omega)
    simp(disch:=omega)[go_sem,w8,e8,hbl];have hba:bts (b::r++[UInt8.ofNat (m % 128+128)])=bts (b::r)++[.int .u8 ((m:Int) % 128+128)]:=by
     rw[zCh]
     congr 1
     show [V.int .u8 ((UInt8.ofNat (m % 128+128)).toNat:Int)]=_
     rw[hby];push_cast;rfl
    have hbq:=hba;simp only[List.cons_append]at hbq;refine⟨by simp at h4;omega,?_⟩
    refine zAb (b::(r++[UInt8.ofNat (m % 128+128)]),m / 128,g) hI (by show g<g+1;omega) (Le.mk [(1008,some 1008)] [1008] ⟨rfl,rfl,rfl⟩ ?_ ?_ ?_)<;>simp[go_sem,smF,hdiv,hbq,hpb,-UInt8.ofNat_add]
   ·have hs:zDv n=b::r++[UInt8.ofNat m]:=by rw[← h1,zLm (by omega)]
    have hba:bts (b::r++[UInt8.ofNat m])=bts (b::r)++[.int .u8 ((m % 256:Nat):Int)]:=by rw[zCh];simp[bts,hby2]
    simp(disch:=omega)[go_sem,w8,hbl];rw[hs,hba];refine⟨by omega,?_⟩
    simp only[Int.natCast_emod,Int.cast_ofNat_Int];exact zJq (zAt hpb) (by simp[go_sem])
def zTf:Nat→Nat→List UInt8→Option (Nat × Nat)
 |_,_,[]=>none
 |i,n,x::r=>if i=9∧1<x.toNat then none else if x.toNat<128 then(if x.toNat=0∧0<i then none else some (n+x.toNat % 128*2 ^ (7*i),i+1))else zTf (i+1) (n+x.toNat % 128*2 ^ (7*i)) r
def zKc(l:List UInt8):Option (Nat × Nat):=zTf 0 0 l
def zMu:Option (Nat × Nat)→V
 |some (n,k)=> .tup [.int .u64 n,.int .i64 k,.int .i64 0]
 |none=> .tup [.int .u64 0,.int .i64 0,.int .i64 8]
theorem zHx(l:List UInt8):FnD Tryz.prog 188 [.sl 1 (bts l)] (zMu (zKc l)):=by
 have hpl:=zAg l
 refine zAd mixed Tryz.func188 rfl rfl (by simp[Tryz.ntmps188]) fun hwf E=>?_
 simp(disch:=omega)[go_sem,zAm]at hwf
 simp(disch:=omega)[Tryz.ntmps188,go_sem,zAm]
 refine zAe mixed (fun p:Nat × Nat=>⟨[(10,.int .i64 p.1),(9,.int .i64 l.length),(8,.sl 1 (bts l)),(5,.int .u64 p.2)],[],1024,[],41,0,[]⟩)
  (fun p=>p.1≤l.length∧p.2<2 ^ (7*p.1)∧p.1≤9∧zKc l=zTf p.1 p.2 (l.drop p.1)) (fun p=>l.length-p.1) (0,0) ⟨by simp,by simp,by simp,rfl⟩ ?_ ?_
 ·refine Le.mk [] [] ⟨rfl,rfl,rfl⟩ ?_ ?_ ?_<;>simp[go_sem]
 ·rintro⟨i,n⟩ ⟨h1,h2,h3,h4⟩
  simp only at h1 h2 h3 h4;simp(disch:=omega)[go_sem];refine zAc (fun h=>?_) (fun h=>?_)<;>simp at h
  ·have hx:=l[i].toNat_lt;rw[List.drop_eq_getElem_cons h,zTf]at h4;have hp64:(2:Nat) ^ (7*i)≤2 ^ 63:=Nat.pow_le_pow_right (by omega) (by omega)
   have e7:zDk .and .u8 (l[i].toNat:Int) 127=some (.int .u8 ((l[i].toNat:Int) % 128)):=by
    have:=xKo l[i].toNat hx
    push_cast at this
    exact this
   have ht7:(7*(i:Int)).toNat=7*i:=by omega
   have hxm:l[i].toNat % 128<128:=Nat.mod_lt _ (by omega)
   have hnx:l[i].toNat % 128*2 ^ (7*i)<18446744073709551616∨(i=9∧1<l[i].toNat):=by
    by_cases hi:i=9
    ·subst hi;by_cases h9:1<l[9].toNat
     ·exact .inr ⟨rfl,h9⟩
     ·left
      have:l[9].toNat % 128≤1:=by omega
      calc l[9].toNat % 128*2 ^ (7*9)≤1*2 ^ (7*9):=Nat.mul_le_mul_right _ this
       _<_:=by decide
    ·left
     have hp:(2:Nat) ^ (7*i)≤2 ^ 56:=Nat.pow_le_pow_right (by omega) (by omega)
     calc l[i].toNat % 128*2 ^ (7*i)≤127*2 ^ 56:=Nat.mul_le_mul (by omega) hp
      _<_:=by decide
   have hor:=xUj (x:=l[i].toNat % 128) h2;generalize hX:l[i].toNat=x at *;simp(disch:=omega)[go_sem,zAm,zJn,h,hX];refine zAc (fun h5=>?_) (fun h5=>?_)<;>simp at h5
   ·rw[if_pos (by omega)]at h4
    rw[h4];simp(disch:=omega)[go_sem,zMu]
   ·have h9:¬(i=9∧1<x):=fun e=>by have:=h5 (by omega);omega
    rw[if_neg h9]at h4;have hnx:=hnx.resolve_right h9;have hmin:min (7*i) 64=7*i:=by omega
    have hb64:=xKp (a:=n) (b:=x % 128*2 ^ (7*i)) (by omega) hnx
    rw[hor]at hb64;have hw:=w64 hnx
    push_cast at hb64 hw
    have hn2:n+x % 128*2 ^ (7*i)<2 ^ (7*(i+1)):=by
     have:(2:Nat) ^ (7*(i+1))=128*2 ^ (7*i):=by rw[show 7*(i+1)=7*i+7 by omega,Nat.pow_add];omega
     rw[this];have:=Nat.mul_le_mul_right (2 ^ (7*i)) (show x % 128≤127 by omega)
     omega
    simp(disch:=omega)[go_sem,e7,ht7,hw,hb64,hmin];refine⟨by omega,?_⟩
    refine zAc (fun h6=>?_) (fun h6=>?_)<;>simp at h6
    ·rw[if_pos (by omega)]at h4
     simp(disch:=omega)[go_sem];refine zAc (fun h7=>?_) (fun h7=>?_)<;>simp at h7
     ·rw[if_pos (by omega)]at h4
      rw[h4];simp(disch:=omega)[go_sem,zMu]
     ·rw[if_neg (by omega)]at h4
      rw[h4];simp(disch:=omega)[go_sem,zMu]
    ·rw[if_neg (by omega)]at h4
     simp(disch:=omega)[go_sem];refine zAb (i+1,n+x % 128*2 ^ (7*i)) ⟨by simp only;omega,hn2,?_,h4⟩ (by simp only;omega) (Le.mk [] [] ⟨rfl,rfl,rfl⟩ ?_ ?_ ?_)
     ·simp only;by_cases hi9:i=9
      ·exact absurd ⟨hi9,by omega⟩ h9
      ·omega
     all_goals simp[go_sem]
  ·have hil:i=l.length:=by omega
   subst hil;rw[List.drop_length,zTf]at h4;rw[h4];simp(disch:=omega)[go_sem,zMu]
def putB(n k:Nat):List UInt8:=(List.range 4).map fun i=>if i<k then UInt8.ofNat (n / 2 ^ (8*i))else 0
theorem zRw(n k:Nat):(putB n k).length=4:=by simp[putB]
theorem xCx{n k:Nat}(h:k<4):(putB n k).set k (UInt8.ofNat (n / 2 ^ (8*k)))=putB n (k+1):=by
 unfold putB
 have:k=0∨k=1∨k=2∨k=3:=by omega
 rcases this with rfl|rfl|rfl|rfl<;>rfl
def put4(n:Nat):List UInt8:=putB n 4
theorem yIm(n:Nat)(hn:n<4294967296):FnD Tryz.prog 192 [.int .u64 n,.int .i64 4] (.tup [.sl 1 (bts (put4 n)),.int .i64 0]):=by
 have hsh:((n:Int)).fdiv (2 ^ 32)=0:=(zXy n 32).2 (by omega)
 refine zAd mixed Tryz.func192 rfl rfl (by simp[Tryz.ntmps192]) fun hwf E=>?_
 clear hwf
 simp at hsh
 simp(disch:=omega)[Tryz.ntmps192,go_sem,hsh]
 refine zAe mixed (fun k:Nat=>⟨[(29,.int .i64 k),(28,.int .i64 4),(6,.obj 320 4),(0,.int .u64 n)],[(320,⟨.arr,5,1,bts (putB n k)⟩)],1024,[],42,0,[]⟩)
  (fun k=>k≤4) (fun k=>4-k) 0 (by omega) ?_ ?_
 ·refine Le.mk [(320,some 320)] [320] ⟨rfl,rfl,rfl⟩ ?_ ?_ ?_<;>simp[go_sem,putB,bts,List.range_succ]
 ·intro k hk;simp(disch:=omega)[go_sem];refine zAc (fun h=>?_) (fun h=>?_)<;>simp at h
  ·have h':k<4:=by omega
   have hset:=xCx (n:=n) h';have hfd:=yGr n (8*k);have hby:(UInt8.ofNat (n / 2 ^ (8*k))).toNat=n / 2 ^ (8*k) % 256:=UInt8.toNat_ofNat' ..;have hsb:(bts (putB n k)).set k (.int .u8 ((n / 2 ^ (8*k) % 256:Nat):Int))=bts (putB n (k+1)):=by
    rw[← hset,← hby];simp[bts,List.map_set]
   have hnb:=zJn (l:=putB n k) (k:=k) (by rw[zRw];exact h')
   have h8k:(8*(k:Int)).toNat=8*k:=by omega
   have hmin:min (8*k) 64=8*k:=by omega
   have hw:=w8 (n / 2 ^ (8*k))
   push_cast at hfd hw hsb
   simp(disch:=omega)[go_sem,zAm,zRw,hnb,h8k,hmin,hfd,hw];refine⟨by omega,by omega,h',?_⟩
   refine zAb (k+1) (by omega) (by omega) (Le.mk [(320,some 320)] [320] ⟨rfl,rfl,rfl⟩ ?_ ?_ ?_)<;>simp[go_sem,hsb,zAg]
  ·have hk4:k=4:=by omega
   subst hk4;have hp:=zAg (putB n 4);simp(disch:=omega)[go_sem,zAm,zRw];exact zAt hp
def crcT:List Nat:=[0,498536548,997073096,651767980,1994146192,1802195444,1303535960,1342533948,3988292384,4027552580,3604390888,3412177804,2607071920,2262029012,2685067896,3183342108]
def tbl(i:Nat):Nat:=crcT.getD i 0
def crcH(r x:Nat):Nat:=(r / 16) ^^^ tbl ((r ^^^ x) &&& 15)
def crcS(r:Nat)(x:UInt8):Nat:=crcH (crcH r x.toNat) (x.toNat / 16)
def crcK(l:List UInt8)(k:Nat):Nat:=(l.take k).foldl crcS 4294967295
def crc(l:List UInt8):Nat:=4294967295 ^^^ crcK l l.length
theorem yGz(i:Nat):tbl i<4294967296:=by
 unfold tbl
 by_cases h:i<16
 ·have:∀i,i<16→crcT.getD i 0<4294967296:=by decide
  exact this i h
 ·rw[List.getD_eq_getElem?_getD,List.getElem?_eq_none (by simp[crcT];omega)]
  decide
theorem yHa{r x:Nat}(h:r<4294967296):crcH r x<4294967296:=Nat.xor_lt_two_pow (n:=32) (by omega) (yGz _)
theorem yYv(l:List UInt8)(k:Nat):crcK l k<4294967296:=by
 unfold crcK
 generalize l.take k=m
 have:∀(m:List UInt8) (r:Nat),r<4294967296→m.foldl crcS r<4294967296:=by
  intro m;induction m with
  |nil=>intro r h;exact h
  |cons x m ih=>intro r h;exact ih _ (yHa (yHa h))
 exact this m _ (by decide)
theorem yJy(l:List UInt8):crc l<4294967296:=Nat.xor_lt_two_pow (n:=32) (by decide) (yYv l l.length)
theorem yYu{l:List UInt8}{k:Nat}(h:k<l.length):crcK l (k+1)=crcS (crcK l k) l[k]:=by
 unfold crcK
 rw[List.take_succ_eq_append_getElem h,List.foldl_append]
 rfl
def crcV:List V:=crcT.map fun(c:Nat)=> .int .u32 (c:Int)
theorem yGy(i:Nat)(h:i<16):crcV[i]?=some (.int .u32 (tbl i:Int)):=by
 have:i<crcT.length:=h
 unfold crcV tbl
 rw[List.getElem?_map,List.getElem?_eq_getElem this,List.getD_eq_getElem?_getD,List.getElem?_eq_getElem this]
 rfl
theorem yJz(i:Nat)(h:i<crcV.length):crcV[i]= .int .u32 (tbl i:Int):=by
 have:=yGy i h
 rw[List.getElem?_eq_getElem h]at this
 exact Option.some.inj this
theorem xXg(a:Nat):a &&& 15<16:=Nat.lt_of_le_of_lt Nat.and_le_right (by decide)
set_option maxHeartbeats 2000000 in
theorem zMv(l:List UInt8):FnD Tryz.prog 206 [.sl 1 (bts l)] (.int .u32 (crc l)):=by
 have hp:=zAg l
 have hcp:zBa crcV:=zBc _ (fun u=>by simp[go_sem]) crcT
 have hcl:crcV.length=16:=rfl
 refine zAd mixed Tryz.func206 rfl rfl (by simp[Tryz.ntmps206]) fun hwf E=>?_
 simp(disch:=omega)[go_sem,zAm]at hwf
 simp(disch:=omega)[Tryz.ntmps206,go_sem,zAm]
 refine zAe mixed (fun k:Nat=>⟨[(10,.int .i64 k),(9,.int .i64 l.length),(8,.sl 1 (bts l)),(4,.int .u32 (crcK l k)),(3,.ptr 32 1 0 0)],[(32,⟨.box,308,16,[.agg crcV]⟩)],1024,[],38,0,[]⟩)
  (fun k=>k≤l.length) (fun k=>l.length-k) 0 (by omega) ?_ ?_
 ·refine Le.mk [(32,some 32)] [32] ⟨rfl,rfl,rfl⟩ ?_ ?_ ?_<;>simp[go_sem,crcV,crcT,crcK]
 ·intro k hk;have hr:=yYv l k;simp(disch:=omega)[go_sem];refine zAc (fun h=>?_) (fun h=>?_)<;>simp at h
  ·have hx:=l[k].toNat_lt;have hs:=yYu h;generalize crcK l k=r at *;generalize hX:l[k].toNat=x at *;have hxw:IntKind.u32.wrap (x:Int)=(x:Int):=zLl (by omega) (by omega)
   have e1:=zLf (a:=r) (b:=x) hr (by omega)
   have a1:=xXg (r ^^^ x);have hrx:r ^^^ x<4294967296:=Nat.xor_lt_two_pow (n:=32) hr (by omega)
   have e2:zDk .and .u32 ((r ^^^ x:Nat):Int) 15=some (.int .u32 (((r ^^^ x) &&& 15:Nat):Int)):=zPi (a:=r ^^^ x) (b:=15) hrx (by omega)
   have a2:(((r ^^^ x) &&& 15:Nat):Int)<16:=by omega
   have hc1:=yGy _ a1;have hf:(r:Int).fdiv 16=(r:Int) / 16:=by
    have:=yGr r 4
    push_cast at this
    exact this
   have e3:zDk .xor .u32 ((r:Int) / 16) (tbl ((r ^^^ x) &&& 15):Int)=some (.int .u32 ((crcH r x:Nat):Int)):=by
    have:=zLf (a:=r / 16) (b:=tbl ((r ^^^ x) &&& 15)) (by omega) (yGz _)
    push_cast at this
    exact this
   have hr1:crcH r x<4294967296:=yHa hr;have hs1:crcK l (k+1)=crcH (crcH r x) (x / 16):=by rw[hs];unfold crcS;rw[hX]
   generalize crcH r x=r1 at *;have hx16:(x:Int).fdiv 16=(x:Int) / 16:=by
    have:=yGr x 4
    push_cast at this
    exact this
   have hxw2:IntKind.u32.wrap ((x:Int) / 16)=(x:Int) / 16:=zLl (by omega) (by omega)
   have f1:zDk .xor .u32 (r1:Int) ((x:Int) / 16)=some (.int .u32 ((r1 ^^^ (x / 16):Nat):Int)):=by
    have:=zLf (a:=r1) (b:=x / 16) hr1 (by omega)
    push_cast at this
    exact this
   have hrx2:r1 ^^^ (x / 16)<4294967296:=Nat.xor_lt_two_pow (n:=32) hr1 (by omega)
   have f2:zDk .and .u32 ((r1 ^^^ (x / 16):Nat):Int) 15=some (.int .u32 (((r1 ^^^ (x / 16)) &&& 15:Nat):Int)):=zPi (a:=r1 ^^^ (x / 16)) (b:=15) hrx2 (by omega)
   have b1:=xXg (r1 ^^^ (x / 16));have b2:(((r1 ^^^ (x / 16)) &&& 15:Nat):Int)<16:=by omega
   have hc2:=yGy _ b1;have hf2:(r1:Int).fdiv 16=(r1:Int) / 16:=by
    have:=yGr r1 4
    push_cast at this
    exact this
   have f3:zDk .xor .u32 ((r1:Int) / 16) (tbl ((r1 ^^^ (x / 16)) &&& 15):Int)=some (.int .u32 ((crcH r1 (x / 16):Nat):Int)):=by
    have:=zLf (a:=r1 / 16) (b:=tbl ((r1 ^^^ (x / 16)) &&& 15)) (by omega) (yGz _)
    push_cast at this
    exact this
   simp(disch:=omega)[go_sem,zAm,zJn,h,hX,hxw,e1,e2,a2,hf,e3,yJz];simp(disch:=omega)[go_sem,hx16,f1,f2,b2,hf2,f3,yJz];refine zAb (k+1) (by omega) (by omega) (Le.mk [(32,some 32)] [32] ⟨rfl,rfl,rfl⟩ ?_ ?_ ?_)<;>simp[go_sem,hs1,hcp]
  ·have hkl:k=l.length:=by omega
   subst hkl;have e1:zDk .xor .u32 4294967295 (crcK l l.length:Int)=some (.int .u32 ((4294967295 ^^^ crcK l l.length:Nat):Int)):=zLf (a:=4294967295) (b:=crcK l l.length) (by omega) hr
   have hsg:IntKind.u32.signed=false:=rfl;simp(disch:=omega)[go_sem,hsg,e1];rfl
end
section
theorem zQh(a b:List UInt8):FnD Tryz.prog 143 [.sl 1 (bts a),.sl 1 (bts b)] (.bool (a == b)):=by
 refine zAd mixed Tryz.func143 rfl rfl (by simp[Tryz.ntmps143]) fun hwf E=>?_
 simp(disch:=omega)[Tryz.ntmps143,go_sem,zLz,strV]
def putN(l:List Int):List UInt8:=(l.map fun x=>zDv x.toNat).flatten
theorem zOb(a b:List Int):putN (a++b)=putN a++putN b:=by simp[putN]
theorem zLn(l:List Int):(putN l).length≤11*l.length:=by
 induction l with
 |nil=>simp[putN]
 |cons x l ih=>
  have h1:putN (x::l)=zDv x.toNat++putN l:=by simp[putN]
  have h2:=(zGz 10 x.toNat).2;rw[h1,List.length_append,List.length_cons];unfold zDv;omega
theorem yBb{l:List Int}{k:Nat}(h:k<l.length):putN (l.take (k+1))=putN (l.take k)++zDv l[k].toNat:=by
 rw[List.take_succ_eq_append_getElem h,zOb]
 simp[putN]
theorem yEa:∀ {l:List Int},wfs (ints l)→∀x∈l,-9223372036854775808≤x∧x≤9223372036854775807
 |[],_,x,hx=>by simp at hx
 |y::l,h,x,hx=>by
  simp only[ints,List.map_cons,wfs]at h;rcases List.mem_cons.1 hx with rfl|hx
  ·have:=h.1;simp[go_sem]at this;omega
  ·exact yEa h.2 x hx
def puF(pre:List UInt8)(l:List Int)(k:Nat):St:=⟨[(9,.int .i64 k),(8,.int .i64 l.length),(7,.sl 1 (ints l)),(0,.obj 0 (pre++putN (l.take k)).length)],[(0,⟨.arr,5,1,bts (pre++putN (l.take k))⟩)],1024,[],20,1,[]⟩
theorem xOi(pre:List UInt8)(l:List Int)(h0:∀x∈l,0≤x)(h1:pre.length≤1099511627776)(h2:l.length≤1099511627776) :
  FnR Tryz.prog 210 [⟨.arr,5,1,bts pre⟩] [.obj 0 pre.length,.sl 1 (ints l)] [⟨.arr,5,1,bts (pre++putN l)⟩] (.obj 0 (pre++putN l).length):=by
 have hil:=zAo l
 refine zAv mixed Tryz.func210 rfl rfl (by simp[Tryz.ntmps210]) (by simp) fun hwf E=>?_
 simp(disch:=omega)[go_sem,zAh]at hwf
 simp(disch:=omega)[Tryz.ntmps210,go_sem,zAh]
 refine zAe mixed (puF pre l) (fun k=>k≤l.length) (fun k=>l.length-k) 0 (by omega) ?_ ?_
 ·refine Le.mk [(0,some 0)] [0] ⟨rfl,rfl,rfl⟩ ?_ ?_ ?_<;>simp[go_sem,puF,zAg,putN]
 ·intro k hk;have hpb:=zAg (pre++putN (l.take k));have hbl:=zAm (pre++putN (l.take k));have hpl:=zLn (l.take k);rw[List.length_take]at hpl;simp(disch:=omega)[go_sem,puF];refine zAc (fun h=>?_) (fun h=>?_)<;>simp at h
  ·have hx:=h0 _ (List.getElem_mem h);have hxb:=(yEa hwf.2 _ (List.getElem_mem h)).2;obtain⟨x,hx'⟩:=Int.eq_ofNat_of_zero_le hx;have hsm:=zVw x (by omega)
   have hs1:=(zGz 10 x).2;have hsp:=zAg (zDv x);have hsl:=zAm (zDv x);have hsu:putN (l.take (k+1))=putN (l.take k)++zDv x:=by rw[yBb h,hx'];rfl
   have hsa:bts (pre++putN (l.take k))++bts (zDv x)=bts (pre++putN (l.take (k+1))):=by rw[← zCh,hsu,List.append_assoc]
   have hln:(pre++putN (l.take (k+1))).length=(pre++putN (l.take k)).length+(zDv x).length:=by rw[hsu,← List.append_assoc,List.length_append]
   have hpb1:=zAg (pre++putN (l.take (k+1)));rw[List.length_append]at hbl hln;have hs2:(zDv x).length≤11:=hs1;simp(disch:=omega)[go_sem,zAh,zAz,h,hx'];refine zAa hsm [] (by simp[go_sem]) (.inl rfl) (by simp[go_sem]) (fun _=>?_)
   simp(disch:=omega)[go_sem,hsl,hbl];refine⟨by omega,?_⟩
   refine zAb (k+1) (by omega) (by omega) (Le.mk [(0,some 0)] [0] ⟨rfl,rfl,rfl⟩ ?_ ?_ ?_)<;>simp[go_sem,puF,hsa,hpb1]
   all_goals (simp only[List.length_append]at hln;omega)
  ·have hkl:k=l.length:=by omega
   subst hkl;rw[List.take_length]at *;simp(disch:=omega)[go_sem];refine Le.mk [(0,some 0)] [0] ⟨rfl,rfl,rfl⟩ ?_ ?_ ?_<;>simp[go_sem,hpb]
end
section
def jRen:Go.Shelf.Ren:=⟨fun n=>if n=14 then 193 else 213,fun n=>match n with|0=>0|3=>3|4=>4|5=>5|9=>9|20=>20|22=>30|26=>36|n=>n,fun n=>n⟩
theorem jLays:SlLaysJ.n14 Tryz.prog jRen where
 mixed:=mixed
 f14:=by kernel_rfl
 f15:=by kernel_rfl
 t0:=Tryz.underlying0
 a0:=Tryz.isAgg0
 z0:=Tryz.sizeOf0
 v0:=Tryz.zeroValue0
 t3:=Tryz.underlying3
 a3:=Tryz.isAgg3
 z3:=Tryz.sizeOf3
 v3:=Tryz.zeroValue3
 t4:=Tryz.underlying4
 a4:=Tryz.isAgg4
 z4:=Tryz.sizeOf4
 v4:=Tryz.zeroValue4
 t9:=Tryz.underlying9
 a9:=Tryz.isAgg9
 z9:=Tryz.sizeOf9
 v9:=Tryz.zeroValue9
 t20:=Tryz.underlying20
 a20:=Tryz.isAgg20
 z20:=Tryz.sizeOf20
 v20:=Tryz.zeroValue20
 t22:=Tryz.underlying30
 a22:=Tryz.isAgg30
 z22:=Tryz.sizeOf30
 v22:=Tryz.zeroValue30
 t26:=Tryz.underlying36
 a26:=Tryz.isAgg36
 z26:=Tryz.sizeOf36
 v26:=Tryz.zeroValue36
 t5:=Tryz.underlying5
 z5:=Tryz.sizeOf5
 i5:=by kernel_rfl
theorem yKf{c:Ctx}:∀ {l:List UInt8} {us:List Value},RVl c (bts l) us→us=l.map fun b=> .int .u8 (b.toNat:Int)
 |[],us,h=>by simpa[bts,RVl] using h
 |b::l,us,h=>by
  simp only[bts,List.map_cons,RVl,RV]at h;obtain⟨u,r,rfl,⟨rfl,_⟩,h2⟩:=h;simp[yKf (c:=c) (l:=l) h2]
theorem zYy{w:World}{O:Nat→Prop}{l:List UInt8}{v:Value}(h:RV (dctx w O) (.sl 1 (bts l)) v):Lib.HoldsBytes w v l:=by
 simp only[RV]at h
 obtain⟨a,cap,us,hv,h1,h2,h3,h4,h5,h6⟩:=h
 rw[zAm]at hv
 refine⟨a,cap,hv,fun ha=>?_,fun a' ha' i x hx=>?_⟩
 ·rcases h6 with h6|⟨b,off,e,_⟩
  ·simpa[bts] using h6
  ·rw[ha]at e;cases e
 ·rcases h6 with h6|⟨b,off,e,_,_,h7⟩
  ·have:l=[]:=by simpa[bts] using h6
   subst this;simp at hx
  ·rw[e]at ha';cases ha';have hus:=yKf h3;have hfl:flat us=us:=by
    rw[hus];apply zEq
    intro y hy;obtain⟨z,_,rfl⟩:=List.mem_map.1 hy;rfl
   rw[hfl,hus]at h7;rw[Addr.add_mid];exact h7 i _ (by simp[hx])
theorem xFu{w w':World}{O:Nat→Prop}{l:List UInt8}{v:Value}(hl:l.length≤140737488355328)(hO:∀b,O b→b<w.heap.size)(h:Lib.FreshBytes w.heap.size w' v l):RV (dctx w' O) (.sl 1 (bts l)) v:=by
 obtain⟨g,cap,zs,rfl,h1,h2,h3,h4,h5,h6,h7,h8⟩:=h
 simp only[RV]
 refine⟨_,cap,l.map fun b=> .int .u8 (b.toNat:Int),by rw[zAm],by rw[zAm];exact h2,by rw[zAm];exact hl,?_,?_,?_,?_⟩
 ·clear h2 h6;induction l with
  |nil=>simp[bts,RVl]
  |cons x l ih=>
   simp only[bts,List.map_cons,RVl,RV]at ih ⊢;have hx:=x.toNat_lt;exact⟨_,_,rfl,⟨rfl,by simp[IntKind.has,IntKind.min,IntKind.max,IntKind.signed,IntKind.bits];omega⟩,ih (by simp at hl;omega)⟩
 ·intro u hu;obtain⟨z,_,rfl⟩:=List.mem_map.1 hu;rfl
 ·intro u hu;rw[zEq]at hu
  ·obtain⟨z,_,rfl⟩:=List.mem_map.1 hu;rfl
  ·intro y hy;obtain⟨z,_,rfl⟩:=List.mem_map.1 hy;rfl
 ·by_cases hn:l=[]
  ·exact .inl (by simp[hn,bts])
  ·have hpos:0<l.length:=List.length_pos_iff.2 hn;refine .inr ⟨g,0,rfl,fun hg=>?_,?_,fun j u hu=>?_⟩
   ·have:=hO g hg;omega
   ·have:=h7 0 (by omega)
    unfold World.cell? at this;split at this
    ·rename_i c e f hc;exact(Array.getElem?_eq_some_iff.1 hc).1
    ·cases this
   ·rw[zEq (fun y hy=>by obtain⟨z,_,rfl⟩:=List.mem_map.1 hy;rfl)]at hu
    have hj:j<l.length:=by
     have:=(List.getElem?_eq_some_iff.1 hu).1;simpa using this
    have hz:=h7 j (by omega)
    rw[Nat.zero_add];show w'.cell? ⟨g,j,none⟩=some u
    rw[hz,← hu,List.getElem?_map];have e1:l[j]?=some l[j]:=by simp[hj]
    rw[e1];simp only[Option.map_some,Option.some.injEq,Value.int.injEq,true_and];have hzj:zs.getD j 0=zs[j]'(by omega):=by simp[List.getD_eq_getElem?_getD,show j<zs.length by omega]
    rw[hzj];have h9:l[j]=(Lib.bytesOf (zs.take l.length))[j]'(by rw[h6];exact hj):=by simp only[h6]
    rw[h9];simp only[Lib.bytesOf,List.getElem_map,List.getElem_take];have hr:=h5 (zs[j]'(by omega)) (List.getElem_mem _)
    generalize zs[j]'(by omega)=z at hr ⊢
    obtain⟨n,rfl⟩:=Int.eq_ofNat_of_zero_le hr.1;simp;omega
theorem join3(a b c:List UInt8)(h:a.length+b.length+c.length≤1099511627776):FnF Tryz.prog 193 [.sl 1 [.sl 1 (bts a),.sl 1 (bts b),.sl 1 (bts c)],.nilS] (.sl 1 (bts (a++b++c))):=by
 refine⟨⟨_,Tryz.func193,rfl,rfl⟩,fun w O cargs hO hargs hgl=>?_⟩
 simp only[RVl]at hargs
 obtain⟨v,r,hc,hv,v2,r2,rfl,hv2,rfl⟩:=hargs
 have hcargs:cargs= #[v,v2]:=Array.toList_inj.1 (by simpa using hc)
 subst hcargs
 simp only[RV]at hv2
 subst hv2
 simp only[RV]at hv
 obtain⟨ad,cap,us,rfl,h1,h2,h3,h4,h5,h6⟩:=hv
 rcases h6 with h6|⟨bk,off,rfl,h7,h8,h9⟩
 ·cases h6
 simp only[RVl]at h3
 obtain⟨va,_,rfl,ha,vb,_,rfl,hb,vc,_,rfl,hcc,rfl⟩:=h3
 have hone:∀y∈[va,vb,vc],y.oneCell'=true:=by
  intro y hy;have hsl:∃a n c,y= .slice a n c:=by
   simp only[List.mem_cons,List.not_mem_nil,or_false]at hy;rcases hy with rfl|rfl|rfl
   ·simp only[RV]at ha;obtain⟨a,c,_,e,_⟩:=ha;exact⟨_,_,_,e⟩
   ·simp only[RV]at hb;obtain⟨a,c,_,e,_⟩:=hb;exact⟨_,_,_,e⟩
   ·simp only[RV]at hcc;obtain⟨a,c,_,e,_⟩:=hcc;exact⟨_,_,_,e⟩
  obtain⟨_,_,_,rfl⟩:=hsl;rfl
 rw[zEq hone]at h9
 have hpa:Lib.PartsAt w ⟨bk,off,none⟩ [va,vb,vc] [a,b,c]:=by
  refine⟨rfl,fun i u hu=>?_,fun i u l hu hl=>?_⟩
  ·rw[Addr.add_mid];exact h9 i u hu
  ·have hd:({ dctx w O with data:=true }:Ctx)=dctx w O:=rfl
   rw[hd]at ha hb hcc
   match i with
   |0=>simp at hu hl;subst hu;subst hl;exact zYy ha
   |1=>simp at hu hl;subst hu;subst hl;exact zYy hb
   |2=>simp at hu hl;subst hu;subst hl;exact zYy hcc
   |i+3=>simp at hu
 have hS:Lib.HoldsBytes w (.slice none 0 0) []:=⟨none,0,rfl,fun _=>rfl,fun a ha=>by cases ha⟩
 have key:=Any.bytes_Join_many jLays bk off 3 cap [va,vb,vc] [a,b,c] (.slice none 0 0) [] w rfl (by omega) hpa (by simpa using h1) hS (by omega) (by simp[Lib.lens];omega)
 have hj:Lib.join [a,b,c] []=a++b++c:=by simp[Lib.join_cons,Lib.joinTail]
 rw[hj]at key
 refine key.mono ?_
 rintro e w' ⟨v',rfl,hf,hbe⟩
 exact⟨v',rfl,xFu (by simp;omega) (fun b hb=>hb) hf,hbe.os,hbe.tape,hbe.output,hbe.size,fun k hk _=>hbe.block k hk⟩
end
section
def xUf(s:Sit)(i:Nat):Prop:=(∀h:i<s.groups.length,xEq s.groups[i])∧zYb s i
def xUh(s:Sit)(a:Nat):Prop:=∀b,b<s.groups.length→yCt s a b
def zIi(s:Sit):Prop:=(0≤s.id∧s.id≤65535)∧(1≤s.groups.length∧s.groups.length≤16)∧s.apart.length=s.groups.length∧s.between.length=s.groups.length ∧
 (∀i,i<s.groups.length→xUf s i)∧∀a,a<s.groups.length→xUh s a
noncomputable instance (s:Sit):Decidable (zIi s):=Classical.propDecidable _
theorem yHv{s:Sit}(h:wfs (sets s.apart))(a:Nat)(ha:a<s.apart.length):s.apart[a]<4294967296:=by
 have:=zSj (f:=fun n:Nat=>V.int .u32 n) h s.apart[a] (List.getElem_mem ha)
 simp[go_sem]at this
 omega
theorem zIi.high{s:Sit}(h:zIi s)(a:Nat)(ha:a<s.groups.length)(b:Nat)(hb:s.groups.length≤b):isAp s a b=false:=by
 have hr:=(h.2.2.2.2.1 a ha).2.2
 exact Nat.testBit_lt_two_pow (Nat.lt_of_lt_of_le hr (Nat.pow_le_pow_right (by omega) hb))
def zOn(s:Sit)(A k:Nat):Int:=(List.range k).foldl (fun m a=>if A.testBit a=true then maxI m (zKt s a)else m) 1
theorem yGd(s:Sit)(A k:Nat):zOn s A (k+1)=if A.testBit k=true then maxI (zOn s A k) (zKt s k)else zOn s A k:=by
 unfold zOn;rw[List.range_succ,List.foldl_append];rfl
def xUm(s:Sit)(A a:Nat):Prop:=A.testBit a=true→∀b,b<s.groups.length→A.testBit b=true→isAp s a b=false
def yRb(s:Sit)(p:Pha):Prop:=p.set≠0∧p.set<2 ^ s.groups.length∧(∀a,a<s.groups.length→xUm s p.set a) ∧
 (zOn s p.set s.groups.length≤p.min∧p.min≤1048576)∧(p.min≤p.max∧p.max≤1048576)∧1≤p.gap∧p.gap≤1048576
def yRc(s:Sit)(k:Nat):Prop:=∀h:k<s.phases.length,yRb s s.phases[k]
def yDs(s:Sit):Prop:=(1≤s.phases.length∧s.phases.length≤8)∧(∀k,k<s.phases.length→yRc s k)∧popN (allK s s.phases.length)=s.groups.length
noncomputable instance (s:Sit):Decidable (yDs s):=Classical.propDecidable _
theorem yBp{s:Sit}{A:Nat}{m:Int}:∀k,zOn s A k≤m↔1≤m∧∀a,a<k→A.testBit a=true→zKt s a≤m
 |0=>by simp[zOn]
 |k+1=>by
  rw[yGd];have ih:=yBp (s:=s) (A:=A) (m:=m) k;split
  ·rename_i h;have:maxI (zOn s A k) (zKt s k)≤m↔zOn s A k≤m∧zKt s k≤m:=by unfold maxI;split<;>omega
   rw[this,ih];constructor
   ·rintro⟨⟨h1,h2⟩,h3⟩
    refine⟨h1,fun a ha hA=>?_⟩
    by_cases e:a=k
    ·subst e;exact h3
    ·exact h2 a (by omega) hA
   ·rintro⟨h1,h2⟩
    exact⟨⟨h1,fun a ha hA=>h2 a (by omega) hA⟩,h2 k (by omega) h⟩
  ·rename_i h;rw[ih];constructor
   ·rintro⟨h1,h2⟩
    refine⟨h1,fun a ha hA=>?_⟩
    by_cases e:a=k
    ·subst e;exact absurd hA h
    ·exact h2 a (by omega) hA
   ·rintro⟨h1,h2⟩
    exact⟨h1,fun a ha hA=>h2 a (by omega) hA⟩
theorem yIi{s:Sit}(hG:zIi s)(p:Pha):yRb s p↔xDc s p:=by
 obtain⟨hG1,hG2,hla,hlb,hG5,hG6⟩:=id hG
 unfold yRb xDc
 rw[yBp]
 have hin:p.set<2 ^ s.groups.length→∀a,p.set.testBit a=true→a<s.groups.length:=fun h a ha=>by
  apply Classical.byContradiction
  intro hn;have:p.set.testBit a=false:=Nat.testBit_lt_two_pow (Nat.lt_of_lt_of_le h (Nat.pow_le_pow_right (by omega) (by omega)))
  rw[this]at ha;cases ha
 have hand:∀a,a<s.groups.length→((s.apart.getD a 0 &&& p.set=0)↔∀b,b<s.groups.length→p.set.testBit b=true→isAp s a b=false):=fun a ha=>by
  constructor
  ·intro h b _ hb;have:=congrArg (fun t=>t.testBit b) h
   simp only[Nat.testBit_and,Nat.zero_testBit,hb,Bool.and_true]at this;exact this
  ·intro h;apply Nat.eq_of_testBit_eq
   intro b;rw[Nat.testBit_and,Nat.zero_testBit];cases hb:p.set.testBit b with
   |false=>simp
   |true=>
    by_cases hbn:b<s.groups.length
    ·have:=h b hbn hb;have e:(s.apart.getD a 0).testBit b=false:=this;rw[e];rfl
    ·have:=hG.high a ha b (by omega)
     have e:(s.apart.getD a 0).testBit b=false:=this;rw[e];rfl
 constructor
 ·rintro⟨h1,h2,h3,⟨⟨h4,h5⟩,h6⟩,⟨h7,h8⟩,h9,h10⟩
  refine⟨h1,h2,⟨⟨h4,h6⟩,⟨by omega,h8⟩,h9,h10⟩,h7,fun a ha=>?_⟩
  have han:=hin h2 a ha;exact⟨h5 a han ha,(hand a han).2 fun b hb hbb=>h3 a han ha b hb hbb⟩
 ·rintro⟨h1,h2,⟨⟨h4,h6⟩,⟨h8,h8'⟩,h9,h10⟩,h7,h11⟩
  refine⟨h1,h2,fun a ha hA b hb hB=>(hand a ha).1 (h11 a hA).2 b hb hB,⟨⟨h4,fun a ha hA=>(h11 a hA).1⟩,h6⟩,⟨h7,h8'⟩,h9,h10⟩
theorem zUc{s:Sit}:zAk s↔zIi s∧yDs s∧s.eyes.length≤24∧s.plans.length≤8∧s.eyes.all (yOb s.phases.length)=true∧zEl s=true∧(s.plans.all fun p=>decide (Fits s p))=true:=by
 have hph:zIi s→(∀k,k<s.phases.length→yRc s k)→∀k,k<s.phases.length→xDd s k:=fun hG h k hk hh=>(yIi hG _).1 (h k hk hh)
 have hph2:zIi s→(∀k,k<s.phases.length→xDd s k)→∀k,k<s.phases.length→yRc s k:=fun hG h k hk hh=>(yIi hG _).2 (h k hk hh)
 constructor
 ·intro h;have h0:=h 0 (by omega)
  have h1:=h 1 (by omega)
  have h2:=h 2 (by omega)
  obtain⟨hid,hg,hla,hlb,hp,he,hl,hrow⟩:=h0;have hG:zIi s:=⟨hid,hg,hla,hlb,fun i hi=>⟨fun hh=>(h1 i hi).1 hh,hrow i (by omega)⟩,fun a ha b hb=>(h1 a ha).2 b hb⟩
  exact⟨hG,⟨hp,hph2 hG h2.1,h2.2⟩,he,hl,h 3 (by omega),h 4 (by omega),h 5 (by omega)⟩
 ·rintro⟨hG,hR,he,hl,h3,h4,h5⟩
  obtain⟨hid,hg,hla,hlb,hr,hc⟩:=id hG;intro i hi;have hcs:i=0∨i=1∨i=2∨i=3∨i=4∨i=5:=by omega
  rcases hcs with rfl|rfl|rfl|rfl|rfl|rfl
  ·exact⟨hid,hg,hla,hlb,hR.1,he,hl,fun i hi=>(hr i (by omega)).2⟩
  ·exact fun a ha=>⟨fun hh=>(hr a ha).1 hh,fun b hb=>hc a ha b hb⟩
  ·exact⟨hph hG hR.2.1,hR.2.2⟩
  ·exact h3
  ·exact h4
  ·exact h5
end
section
def yCh{α:Type}(l:List α)(q:α→Bool):Int:=match l.findIdx? q with|some i=>i|none=> -1
theorem yCf{α:Type}{l:List α}{q:α→Bool}(k:Nat)(h:k<l.length)(hno:∀j (hj:j<l.length),j<k→q l[j]=false)(hk:q l[k]=true):yCh l q=k:=by
 have:l.findIdx? q=some k:=by
  rw[List.findIdx?_eq_some_iff_getElem];exact⟨h,hk,fun j hj=>by simp[hno j (by omega) hj]⟩
 simp[yCh,this]
theorem yJn{α:Type}{l:List α}{q:α→Bool}(hno:∀j (hj:j<l.length),q l[j]=false):yCh l q= -1:=by
 have:l.findIdx? q=none:=by
  rw[List.findIdx?_eq_none_iff];intro x hx;obtain⟨j,hj,rfl⟩:=List.getElem_of_mem hx;exact hno j hj
 simp[yCh,this]
end
section
theorem xNv(t b:Nat):(t / 2 ^ b &&& 1=1)↔t.testBit b=true:=by
 rw[Nat.and_one_is_mod,Nat.testBit_eq_decide_div_mod_eq,decide_eq_true_iff]
theorem zGd(t b:Nat):(t:Int).fdiv (2 ^ b)=((t / 2 ^ b:Nat):Int):=by
 rw[show ((2:Int) ^ b)=((2 ^ b:Nat):Int) by simp,Int.fdiv_eq_ediv_of_nonneg _ (Int.natCast_nonneg _)]
 exact(Int.natCast_ediv _ _).symm
theorem zMb{t b:Nat}(ht:t<4294967296):∃m:Nat,zDk .and .u32 ((t:Int) / 2 ^ b) 1=some (.int .u32 (m:Int))∧(m=1↔t.testBit b=true):=by
 refine⟨t / 2 ^ b &&& 1,?_,xNv t b⟩
 have hq:t / 2 ^ b<4294967296:=Nat.lt_of_le_of_lt (Nat.div_le_self _ _) ht
 rw[← zPi hq (by decide),show ((t / 2 ^ b:Nat):Int)=(t:Int) / 2 ^ b by simp]
 rfl
end
section
def zEw(id:Int):Sit:=⟨id,[⟨1,2,1⟩,⟨1,2,1⟩],[2,1],[[0,2],[2,0]],[⟨1,2,5,1,false⟩,⟨2,2,5,1,false⟩],[],3,2,4,8,20,[]⟩
theorem zEn:zAk (zEw 1):=by
 have hS:zFo (zEw 1):=by
  refine⟨by simp[zEw],rfl,rfl,by simp[zEw],by simp[zEw],by simp[zEw],fun i hi=>?_⟩
  have hi':i<2:=hi;have hc:i=0∨i=1:=by omega
  rcases hc with rfl|rfl<;>exact⟨rfl,by decide⟩
 have hA:zHv (zEw 1):=by
  intro a ha;have ha':a<2:=ha;have hc:a=0∨a=1:=by omega
  refine⟨fun h=>?_,fun b hb=>?_⟩
  ·rcases hc with rfl|rfl<;>exact⟨.inl rfl,by simp[zEw],by simp[zEw]⟩
  ·have hb':b<2:=hb;have hd:b=0∨b=1:=by omega
   rcases hc with rfl|rfl<;>rcases hd with rfl|rfl<;>(unfold yCt;decide)
 have hP:zJt (zEw 1):=by
  refine⟨fun k hk h=>?_,by decide⟩
  have hk':k<2:=hk;have hc:k=0∨k=1:=by omega
  have key:∀(set:Nat),set=1∨set=2→∀a,set.testBit a=true→a=0∧set=1∨a=1∧set=2:=by
   intro set hset a h;by_cases h32:a<32
   ·have:∀a,a<32→((1:Nat).testBit a=true→a=0)∧((2:Nat).testBit a=true→a=1):=by decide
    rcases hset with rfl|rfl
    ·exact .inl ⟨(this a h32).1 h,rfl⟩
    ·exact .inr ⟨(this a h32).2 h,rfl⟩
   ·rw[zOr (by omega) h32]at h;cases h
  rcases hc with rfl|rfl
  ·refine⟨by simp[zEw],by simp[zEw],⟨by simp[zEw],by simp[zEw],by simp[zEw]⟩,by simp[zEw],fun a ha=>?_⟩
   rcases key 1 (.inl rfl) a ha with ⟨rfl,_⟩|⟨rfl,h⟩
   ·exact⟨by simp[zEw,zKt],by simp[zEw]⟩
   ·cases h
  ·refine⟨by simp[zEw],by simp[zEw],⟨by simp[zEw],by simp[zEw],by simp[zEw]⟩,by simp[zEw],fun a ha=>?_⟩
   rcases key 2 (.inr rfl) a ha with ⟨rfl,h⟩|⟨rfl,h⟩
   ·cases h
   ·exact⟨by simp[zEw,zKt],by simp[zEw]⟩
 intro i hi
 have hc:i=0∨i=1∨i=2∨i=3∨i=4∨i=5:=by omega
 rcases hc with rfl|rfl|rfl|rfl|rfl|rfl
 ·exact⟨by decide,hS⟩
 ·exact hA
 ·exact hP
 ·rfl
 ·show zEl (zEw 1)=true
  have:zFe (zEw 1) 2=8:=by rfl
  simp[zEl,inN,zEw,zFe]at this ⊢;omega
 ·rfl
end
section
def xWz(b:Bool × Int):V:= .agg [.bool b.1,.int .i64 b.2]
section
variable {n : NetN} {w : Int} {b : Bool × Int} {x y : Int}
end
end
section
theorem yOi(l:List Int)(hb:l.length≤1099511627776):FnR Tryz.prog 31 [] [.sl 1 (ints l)] [⟨.arr,3,1,ints l⟩] (.obj 0 l.length):=by
 have hp:=zAo l
 refine zJa (fun hx=>?_) ?_
 ·have hl:l=[]:=by simpa[ints] using hx
  subst hl;refine zAv mixed Tryz.func31 rfl rfl (by simp[Tryz.ntmps31]) (by simp) fun hwf E=>?_
  simp(disch:=omega)[Tryz.ntmps31,go_sem];refine Le.mk [(0,none)] [] ⟨rfl,rfl,rfl⟩ ?_ ?_ ?_<;>simp[go_sem,ints]
 ·refine zAv mixed Tryz.func31 rfl rfl (by simp[Tryz.ntmps31]) (by simp) fun hwf E=>?_
  simp(disch:=omega)[go_sem,zAh]at hwf;simp(disch:=omega)[Tryz.ntmps31,go_sem,zAh];refine⟨⟨by omega,by omega⟩,Le.mk [(0,some 64)] [64] ⟨rfl,rfl,rfl⟩ ?_ ?_ ?_⟩<;>simp[go_sem,hp]
def yZl(l:List (Bool × Int)):List V:=l.map xWz
theorem zXi(l:List (Bool × Int)):zBa (yZl l):=zBc _ (fun u=>by simp[xWz,go_sem]) l
def idK(n k:Nat):List Int:=(List.range n).map fun i=>if i<k then(i:Int)else 0
theorem yGi(n k:Nat):(idK n k).length=n:=by simp[idK]
structure GrOk(n:NetN)(g:List Int):Prop where
 len:g.length=n.subs.length
 le:∀i,∀h:i<g.length,0≤g[i]∧g[i]≤i
 own:∀i,∀h:i<g.length,g.getD g[i].toNat 0=g[i]
theorem GrOk.id(n:NetN):GrOk n (idK n.subs.length n.subs.length):=by
 refine⟨yGi _ _,fun i h=>?_,fun i h=>?_⟩
 ·rw[yGi]at h;simp[idK,h]
 ·rw[yGi]at h;simp[idK,h]
end
section
theorem yDe(l:List (Bool × Int)):(yZl l).length=l.length:=by simp[yZl]
end
section
def yPs(votes:List (Int × Int × Int)):List V:=votes.map xTl
theorem yKz(l:List (Int × Int × Int)):zBa (yPs l):=zBc _ (fun u=>by simp[xTl,go_sem]) l
theorem yPr(l:List (Int × Int × Int)):(yPs l).length=l.length:=by simp[yPs]
end
section
theorem xPb(a b:Int):a≤maxI a b∧b≤maxI a b∧(maxI a b=a∨maxI a b=b):=by unfold maxI;split<;>omega
end
section
theorem xSx{s:Sit}{b x y:Int}(h:zAk s)(h2:(0≤x∧x<b)∧0≤y∧y<b):askN s b [x,y]=0:=by
 unfold askN;rw[if_pos h,if_pos]
 simp[inN];omega
end
section
theorem zWc(s:Sit)(i:Nat)(hi:i<s.phases.length):FnD Tryz.prog 164 [sitV s,.int .i64 i] (.int .i64 ((i+1) % s.phases.length:Nat)):=by
 unfold sitV
 refine zAd mixed Tryz.func164 rfl rfl (by simp[Tryz.ntmps164]) fun hwf E=>?_
 simp(disch:=omega)[go_sem,zEv,zGa]at hwf
 have e1:((i:Int)+1).tmod s.phases.length=(((i+1) % s.phases.length:Nat):Int):=by
  rw[Int.tmod_eq_emod_of_nonneg (by omega)];simp
 simp(disch:=omega)[Tryz.ntmps164,go_sem,e1]
 intro h
 simp[h]at hi
theorem zTh(s:Sit)(i:Nat)(hOk:zAk s)(hi:i<s.phases.length):FnD Tryz.prog 144 [sitV s,.int .i64 i] (.int .i64 (zGs s i ((i+1) % s.phases.length))) tabG:=by
 have hpu:=(⟨zBq s.groups,zBp s.phases,zBr s.eyes,zAs s.plans,zBn s.apart,zBo s.between⟩:_∧_∧_∧_∧_∧_)
 obtain⟨hp1,hp2,hp3,hp4,hp5,hp6⟩:=hpu
 have qn:=zWc s i hi
 have hj:(i+1) % s.phases.length<s.phases.length:=Nat.mod_lt _ (by omega)
 generalize (i+1) % s.phases.length=j at *
 have qc:=yEv s i j
 have ha:askN s (s.phases.length:Int) [(i:Int),(j:Int)]=0:=xSx hOk (by omega)
 rw[ha]at qc
 simp only[if_true,Int.toNat_natCast]at qc
 have hsv:=zAr s
 rw[hsv]at qn qc ⊢
 refine zAd mixed Tryz.func144 rfl rfl (by simp[Tryz.ntmps144]) fun hwf E=>?_
 clear hwf
 simp(disch:=omega)[Tryz.ntmps144,go_sem]
 refine zAa qn [] (by simp[go_sem]) (.inl rfl) (by simp[go_sem]) (fun _=>?_)
 simp(disch:=omega)[go_sem]
 refine zAa qc [] (by simp[go_sem]) (.inl rfl) (by simp[go_sem]) (fun _=>?_) (by simp[tabG,go_sem])
 simp(disch:=omega)[go_sem]
 exact .inl (by kernel_rfl)
def cycC(s:Sit)(p:Pln):Int:=if s.high<(if p.cycle<s.low then s.low else p.cycle)then s.high else(if p.cycle<s.low then s.low else p.cycle)
def zGh(s:Sit)(p:Pln)(i:Nat):Int:=if 0<(if s.high<(if 0<p.splits.getD i 0 then p.splits.getD i 0 else 0)then s.high else(if 0<p.splits.getD i 0 then p.splits.getD i 0 else 0))-zCi s i then(if s.high<(if 0<p.splits.getD i 0 then p.splits.getD i 0 else 0)then s.high else(if 0<p.splits.getD i 0 then p.splits.getD i 0 else 0))-zCi s i else 0
theorem zJf{s:Sit}{p:Pln}(i:Nat)(hL:0≤s.low∧s.high≤1048576)(hN:0≤zCi s i):0≤zGh s p i∧zGh s p i≤1048576:=by
 unfold zGh
 generalize p.splits.getD i 0=x at *
 repeat' split
 all_goals omega
theorem zVp{s:Sit}{p:Pln}(i:Nat)(hL:0≤s.high)(hN:0≤zCi s i)(h:p.splits.length≤i):zGh s p i=0:=by
 unfold zGh
 rw[show p.splits.getD i 0=0 by simp[List.getD,h]]
 simp
 repeat' split
 all_goals omega
def allC(s:Sit)(p:Pln):Nat→Int
 |0=>0
 |k+1=>allC s p k+zGh s p k
def zIm(s:Sit)(c:Int):Nat→Int
 |0=>c
 |k+1=>zIm s c k-zCi s k
def zDb(s:Sit)(p:Pln):Nat→Int
 |0=> -1
 |k+1=>if 0<zGh s p k∧zDb s p k<0 then k else zDb s p k
theorem zWw{s:Sit}{p:Pln}{k:Nat}(h:0<zGh s p k∧zDb s p k<0):zDb s p (k+1)=k:=by
 show (if _ then _ else _)=_
 rw[if_pos h]
theorem yCe{s:Sit}{p:Pln}{k:Nat}(h:¬(0<zGh s p k∧zDb s p k<0)):zDb s p (k+1)=zDb s p k:=by
 show (if _ then _ else _)=_
 rw[if_neg h]
theorem zIc(s:Sit)(p:Pln):∀k,-1≤zDb s p k∧zDb s p k<k
 |0=>by simp[zDb]
 |k+1=>by
  have:=zIc s p k;unfold zDb;split<;>omega
theorem zMc{s:Sit}{p:Pln}(hL:0≤s.low∧s.high≤1048576)(hN:zFa s):∀k,k≤s.phases.length→0≤allC s p k∧allC s p k≤1048576*k
 |0,_=>by simp[allC]
 |k+1,h=>by
  have:=zMc (p:=p) hL hN k (by omega)
  have:=zJf (p:=p) k hL (hN k (by omega)).1
  unfold allC;omega
theorem zSy{s:Sit}{c:Int}:∀k,zIm s c k+zFe s k=c
 |0=>by simp[zIm,zFe]
 |k+1=>by
  have:=zSy (s:=s) (c:=c) k;rw[zJj];unfold zIm;omega
theorem yFg{s:Sit}(hN:zFa s){k m:Nat}(h:k≤m)(hm:m≤s.phases.length):zFe s k≤zFe s m:=by
 induction m with
 | zero => obtain rfl : k = 0 := by omega
           omega
 |succ m ih=>
  by_cases e:k=m+1
  ·subst e;omega
  ·have:=ih (by omega) (by omega)
   have:=hN m (by omega)
   rw[zJj];omega
theorem zJk{s:Sit}{c:Int}(hN:zFa s)(hc:zFe s s.phases.length≤c∧c≤1048576){k:Nat}(h:k≤s.phases.length):0≤zIm s c k∧zIm s c k≤1048576:=by
 have h1:=zSy (s:=s) (c:=c) k
 have h2:=yFg hN h (Nat.le_refl _)
 have h3:=zKm s hN k h
 omega
def wl(s:Sit)(p:Pln)(k:Nat):List Int:=(List.range s.phases.length).map fun i=>if i<k then zGh s p i else 0
theorem zGg(s:Sit)(p:Pln)(k:Nat):(wl s p k).length=s.phases.length:=by simp[wl]
theorem xMt(s:Sit)(p:Pln):ints (wl s p 0)=List.replicate s.phases.length (V.int .i64 0):=by
 simp[wl,ints,List.map_const']
theorem yAb{s:Sit}{p:Pln}{k i:Nat}(h:i<s.phases.length):(wl s p k)[i]'(by rw[zGg];exact h)=if i<k then zGh s p i else 0:=by simp[wl]
theorem yPj{s:Sit}{p:Pln}{k:Nat}(h:k<s.phases.length):(wl s p k).set k (zGh s p k)=wl s p (k+1):=by
 apply List.ext_getElem
 ·simp[zGg]
 ·intro i h1 h2;rw[List.length_set,zGg]at h1;rw[List.getElem_set,yAb h1,yAb h1];by_cases e:k=i
  ·subst e;simp
  ·rw[if_neg e];by_cases g:i<k
   ·rw[if_pos g,if_pos (by omega)]
   ·rw[if_neg g,if_neg (by omega)]
theorem yPk{s:Sit}{p:Pln}{k:Nat}(h:k<s.phases.length)(hz:zGh s p k=0):wl s p (k+1)=wl s p k:=by
 rw[← yPj h,hz]
 apply List.ext_getElem
 ·simp
 ·intro i h1 h2;rw[List.getElem_set];by_cases e:k=i
  ·subst e;rw[if_pos rfl,yAb h];simp
  ·rw[if_neg e]
theorem zSd(l:List Int)(k:Nat)(x:Int):(ints l).set k (.int .i64 x)=ints (l.set k x):=by simp[ints,List.map_set]
def zIz(s:Sit)(k:Nat):List Int:=(List.range k).map (zCi s)
theorem zLs(s:Sit)(k:Nat):(zIz s k).length=k:=by simp[zIz]
theorem yGc(s:Sit)(k:Nat):zIz s (k+1)=zIz s k++[zCi s k]:=by simp[zIz,List.range_succ]
noncomputable def zGp(s:Sit)(p:Pln)(c:Int)(i:Nat):Int:=if 0<allC s p s.phases.length then zIm s c s.phases.length*zGh s p i / allC s p s.phases.length else 0
noncomputable def zTs(s:Sit)(p:Pln)(c:Int):Nat→Int
 |0=>zIm s c s.phases.length
 |k+1=>zTs s p c k-zGp s p c k
noncomputable def sl2(s:Sit)(p:Pln)(c:Int)(k:Nat):List Int:=(List.range s.phases.length).map fun i=>if i<k then zCi s i+zGp s p c i else zCi s i
theorem zJi(s:Sit)(p:Pln)(c:Int)(k:Nat):(sl2 s p c k).length=s.phases.length:=by simp[sl2]
theorem xCb(s:Sit)(p:Pln)(c:Int):sl2 s p c 0=zIz s s.phases.length:=by simp[sl2,zIz]
theorem zVx{s:Sit}{p:Pln}{c:Int}{k i:Nat}(h:i<s.phases.length):(sl2 s p c k)[i]'(by rw[zJi];exact h)=if i<k then zCi s i+zGp s p c i else zCi s i:=by simp[sl2]
theorem yQj{s:Sit}{p:Pln}{c:Int}{k:Nat}(h:k<s.phases.length):(sl2 s p c k).set k (zCi s k+zGp s p c k)=sl2 s p c (k+1):=by
 apply List.ext_getElem
 ·simp[zJi]
 ·intro i h1 h2;rw[List.length_set,zJi]at h1;rw[List.getElem_set,zVx h1,zVx h1];by_cases e:k=i
  ·subst e;simp
  ·rw[if_neg e];by_cases g:i<k
   ·rw[if_pos g,if_pos (by omega)]
   ·rw[if_neg g,if_neg (by omega)]
theorem xCc{s:Sit}{p:Pln}{c:Int}{k:Nat}(h:k<s.phases.length)(hz:zGp s p c k=0):sl2 s p c (k+1)=sl2 s p c k:=by
 rw[← yQj h,hz]
 apply List.ext_getElem
 ·simp
 ·intro i h1 h2;rw[List.getElem_set];by_cases e:k=i
  ·subst e;rw[if_pos rfl,zVx h];simp
  ·rw[if_neg e]
theorem zKk{s:Sit}{p:Pln}{c:Int}(hL:0≤s.low∧s.high≤1048576)(hN:zFa s)(hc:zFe s s.phases.length≤c∧c≤1048576){k:Nat}(h:k<s.phases.length) :
  (0≤zIm s c s.phases.length*zGh s p k∧zIm s c s.phases.length*zGh s p k≤1099511627776)∧0≤zGp s p c k∧zGp s p c k≤1099511627776 ∧
  (0<allC s p s.phases.length→(zIm s c s.phases.length*zGh s p k).tdiv (allC s p s.phases.length)=zGp s p c k):=by
 have a1:=zJk hN hc (Nat.le_refl s.phases.length)
 have a2:=zJf (p:=p) k hL (hN k h).1
 have b0:0≤zIm s c s.phases.length*zGh s p k:=Int.mul_nonneg a1.1 a2.1
 have b1:zIm s c s.phases.length*zGh s p k≤1048576*1048576:=Int.mul_le_mul a1.2 a2.2 a2.1 (by omega)
 refine⟨⟨b0,by omega⟩,?_⟩
 unfold zGp
 split
 ·rename_i g;refine⟨Int.ediv_nonneg b0 (by omega),?_,fun _=>Int.tdiv_eq_ediv_of_nonneg b0⟩
  have:=Int.ediv_le_self (allC s p s.phases.length) b0;omega
 ·rename_i g;exact⟨by omega,by omega,fun e=>absurd e g⟩
theorem zNa{s:Sit}{p:Pln}{c:Int}(hL:0≤s.low∧s.high≤1048576)(hN:zFa s)(hc:zFe s s.phases.length≤c∧c≤1048576):∀k,k≤s.phases.length→ -(1099511627776*k)≤zTs s p c k∧zTs s p c k≤1048576
 |0,_=>by
  have a1:=zJk hN hc (Nat.le_refl s.phases.length);unfold zTs;omega
 |k+1,h=>by
  have:=zNa (p:=p) hL hN hc k (by omega)
  have:=(zKk (p:=p) hL hN hc (k:=k) (by omega)).2
  unfold zTs;omega
noncomputable def zXh(s:Sit)(p:Pln)(c:Int):List Int:=(sl2 s p c s.phases.length).set (zDb s p s.phases.length).toNat ((sl2 s p c s.phases.length).getD (zDb s p s.phases.length).toNat 0+zTs s p c s.phases.length)
noncomputable def zPf(s:Sit)(p:Pln):Pln:=⟨cycC s p,(p.offset.tmod (cycC s p)+cycC s p).tmod (cycC s p),zXh s p (cycC s p)⟩
def clS(s:Sit)(p:Pln)(c o:Int)(sl:List (Nat × V))(hp:List (Nat × AM.Obj))(sp:V)(k nx:Nat):St:=⟨sl++[(11,.obj 656 s.phases.length),(7,.ptr 288 1 0 0),(5,.int .i64 0),(4,.ptr 32 1 0 0),(3,.ptr 16 1 0 0),(2,.ptr 0 1 0 0)],hp++[(656,⟨.arr,3,1,ints (wl s p k)⟩),(288,⟨.box,56,3,[.agg [.int .i64 c,.int .i64 o,sp]]⟩),(32,⟨.box,56,3,[.agg [.int .i64 0,.int .i64 0,.nilS]]⟩),(16,⟨.box,56,3,[plnV p]⟩),(0,⟨.box,29,12,[sitV s]⟩)],nx,[],150,0,tabG⟩
def cl1F(s:Sit)(p:Pln)(c o:Int):Nat→St
 |0=>clS s p c o [(54,.int .i64 0),(53,.int .i64 s.phases.length),(52,.sl 5 (s.phases.map phaV)),(10,.int .i64 (-1)),(9,.int .i64 0),(8,.int .i64 c)] [] .nilS 0 2048
 |k+1=>clS s p c o [(54,.int .i64 (k+1:Nat)),(53,.int .i64 s.phases.length),(52,.sl 5 (s.phases.map phaV)),(10,.int .i64 (zDb s p (k+1))),(9,.int .i64 (allC s p (k+1))),(8,.int .i64 (zIm s c (k+1)))] [(1008,⟨.arr,3,1,ints (zIz s (k+1))⟩)] (.obj 1008 (k+1)) (k+1) 2048
noncomputable def cl2F(s:Sit)(p:Pln)(c o:Int)(k:Nat):St:=
 clS s p c o [(115,.int .i64 k),(114,.int .i64 s.phases.length),(15,.int .i64 (zTs s p c k)),(10,.int .i64 (zDb s p s.phases.length)),(9,.int .i64 (allC s p s.phases.length)),(8,.int .i64 (zIm s c s.phases.length))] [(1008,⟨.arr,3,1,ints (sl2 s p c k)⟩)] (.obj 1008 s.phases.length) s.phases.length 4096
set_option maxHeartbeats 4000000 in
theorem zQi(s:Sit)(p:Pln)(hOk:zAk s):FnD Tryz.prog 81 [sitV s,plnV p] (.tup [plnV (zPf s p),.int .i64 0]) tabG:=by
 have hpu:=(⟨zBq s.groups,zBp s.phases,zBr s.eyes,zAs s.plans,zBn s.apart,zBo s.between⟩:_∧_∧_∧_∧_∧_)
 obtain⟨hp1,hp2,hp3,hp4,hp5,hp6⟩:=hpu
 have hip:=zAo p.splits
 have qc:=zCc s
 have qk:=fun i hi=>zTh s i hOk hi
 rw[zEr hOk]at qc
 have hsv:=zAr s
 have hpv:plnV p= .agg [.int .i64 p.cycle,.int .i64 p.offset,.sl 1 (ints p.splits)]:=rfl
 have hcv:plnV (zPf s p)= .agg [.int .i64 (cycC s p),.int .i64 ((p.offset.tmod (cycC s p)+cycC s p).tmod (cycC s p)),.sl 1 (ints (zXh s p (cycC s p)))]:=rfl
 rw[hsv]at qc qk ⊢
 rw[hpv,hcv]
 refine zAd mixed Tryz.func81 rfl rfl (by simp[Tryz.ntmps81]) fun hwf E=>?_
 simp(disch:=omega)[go_sem,zEv,zGa,zAh]at hwf
 simp(disch:=omega)[Tryz.ntmps81,go_sem]
 refine zAa qc [] (by simp[go_sem]) (.inl rfl) (by simp[go_sem]) (fun _=>?_) (by simp[tabG,go_sem])
 have hL:=hOk.low
 have hN:=hOk.needs
 have h4:zEl s=true:=hOk 4 (by omega)
 simp[zEl,inN]at h4
 have h8:=(zUc.1 hOk).2.1.1
 have hrb:zFe s s.phases.length≤cycC s p∧cycC s p≤1048576:=by unfold cycC;repeat' split<;>omega
 have hc1:1≤cycC s p:=by unfold cycC;repeat' split<;>omega
 simp(disch:=omega)[go_sem]
 have hcc:(if s.high<if p.cycle<s.low then s.low else p.cycle then s.high else if p.cycle<s.low then s.low else p.cycle)=cycC s p:=rfl
 simp only[hcc]
 generalize cycC s p=c at *
 have hm1:=Int.tmod_lt_of_pos p.offset (show 0<c by omega)
 have hm2:=Int.lt_tmod_of_pos p.offset (show 0<c by omega)
 have hwr:IntKind.i64.wrap (p.offset.tmod c+c)=p.offset.tmod c+c:=zDr (by omega) (by omega)
 rw[hwr]
 have ho:0≤(p.offset.tmod c+c).tmod c∧(p.offset.tmod c+c).tmod c<c:=by
  refine⟨?_,Int.tmod_lt_of_pos _ (by omega)⟩
  exact Int.tmod_nonneg _ (by omega)
 generalize (p.offset.tmod c+c).tmod c=f at *
 refine⟨by omega,.inl (by kernel_rfl),?_⟩
 try simp(disch:=omega)[go_sem]
 refine⟨by omega,?_⟩
 have hwz:=xMt s p
 rw[← hwz]
 have hpw0:=zAo (wl s p 0)
 refine zAe mixed (cl1F s p c f) (fun k=>k≤s.phases.length) (fun k=>s.phases.length-k) 0 (by omega) ?_ ?_
 ·refine(Le.mk [(0,some 0),(16,some 16),(32,some 32),(288,some 288),(656,some 656)] [0,16,32,288,656] ⟨rfl,rfl,rfl⟩ ?_ ?_ ?_)<;>simp[go_sem,cl1F,clS,sitV,plnV,hpw0]
 ·intro k hk;have hpw:=zAo (wl s p k);cases k with
  |zero=>
   simp(disch:=omega)[go_sem,cl1F,clS,sitV,plnV];refine zAc (fun h=>?_) (fun h=>?_)<;>simp at h
   ·have hkp:0<s.phases.length:=by omega
    have hi2:nth (s.phases.map phaV) 0=phaV s.phases[0]:=zBt hkp;have eM:s.phases[0].min=zMe s 0:=by simp[zMe,hkp]
    have hNd:zCi s 0=zMe s 0+zGs s 0 ((0+1) % s.phases.length):=rfl;have hl1:ints (zIz s 1)=[.int .i64 (zCi s 0)]:=by simp[zIz,ints]
    have hNk:=hN 0 hkp;have qkk:=qk 0 hkp;have hwb:=zJf (p:=p) 0 hL hNk.1;have hab:=zMc (p:=p) hL hN 0 (by omega)
    have hrb2:=zJk hN hrb (k:=0) (by omega)
    have hfb:=zIc s p 0;generalize zGs s 0 ((0+1) % s.phases.length)=d at *;rw[hNd]at hNk;simp(disch:=omega)[go_sem,hkp,hi2,phaV,eM];refine zAa qkk [] (by simp[go_sem]) (.inl rfl) (by simp[go_sem]) (fun _=>?_) (by simp[tabG,go_sem])
    simp(disch:=omega)[go_sem];refine⟨.inl (by kernel_rfl),?_⟩
    have hn0:nth (ints (wl s p 0)) 0= .int .i64 0:=by rw[zAz (by rw[zGg];exact hkp),yAb hkp];simp
    refine zAc (fun h2=>?_) (fun h2=>?_)<;>simp[zAh]at h2
    ·have h2':0<p.splits.length:=by first|omega|exact List.length_pos_iff.2 h2
     simp(disch:=omega)[go_sem,hkp,zAh,zGg,zAz,h2',hn0];refine⟨.inl (by kernel_rfl),?_⟩
     have hwe:(if zMe s 0+d<(if s.high<if(0:Int)<p.splits[0]then p.splits[0]else(0:Int)then s.high else if(0:Int)<p.splits[0]then p.splits[0]else(0:Int))then(if s.high<if(0:Int)<p.splits[0]then p.splits[0]else(0:Int)then s.high else if(0:Int)<p.splits[0]then p.splits[0]else(0:Int))-(zMe s 0+d)else 0)=zGh s p 0:=by
      unfold zGh;rw[hNd,show p.splits.getD 0 0=p.splits[0] by simp[h2']]
      generalize (if s.high<if(0:Int)<p.splits[0]then p.splits[0]else(0:Int)then s.high else if(0:Int)<p.splits[0]then p.splits[0]else(0:Int))=y
      repeat' split
      all_goals omega
     simp only[hwe];rw[zSd,yPj hkp];have hpw':=zAo (wl s p (0+1));have hn1:nth (ints (wl s p (0+1))) 0= .int .i64 (zGh s p 0):=by rw[zAz (by rw[zGg];exact hkp),yAb hkp];simp
     simp(disch:=omega)[go_sem,hn1];refine zAc (fun h3=>?_) (fun h3=>?_)
     ·have hf1:=(show zDb s p (0+1)=((0:Nat):Int) from zWw ⟨by simpa using h3,by simp[zDb]⟩)
      simp(disch:=omega)[go_sem,hkp,zAh,zGg,hn1];refine zAb 1 (by omega) (by omega) (Le.mk [(0,some 0),(16,some 16),(32,some 32),(288,some 288),(656,some 656),(1008,some 3024)] [0,16,32,288,656,3024] ⟨rfl,rfl,rfl⟩ ?_ ?_ ?_)<;>simp[go_sem,cl1F,clS,sitV,plnV,hpw',allC,zIm,hf1,hl1,hNd]
     ·have hf1:=(show zDb s p (0+1)=zDb s p 0 from yCe (fun e=>by have:=e.1;simp at h3;omega))
      simp(disch:=omega)[go_sem,hkp,zAh,zGg,hn1];refine zAb 1 (by omega) (by omega) (Le.mk [(0,some 0),(16,some 16),(32,some 32),(288,some 288),(656,some 656),(1008,some 2992)] [0,16,32,288,656,2992] ⟨rfl,rfl,rfl⟩ ?_ ?_ ?_)<;>simp[go_sem,cl1F,clS,sitV,plnV,hpw',allC,zIm,hf1,hl1,hNd]
      all_goals rfl
    ·have h2':p.splits.length≤0:=by first|omega|simp[h2]
     have hz:=zVp (s:=s) (p:=p) 0 (by omega) (hN 0 hkp).1 h2'
     have hws:=yPk hkp hz;simp(disch:=omega)[go_sem,hkp,zAh,zGg,hn0];refine zAb 1 (by omega) (by omega) (Le.mk [(0,some 0),(16,some 16),(32,some 32),(288,some 288),(656,some 656),(1008,some 2736)] [0,16,32,288,656,2736] ⟨rfl,rfl,rfl⟩ ?_ ?_ ?_)<;>simp[go_sem,cl1F,clS,sitV,plnV,hws,hpw,hz,allC,zIm,zDb,hl1,hNd]
   ·first|omega|(simp[h]at h8)
  |succ k=>
   simp(disch:=omega)[go_sem,cl1F,clS,sitV,plnV];refine zAc (fun h=>?_) (fun h=>?_)<;>simp at h
   ·have hkp:k+1<s.phases.length:=by omega
    have hi2:nth (s.phases.map phaV) (k+1)=phaV s.phases[k+1]:=zBt hkp;have eM:s.phases[k+1].min=zMe s (k+1):=by simp[zMe,hkp]
    have hNd:zCi s (k+1)=zMe s (k+1)+zGs s (k+1) ((k+1+1) % s.phases.length):=rfl;have hls:ints (zIz s (k+1+1))=ints (zIz s (k+1))++[.int .i64 (zCi s (k+1))]:=by rw[yGc,xEi];rfl
    have hpl:=zAo (zIz s (k+1));have hNk:=hN (k+1) hkp;have qkk:=qk (k+1) hkp;have hwb:=zJf (p:=p) (k+1) hL hNk.1;have hab:=zMc (p:=p) hL hN (k+1) (by omega)
    have hrb2:=zJk hN hrb (k:=k+1) (by omega)
    have hfb:=zIc s p (k+1);generalize zGs s (k+1) ((k+1+1) % s.phases.length)=d at *;rw[hNd]at hNk;simp(disch:=omega)[go_sem,hkp,hi2,phaV,eM];refine⟨by omega,?_⟩
    refine zAa qkk [] (by simp[go_sem]) (.inl rfl) (by simp[go_sem]) (fun _=>?_) (by simp[tabG,go_sem])
    simp(disch:=omega)[go_sem];refine⟨.inl (by kernel_rfl),?_⟩
    have hn0:nth (ints (wl s p (k+1))) (k+1)= .int .i64 0:=by rw[zAz (by rw[zGg];exact hkp),yAb hkp];simp
    refine zAc (fun h2=>?_) (fun h2=>?_)<;>simp[zAh]at h2
    ·have h2':k+1<p.splits.length:=by first|omega|exact List.length_pos_iff.2 h2
     simp(disch:=omega)[go_sem,hkp,zAh,zGg,zAz,h2',hn0];refine⟨by omega,by omega,.inl (by kernel_rfl),?_⟩
     have hwe:(if zMe s (k+1)+d<(if s.high<if(0:Int)<p.splits[k+1]then p.splits[k+1]else(0:Int)then s.high else if(0:Int)<p.splits[k+1]then p.splits[k+1]else(0:Int))then(if s.high<if(0:Int)<p.splits[k+1]then p.splits[k+1]else(0:Int)then s.high else if(0:Int)<p.splits[k+1]then p.splits[k+1]else(0:Int))-(zMe s (k+1)+d)else 0)=zGh s p (k+1):=by
      unfold zGh;rw[hNd,show p.splits.getD (k+1) 0=p.splits[k+1] by simp[h2']]
      generalize (if s.high<if(0:Int)<p.splits[k+1]then p.splits[k+1]else(0:Int)then s.high else if(0:Int)<p.splits[k+1]then p.splits[k+1]else(0:Int))=y
      repeat' split
      all_goals omega
     simp only[hwe];rw[zSd,yPj hkp];have hpw':=zAo (wl s p ((k+1)+1));have hn1:nth (ints (wl s p ((k+1)+1))) (k+1)= .int .i64 (zGh s p (k+1)):=by rw[zAz (by rw[zGg];exact hkp),yAb hkp];simp
     refine⟨by omega,?_⟩
     simp(disch:=omega)[go_sem,hn1];refine zAc (fun h3=>?_) (fun h3=>?_)
     ·have hf1:=(show zDb s p ((k+1)+1)=((k+1:Nat):Int) from zWw (by simpa using h3))
      simp(disch:=omega)[go_sem,hkp,zAh,zGg,zLs,hn1];refine⟨by omega,by omega,?_⟩
      refine zAb (k+1+1) (by omega) (by omega) (Le.mk [(0,some 0),(16,some 16),(32,some 32),(288,some 288),(656,some 656),(1008,some 1008)] [0,16,32,288,656,1008] ⟨rfl,rfl,rfl⟩ ?_ ?_ ?_)<;>simp[go_sem,cl1F,clS,sitV,plnV,hpw',allC,zIm,hf1,hNd,hls,hpl]
     ·have hf1:=(show zDb s p ((k+1)+1)=zDb s p (k+1) from yCe (fun e=>by simp[e.1,e.2]at h3))
      simp(disch:=omega)[go_sem,hkp,zAh,zGg,zLs,hn1];refine⟨by omega,by omega,?_⟩
      refine zAb (k+1+1) (by omega) (by omega) (Le.mk [(0,some 0),(16,some 16),(32,some 32),(288,some 288),(656,some 656),(1008,some 1008)] [0,16,32,288,656,1008] ⟨rfl,rfl,rfl⟩ ?_ ?_ ?_)<;>simp[go_sem,cl1F,clS,sitV,plnV,hpw',allC,zIm,hf1,hNd,hls,hpl]
    ·have h2':p.splits.length≤k+1:=by first|omega|simp[h2]
     have hz:=zVp (s:=s) (p:=p) (k+1) (by omega) (hN (k+1) hkp).1 h2'
     have hws:=yPk hkp hz;simp(disch:=omega)[go_sem,hkp,zAh,zGg,zLs,hn0];refine⟨by omega,by omega,?_⟩
     refine zAb (k+1+1) (by omega) (by omega) (Le.mk [(0,some 0),(16,some 16),(32,some 32),(288,some 288),(656,some 656),(1008,some 1008)] [0,16,32,288,656,1008] ⟨rfl,rfl,rfl⟩ ?_ ?_ ?_)<;>simp[go_sem,cl1F,clS,sitV,plnV,hws,hpw,hz,allC,zIm,zDb,hNd,hls,hpl]
   ·have hkl:k+1=s.phases.length:=by omega
    simp(disch:=omega)[go_sem,zAh,zLs];have hs0:=xCb s p c;rw[hkl];refine zAe mixed (cl2F s p c f) (fun m=>m≤s.phases.length) (fun m=>s.phases.length-m) 0 (by omega) ?_ ?_
    ·refine(Le.mk [(0,some 0),(16,some 16),(32,some 32),(288,some 288),(656,some 656),(1008,some 1008)] [0,16,32,288,656,1008] ⟨rfl,rfl,rfl⟩ ?_ ?_ ?_)<;>simp[go_sem,cl2F,clS,sitV,plnV,hs0,zTs,zAo];all_goals omega
    ·intro m hm;have hpw2:=zAo (wl s p s.phases.length);have hps:=zAo (sl2 s p c m);have hps1:=zAo (sl2 s p c (m+1));simp(disch:=omega)[go_sem,cl2F,clS,sitV,plnV];refine zAc (fun g=>?_) (fun g=>?_)<;>simp at g
     ·have g':m<s.phases.length:=by omega
      have hnw:nth (ints (wl s p s.phases.length)) m= .int .i64 (zGh s p m):=by rw[zAz (by rw[zGg];exact g'),yAb g'];simp[g']
      have hns:nth (ints (sl2 s p c m)) m= .int .i64 (zCi s m):=by rw[zAz (by rw[zJi];exact g'),zVx g'];simp
      have hset:(ints (sl2 s p c m)).set m (.int .i64 (zCi s m+zGp s p c m))=ints (sl2 s p c (m+1)):=by rw[zSd,yQj g']
      have hsb:=zKk (p:=p) hL hN hrb g';have hlb:=zNa (p:=p) hL hN hrb m (by omega)
      have hnb:=hN m g';have hab:=zMc (p:=p) hL hN s.phases.length (Nat.le_refl _);have hlf:zTs s p c (m+1)=zTs s p c m-zGp s p c m:=rfl;simp(disch:=omega)[go_sem,g'];refine zAc (fun g2=>?_) (fun g2=>?_)<;>simp at g2
      ·have htd:=hsb.2.2.2 g2;simp(disch:=omega)[go_sem,g',zAh,zGg,zJi,hnw,hns];refine⟨by omega,?_⟩
       refine zAb (m+1) (by omega) (by omega) (Le.mk [(0,some 0),(16,some 16),(32,some 32),(288,some 288),(656,some 656),(1008,some 1008)] [0,16,32,288,656,1008] ⟨rfl,rfl,rfl⟩ ?_ ?_ ?_)<;>simp[go_sem,cl2F,clS,sitV,plnV,hpw2,hps1,htd,hset,hlf]
      ·have hz:zGp s p c m=0:=by unfold zGp;rw[if_neg (by omega)]
       have hsm:=xCc g' hz;simp(disch:=omega)[go_sem];refine zAb (m+1) (by omega) (by omega) (Le.mk [(0,some 0),(16,some 16),(32,some 32),(288,some 288),(656,some 656),(1008,some 1008)] [0,16,32,288,656,1008] ⟨rfl,rfl,rfl⟩ ?_ ?_ ?_)<;>simp[go_sem,cl2F,clS,sitV,plnV,hpw2,hps,hsm,hz,hlf]
     ·have hml:m=s.phases.length:=by omega
      subst hml;have hfb:=zIc s p s.phases.length;have hlb:=zNa (p:=p) hL hN hrb s.phases.length (Nat.le_refl _);obtain⟨q,hq,hqe,hqt⟩:∃q:Nat,q<s.phases.length∧(if 0<zDb s p s.phases.length then zDb s p s.phases.length else 0)=(q:Int)∧(zDb s p s.phases.length).toNat=q:=⟨(zDb s p s.phases.length).toNat,by omega,by split<;>omega,rfl⟩
      have hsb:=(zKk (p:=p) hL hN hrb hq).2;have hnb:=hN q hq;have hns:nth (ints (sl2 s p c s.phases.length)) q= .int .i64 (zCi s q+zGp s p c q):=by rw[zAz (by rw[zJi];exact hq),zVx hq];simp[hq]
      have hcl:(ints (sl2 s p c s.phases.length)).set q (.int .i64 (zCi s q+zGp s p c q+zTs s p c s.phases.length))=ints (zXh s p c):=by
       unfold zXh;rw[hqt,zSd,show (sl2 s p c s.phases.length).getD q 0=zCi s q+zGp s p c q by
        rw[List.getD_eq_getElem?_getD,List.getElem?_eq_getElem (by rw[zJi];exact hq),zVx hq];simp[hq]]
      have hcp:=zAo (zXh s p c);simp(disch:=omega)[go_sem,zAh,zJi,hqe,hns,hcl,hq];simp[zXh,zJi]
end
section
theorem zTe:∀(f m i n:Nat) (rest:List UInt8),i+f=10→m*2 ^ (7*i)<18446744073709551616→(0<i→1≤m) →
  zTf i n (zEm f m++rest)=some (n+m*2 ^ (7*i),i+(zEm f m).length)
 |0,m,i,n,rest,hf,hm,h1=>by
  exfalso
  have hi:i=10:=by omega
  subst hi;have:=h1 (by omega)
  have h2:1*2 ^ (7*10)≤m*2 ^ (7*10):=Nat.mul_le_mul_right _ this;have h3:(18446744073709551616:Nat)<1*2 ^ (7*10):=by decide
  omega
 |f+1,m,i,n,rest,hf,hm,h1=>by
  have h9:∀x,x≤127→x=m→¬(i=9∧1<x):=by
   rintro x hx rfl ⟨hi,hx1⟩
   subst hi;have h2:2*2 ^ (7*9)≤x*2 ^ (7*9):=Nat.mul_le_mul_right _ (by omega)
   have h3:(18446744073709551616:Nat)≤2*2 ^ (7*9):=by decide
   omega
  by_cases h:m≤127
  ·have e:zEm (f+1) m=[UInt8.ofNat m]:=zLm h;have hu:(UInt8.ofNat m).toNat=m:=by rw[UInt8.toNat_ofNat'];omega
   rw[e,List.singleton_append,zTf,hu,if_neg (h9 m h rfl),if_pos (by omega),if_neg (by omega),show m % 128=m by omega]
   rfl
  ·have e:zEm (f+1) m=UInt8.ofNat (m % 128+128)::zEm f (m / 128):=by rw[zEm,if_neg h]
   have hu:(UInt8.ofNat (m % 128+128)).toNat=m % 128+128:=by rw[UInt8.toNat_ofNat'];omega
   have hi9:i≠9:=by
    intro hi;subst hi;have h2:128*2 ^ (7*9)≤m*2 ^ (7*9):=Nat.mul_le_mul_right _ (by omega)
    have h3:(18446744073709551616:Nat)≤128*2 ^ (7*9):=by decide
    omega
   have hp:2 ^ (7*(i+1))=128*2 ^ (7*i):=by rw[show 7*(i+1)=7*i+7 by omega,Nat.pow_add];omega
   have hmm:m / 128*2 ^ (7*(i+1))≤m*2 ^ (7*i):=by
    rw[hp,← Nat.mul_assoc];exact Nat.mul_le_mul_right _ (Nat.div_mul_le_self m 128)
   rw[e,List.cons_append,zTf,hu,if_neg (fun h=>hi9 h.1),if_neg (by omega),zTe f (m / 128) (i+1) _ rest (by omega) (by omega) (fun _=>by omega)]
   simp only[List.length_cons,Option.some.injEq,Prod.mk.injEq];refine⟨?_,by omega⟩
   rw[hp,show (m % 128+128) % 128=m % 128 by omega,← Nat.mul_assoc,Nat.add_assoc,← Nat.add_mul]
   congr 2
   omega
theorem yFk{m:Nat}(rest:List UInt8)(h:m<18446744073709551616):zKc (zDv m++rest)=some (m,(zDv m).length):=by
 have:=zTe 10 m 0 0 rest rfl (by simpa using h) (by omega)
 simpa[zKc,zDv] using this
theorem yIl:∀(l:List UInt8) (i n:Nat) {v k:Nat},zTf i n l=some (v,k)→i<k∧k≤i+l.length
 |[],i,n,v,k,h=>by simp[zTf]at h
 |x::r,i,n,v,k,h=>by
  unfold zTf at h;split at h
  ·cases h
  ·split at h
   ·split at h
    ·cases h
    ·simp only[Option.some.injEq,Prod.mk.injEq]at h;simp only[List.length_cons];omega
   ·have:=yIl r (i+1) _ h;simp only[List.length_cons];omega
theorem zRv{l:List UInt8}{v k:Nat}(h:zKc l=some (v,k)):0<k∧k≤l.length:=by
 have:=yIl l 0 0 h
 omega
structure RdS where
 b:List UInt8
 bad:Bool
def oneF(s:RdS)(most:Int):Int × RdS:=match zKc s.b with
 |some (n,k)=>if(n:Int)≤most then((n:Int),⟨s.b.drop k,s.bad⟩)else(0,⟨s.b,true⟩)
 |none=>(0,⟨s.b,true⟩)
theorem ySb(s:RdS){most:Int}(hm:0≤most):0≤(oneF s most).1∧(oneF s most).1≤most∧(oneF s most).2.b.length≤s.b.length:=by
 unfold oneF
 split
 ·split
  ·exact⟨by simp,by assumption,by simp⟩
  ·exact⟨by simp,hm,by simp⟩
 ·exact⟨by simp,hm,by simp⟩
def repF{α:Type}(f:RdS→α × RdS):Nat→RdS→List α × RdS
 |0,s=>([],s)
 |n+1,s=>((f s).1::(repF f n (f s).2).1,(repF f n (f s).2).2)
theorem zTa{α:Type}(f:RdS→α × RdS):∀(n:Nat) (s:RdS),repF f (n+1) s=((repF f n s).1++[(f (repF f n s).2).1],(f (repF f n s).2).2)
 |0,s=>rfl
 |n+1,s=>by
  rw[repF,zTa f n (f s).2];rfl
theorem zYc{α:Type}(f:RdS→α × RdS):∀(n:Nat) (s:RdS),(repF f n s).1.length=n
 |0,s=>rfl
 |n+1,s=>by rw[repF,List.length_cons,zYc f n]
def Rds{α:Type}(f:RdS→α × RdS)(e:List Int)(x:α):Prop:=∀rest,f ⟨putN e++rest,false⟩=(x,⟨rest,false⟩)
theorem Rds.one{x most:Int}(h:0≤x∧x≤most)(hm:most<18446744073709551616):Rds (fun s=>oneF s most) [x] x:=by
 intro rest
 obtain⟨n,rfl⟩:=Int.eq_ofNat_of_zero_le h.1
 have hp:putN [(n:Int)]=zDv n:=by simp[putN]
 rw[hp]
 unfold oneF
 simp only
 rw[yFk rest (by omega)]
 simp only[if_pos h.2]
 rw[List.drop_left]
theorem Rds.app{α:Type}{f:RdS→α × RdS}{e:List Int}{x:α}(h:Rds f e x)(e':List Int)(rest:List UInt8):f ⟨putN (e++e')++rest,false⟩=(x,⟨putN e'++rest,false⟩):=by
 rw[zOb,List.append_assoc];exact h _
theorem Rds.cons{f:RdS→Int × RdS}{y:Int}(h:Rds f [y] y)(e':List Int)(rest:List UInt8):f ⟨putN (y::e')++rest,false⟩=(y,⟨putN e'++rest,false⟩):=h.app e' rest
def zDh(n:Nat)(s:RdS):List Int × RdS:=repF (fun s=>oneF s 1048576) n s
def zJm(s:RdS):Pln × RdS:=
 let a:=oneF s 1048576;let b:=oneF a.2 1048576;let c:=oneF b.2 8;let d:=zDh c.1.toNat c.2
 (⟨a.1,b.1,d.1⟩,d.2)
def yBd(s:RdS):List Pln × RdS:=let n:=oneF s 8;repF zJm n.1.toNat n.2
def zYg(p:Pln):List Int:=p.cycle::p.offset::(p.splits.length:Int)::p.splits
def zQq(l:List Pln):List Int:=(l.length:Int)::l.flatMap zYg
def PlnW(p:Pln):Prop:=(1≤p.cycle∧p.cycle≤1048576)∧(0≤p.offset∧p.offset≤p.cycle-1)∧(1≤p.splits.length∧p.splits.length≤8)∧∀x∈p.splits,0≤x∧x≤1048576
end
section
theorem yFn(a l:List Int)(h0:∀x∈l,0≤x)(h1:a.length≤68719476736)(h2:l.length≤1099511627776) :
  FnR Tryz.prog 210 [⟨.arr,5,1,bts (putN a)⟩] [.obj 0 (putN a).length,.sl 1 (ints l)] [⟨.arr,5,1,bts (putN (a++l))⟩] (.obj 0 (putN (a++l)).length):=by
 have:=xOi (putN a) l h0 (by have:=zLn a;omega) h2
 rw[← zOb]at this
 exact this
theorem xOj(l:List Int)(h0:∀x∈l,0≤x)(h2:l.length≤1099511627776) :
  FnR Tryz.prog 210 [⟨.arr,5,1,[]⟩] [.obj 0 0,.sl 1 (ints l)] [⟨.arr,5,1,bts (putN l)⟩] (.obj 0 (putN l).length):=by
 have:=yFn [] l h0 (by simp) h2
 simpa[putN,bts] using this
theorem zUs(l:List UInt8):zGv (bts l):=by
 induction l with
 |nil=>simp[bts,zGv]
 |cons b l ih=>simp only[bts,List.map_cons,zGv]at ih ⊢;exact⟨by simp[V.noSl],ih⟩
theorem zHk{α:Type}{l:List α}{e:α→List Int}{k:Nat}(h:k<l.length):(l.take (k+1)).flatMap e=(l.take k).flatMap e++e l[k]:=by
 rw[List.take_succ_eq_append_getElem h,List.flatMap_append];simp
theorem xFv{α:Type}{l:List α}{e:α→List Int}{c:Nat}(h:∀x∈l,(e x).length≤c):(l.flatMap e).length≤c*l.length:=by
 induction l with
 |nil=>simp
 |cons x l ih=>
  have h1:=h x (by simp)
  have h2:=ih fun y hy=>h y (by simp[hy])
  rw[List.flatMap_cons,List.length_append,List.length_cons,Nat.mul_add,Nat.mul_one];omega
instance (p:Pln):Decidable (PlnW p):=by unfold PlnW;infer_instance
def zEj(l:List Pln):Int:=if 8<l.length then 4 else if l.all (fun p=>decide (PlnW p))then 0 else 170
def zFs(l:List Pln):List UInt8:=if zEj l=0 then putN (zQq l)else[]
theorem yHu{l:List Pln}(h:zEj l=0):l.length≤8∧∀p∈l,PlnW p:=by
 unfold zEj at h
 by_cases h1:8<l.length
 ·rw[if_pos h1]at h;omega
 ·rw[if_neg h1]at h;refine⟨by omega,fun p hp=>?_⟩
  by_cases h2:l.all (fun p=>decide (PlnW p))=true
  ·simpa using List.all_eq_true.1 h2 p hp
  ·rw[if_neg h2]at h;omega
theorem xAy{l:List Pln}(h1:l.length≤8)(h2:∀p∈l,PlnW p):zEj l=0:=by
 unfold zEj
 rw[if_neg (by omega),if_pos]
 exact List.all_eq_true.2 fun p hp=>by simpa using h2 p hp
theorem yPl{l:List Pln}{p:Pln}(h1:l.length≤8)(hp:p∈l)(h2:¬PlnW p):zEj l=170:=by
 unfold zEj
 rw[if_neg (by omega),if_neg]
 intro h
 exact h2 (by simpa using List.all_eq_true.1 h p hp)
def whS(l:List Pln)(sl:List (Nat × V))(a:List Int)(k:Nat)(nx:Nat):St:=
 ⟨sl++[(18,.int .i64 k),(17,.int .i64 l.length),(16,.sl 3 (l.map plnV)),(4,.obj 128 (putN a).length)],[(128,⟨.arr,5,1,bts (putN a)⟩)],nx,[],70,0,[]⟩
def whA(l:List Pln)(k:Nat):List Int:=(l.length:Int)::(l.take k).flatMap zYg
def xUs(p:Pln):List Int:=[p.cycle,p.offset,(p.splits.length:Int)]
set_option maxHeartbeats 4000000 in
theorem zPp(l:List Pln):FnD Tryz.prog 189 [.sl 3 (l.map plnV)] (.tup [.sl 1 (bts (zFs l)),.int .i64 (zEj l)]):=by
 have hpl:=zAs l
 have hll:(l.map plnV).length=l.length:=List.length_map ..
 refine zAd mixed Tryz.func189 rfl rfl (by simp[Tryz.ntmps189]) fun hwf E=>?_
 simp(disch:=omega)[go_sem,hll]at hwf
 simp(disch:=omega)[Tryz.ntmps189,go_sem,hll]
 refine zAc (fun h8=>?_) (fun h8=>?_)<;>simp at h8
 ·have e:zEj l=4:=by unfold zEj;rw[if_pos (by omega)]
  have e2:zFs l=[]:=by unfold zFs;rw[e,if_neg (by decide)]
  rw[e,e2];simp(disch:=omega)[go_sem,bts]
 ·have q0:=xOj [(l.length:Int)] (by simp) (by simp)
  simp(disch:=omega)[go_sem,hll];refine zAf q0 [(0,none)] [] [112] [] ?_ ?_ ?_ (.inl ⟨rfl,.inr ?_⟩) (fun _=>?_)
  ·simp[go_sem,ints]
  ·simp[go_sem]
  ·simp[go_sem]
  ·simp[go_sem,zUs]
  simp(disch:=omega)[go_sem,hll];refine zAe mixed (fun k:Nat=>whS l [] (whA l k) k 2048) (fun k=>k≤l.length∧∀p∈l.take k,PlnW p) (fun k=>l.length-k) 0 ⟨by omega,by simp⟩ ?_ ?_
  ·refine Le.mk [(128,some 128)] [128] ⟨rfl,rfl,rfl⟩ ?_ ?_ ?_<;>simp[go_sem,whS,whA,zAg]
  ·rintro k ⟨hk,hW⟩
   simp(disch:=omega)[go_sem,whS];refine zAc (fun h=>?_) (fun h=>?_)<;>simp at h
   ·have hgp:nth (l.map plnV) k=plnV l[k]:=zBt h;have hmem:l[k]∈l:=List.getElem_mem h;have htk:=zHk (e:=zYg) h;have hW1:PlnW l[k]→∀p∈l.take (k+1),PlnW p:=fun hp q hq=>by
     rw[List.take_succ_eq_append_getElem h,List.mem_append]at hq;rcases hq with hq|hq
     ·exact hW q hq
     ·rw[List.mem_singleton]at hq;rw[hq];exact hp
    have hbad:=fun(hp:¬PlnW l[k])=>yPl (l:=l) (p:=l[k]) (by omega) hmem hp
    have hsl:(whA l k).length≤1000:=by
     have h1:=xFv (l:=l.take k) (e:=zYg) (c:=11) fun p hp=>by
      have:=(hW p hp).2.2.1.2;simp[zYg];omega
     have h2:(l.take k).length≤8:=by rw[List.length_take];omega
     simp only[whA,List.length_cons];omega
    have hwA:whA l (k+1)=whA l k++(xUs l[k]++l[k].splits):=by
     simp only[whA,List.cons_append];rw[htk];rfl
    have hwl:wfs (l.map plnV):=hwf.2;have hwp:=zSj hwl _ hmem;clear hmem htk;generalize l[k]=p at *;obtain⟨pc,po,ps⟩:=p;simp only at hW1 hbad hwA;simp only[xUs]at hwA;have hps:=zAo ps;have q1:=zIp [pc];have q2:=zFj po 0 (pc-1);have q3:=zFj (ps.length:Int) 1 8;simp(disch:=omega)[go_sem,h,hgp,plnV,hll,zAh]at hwp ⊢;have hPW:PlnW ⟨pc,po,ps⟩=((1≤pc∧pc≤1048576)∧(0≤po∧po≤pc-1)∧(1≤ps.length∧ps.length≤8)∧∀x∈ps,0≤x∧x≤1048576):=rfl;have hB:=fun hp=>hbad hp
    have eB:¬PlnW ⟨pc,po,ps⟩→zFs l=[]:=fun hp=>by unfold zFs;rw[hbad hp,if_neg (by decide)]
    rw[hPW]at hB eB hW1;refine zAj q1 [2160] (by simp[go_sem,ints]) (fun h1=>?_) (fun h1=>?_)<;>simp[inN]at h1
    ·simp(disch:=omega)[go_sem];refine zAj q2 [] (by simp[go_sem]) (fun h2=>?_) (fun h2=>?_)<;>simp[inN]at h2
     ·simp(disch:=omega)[go_sem,zAh];refine zAj q3 [] (by simp[go_sem]) (fun h3=>?_) (fun h3=>?_)<;>simp[inN]at h3
      ·skip
       have q4:=yFn (whA l k) [pc,po,(ps.length:Int)] (by simp;omega) (by omega) (by simp)
       simp(disch:=omega)[go_sem,zAh];refine zAf q4 [(0,some 128)] [128] [2592] [] ?_ ?_ ?_ (.inl ⟨rfl,.inr ?_⟩) (fun _=>?_)
       ·simp[go_sem,ints]
       ·simp[go_sem,zAg]
       ·simp[go_sem]
       ·simp[go_sem,zUs]
       simp(disch:=omega)[go_sem,zAh];refine zAe mixed (fun m:Nat=>whS l [(56,.int .i64 m),(55,.int .i64 ps.length),(54,.sl 1 (ints ps))] (whA l k++([pc,po,(ps.length:Int)]++ps.take m)) k 4096) (fun m=>m≤ps.length∧∀x∈ps.take m,0≤x∧x≤1048576) (fun m=>ps.length-m) 0 ⟨by omega,by simp⟩ ?_ ?_
       ·refine Le.mk [(128,some 128)] [128] ⟨rfl,rfl,rfl⟩ ?_ ?_ ?_<;>simp[go_sem,whS,zAg]
       ·rintro m ⟨hm,hX⟩
        simp(disch:=omega)[go_sem,whS];refine zAc (fun h4=>?_) (fun h4=>?_)<;>simp at h4
        ·have hgx:=zAz h4;have hX1:(0≤ps[m]∧ps[m]≤1048576)→∀x∈ps.take (m+1),0≤x∧x≤1048576:=fun hp q hq=>by
          rw[List.take_succ_eq_append_getElem h4,List.mem_append]at hq;rcases hq with hq|hq
          ·exact hX q hq
          ·rw[List.mem_singleton]at hq;rw[hq];exact hp
         have hmm:ps[m]∈ps:=List.getElem_mem h4;have htk:ps.take (m+1)=ps.take m++[ps[m]]:=List.take_succ_eq_append_getElem h4;have hNo:¬(0≤ps[m]∧ps[m]≤1048576)→¬((1≤pc∧pc≤1048576)∧(0≤po∧po≤pc-1)∧(1≤ps.length∧ps.length≤8)∧∀x∈ps,0≤x∧x≤1048576):=fun hn hp=>hn (hp.2.2.2 _ hmm)
         have q5:=zFj ps[m] 0 1048576;have q6:=fun(hx:0≤ps[m])=>yFn (whA l k++([pc,po,(ps.length:Int)]++ps.take m)) [ps[m]] (by simpa using hx) (by simp;omega) (by simp)
         rw[List.append_assoc,List.append_assoc,← htk]at q6;clear hmm htk;generalize ps[m]=x at *;simp(disch:=omega)[go_sem,h4,hgx,zAh];refine zAj q5 [] (by simp[go_sem]) (fun h5=>?_) (fun h5=>?_)<;>simp[inN]at h5
         ·simp(disch:=omega)[go_sem];refine zAf (q6 h5.1) [(0,some 128)] [128] [4240] [] ?_ ?_ ?_ (.inl ⟨rfl,.inr ?_⟩) (fun _=>?_)
          ·simp[go_sem,ints]
          ·simp[go_sem,zAg]
          ·simp[go_sem]
          ·simp[go_sem,zUs]
          simp(disch:=omega)[go_sem];refine zAb (m+1) ⟨by omega,hX1 h5⟩ (by omega) (Le.mk [(128,some 128)] [128] ⟨rfl,rfl,rfl⟩ ?_ ?_ ?_)<;>simp[go_sem,zAg]
         ·have hn:=hNo (by omega)
          rw[hB hn,eB hn];simp(disch:=omega)[go_sem,bts]
        ·have hml:m=ps.length:=by omega
         subst hml;rw[List.take_length]at *;simp(disch:=omega)[go_sem];refine zAb (k+1) ⟨by omega,hW1 ⟨by omega,by omega,by omega,hX⟩⟩ (by omega) (Le.mk [(128,some 128)] [128] ⟨rfl,rfl,rfl⟩ ?_ ?_ ?_)<;>simp[go_sem,zAg,hwA]
      ·rw[hB (fun hp=>by have:=hp.2.2.1;omega),eB (fun hp=>by have:=hp.2.2.1;omega)]
       simp(disch:=omega)[go_sem,bts]
     ·rw[hB (fun hp=>by have:=hp.2.1;omega),eB (fun hp=>by have:=hp.2.1;omega)]
      simp(disch:=omega)[go_sem,bts]
    ·rw[hB (fun hp=>by have:=hp.1;omega),eB (fun hp=>by have:=hp.1;omega)]
     simp(disch:=omega)[go_sem,bts]
   ·have hkl:k=l.length:=by omega
    subst hkl;rw[List.take_length]at hW;have e:=xAy (by omega) hW
    have e2:zFs l=putN (whA l l.length):=by unfold zFs whA;rw[if_pos e,List.take_length];rfl
    rw[e,e2];have hpb:=zAg (putN (whA l l.length));have hlb:=zAm (putN (whA l l.length));simp(disch:=omega)[go_sem];first|exact hlb.symm|exact⟨hlb.symm,zAt hpb⟩
end
end Go.Proofs.YtlgbdpabcbcmcaaGreatDoor
