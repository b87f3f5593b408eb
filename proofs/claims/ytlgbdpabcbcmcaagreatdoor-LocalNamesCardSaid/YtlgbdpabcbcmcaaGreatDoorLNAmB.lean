/- The abstract machine: each operation against the model. -/
import Derived.Test.YtlgbdpabcbcmcaaGreatDoorLNAmA
import Derived.MapKept
import Derived.ChangeKeysEq
import Derived.Laws.BytesArg
set_option linter.unusedSimpArgs false
set_option linter.unusedVariables false
namespace Go.AM
open Go.RowKit
section
variable {P : Program} {E : zBf} {s : FSt} {a : Act} {w : World} {η : Nat → Value} {o : Oper}
theorem zAi(hr:Rel E s a w η)(x:Operand):RV (s.ctx E w η) (s.ev x) (a.eval x):=by
 cases x with
 |tmp t=>exact hr.slots t
 |const v=>exact zUn rfl v
 |global g=>
  simp only[FSt.ev];split
  ·rename_i p hp;exact hr.glob g p hp
  ·simp only[RV];rfl
 |func f=>simp only[FSt.ev,RV];exact⟨#[],#[],rfl,by simp[RVl],by simp[RVl]⟩
theorem zSe(k:IntKind)(n:Int):k.has (k.wrap n):=by
 unfold IntKind.has IntKind.wrap IntKind.min IntKind.max
 cases k<;>simp only[IntKind.bits,IntKind.signed]<;>simp<;>(try split)<;>omega
theorem xLw(hr:Rel E s a w η){x:Operand}(ho:o.op= .move x∨o.op= .assign x):Done P E s a w o ⟨s.ev x,[],[]⟩:=
 Done.val hr (zAi hr x) (by unfold execOp;rcases ho with ho|ho<;>simp[ho])
theorem yQx(hr:Rel E s a w η){x:Operand}{i:Nat}(ho:o.op= .extract x i){vs:List V}{y:V}(hx:s.ev x= .tup vs)(hy:vs[i]?=some y):Done P E s a w o ⟨y,[],[]⟩:=by
 have h:=zAi hr x
 rw[hx]at h
 simp only[RV]at h
 obtain⟨cv,hv,h1⟩:=h
 obtain⟨u,hu,hyu⟩:=zDa h1 i y hy
 refine Done.val hr hyu ?_
 unfold execOp
 have:cv[i]?=some u:=by simpa using hu
 simp[ho,hv,Instr.extract,this]
theorem yFc(hr:Rel E s a w η){T:Nat}{x i:Operand}(ho:o.op= .index T x i)(hT:P.underlying T=some .string){st:ByteArray}{k:IntKind}{n:Int}(hx:s.ev x= .str st)(hi:s.ev i= .int k n)(h0:0≤n)(h1:n.toNat<st.size) :
  Done P E s a w o ⟨.int .u8 (zLe st n.toNat),[],[]⟩:=by
 have h:=zAi hr x
 rw[hx]at h
 simp only[RV]at h
 have h2:=zAi hr i
 rw[hi]at h2
 simp only[RV]at h2
 have hb:zLe st n.toNat=st[n.toNat].toNat:=by
  unfold zLe;have:n.toNat<st.data.size:=h1;simp only[Array.getD];rw[dif_pos this];rfl
 refine Done.val hr (v:= .int .u8 (zLe st n.toNat)) ?_ ?_
 ·simp only[RV];rw[hb];have:=st[n.toNat].toNat_lt;refine⟨by trivial,?_⟩
  have e1:IntKind.u8.min=0:=by decide
  have e2:IntKind.u8.max=255:=by decide
  unfold IntKind.has;rw[e1,e2];omega
 ·unfold execOp;have hg:st[n.toNat]?=some st[n.toNat]:=by simp[h1]
  simp[ho,h,h2.1,Instr.index,asIntOf,run_underlying hT,h0,hg,hb]
theorem yFe(hr:Rel E s a w η){T:Nat}{x i:Operand}(ho:o.op= .index T x i){na:Nat}{e:TypeId}(hT:zIf P T=some (na,e))(hR:zAn P e=some false){cs:List V}{v:V}{k:IntKind}{n:Int}(hx:s.ev x= .agg cs)(hi:s.ev i= .int k n)(hv:cs[n.toNat]?=some v)(h0:0≤n)(h1:n<na)(h2:P.cellsOf e=1) :
  Done P E s a w o ⟨v,[],[]⟩:=by
 have h:=zAi hr x
 rw[hx]at h
 simp only[RV]at h
 obtain⟨cv,hcv,hl,_⟩:=h
 have h3:=zAi hr i
 rw[hi]at h3
 simp only[RV]at h3
 obtain⟨u,hu1,hyu⟩:=zDa hl _ v hv
 have hund:P.underlying T=some (.array na e):=by
  unfold zIf at hT;split at hT
  ·rename_i n' e' hu;cases hT;exact hu
  ·cases hT
 have hra:=zGi (P:=P) hR w
 have hc:=zBd (P:=P) (T:=e) (by omega) w
 rw[h2]at hc
 refine Done.val hr hyu ?_
 unfold execOp
 have:cv[n.toNat]?=some u:=by simpa using hu1
 simp[ho,hcv,h3.1,Instr.index,asIntOf,run_underlying hund,h0,h1,hc,part,hra,this]
theorem xOb(hr:Rel E s a w η){x:Operand}{T f off ft:Nat}(ho:o.op= .field T x f){cs:List V}{y:V}(hf:zAq P T f=some (off,ft))(hx:s.ev x= .agg cs)
  (hy:zCt P ft (.agg cs) off=some y) (hc:0<P.cellsOf ft):Done P E s a w o ⟨y,[],[]⟩:=by
 have h:=zAi hr x
 rw[hx]at h
 have h':=h
 simp only[RV]at h
 obtain⟨cv,hv,h1,h2⟩:=h
 have hl:=zAp h1
 unfold zAq at hf
 cases hu:P.underlying T with
 |none=>simp[hu]at hf
 |some d=>
  cases d<;>simp only[hu,reduceCtorEq]at hf
  rename_i fs;cases hff:fs[f]? with
  |none=>simp[hff]at hf
  |some fd=>
   simp only[hff,Option.map_some,Option.some.injEq,Prod.mk.injEq]at hf;obtain⟨rfl,rfl⟩:=hf;unfold zCt at hy;cases hrow:zAn P fd.type with
   |none=>simp[hrow]at hy
   |some r=>
    have hra:=zGi (P:=P) hrow w;cases r with
    |false=>
     simp only[hrow,V.cl]at hy;obtain⟨u,hu1,hyu⟩:=zDa h1 _ y hy;refine Done.val hr hyu ?_;unfold execOp;have:cv[fd.offset]?=some u:=by simpa using hu1
     simp[ho,hv,Instr.field,run_underlying hu,hff,asAgg,part,hra,this]
    |true=>
     simp only[hrow,V.cl]at hy;have hrun:(execOp a.eval o).run P w= .ok (.value (.agg (cv.extract fd.offset (fd.offset+P.cellsOf fd.type)))) w:=by
      unfold execOp;simp[ho,hv,Instr.field,run_underlying hu,hff,asAgg,part,hra,zBd hc]
     refine Done.val hr ?_ hrun;split at hy
     ·rename_i hw;cases hy
      have:cv.extract fd.offset (fd.offset+P.cellsOf fd.type)=cv:=by
       rw[hw.1,Nat.zero_add,← hw.2];have:cs.length=cv.size:=by simpa using hl.symm
       rw[this];simp
      rw[this,← hv];exact h'
     ·split at hy
      ·cases hy
       simp only[RV];refine⟨_,rfl,?_,fun u hu=>?_⟩
       ·have:(cv.extract fd.offset (fd.offset+P.cellsOf fd.type)).toList=(cv.toList.drop fd.offset).take (P.cellsOf fd.type):=by
         simp[List.extract_eq_take_drop]
        rw[this];exact zEf _ (zFp _ h1)
       ·have:(cv.extract fd.offset (fd.offset+P.cellsOf fd.type)).toList=(cv.toList.drop fd.offset).take (P.cellsOf fd.type):=by
         simp[List.extract_eq_take_drop]
        rw[this]at hu;exact h2 u (List.mem_of_mem_drop (List.mem_of_mem_take hu))
      ·cases hy
theorem xTz(hr:Rel E s a w η){c x y:Operand}(ho:o.op= .pick c x y){t:Bool}(hc:s.ev c= .bool t){q:Stp}(hp:zRo t (s.ev x) (s.ev y)=some q)(hs:q.side):Done P E s a w o q.e:=by
 have h0:=zAi hr c
 rw[hc]at h0
 simp only[RV]at h0
 have hx:=zAi hr x
 have hy:=zAi hr y
 have hrun:(execOp a.eval o).run P w= .ok (.value (if t then a.eval x else a.eval y)) w:=by
  unfold execOp;simp[ho,h0,asBool]
 generalize s.ev x=X at *
 generalize s.ev y=Y at *
 unfold zRo at hp
 split at hp<;>simp only[just,zCv,Option.some.injEq,reduceCtorEq]at hp<;>subst hp<;>refine Done.val hr ?_ hrun
 ·simp only[RV]at hx hy ⊢;cases t<;>simp_all
 ·simp only[RV]at hx hy ⊢;simp only at hs;cases t<;>simp_all
 ·simp only[RV]at hx hy ⊢;simp only at hs;cases t<;>simp_all
 ·simp only at hs;subst hs;simpa using hx
 ·simp only at hs;subst hs;simpa using hy
theorem s_un(hr:Rel E s a w η){op:UnOp}{T:TypeId}{x:Operand}(ho:o.op= .unOp op T x){q:Stp}(hp:unS op (s.ev x)=some q):Done P E s a w o q.e:=by
 have hx:=zAi hr x
 generalize s.ev x=X at *
 unfold unS at hp
 split at hp
 ·rename_i k n;simp only[RV]at hx;cases op<;>simp only[just,Option.some.injEq,reduceCtorEq,zDk,Option.map_some]at hp
  ·subst hp;refine Done.val hr (v:= .int k (k.wrap (0-n))) ?_ ?_
   ·simp only[RV,true_and];exact zSe k _
   ·unfold execOp;simp[ho,hx.1,Op.unary,Op.intArith]
  ·subst hp;refine Done.val hr (v:= .int k (k.wrap (BitVec.ofInt k.bits (if k.signed then -1 else k.max) ^^^ BitVec.ofInt k.bits n).toNat)) ?_ ?_
   ·simp only[RV,true_and];exact zSe k _
   ·unfold execOp;simp[ho,hx.1,Op.unary,Op.intBits]
 ·simp only[RV]at hx;cases op<;>simp only[just,Option.some.injEq,reduceCtorEq]at hp
  rename_i b;subst hp;refine Done.val hr (v:= .bool (!b)) (by simp only[RV]) ?_
  unfold execOp;simp[ho,hx,Op.unary]
 ·cases hp
theorem xEo{k:IntKind}{n:Int}(h:k.has n)(m:Nat):k.has (n.fdiv (2 ^ m)):=by
 have hp:(0:Int)<2 ^ m:=Int.pow_pos (by omega)
 have hmin:k.min≤0:=by unfold IntKind.min;cases k<;>simp[IntKind.signed,IntKind.bits]
 have hmax:0≤k.max:=by unfold IntKind.max;cases k<;>simp[IntKind.signed,IntKind.bits]
 rw[Int.fdiv_eq_ediv_of_nonneg _ (Int.le_of_lt hp)]
 obtain⟨h1,h2⟩:=h
 by_cases hn:0≤n
 ·have a:=Int.ediv_nonneg hn (Int.le_of_lt hp);have b:=Int.ediv_le_self (2 ^ m) hn;exact⟨by omega,by omega⟩
 ·have a:n / 2 ^ m<0:=Int.ediv_neg_of_neg_of_pos (by omega) hp
  have b:n≤n / 2 ^ m:=by
   rw[Int.le_ediv_iff_mul_le hp];have:=Int.mul_le_mul_of_nonpos_left (a:=n) (by omega) (show (1:Int)≤2 ^ m by omega)
   omega
  exact⟨by omega,by omega⟩
theorem xEn{k:IntKind}{n:Int}(h:k.has n)(m:Int):k.has (n.tmod m):=by
 have hmin:k.min≤0:=by unfold IntKind.min;cases k<;>simp[IntKind.signed,IntKind.bits]
 have hmax:0≤k.max:=by unfold IntKind.max;cases k<;>simp[IntKind.signed,IntKind.bits]
 obtain⟨h1,h2⟩:=h
 by_cases hn:0≤n
 ·have a:=Int.tmod_nonneg m hn;have c:(n.tmod m).natAbs≤n.natAbs:=by rw[Int.natAbs_tmod];exact Nat.mod_le _ _
  exact⟨by omega,by omega⟩
 ·have c:(n.tmod m).natAbs≤n.natAbs:=by rw[Int.natAbs_tmod];exact Nat.mod_le _ _
  have d:n.tmod m≤0:=by
   have:=Int.tmod_nonneg m (a:= -n) (by omega)
   rw[Int.neg_tmod]at this;omega
  exact⟨by omega,by omega⟩
theorem zFq{c:Ctx}{b:Bool}:RV c (.bool b) (.bool b):=by simp only[RV]
theorem xSk{P:Program}(w:World)(T:TypeId){e:TypeId}{kk:IntKind}(hK:P.underlying T=some (.array 2 e))(he:P.underlying e=some (.int kk))(hc:P.cellsOf e=1)(k1 j1:IntKind)(a1 b1 a2 b2:Int) :
  (Op.equalIn 10000 T (.agg #[.int k1 a1,.int j1 b1]) (.agg #[.int k1 a2,.int j1 b2])).run P w= .ok (a1 == a2&&b1 == b2) w:=by
 have hi:∃i,P.info? e=some i:=by
  unfold Program.cellsOf at hc;cases hq:P.info? e with
  |none=>simp[hq]at hc
  |some i=>exact⟨i,rfl⟩
 obtain⟨i,hi⟩:=hi
 have hag:∀w,(isAgg e).run P w= .ok false w:=fun w=>zGi (by simp[zAn,he]) w
 rw[show (10000:Nat)=9999+1 from rfl,run_equalIn_array w 9999 _ _ hK hi]
 have q1:∀(m:Nat) (v:Value) (cs:Array Value),cs[m]?=some v→(part e cs m).run P w= .ok v w:=fun m v cs hm=>by
  simp[part,hag,hm]
 have q2:=run_equalIn_int (P:=P) w 9998 e k1 kk a1 a2 he
 have q3:=run_equalIn_int (P:=P) w 9998 e j1 kk b1 b2 he
 have hr:List.range 2=[0,1]:=by decide
 have p1:(part e #[Value.int k1 a1,.int j1 b1] 1).run P w= .ok (.int j1 b1) w:=q1 1 _ _ rfl
 have p2:(part e #[Value.int k1 a2,.int j1 b2] 1).run P w= .ok (.int j1 b2) w:=q1 1 _ _ rfl
 rw[hr]
 simp only[Op.eqItems,hc,Sem.run_bind,q1 0 _ _ (show (#[Value.int k1 a1,.int j1 b1])[0*1]?=some (.int k1 a1) from rfl),q1 0 _ _ (show (#[Value.int k1 a2,.int j1 b2])[0*1]?=some (.int k1 a2) from rfl),
  q1 1 _ _ (show (#[Value.int k1 a1,.int j1 b1])[1*1]?=some (.int j1 b1) from rfl),q1 1 _ _ (show (#[Value.int k1 a2,.int j1 b2])[1*1]?=some (.int j1 b2) from rfl),Result.andThen_ok]
 rw[show (9999:Nat)=9998+1 from rfl]
 simp only[q2,Result.andThen_ok]
 by_cases hab:a1=a2
 ·subst hab;simp[q3,p1,p2];by_cases hbb:b1=b2
  ·subst hbb;simp
  ·simp[hbb]
 ·simp[hab]
theorem xSl{P:Program}{c:Ctx}(w:World)(op:BinOp)(T:TypeId)(x y:Operand){xs ys:List V}{b:Bool}{xv yv:Array Value}(h:eq2 P T xs ys=some b)(hx:RVl c xs xv.toList)(hy:RVl c ys yv.toList) :
  (Op.equalIn 10000 T (.agg xv) (.agg yv)).run P w= .ok b w∧(eqGuard op T x y (.agg xv) (.agg yv)).run P w= .ok () w:=by
 unfold eq2 at h
 split at h
 ·rename_i k a j b0 k' a' j' b';split at h
  ·rename_i hc;obtain⟨hT,rfl,rfl⟩:=hc;cases h
   unfold xKy at hT;split at hT
   ·rename_i e hu;split at hT
    ·rename_i kk he;have hT:=of_decide_eq_true hT;simp only[RV,RVl]at hx hy;obtain⟨u1,r1,h1,⟨rfl,_⟩,u2,r2,h2,⟨rfl,_⟩,h3⟩:=hx;obtain⟨v1,s1,g1,⟨rfl,_⟩,v2,s2,g2,⟨rfl,_⟩,g3⟩:=hy;subst h3;subst h2;subst g3;subst g2;have e1:xv= #[.int k a,.int j b0]:=by apply Array.ext';simpa using h1
     have e2:yv= #[.int k a',.int j b']:=by apply Array.ext';simpa using g1
     subst e1;subst e2;exact⟨xSk w T hu he hT.1 k j a b0 a' b',run_eqGuard_agg w op T x y _ _ hT.2⟩
    ·cases hT
   ·cases hT
  ·cases h
 ·cases h
theorem zZj{c:Ctx}(w:World)(xv yv:Array Value)(d:Nat):∀(fs:List Field) (k:Nat) (l:List Nat) (xs ys:List V) (b:Bool) (us vs:List Value),zWt P k fs=some l→zCg l xs ys=some b→RVl c xs us→RVl c ys vs →
  (∀j:Nat,us[j]?=xv[k+j]?)→(∀j:Nat,vs[j]?=yv[k+j]?)→(Op.eqFields (d+1) xv yv fs).run P w= .ok b w:=by
 intro fs
 induction fs with
 |nil=>
  intro k l xs ys b us vs hl he _ _ _ _;simp only[zWt,Option.some.injEq]at hl;subst hl;cases xs<;>cases ys<;>simp only[zCg,Option.some.injEq,reduceCtorEq]at he
  subst he;simp[Op.eqFields]
 |cons f fs ih=>
  intro k l xs ys b us vs hl he hx hy hu hv;simp only[zWt]at hl;split at hl
  ·rename_i hf;obtain⟨hn,ho⟩:=hf;have step:∀(t:Nat) (l':List Nat),zWt P (k+1) fs=some l'→(x y:V)→(xs' ys':List V)→xs=x::xs'→ys=y::ys'→(u v:Value)→RV c x u→RV c y v→(q:Bool)→(b':Bool) →
     u=us.headD undef→v=vs.headD undef→zAn P f.type=some false→(∀w,(Op.equalIn (d+1) f.type u v).run P w= .ok q w)→zCg l' xs' ys'=some b'→(Op.eqFields (d+1) xv yv (f::fs)).run P w= .ok (q&&b') w:=by
    intro t l' hl' x y xs' ys' ex ey u v _ _ q b' hu0 hv0 hrow heq he';subst ex;subst ey;simp only[RVl]at hx hy;obtain⟨u1,r1,rfl,hxu,hxr⟩:=hx;obtain⟨v1,r2,rfl,hyv,hyr⟩:=hy;simp at hu0 hv0;subst hu0;subst hv0;have a1:xv[f.offset]?=some u:=by have:=hu 0;simp at this;rw[ho];exact this.symm
    have a2:yv[f.offset]?=some v:=by have:=hv 0;simp at this;rw[ho];exact this.symm
    have ih':=ih (k+1) l' xs' ys' b' r1 r2 hl' he' hxr hyr (fun j=>by have:=hu (j+1);simpa[Nat.add_assoc,Nat.add_comm 1 j] using this) (fun j=>by have:=hv (j+1);simpa[Nat.add_assoc,Nat.add_comm 1 j] using this)
    have p1:(part f.type xv f.offset).run P w= .ok u w:=by simp[part,zGi hrow,a1]
    have p2:(part f.type yv f.offset).run P w= .ok v w:=by simp[part,zGi hrow,a2]
    simp only[Op.eqFields,hn,ne_eq,not_false_eq_true,if_true,Sem.run_bind,p1,p2,Result.andThen_ok,heq];cases q
    ·simp
    ·simpa using ih'
   split at hl
   ·rename_i l' ht hl';cases hl
    cases xs<;>cases ys<;>(try simp only[zCg,reduceCtorEq]at he)
    rename_i x xs y ys;cases x<;>cases y<;>simp only[zCg,reduceCtorEq]at he
    rename_i p q;obtain⟨b',hb',rfl⟩:=Option.map_eq_some_iff.1 he;have h1:=hx;have h2:=hy;simp only[RVl,RV]at h1 h2;obtain⟨u1,r1,rfl,rfl,_⟩:=h1;obtain⟨v1,r2,rfl,rfl,_⟩:=h2;exact step 0 l' hl' _ _ _ _ rfl rfl (.bool p) (.bool q) zFq zFq _ _ rfl rfl (by simp[zAn,ht]) (fun w=>run_equalIn_bool' w d _ p q ht) hb'
   ·rename_i k1 l' ht hl';cases hl
    cases xs<;>cases ys<;>(try simp only[zCg,reduceCtorEq]at he)
    rename_i x xs y ys;cases x<;>cases y<;>simp only[zCg,reduceCtorEq]at he
    rename_i ka p kb q;split at he
    ·rename_i hk;subst hk;obtain⟨b',hb',rfl⟩:=Option.map_eq_some_iff.1 he;have h1:=hx;have h2:=hy;simp only[RVl,RV]at h1 h2;obtain⟨u1,r1,rfl,⟨rfl,hp⟩,_⟩:=h1;obtain⟨v1,r2,rfl,⟨rfl,hq⟩,_⟩:=h2;exact step 0 l' hl' _ _ _ _ rfl rfl (.int ka p) (.int ka q) (by simp only[RV];exact⟨trivial,hp⟩) (by simp only[RV];exact⟨trivial,hq⟩) _ _ rfl rfl (by simp[zAn,ht]) (fun w=>run_equalIn_int w d _ ka _ p q ht) hb'
    ·cases he
   ·rename_i l' ht hl';cases hl
    cases xs<;>cases ys<;>(try simp only[zCg,reduceCtorEq]at he)
    rename_i x xs y ys;cases x<;>cases y<;>simp only[zCg,reduceCtorEq]at he
    rename_i p q;obtain⟨b',hb',rfl⟩:=Option.map_eq_some_iff.1 he;have h1:=hx;have h2:=hy;simp only[RVl,RV]at h1 h2;obtain⟨u1,r1,rfl,rfl,_⟩:=h1;obtain⟨v1,r2,rfl,rfl,_⟩:=h2;exact step 0 l' hl' _ _ _ _ rfl rfl (.string p) (.string q) (by simp only[RV]) (by simp only[RV]) _ _ rfl rfl (by simp[zAn,ht]) (fun w=>run_equalIn_string w d _ p q ht) hb'
   ·cases hl
  ·cases hl
theorem zOg{T e':TypeId}(hT:P.underlying T=some (.slice e'))(a:Option Addr)(n c:Nat)(w:World) :
  (binOp .eql T (.slice a n c) (.slice none 0 0)).run P w= .ok (.bool a.isNone) w∧(binOp .neq T (.slice a n c) (.slice none 0 0)).run P w= .ok (.bool (!a.isNone)) w:=by
 have h:∀d:Nat,(Op.equalIn (d+1) T (.slice a n c) (.slice none 0 0)).run P w= .ok a.isNone w:=fun d=>by
  cases a<;>simp[Op.equalIn,run_underlying hT]
 constructor<;>simp[binOp,Op.equal,Op.maxDepth,h 9999]
theorem zTl{T e':TypeId}(hT:P.underlying T=some (.pointer e'))(a:Option Addr)(w:World) :
  (binOp .eql T (.pointer a) (.pointer none)).run P w= .ok (.bool a.isNone) w∧(binOp .neq T (.pointer a) (.pointer none)).run P w= .ok (.bool (!a.isNone)) w:=by
 have h:∀d:Nat,(Op.equalIn (d+1) T (.pointer a) (.pointer none)).run P w= .ok a.isNone w:=fun d=>by
  cases a<;>simp[Op.equalIn,run_underlying hT]
 constructor<;>simp[binOp,Op.equal,Op.maxDepth,h 9999]
theorem yJv{T e':TypeId}(h:zAu P T=some e'):P.underlying T=some (.slice e'):=by
 unfold zAu at h
 split at h
 ·rename_i e hu;cases h;exact hu
 ·cases h
theorem xOk{T:TypeId}(h:ptrT P T=true):∃e',P.underlying T=some (.pointer e'):=by
 unfold ptrT at h
 split at h
 ·exact⟨_,by assumption⟩
 ·cases h
theorem ySi{op:BinOp}{r t:Bool}{q:Stp}(h:nilB op r t=some q):r=true∧((op= .eql∧q.e=⟨.bool t,[],[]⟩)∨(op= .neq∧q.e=⟨.bool (!t),[],[]⟩)):=by
 unfold nilB at h
 split at h
 ·simp only[just,Option.some.injEq]at h;subst h;exact⟨rfl,.inl ⟨rfl,rfl⟩⟩
 ·simp only[just,Option.some.injEq]at h;subst h;exact⟨rfl,.inr ⟨rfl,rfl⟩⟩
 ·cases h
theorem zMs(hr:Rel E s a w η){op:BinOp}{T T':TypeId}{x y:Operand}(ho:o.op= .binOp op T x y T'){ad:Option Addr}{n c:Nat}(hx:a.eval x= .slice ad n c)(hy:a.eval y= .slice none 0 0){t:Bool}(ht:ad.isNone=t){q:Stp}
  (hp:nilB op (zAu P T).isSome t=some q):Done P E s a w o q.e:=by
 obtain⟨hT,hp⟩:=ySi hp
 obtain⟨e',hT⟩:=Option.isSome_iff_exists.1 hT
 rcases hp with ⟨rfl,hq⟩|⟨rfl,hq⟩
 ·rw[hq];exact Done.val hr (v:= .bool t) zFq (by unfold execOp;simp[ho,hx,hy,eqGuard,(zOg (yJv hT) ad n c w).1,ht])
 ·rw[hq];exact Done.val hr (v:= .bool (!t)) zFq (by unfold execOp;simp[ho,hx,hy,eqGuard,(zOg (yJv hT) ad n c w).2,ht])
theorem yAw(hr:Rel E s a w η){op:BinOp}{T T':TypeId}{x y:Operand}(ho:o.op= .binOp op T x y T'){ad:Option Addr}(hx:a.eval x= .pointer ad)(hy:a.eval y= .pointer none){t:Bool}(ht:ad.isNone=t){q:Stp}
  (hp:nilB op (ptrT P T) t=some q):Done P E s a w o q.e:=by
 obtain⟨hT,hp⟩:=ySi hp
 obtain⟨e',hu⟩:=xOk hT
 rcases hp with ⟨rfl,hq⟩|⟨rfl,hq⟩
 ·rw[hq];exact Done.val hr (v:= .bool t) zFq (by unfold execOp;simp[ho,hx,hy,eqGuard,(zTl hu ad w).1,ht])
 ·rw[hq];exact Done.val hr (v:= .bool (!t)) zFq (by unfold execOp;simp[ho,hx,hy,eqGuard,(zTl hu ad w).2,ht])
theorem s_bin(hr:Rel E s a w η){op:BinOp}{T T':TypeId}{x y:Operand}(ho:o.op= .binOp op T x y T'){q:Stp}(hp:binS P op T (s.ev x) (s.ev y)=some q)(hs:q.side):Done P E s a w o q.e:=by
 have hx:=zAi hr x
 have hy:=zAi hr y
 generalize s.ev x=X at *
 generalize s.ev y=Y at *
 unfold binS at hp
 split at hp
 ·rename_i k m k' n;simp only[RV]at hx hy;obtain⟨hx,hkx⟩:=hx;obtain⟨hy,hky⟩:=hy;have fin:∀(v:Value) (V':V),k.has m→RV (s.ctx E w η) V' v→(binOp op T (.int k m) (.int k' n)).run P w= .ok v w→Done P E s a w o ⟨V',[],[]⟩:=fun v V' _ hv hrun=>
   Done.val hr hv (by unfold execOp;cases op<;>simp[ho,hx,hy,eqGuard,hrun])
  have hi:∀z:Int,RV (s.ctx E w η) (.int k (k.wrap z)) (.int k (k.wrap z)):=fun z=>by simp only[RV,true_and];exact zSe k z
  cases op<;>simp only[zCv,cmpV,zDk,Option.map_some,Option.some.injEq]at hp
  all_goals (try subst hp)
  all_goals simp only at hs
  case shl=>exact fin _ _ hkx (hi _) (by simp[binOp,Op.shift,show ¬n<0 by omega])
  case shr=>exact fin (.int k (m.fdiv (2 ^ min n.toNat k.bits))) _ hkx (by simp only[RV,true_and];exact xEo hkx _) (by simp[binOp,Op.shift,show ¬n<0 by omega])
  case quo=>obtain⟨rfl,h0⟩:=hs;exact fin _ _ hkx (hi _) (by simp[binOp,Op.intDiv,h0])
  case rem=>obtain⟨rfl,h0⟩:=hs;exact fin (.int k (m.tmod n)) _ hkx (by simp only[RV,true_and];exact xEn hkx _) (by simp[binOp,Op.intDiv,h0])
  all_goals subst hs
  case add=>exact fin _ _ hkx (hi _) (by simp[binOp,Op.intArith])
  case sub=>exact fin _ _ hkx (hi _) (by simp[binOp,Op.intArith])
  case mul=>exact fin _ _ hkx (hi _) (by simp[binOp,Op.intArith])
  case and=>exact fin _ _ hkx (hi _) (by simp[binOp,Op.intBits])
  case or=>exact fin _ _ hkx (hi _) (by simp[binOp,Op.intBits])
  case xor=>exact fin _ _ hkx (hi _) (by simp[binOp,Op.intBits])
  case andNot=>exact fin _ _ hkx (hi _) (by simp[binOp,Op.intBits])
  all_goals exact fin (.bool _) _ hkx zFq (by simp[binOp,Op.intCmp])
 ·rename_i p q';simp only[RV]at hx hy;have fin:∀(v:Value) (V':V),RV (s.ctx E w η) V' v→(binOp op T (.string p) (.string q')).run P w= .ok v w→Done P E s a w o ⟨V',[],[]⟩:=fun v V' hv hrun=>
   Done.val hr hv (by unfold execOp;cases op<;>simp[ho,hx,hy,eqGuard,hrun])
  unfold strV at hp;cases op<;>simp only[zCv,just,Option.some.injEq,reduceCtorEq]at hp
  all_goals subst hp
  all_goals simp only at hs
  case add=> 
   refine fin (.string (p++q')) _ (by simp only[RV]) ?_
   have:¬((p.size+q'.size:Nat):Int)>IntKind.i64.max:=by simp[IntKind.max,IntKind.signed,IntKind.bits];omega
   simp only[binOp,Op.stringOp];rw[if_neg this];rfl
  all_goals exact fin (.bool _) _ zFq (by simp[binOp,Op.stringOp])
 ·rename_i p q';simp only[RV]at hx hy;split at hp
  ·rename_i hT;simp only[just,Option.some.injEq]at hp;subst hp;exact Done.val hr (v:= .bool (p == q')) zFq (by unfold execOp;simp[ho,hx,hy,eqGuard,binOp,Op.equal,Op.maxDepth,run_equalIn_bool' w 9999 T p q' hT])
  ·rename_i hT;simp only[just,Option.some.injEq]at hp;subst hp;exact Done.val hr (v:= .bool (!(p == q'))) zFq (by unfold execOp;simp[ho,hx,hy,eqGuard,binOp,Op.equal,Op.maxDepth,run_equalIn_bool' w 9999 T p q' hT])
  ·cases hp
 ·simp only[RV]at hx hy;exact zMs (t:=true) hr ho hx hy rfl hp
 ·simp only[RV]at hx hy;obtain⟨c,hx⟩:=hx;exact zMs (t:=true) hr ho hx hy rfl hp
 ·simp only[RV]at hx hy;obtain⟨⟨ad,n,c,hx⟩,_⟩:=hx;exact zMs (t:=false) hr ho hx hy rfl hp
 ·simp only[RV]at hx hy;exact yAw (t:=true) hr ho hx hy rfl hp
 ·simp only[RV]at hx hy;obtain⟨⟨ad,k,hx⟩,_⟩:=hx;exact yAw (t:=false) hr ho hx hy rfl hp
 ·rename_i xs ys;simp only[RV]at hx hy;obtain⟨xv,hx,hxl,_⟩:=hx;obtain⟨yv,hy,hyl,_⟩:=hy;have main0:∀b,((zZf P T).bind fun l=>zCg l xs ys)=some b→(Op.equalIn 10000 T (.agg xv) (.agg yv)).run P w= .ok b w∧(eqGuard op T x y (.agg xv) (.agg yv)).run P w= .ok () w:=by
   intro b hb;obtain⟨l,hl,he⟩:=Option.bind_eq_some_iff.1 hb;unfold zZf at hl;split at hl
   ·rename_i fs hu;split at hl
    ·rename_i hst;have hfo:P.fieldsOf T=fs:=by simp[Program.fieldsOf,hu]
     refine⟨?_,run_eqGuard_agg w op T x y xv yv hst.2⟩;rw[run_equalIn_agg w 9999 T xv yv (by rw[hfo];exact hu) hst.1,hfo]
     exact zZj w xv yv 9998 fs.toList 0 l xs ys b xv.toList yv.toList hl he hxl hyl (by simp) (by simp)
    ·cases hl
   ·cases hl
  have main:∀b,xKf P T xs ys=some b→(Op.equalIn 10000 T (.agg xv) (.agg yv)).run P w= .ok b w∧(eqGuard op T x y (.agg xv) (.agg yv)).run P w= .ok () w:=by
   intro b hb;unfold xKf at hb;split at hb
   ·rename_i b' hb';cases hb
    exact main0 _ hb'
   ·exact xSl w op T x y hb hxl hyl
  split at hp
  ·rename_i b hb;simp only[just,Option.some.injEq]at hp;subst hp;obtain⟨m1,m2⟩:=main _ hb;exact Done.val hr (v:= .bool b) zFq (by unfold execOp;simp[ho,hx,hy,m2,run_eql_struct,m1])
  ·rename_i b hb;simp only[just,Option.some.injEq]at hp;subst hp;obtain⟨m1,m2⟩:=main _ hb;exact Done.val hr (v:= .bool (!b)) zFq (by unfold execOp;simp[ho,hx,hy,m2,run_neq_struct,m1])
  ·cases hp
 ·cases hp
end
end Go.AM
set_option linter.unusedSimpArgs false
set_option linter.unusedVariables false
namespace Go.AM
open Go.RowKit
section
variable {P : Program} {E : zBf} {s : FSt} {a : Act} {w : World} {η : Nat → Value} {o : Oper}
theorem xUc(hr:Rel E s a w η){src dst:TypeId}{x:Operand}(ho:o.op= .convert src dst x){k k' kk:IntKind}{n:Int}(h1:P.underlying src=some (.int k'))(h2:P.underlying dst=some (.int k))(hx:s.ev x= .int kk n) :
  Done P E s a w o ⟨.int k (k.wrap n),[],[]⟩:=by
 have h:=zAi hr x
 rw[hx]at h
 simp only[RV]at h
 refine Done.val hr (v:= .int k (k.wrap n)) (by simp only[RV,true_and];exact zSe k n) ?_
 unfold execOp
 simp[ho,h.1,convert,run_underlying h1,run_underlying h2,Conv.intToInt]
theorem zHp(hr:Rel E s a w η):∀(l:List Operand),RVl (s.ctx E w η) (l.map s.ev) (l.map a.eval)
 |[]=>by simp[RVl]
 |x::l=>by simp only[List.map_cons,RVl];exact⟨_,_,rfl,zAi hr x,zHp hr l⟩
theorem yLz(hr:Rel E s a w η){fn:Fn}{f c:Array Operand}(ho:o.op= .makeFunc fn f c):Done P E s a w o ⟨.func fn (f.toList.map s.ev) (c.toList.map s.ev),[],[]⟩:=by
 refine Done.val hr (v:= .func fn (f.map a.eval) (c.map a.eval)) ?_ (by unfold execOp;simp[ho,Instr.makeFunc])
 simp only[RV]
 exact⟨_,_,rfl,by simpa using zHp hr f.toList,by simpa using zHp hr c.toList⟩
theorem zKz{c:Ctx}(hl:Laid c)(hd:c.data=false){id:Nat}{ob:Obj}(hid:c.hp id=some ob)(hk:ob.k≠ .map) :
  0<ob.e∧c.kn id∧ob.xs.length≤140737488355328∧∃us,RVl c ob.xs us∧(∀u∈us,u.cells.size=ob.e)∧(∀x∈flat us,x.oneCell'=true)∧c.w.ownsRow 0 ob.T ob.e (c.η id) ob.xs.length (flat us):=by
 obtain⟨p,l,n,⟨us,r1,r2⟩,_,_,_⟩:=hl.obj id ob hid
 unfold zGw at r2
 rw[if_neg hk]at r2
 refine⟨p,l,n,us,?_,r2.1,r2.2.1,r2.2.2⟩
 have hc:({ c with data:=false }:Ctx)=c:=by cases c;simp_all
 cases hd:decide (ob.k= .ro)with
 |false=>rw[hd,hc]at r1;exact r1
 |true=>rw[hd]at r1;have:=zGe _ _ r1;rwa [hc]at this
theorem zCu(hr:Rel E s a w η){id:Nat}{ob:Obj}(hid:s.hp id=some ob)(hk:ob.k≠ .map) :
  0<ob.e∧s.kn id∧ob.xs.length≤140737488355328∧∃us,RVl (s.ctx E w η) ob.xs us∧(∀u∈us,u.cells.size=ob.e)∧(∀x∈flat us,x.oneCell'=true)∧w.ownsRow 0 ob.T ob.e (η id) ob.xs.length (flat us):=by
 exact zKz hr.laid rfl hid hk
theorem zEo{w:World}{T:TypeId}{e n b:Nat}{v:Value}{xs:List Value}(h:w.ownsRow 0 T e v n xs)(hb:blk v=some b):w.rangeAt b 0 xs:=
 fun j u hu=>by
  rw[zIo h]at hb;have:=h.cells hb j u hu;rw[Addr.add_mid]at this;exact this
theorem zRy(hr:Rel E s a w η){x:Operand}{id n i o':Nat}{ob:Obj}(hx:s.ev x= .ptr id n i o')(hid:s.hp id=some ob)(hn:n=ob.xs.length) :
  ob.k≠ .map∧∃b,blk (η id)=some b∧a.eval x= .pointer (some ⟨b,i*ob.e+o',none⟩):=by
 have h:=zAi hr x
 rw[hx]at h
 simp only[RV]at h
 obtain⟨_,_,_,h⟩:=h
 simp only[FSt.ctx,hid]at h
 exact⟨h.1,h.2.2 hn⟩
theorem yMa(hr:Rel E s a w η){T:TypeId}{x:Operand}(ho:o.op= .load T x){id n i o':Nat}{ob:Obj}{y:V}{rd:List Nat}(hx:s.ev x= .ptr id n i o')(hid:s.hp id=some ob)
  (hy:zCt P T (ob.xs.getD i .bot) o'=some y) (hn:n=ob.xs.length) (hi:i<ob.xs.length) (hc:0<P.cellsOf T):Done P E s a w o ⟨y,[],rd⟩:=by
 obtain⟨hk,b,hb,hv⟩:=zRy hr hx hid hn
 obtain⟨hp,_,_,us,r1,r2,_,r4⟩:=zCu hr hid hk
 have hxi:ob.xs[i]?=some (ob.xs.getD i .bot):=by simp[hi]
 obtain⟨u,hu,hxu⟩:=zDa r1 i _ hxi
 obtain⟨v,hrun,hyv⟩:=zLr (c:=s.ctx E w η) (off:=0) (b:=b) r2 (zEo r4 hb) hu hxu hy hp hc
 refine Done.val hr hyv ?_
 unfold execOp
 simp only[Nat.zero_add]at hrun
 have hrun':(loadVar T ⟨b,i*ob.e+o',none⟩).run P w= .ok v w:=hrun
 simp[ho,hv,Instr.loadAt,Instr.sureAddr,hrun']
theorem yFb(hr:Rel E s a w η){T:TypeId}{x:Operand}(ho:o.op= .load T x){e i o':Nat}{xs:List V}{y:V}{rd:List Nat}(hx:s.ev x= .tptr e xs i o')
  (hy:zCt P T (xs.getD i .bot) o'=some y) (hi:i<xs.length) (he:0<e) (hc:0<P.cellsOf T):Done P E s a w o ⟨y,[],rd⟩:=by
 have h:=zAi hr x
 rw[hx]at h
 simp only[RV]at h
 obtain⟨b,off,us,r1,r2,_,_,r5,hv⟩:=h
 have r1':=zGe (c:=s.ctx E w η) _ _ r1
 have hxi:xs[i]?=some (xs.getD i .bot):=by simp[hi]
 obtain⟨u,hu,hxu⟩:=zDa r1' i _ hxi
 obtain⟨v,hrun,hyv⟩:=zLr (c:=s.ctx E w η) (off:=off) (b:=b) r2 r5 hu hxu hy he hc
 refine Done.val hr hyv ?_
 unfold execOp
 have hrun':(loadVar T ⟨b,off+(i*e+o'),none⟩).run P w= .ok v w:=hrun
 simp[ho,hv,Instr.loadAt,Instr.sureAddr,hrun']
theorem s_len(hr:Rel E s a w η){T:TypeId}{x:Operand}(ho:∃t,o.op= .call { callee:= .builtin .len,args:= #[x],argTypes:= #[T] }∧t=o.type){q:Stp}
  (hp:lenV s.hp (s.ev x)=some q) (hs:q.side) (hst:∀b,s.ev x= .str b→P.underlying T=some .string) (hsl:(∀b,s.ev x≠ .str b)→(∀i,s.ev x≠ .mp i)→∃e,P.underlying T=some (.slice e)) (hmp:∀i,s.ev x= .mp i→∃K E,P.underlying T=some (.map K E)):Done P E s a w o q.e:=by
 obtain⟨_,ho,_⟩:=ho
 have hx:=zAi hr x
 have hw:∀n:Nat,n≤140737488355328→RV (s.ctx E w η) (.int .i64 (n:Int)) (.int .i64 (n:Int)):=fun n hn=>by
  simp only[RV,true_and,IntKind.has,IntKind.min,IntKind.max,IntKind.signed,IntKind.bits];constructor<;>simp<;>omega
 have hslice:∀(b:Option Addr) n m,(∀b,s.ev x≠ .str b)→(∀i,s.ev x≠ .mp i)→a.eval x= .slice b n m→(execOp a.eval o).run P w= .ok (.value (.int .i64 (n:Int))) w:=fun b n m hne hne2 hv=>by
  obtain⟨e,he⟩:=hsl hne hne2;unfold execOp;simp[ho,hv,resolve,invoke,builtin,Builtin.len_,run_underlying he,goInt]
 generalize s.ev x=X at *
 unfold lenV at hp
 split at hp
 ·simp only[just,Option.some.injEq]at hp;subst hp;simp only[RV]at hx;exact Done.val hr (hw 0 (by omega)) (hslice none 0 0 (by simp) (by simp) hx)
 ·simp only[just,Option.some.injEq]at hp;subst hp;simp only[RV]at hx;obtain⟨b,cap,us,hv,_,hl,_⟩:=hx;exact Done.val hr (hw _ hl) (hslice b _ cap (by simp) (by simp) hv)
 ·rename_i st;simp only[zCv,Option.some.injEq]at hp;subst hp;simp only[RV]at hx;simp only at hs;refine Done.val hr (hw _ hs) ?_;have he:=hst st rfl;unfold execOp;simp[ho,hx,resolve,invoke,builtin,Builtin.len_,run_underlying he,goInt]
 ·rename_i id n;split at hp
  ·rename_i ob hid;simp only[Option.some.injEq]at hp;subst hp;simp only at hs;simp only[RV]at hx;obtain⟨⟨b,m,cap,hv⟩,_,_,hx⟩:=hx;simp only[FSt.ctx,hid]at hx;obtain⟨_,_,hlen,us,r1,r2,_,r4⟩:=zCu hr hid hx.1;have hη:=hx.2.2 hs;have:m=n:=by
    rcases r4.2 with ⟨h0,h1⟩|⟨g,cp,cur,h0,_⟩
    ·rw[hη,h0]at hv;cases hv;omega
    ·rw[hη,h0]at hv;cases hv;omega
   subst this;exact Done.val hr (hw _ (by omega)) (hslice b m cap (by simp) (by simp) hv)
  ·cases hp
 ·rename_i id;split at hp
  ·rename_i ob hid;simp only[Option.some.injEq]at hp;subst hp;simp only[RV]at hx;obtain⟨⟨r,hv⟩,_,_,hx⟩:=hx;simp only[FSt.ctx,hid]at hx;obtain⟨_,_,hlen,⟨us,r1,r2⟩,_⟩:=hr.laid.obj id ob hid;unfold zGw at r2;rw[if_pos hx.1]at r2;obtain⟨r',es,clk,h1,h2,h3⟩:=r2;have hl:=zAp r1;rw[h3]at hl;simp at hl;have h4:a.eval x= .map (some r'):=hx.2.trans h1;obtain⟨K,E',he⟩:=hmp id rfl;refine Done.val hr (hw _ hlen) ?_;unfold execOp;have h5:(getObj r').run P w= .ok (.map es clk) w:=by simp[getObj,Sem.run,show w.heap[r']?=_ from h2]
   simp[ho,h4,resolve,invoke,builtin,Builtin.len_,run_underlying he,goInt,h5,hl]
  ·cases hp
 ·cases hp
theorem FSt.app_one(s:FSt)(d:Option Tmp)(v:V)(id:Nat)(ob:Obj)(rd:List Nat) :
  s.app d ⟨v,[(id,ob)],rd⟩=({ s with hp:=fun k=>if k=id then some ob else s.hp k,kn:=fun i=>i=id∨s.kn i }:FSt).put d v:=by
 unfold FSt.app FSt.put
 cases d with
 |none=>simp[zCy,Eff.ids]
 |some d=>
  by_cases hd:d<s.N<;>simp[zCy,Eff.ids,hd]
theorem ySy(hr:Rel E s a w η){fid:Nat}{T:TypeId}{x:V}{v:Value}(hf:¬s.kn fid)(hx:RV (s.ctx E w η) x v)(hs:x.sc=true∨x.cl.isSome=true)(hsz:zKb x=P.cellsOf T)(hc:0<P.cellsOf T)
  (h:(execOp a.eval o).run P w= .ok (.value (.pointer (some ⟨w.heap.size,0,none⟩))) (w.alloc (.cells v.cells T))) :
  Done P E s a w o ⟨.ptr fid 1 0 0,[(fid,⟨.box,T,P.cellsOf T,[x]⟩)],[]⟩:=by
 have hsize:v.cells.size=P.cellsOf T:=by rw[zNp hx hs];exact hsz
 have hone:∀u∈v.cells.toList,u.oneCell'=true:=by
  rcases hs with hs|hs
  ·have:=yDr hx hs;rw[zEs this];simpa using this
  ·obtain⟨cs,hcs⟩:=Option.isSome_iff_exists.1 hs;obtain⟨cv,rfl,_,h2⟩:=yPc hcs hx;exact h2
 have hrow:=World.ownsRow_lit (base:=0) (e:=T) (size:=P.cellsOf T) w v.cells 1 (Nat.zero_le _) (by decide) (by rw[hsize];omega)
 have L:=hr.lay (w':=w.alloc (.cells v.cells T)) fid ⟨.box,T,P.cellsOf T,[x]⟩ (.slice (some ⟨w.heap.size,0,none⟩) 1 1) none (World.grownBy_alloc w _ none) (.inl ⟨hf,rfl⟩)
  (by simp) hc (by simp) (fun b hb=>by simp[blk]at hb;exact .inl (by omega)) (fun _=>⟨_,rfl⟩) [v] (by simp only[RVl];exact⟨v,[],rfl,hx,rfl⟩) (by simpa using hsize) (by simpa[flat] using hone)
  (by simpa[flat] using hrow) (by simp) (fun o2 h2 _ hkn=>absurd hkn hf)
 have:=L.put o.dst (x:= .ptr fid 1 0 0) (v:= .pointer (some ⟨w.heap.size,0,none⟩)) (by
  simp only[RV,FSt.ctx];refine⟨⟨_,_,rfl⟩,trivial,.inl trivial,?_⟩;simp[blk])
 rw[← FSt.app_one s o.dst (.ptr fid 1 0 0) fid _ []]at this
 exact⟨_,_,_,h,.inl ⟨_,rfl,this⟩⟩
theorem xOd(hr:Rel E s a w η){fid:Nat}{T:TypeId}{z:V}(ho:o.op= .alloc T)(hz:zBw P T=some z)(hf:¬s.kn fid)(hs:z.sc=true∨z.cl.isSome=true)(hsz:zKb z=P.cellsOf T)(hc:0<P.cellsOf T) :
  Done P E s a w o ⟨.ptr fid 1 0 0,[(fid,⟨.box,T,P.cellsOf T,[z]⟩)],[]⟩:=by
 unfold zBw at hz
 cases hi:P.info? T with
 |none=>simp[hi]at hz
 |some i=>
  cases hzz:i.zero with
  |none=>simp[hi,hzz]at hz
  |some zv=>
   simp only[hi,Option.bind_some,hzz,Option.some.injEq]at hz;subst hz;refine ySy hr hf (zUn rfl zv) hs hsz hc ?_;unfold execOp;simp[ho,Instr.alloc,zeroValue,typeInfo,hi,hzz,newVar,newRow]
theorem s_box(hr:Rel E s a w η){fid:Nat}{T:TypeId}{x:Operand}(ho:o.op= .box T x)(hf:¬s.kn fid)(hs:(s.ev x).sc=true∨(s.ev x).cl.isSome=true)(hsz:zKb (s.ev x)=P.cellsOf T)(hc:0<P.cellsOf T) :
  Done P E s a w o ⟨.ptr fid 1 0 0,[(fid,⟨.box,T,P.cellsOf T,[s.ev x]⟩)],[]⟩:=by
 refine ySy hr hf (zAi hr x) hs hsz hc ?_
 unfold execOp
 simp[ho,Instr.box,newVar,newRow]
theorem zXz{c:Ctx}{x v x':V}{u uv:Value}{o e:Nat}(hx:RV c x u)(hv:RV c v uv)(hp:zSu x o v=some x')(hu:u.cells.size=e)(hone:∀y∈u.cells.toList,y.oneCell'=true) :
  (v.sc=true∨v.cl.isSome=true)∧o+uv.cells.size≤e∧∃u',RV c x' u'∧u'.cells.toList=u.cells.toList.take o++uv.cells.toList++u.cells.toList.drop (o+uv.cells.size)∧(∀y∈uv.cells.toList,y.oneCell'=true):=by
 unfold zSu at hp
 cases hxc:x.cl with
 |some cs=>
  obtain⟨cv,rfl,h1,h2⟩:=yPc hxc hx;have hl:=zAp h1;have hcv:(Value.agg cv).cells=cv:=rfl;rw[hcv]at hu hone ⊢;have hcs:cs.length=e:=by simp at hl;omega
  cases hvc:v.cl with
  |some vs=>
   obtain⟨vv,rfl,g1,g2⟩:=yPc hvc hv;have gl:=zAp g1;have hvvc:(Value.agg vv).cells=vv:=rfl;rw[hvvc];simp only[hxc,hvc]at hp;have hvv:vv.size=vs.length:=by simpa using gl
   split at hp
   ·rename_i h;obtain⟨rfl,h⟩:=h;cases hp
    refine⟨.inr (by simp),by omega,_,hv,?_,g2⟩
    rw[hvvc,List.take_zero,List.nil_append,Nat.zero_add];rw[List.drop_of_length_le (by simp at hl ⊢;omega),List.append_nil]
   ·split at hp
    ·rename_i h;cases hp
     refine⟨.inr (by simp),by omega,.agg (cv.toList.take o++vv.toList++cv.toList.drop (o+vv.size)).toArray,?_,by simp[Value.cells],g2⟩
     simp only[RV];refine⟨_,rfl,?_,?_⟩
     ·simp only;rw[hvv];exact zCb (zCb (zEf _ h1) g1) (zFp _ h1)
     ·intro y hy;simp only[List.mem_append]at hy;rcases hy with (hy|hy)|hy
      ·exact h2 y (List.mem_of_mem_take hy)
      ·exact g2 y hy
      ·exact h2 y (List.mem_of_mem_drop hy)
    ·cases hp
  |none=>
   simp only[hxc,hvc]at hp;split at hp
   ·rename_i h;cases hp
    have ho:=yDr hv h.1;rw[zEs ho];refine⟨.inl h.1,by simp;omega,.agg (cv.setIfInBounds o uv),?_,?_,by simpa using ho⟩
    ·simp only[RV];refine⟨_,rfl,by rw[Array.toList_setIfInBounds];exact zVb h1 hv,fun y hy=>?_⟩
     rw[Array.toList_setIfInBounds]at hy;rcases List.mem_or_eq_of_mem_set hy with hy|hy
     ·exact h2 y hy
     ·rw[hy];exact ho
    ·simp only[Value.cells,Array.toList_setIfInBounds,List.size_toArray,List.length_cons,List.length_nil];rw[List.set_eq_take_append_cons_drop];rw[if_pos (by simp at hl ⊢;omega)]
     simp
   ·cases hp
 |none=>
  cases hvc:v.cl with
  |some vs=>simp[hxc,hvc]at hp
  |none=>
   simp only[hxc,hvc]at hp;split at hp
   ·rename_i h;obtain⟨h1,h2,rfl⟩:=h;cases hp
    have ho:=yDr hv h1;have hox:=yDr hx h2;rw[zEs hox]at hu ⊢;rw[zEs ho];simp at hu;refine⟨.inl h1,by simp;omega,uv,hv,by simp[zEs ho],by simpa using ho⟩
   ·cases hp
end
end Go.AM
set_option linter.unusedSimpArgs false
set_option linter.unusedVariables false
namespace Go.AM
open Go.RowKit
section
variable {P : Program} {E : zBf} {s : FSt} {a : Act} {w : World} {η : Nat → Value} {o : Oper}
theorem zFh{us:List Value}{u x:Value}(hu:u∈us)(hx:x∈u.cells.toList):x∈flat us:=List.mem_flatMap.2 ⟨u,hu,hx⟩
theorem zIt{w:World}{T:TypeId}{e n b:Nat}{v:Value}{xs:List Value}(h:w.ownsRow 0 T e v n xs)(hb:blk v=some b)(i o k:Nat)(hi:i<n)(hk:o+k≤e):w.there b (i*e+o) k:=by
 intro j hj
 have hlen:=h.1
 have h1:i*e+o+j<xs.length:=by
  rw[hlen];have:(i+1)*e≤n*e:=Nat.mul_le_mul_right _ hi;rw[Nat.add_mul]at this;omega
 have h2:=zEo h hb (i*e+o+j) _ (List.getElem?_eq_getElem h1)
 rw[Nat.zero_add]at h2
 refine⟨by rw[h2];rfl,?_⟩
 rcases h.2 with ⟨rfl,_⟩|⟨g,cap,cur,rfl,_,hg,_⟩
 ·simp[blk]at hb
 ·simp[blk]at hb;subst hb;exact frozen_of_row w g _ cur T hg
theorem zHa{T:TypeId}{e n g cap:Nat}:∀(vs:List Value) (k:Nat) (w:World) (xs:List Value),w.ownsRow 0 T e (.slice (some ⟨g,0,none⟩) n cap) n xs→k+vs.length≤xs.length →
  (w.setCells g k vs).ownsRow 0 T e (.slice (some ⟨g,0,none⟩) n cap) n (xs.take k++vs++xs.drop (k+vs.length))∧w.grownBy (w.setCells g k vs) (some g)
 |[],k,w,xs,h,hk=>by
  simp only[World.setCells,List.length_nil,Nat.add_zero,List.append_nil,List.take_append_drop];exact⟨h,rfl,rfl,rfl,Nat.le_refl _,fun _ _ _=>rfl⟩
 |v::vs,k,w,xs,h,hk=>by
  simp only[List.length_cons]at hk;obtain⟨h1,g1⟩:=h.stored k v;have hset:(xs.set k v).length=xs.length:=by simp
  obtain⟨h2,g2⟩:=zHa (T:=T) (e:=e) (n:=n) (g:=g) (cap:=cap) vs (k+1) _ _ h1 (by omega)
  simp only[World.setCells];refine⟨?_,g2.os.trans g1.os,g2.tape.trans g1.tape,g2.output.trans g1.output,Nat.le_trans g1.size g2.size,fun b hb hne=>?_⟩
  ·have:(xs.set k v).take (k+1)++vs++(xs.set k v).drop (k+1+vs.length)=xs.take k++(v::vs)++xs.drop (k+(v::vs).length):=by
    have t:(xs.set k v).take (k+1)=xs.take k++[v]:=by
     rw[List.take_set];rw[List.take_succ_eq_append_getElem (show k<xs.length by omega)]
     rw[List.set_append_right _ _ (by simp;omega)]
     simp[show min k xs.length=k by omega]
    have d:(xs.set k v).drop (k+1+vs.length)=xs.drop (k+(vs.length+1)):=by
     rw[List.drop_set_of_lt (by omega),show k+1+vs.length=k+(vs.length+1) by omega]
    rw[t,d];simp
   rw[this]at h2;exact h2
  ·rw[g2.block b (Nat.lt_of_lt_of_le hb g1.size) hne,g1.block b hb hne]
theorem xOa(hr:Rel E s a w η){T:TypeId}{p x:Operand}(ho:o.op= .store T p x){id n i o':Nat}{ob:Obj}{x':V}{rd:List Nat}(hp:s.ev p= .ptr id n i o')(hid:s.hp id=some ob)
  (hx':zSu (ob.xs.getD i .bot) o' (s.ev x)=some x') (hn:n=ob.xs.length) (hi:i<ob.xs.length) (hsz:zKb (s.ev x)=P.cellsOf T) (hk:ob.k≠ .ro) (hc:0<P.cellsOf T) :
  Done P E s a w o ⟨.tup [],[(id,{ ob with xs:=ob.xs.set i x' })],rd⟩:=by
 obtain⟨hkm,b,hb,hv⟩:=zRy hr hp hid hn
 obtain⟨hpos,hkn,hlen,us,r1,r2,r3,r4⟩:=zCu hr hid hkm
 have hxi:ob.xs[i]?=some (ob.xs.getD i .bot):=by simp[hi]
 obtain⟨u,hu,hxu⟩:=zDa r1 i _ hxi
 have humem:=List.mem_of_getElem? hu
 obtain⟨hscl,hoe,u',hu',hcells,hone⟩:=zXz hxu (zAi hr x) hx' (r2 u humem) (fun y hy=>r3 y (zFh humem hy))
 have hvs:=zNp (zAi hr x) hscl
 generalize hval:a.eval x=val at *
 -- the row is a real one
 rcases r4.2 with ⟨h0,h1⟩|⟨g,cap,cur,hη,hrest⟩
 ·omega
 ·have hbg:b=g:=by rw[hη]at hb;simp[blk]at hb;exact hb.symm
  subst hbg;have r4':=r4;rw[hη]at r4';have hthere:=zIt r4 hb i o' val.cells.size hi hoe;have hinfo:(P.info? T).map (·.size)=some val.cells.size:=by rw[zYx hc,hvs,hsz]
  have hrun:(execOp a.eval o).run P w= .ok .skip (w.setCells b (i*ob.e+o') val.cells.toList):=by
   have:=run_storeCells_cells (P:=P) b (i*ob.e+o') val.cells.toList 0 w (fun j hj=>by simpa using(hthere j (by simpa using hj)).1) (fun j hj=>by simpa using(hthere j (by simpa using hj)).2) hone
   simp only[Nat.add_zero]at this;cases hq:P.info? T with
   |none=>simp[hq]at hinfo
   |some inf=>
    have hs:val.cells.size=inf.size:=by simp[hq]at hinfo;omega
    unfold execOp;simp[ho,hv,hval,Instr.storeAt,Instr.sureAddr,storeVar,sizeOf,typeInfo,hq,hs,this]
  have hulen:us.length=ob.xs.length:=zAp r1;have hie:(i+1)*ob.e≤ob.xs.length*ob.e:=Nat.mul_le_mul_right _ hi;rw[Nat.add_mul]at hie;have hfl:(flat us).length=ob.xs.length*ob.e:=by rw[zBi r2,hulen]
  obtain⟨q1,q2⟩:=zHa val.cells.toList (i*ob.e+o') w (flat us) r4' (by simp;omega)
  have huc:u.cells.size=ob.e:=r2 u humem;have hu'c:u'.cells.size=ob.e:=by
   have:=congrArg List.length hcells;simp only[Array.length_toList,List.length_append,List.length_take,List.length_drop]at this;omega
  have hflat:(flat us).take (i*ob.e+o')++val.cells.toList++(flat us).drop (i*ob.e+o'+val.cells.toList.length)=flat (us.set i u'):=by
   rw[zLw r2 i u u' hu hu'c,hcells];have hsplit:flat us=(flat us).take (i*ob.e)++u.cells.toList++(flat us).drop (i*ob.e+ob.e):=by
    have:=zLw r2 i u u hu huc;have hself:us.set i u=us:=by
     apply List.ext_getElem?
     intro j;rw[List.getElem?_set];split
     ·rename_i hij;subst hij;have:=(List.getElem?_eq_some_iff.1 hu).1;simp[this,← hu]
     ·rfl
    rw[hself]at this;exact this
   have e1:(flat us).take (i*ob.e+o')=(flat us).take (i*ob.e)++u.cells.toList.take o':=by
    conv=>lhs;rw[hsplit]
    rw[List.append_assoc,List.take_append,List.take_of_length_le (by simp;omega)]
    simp only[List.length_take,hfl];rw[show min (i*ob.e) (ob.xs.length*ob.e)=i*ob.e by omega,Nat.add_sub_cancel_left]
    rw[List.take_append_of_le_length (by simp;omega)]
   have e2:(flat us).drop (i*ob.e+o'+val.cells.toList.length)=u.cells.toList.drop (o'+val.cells.size)++(flat us).drop (i*ob.e+ob.e):=by
    conv=>lhs;rw[hsplit]
    rw[List.append_assoc,List.drop_append,List.drop_of_length_le (by simp;omega)]
    simp only[List.length_take,hfl,List.nil_append,Array.length_toList];rw[show min (i*ob.e) (ob.xs.length*ob.e)=i*ob.e by omega,show i*ob.e+o'+val.cells.size-i*ob.e=o'+val.cells.size by omega]
    rw[List.drop_append_of_le_length (by simp;omega)]
   rw[e1,e2];simp only[List.append_assoc]
  rw[hflat]at q1;have L:=hr.lay (w':=w.setCells b (i*ob.e+o') val.cells.toList) id { ob with xs:=ob.xs.set i x' } (η id) (blk (η id)) (by rw[hb];exact q2)
   (.inr ⟨ob,hid,hk,rfl,rfl,by simp,fun _=>rfl⟩) hk hpos (by simpa using hlen) (fun b' hb'=> .inr hb') (fun hbx=>by
    have:=(hr.laid.obj id ob hid).box hbx;exact this) (us.set i u') (zVb r1 hu') (fun v hv=>by
    rcases List.mem_or_eq_of_mem_set hv with hv|hv
    ·exact r2 v hv
    ·rw[hv];exact hu'c) (fun y hy=>by
    obtain⟨v,hv,hyv⟩:=List.mem_flatMap.1 hy;rcases List.mem_or_eq_of_mem_set hv with hv|hv
    ·exact r3 y (zFh hv hyv)
    ·rw[hv,hcells]at hyv;simp only[List.mem_append]at hyv;rcases hyv with (hyv|hyv)|hyv
     ·exact r3 y (zFh humem (List.mem_of_mem_take hyv))
     ·exact hone y hyv
     ·exact r3 y (zFh humem (List.mem_of_mem_drop hyv))) (by simpa[hη] using q1) hkm (fun o2 h2 _ _=>by rw[hid]at h2;cases h2;exact hkm)
  have:=L.put o.dst (x:= .tup []) (v:=undef) (by simp only[RV];exact⟨#[],rfl,by simp[RVl]⟩)
  rw[← FSt.app_one s o.dst (.tup []) id _ rd]at this;exact⟨_,_,_,hrun,.inr ⟨rfl,this⟩⟩
theorem zVh(hr:Rel E s a w η){x:Operand}(ho:o.op= .nilCheck x){id n i o':Nat}(hx:s.ev x= .ptr id n i o') :
  Done P E s a w o ⟨.ptr id n i o',[],[]⟩:=by
 have h:=zAi hr x
 rw[hx]at h
 have h':=h
 simp only[RV]at h'
 obtain⟨⟨b,k,hv⟩,_⟩:=h'
 refine Done.val hr h ?_
 unfold execOp
 simp[ho,hv]
theorem zSv(hr:Rel E s a w η){x:Operand}(ho:o.op= .nilCheck x){f:FuncId}{l c:List V}(hx:s.ev x= .func (.func f) l c):Done P E s a w o ⟨.func (.func f) l c,[],[]⟩:=by
 have h:=zAi hr x
 rw[hx]at h
 have h':=h
 simp only[RV]at h
 obtain⟨f1,c1,hv,_⟩:=h
 refine Done.val hr h' ?_
 unfold execOp
 simp[ho,hv]
theorem yUl{T f off ft:Nat}(hf:zAq P T f=some (off,ft))(hc:0<P.cellsOf ft)(b k:Nat)(w:World) :
  (Instr.fieldAt T (.pointer (some ⟨b,k,none⟩)) f).run P w= .ok (.pointer (some ⟨b,k+off,none⟩)) w:=by
 unfold zAq at hf
 cases hu:P.underlying T with
 |none=>simp[hu]at hf
 |some d=>
  cases d<;>simp only[hu,reduceCtorEq]at hf
  rename_i fs;cases hff:fs[f]? with
  |none=>simp[hff]at hf
  |some fd=>
   simp only[hff,Option.map_some,Option.some.injEq,Prod.mk.injEq]at hf;obtain⟨rfl,rfl⟩:=hf;have:¬P.cellsOf fd.type=0:=by omega
   simp[Instr.fieldAt,run_underlying hu,hff,Instr.sureAddr,fieldPlace,zBd hc,this,Addr.add_mid]
theorem zSx(hr:Rel E s a w η){x:Operand}{T f off ft:Nat}(ho:o.op= .fieldAddr T x f)(hf:zAq P T f=some (off,ft))(hc:0<P.cellsOf ft){id n i o':Nat}
  (hx:s.ev x= .ptr id n i o'):Done P E s a w o ⟨.ptr id n i (o'+off),[],[]⟩:=by
 have h:=zAi hr x
 rw[hx]at h
 simp only[RV]at h
 obtain⟨⟨b,k,hv⟩,hd,hkn,hm⟩:=h
 refine Done.val hr (v:= .pointer (some ⟨b,k+off,none⟩)) ?_ ?_
 ·simp only[RV];refine⟨⟨_,_,rfl⟩,hd,hkn,?_⟩;generalize (s.ctx E w η).hp id=x at hm ⊢;cases x with
  |none=>trivial
  |some ob=>
   simp only at hm ⊢;refine⟨hm.1,hm.2.1,fun hn=>?_⟩
   obtain⟨b',hb,hv'⟩:=hm.2.2 hn;rw[hv]at hv';simp only[Value.pointer.injEq,Option.some.injEq,Addr.mk.injEq,and_true]at hv';obtain⟨rfl,rfl⟩:=hv';exact⟨b,hb,by rw[Nat.add_assoc]⟩
 ·unfold execOp;simp only[ho,hv,Sem.run_bind,yUl hf hc,Result.andThen_ok,Sem.run_pure]
theorem zRm(hr:Rel E s a w η){x:Operand}{T f off ft:Nat}(ho:o.op= .fieldAddr T x f)(hf:zAq P T f=some (off,ft))(hc:0<P.cellsOf ft){e i o':Nat}{xs:List V}
  (hx:s.ev x= .tptr e xs i o'):Done P E s a w o ⟨.tptr e xs i (o'+off),[],[]⟩:=by
 have h:=zAi hr x
 rw[hx]at h
 simp only[RV]at h
 obtain⟨b,k,us,r1,r2,r3,r4,r5,hv⟩:=h
 refine Done.val hr (v:= .pointer (some ⟨b,k+(i*e+(o'+off)),none⟩)) ?_ ?_
 ·simp only[RV];exact⟨b,k,us,r1,r2,r3,r4,r5,rfl⟩
 ·unfold execOp;simp only[ho,hv,Sem.run_bind,yUl hf hc,Result.andThen_ok,Sem.run_pure,Nat.add_assoc]
theorem zAw{T e:TypeId}(h:zAu P T=some e):P.underlying T=some (.slice e):=by
 unfold zAu at h
 split at h
 ·rename_i e' hu;cases h;exact hu
 ·cases h
theorem yMb(hr:Rel E s a w η){T T':TypeId}{x i:Operand}(ho:o.op= .indexAddr T x i){e:Nat}{k:IntKind}{j:Int}{xs:List V}(hi:s.ev i= .int k j)(hT:zAu P T=some T')(hx:s.ev x= .sl e xs)
  (he:e=P.cellsOf T') (h0:0≤j) (hj:j<xs.length) (hc:0<e):Done P E s a w o ⟨.tptr e xs j.toNat 0,[],[]⟩:=by
 have h:=zAi hr x
 rw[hx]at h
 simp only[RV]at h
 obtain⟨ad,cap,us,hv,_,hl,r1,r2,_,r3⟩:=h
 have h2:=zAi hr i
 rw[hi]at h2
 simp only[RV]at h2
 rcases r3 with r3|⟨b,off,rfl,r3,r4,r5⟩
 ·subst r3;simp at hj;omega
 ·refine Done.val hr (v:= .pointer (some ⟨b,off+(j.toNat*e+0),none⟩)) ?_ ?_
  ·simp only[RV];exact⟨b,off,us,r1,r2,r3,r4,r5,rfl⟩
  ·unfold execOp;have hcc:0<P.cellsOf T':=by omega
   simp[ho,hv,h2.1,Instr.indexAt,asIntOf,run_underlying (zAw hT),h0,hj,zBd hcc,Addr.add_mid,he]
theorem yFd(hr:Rel E s a w η){T T':TypeId}{x i:Operand}(ho:o.op= .indexAddr T x i){id n:Nat}{ob:Obj}{k:IntKind}{j:Int}{rd:List Nat}(hi:s.ev i= .int k j)(hT:zAu P T=some T')(hx:s.ev x= .obj id n)
  (hid:s.hp id=some ob) (hn:n=ob.xs.length) (he:ob.e=P.cellsOf T') (h0:0≤j) (hj:j<n):Done P E s a w o ⟨.ptr id n j.toNat 0,[],rd⟩:=by
 have h:=zAi hr x
 rw[hx]at h
 simp only[RV]at h
 obtain⟨⟨ad,m,cap,hv⟩,_,hkn,h⟩:=h
 simp only[FSt.ctx,hid]at h
 have hη:=h.2.2 hn
 have h2:=zAi hr i
 rw[hi]at h2
 simp only[RV]at h2
 obtain⟨hpos,_,hlen,us,r1,r2,_,r4⟩:=zCu hr hid h.1
 rcases r4.2 with ⟨h3,h4⟩|⟨g,cp,cur,h3,_⟩
 ·omega
 ·rw[hη,h3]at hv;cases hv
  subst hn;refine Done.val hr (v:= .pointer (some ⟨g,j.toNat*ob.e+0,none⟩)) ?_ ?_
  ·simp only[RV];refine⟨⟨_,_,rfl⟩,rfl,hkn,?_⟩;simp only[FSt.ctx,hid];exact⟨h.1,Nat.le_refl _,fun _=>⟨g,by rw[h3];rfl,rfl⟩⟩
  ·unfold execOp;have hcc:0<P.cellsOf T':=by omega
   rw[h3]at hη;simp[ho,hη,h2.1,Instr.indexAt,asIntOf,run_underlying (zAw hT),h0,hj,zBd hcc,Addr.add_mid,he]
theorem zUx{T n e:Nat}(h:zIf P T=some (n,e)):P.underlying T=some (.array n e):=by
 unfold zIf at h
 split at h
 ·rename_i n' e' hu;cases h;exact hu
 ·cases h
theorem zRl(hr:Rel E s a w η){T n T':Nat}{x i:Operand}(ho:o.op= .indexAddr T x i){e:Nat}{k:IntKind}{j:Int}{xs:List V}{i' o':Nat}(hi:s.ev i= .int k j)(hT:zIf P T=some (n,T'))(hx:s.ev x= .tptr e xs i' o')
  (hc:0<P.cellsOf T') (h0:0≤j) (hj:j<n):Done P E s a w o ⟨.tptr e xs i' (o'+j.toNat*P.cellsOf T'),[],[]⟩:=by
 have h:=zAi hr x
 rw[hx]at h
 simp only[RV]at h
 obtain⟨b,kk,us,r1,r2,r3,r4,r5,hv⟩:=h
 have h2:=zAi hr i
 rw[hi]at h2
 simp only[RV]at h2
 refine Done.val hr (v:= .pointer (some ⟨b,kk+(i'*e+(o'+j.toNat*P.cellsOf T')),none⟩)) ?_ ?_
 ·simp only[RV];exact⟨b,kk,us,r1,r2,r3,r4,r5,rfl⟩
 ·unfold execOp;simp[ho,hv,h2.1,Instr.indexAt,Instr.sureAddr,asIntOf,run_underlying (zUx hT),h0,hj,zBd hc,Addr.add_mid,Nat.add_assoc]
theorem zSw(hr:Rel E s a w η){T n T':Nat}{x i:Operand}(ho:o.op= .indexAddr T x i){id m i' o':Nat}{ob:Obj}{k:IntKind}{j:Int}{rd:List Nat}(hi:s.ev i= .int k j)(hT:zIf P T=some (n,T'))(hx:s.ev x= .ptr id m i' o')
  (hid:s.hp id=some ob) (hn:m=ob.xs.length) (hc:0<P.cellsOf T') (h0:0≤j) (hj:j<n):Done P E s a w o ⟨.ptr id m i' (o'+j.toNat*P.cellsOf T'),[],rd⟩:=by
 obtain⟨hkm,b,hb,hv⟩:=zRy hr hx hid hn
 have hkn:=(hr.laid.obj id ob hid).lt
 have h2:=zAi hr i
 rw[hi]at h2
 simp only[RV]at h2
 refine Done.val hr (v:= .pointer (some ⟨b,i'*ob.e+(o'+j.toNat*P.cellsOf T'),none⟩)) ?_ ?_
 ·simp only[RV];refine⟨⟨_,_,rfl⟩,rfl,hkn,?_⟩;simp only[FSt.ctx,hid];exact⟨hkm,by omega,fun _=>⟨b,hb,rfl⟩⟩
 ·unfold execOp;simp[ho,hv,h2.1,Instr.indexAt,Instr.sureAddr,asIntOf,run_underlying (zUx hT),h0,hj,zBd hc,Addr.add_mid,Nat.add_assoc]
theorem yZj(w:World){c:Ctx}{y:Nat}{code:BoundsCode}{k:IntKind}{j:Int}{v:Value}(hv:RV c (.int k j) v)(h0:0≤j)(h1:j≤y):(Instr.sliceBound v y code).run P w= .ok j.toNat w:=by
 simp only[RV]at hv
 simp[hv.1,Instr.sliceBound,asIntOf,h0,h1]
theorem zFx(hr:Rel E s a w η){lo hi:Option Operand}{len cap:Nat}{l h:Int}{b:Bool}(hl:bnd 0 (lo.map s.ev)=some l)(hh:bnd len (hi.map s.ev)=some h)(h0:0≤l)(h1:l≤h)(h2:h≤len)(hc:len≤cap) :
  (Instr.sliceBounds b len cap (lo.map a.eval) (hi.map a.eval) none).run P w= .ok (l.toNat,h.toNat,cap) w:=by
 have key:∀(d:Int) (x:Operand) (z:Int) (y:Nat) (code:BoundsCode),bnd d (some (s.ev x))=some z→0≤z→z≤y→(Instr.sliceBound (a.eval x) y code).run P w= .ok z.toNat w:=fun d x z y code hz g0 g1=>by
  have hx:=zAi hr x;generalize s.ev x=X at *;cases X<;>simp only[bnd,Option.some.injEq,reduceCtorEq]at hz
  subst hz;exact yZj w hx g0 g1
 have hhn:(h.toNat:Int)=h:=by omega
 cases hi with
 |none=>
  simp only[Option.map_none,bnd,Option.some.injEq]at hh;subst hh;cases lo with
  |none=>
   simp only[Option.map_none,bnd,Option.some.injEq]at hl;subst hl;simp[Instr.sliceBounds]
  |some x=>
   simp only[Option.map_some]at hl ⊢;have:=key 0 x l len .sliceB hl h0 h1;simp[Instr.sliceBounds,this]
 |some y=>
  simp only[Option.map_some]at hh ⊢;have hy:=key _ y h cap (if b then .sliceAcap else .sliceAlen) hh (by omega) (by omega)
  cases lo with
  |none=>
   simp only[Option.map_none,bnd,Option.some.injEq]at hl;subst hl;simp[Instr.sliceBounds,hy]
  |some x=>
   simp only[Option.map_some]at hl ⊢;have:=key 0 x l h.toNat .sliceB hl h0 (by omega)
   simp[Instr.sliceBounds,hy,this]
theorem take_add{α:Type}(A B:List α)(n:Nat):(A++B).take (A.length+n)=A++B.take n:=by
 rw[List.take_append,List.take_of_length_le (by omega),Nat.add_sub_cancel_left]
theorem xKg{α:Type}(A B:List α)(n:Nat):(A++B).drop (A.length+n)=B.drop n:=by
 rw[List.drop_append,List.drop_of_length_le (by omega),Nat.add_sub_cancel_left,List.nil_append]
theorem zCn{e:Nat}{us:List Value}(h:∀u∈us,u.cells.size=e)(l m:Nat):flat ((us.take m).drop l)=((flat us).take (m*e)).drop (l*e):=by
 have ht:∀(m:Nat) {us:List Value},(∀u∈us,u.cells.size=e)→flat (us.take m)=(flat us).take (m*e):=by
  intro m;induction m with
  |zero=>intro us _;simp[flat]
  |succ m ih=>
   intro us h;cases us with
   |nil=>simp[flat]
   |cons u us=>
    rw[List.take_succ_cons,zFk,zFk,ih (fun v hv=>h v (by simp[hv]))]
    have hu:=h u (by simp)
    rw[show (m+1)*e=u.cells.toList.length+m*e by simp[hu,Nat.add_mul];omega]
    rw[take_add]
 have hd:∀(m:Nat) {us:List Value},(∀u∈us,u.cells.size=e)→flat (us.drop m)=(flat us).drop (m*e):=by
  intro m;induction m with
  |zero=>intro us _;simp[flat]
  |succ m ih=>
   intro us h;cases us with
   |nil=>simp[flat]
   |cons u us=>
    rw[List.drop_succ_cons,zFk,ih (fun v hv=>h v (by simp[hv]))]
    have hu:=h u (by simp)
    rw[show (m+1)*e=u.cells.toList.length+m*e by simp[hu,Nat.add_mul];omega]
    rw[xKg]
 rw[hd l (fun u hu=>h u (List.mem_of_mem_take hu)),ht m h]
theorem xLl{c:Ctx}{e cap b off:Nat}{xs:List V}{us:List Value}(r1:RVl { c with data:=true } xs us)(r2:∀u∈us,u.cells.size=e)(hone:∀x∈flat us,x.oneCell'=true)(hO:¬c.O b)(hb:b<c.w.heap.size)(hr:c.w.rangeAt b off (flat us))(hlen:xs.length≤140737488355328)
  (l h:Nat) (h1:l≤h) (h2:h≤xs.length) (hm:h≤cap) (hne:l<cap) :
  RV c (.sl e ((xs.take h).drop l)) (.slice (some ⟨b,off+l*e,none⟩) (h-l) (cap-l)):=by
 have hul:=zAp r1
 simp only[RV]
 refine⟨some ⟨b,off+l*e,none⟩,cap-l,(us.take h).drop l,?_,?_,?_,zFp _ (zEf _ r1),fun u hu=>r2 u (List.mem_of_mem_take (List.mem_of_mem_drop hu)),fun x hx=>hone x (by rw[zCn r2]at hx;exact List.mem_of_mem_take (List.mem_of_mem_drop hx)),.inr ⟨b,off+l*e,rfl,hO,hb,?_⟩⟩
 ·congr 1
  simp;omega
 ·simp;omega
 ·simp;omega
 ·intro j v hv;rw[zCn r2,List.getElem?_drop,List.getElem?_take]at hv;split at hv
  ·have:=hr _ _ hv;rwa [show off+(l*e+j)=off+l*e+j by omega]at this
  ·cases hv
theorem zFd{T e:TypeId}(hT:P.underlying T=some (.slice e))(x:Value)(lo hi mx:Option Value)(w:World):(Instr.sliceAt T x lo hi mx).run P w=(Instr.slice T x lo hi mx).run P w:=by
 simp[Instr.sliceAt,run_underlying hT]
theorem zVz(hr:Rel E s a w η){T T':TypeId}{x:Operand}{lo hi:Option Operand}(ho:o.op= .slice T x lo hi none){e:Nat}{l h:Int}{xs:List V}(hT:zAu P T=some T')(hxx:RV (s.ctx E w η) (.sl e xs) (a.eval x))
  (hl:bnd 0 (lo.map s.ev)=some l) (hh:bnd xs.length (hi.map s.ev)=some h) (he:e=P.cellsOf T') (h0:0≤l) (h1:l≤h) (h2:h≤xs.length) (hc:0<P.cellsOf T') {rd:List Nat} :
  Done P E s a w o ⟨.sl e ((xs.take h.toNat).drop l.toNat),[],rd⟩:=by
 simp only[RV]at hxx
 obtain⟨ad,cap,us,hv,hcap1,hlen,r1,r2,hone,r3⟩:=hxx
 have hb:=zFx (P:=P) (b:=true) (cap:=cap) hr hl hh h0 h1 h2 hcap1
 have hrun:(execOp a.eval o).run P w= .ok (.value (.slice (if cap=l.toNat then ad else ad.map (·.add (l.toNat*P.cellsOf T'))) (h.toNat-l.toNat) (cap-l.toNat))) w:=by
  unfold execOp;simp only[ho,hv,Option.map_none,Sem.run_bind,zFd (zAw hT)];simp[Instr.slice,run_underlying (zAw hT),hb,zBd hc]
 refine Done.val hr ?_ hrun
 by_cases hce:cap=l.toNat
 ·have hxe:(xs.take h.toNat).drop l.toNat=[]:=by
   apply List.drop_of_length_le
   simp;omega
  rw[if_pos hce,hxe];simp only[RV];exact⟨ad,cap-l.toNat,[],by congr 1;simp;omega,by simp,by simp,by simp[RVl],by simp,by simp[flat],.inl trivial⟩
 ·rw[if_neg hce];rcases r3 with r3|⟨b,off,rfl,r3,r4,r5⟩
  ·subst r3;simp only[List.take_nil,List.drop_nil,RV];have hz:h.toNat-l.toNat=0:=by simp at h2;omega
   exact⟨_,_,[],by rw[hz];rfl,by simp,by simp,by simp[RVl],by simp,by simp[flat],.inl trivial⟩
  ·have:=xLl (c:=s.ctx E w η) (cap:=cap) r1 r2 hone r3 r4 r5 hlen l.toNat h.toNat (by omega) (by omega) (by omega) (by omega)
   simp only[Option.map_some,Addr.add_mid,← he];exact this
end
end Go.AM
set_option linter.unusedSimpArgs false
set_option linter.unusedVariables false
namespace Go.AM
open Go.RowKit
def ent(x:MapEntry):Value:= .tuple #[x.key,x.val]
section
variable {P : Program} {E : zBf} {s : FSt} {a : Act} {w : World} {η : Nat → Value} {o : Oper}
theorem yJu{c:Ctx}{k v:V}{x:MapEntry}:RV c (.tup [k,v]) (ent x)↔RV c k x.key∧RV c v x.val:=by
 simp only[RV,ent,RVl,Value.tuple.injEq]
 constructor
 ·rintro⟨cv,rfl,u,r,h1,h2,u2,r2,h3,h4,_⟩
  simp at h1;obtain⟨rfl,rfl⟩:=h1;simp at h3;obtain⟨rfl,rfl⟩:=h3;exact⟨h2,h4⟩
 ·rintro⟨h1,h2⟩
  exact⟨_,rfl,_,_,rfl,h1,_,_,rfl,h2,rfl⟩
theorem xMf{c:Ctx}{key:V}{EQ:Value→Bool→Prop}(hEQ:∀kx vx b,keyB key kx=some b→RV c kx vx→EQ vx b):∀(xs:List V) (es:List MapEntry) (r:Option V),yMz key xs=some r→RVl c xs (es.map ent) →
  (r=none∧∀e∈es,EQ e.key false)∨∃(j:Nat) (e:MapEntry) (v:V),r=some v∧es[j]?=some e∧EQ e.key true∧(∀(i:Nat) (e':MapEntry),i<j→es[i]?=some e'→EQ e'.key false)∧RV c v e.val
 |[],es,r,h,hx=>by
  simp only[yMz,Option.some.injEq]at h;simp only[RVl,List.map_eq_nil_iff]at hx;subst h;subst hx;exact .inl ⟨rfl,by simp⟩
 |x::xs,es,r,h,hx=>by
  simp only[RVl]at hx;obtain⟨u,q,he,h1,h2⟩:=hx;cases es with
  |nil=>simp at he
  |cons e es=>
   simp only[List.map_cons,List.cons.injEq]at he;obtain⟨rfl,rfl⟩:=he;unfold yMz at h;split at h
   ·rename_i heq;cases heq
   ·rename_i k v r' heq;cases heq
    obtain⟨hk,hv⟩:=yJu.1 h1;split at h
    ·rename_i hb;cases h
     exact .inr ⟨0,e,v,rfl,rfl,hEQ _ _ _ hb hk,by simp,hv⟩
    ·rename_i hb;rcases xMf hEQ xs es r h h2 with ⟨g1,g2⟩|⟨j,e',v',g1,g2,g3,g4,g5⟩
     ·refine .inl ⟨g1,fun z hz=>?_⟩
      rcases List.mem_cons.1 hz with rfl|hz
      ·exact hEQ _ _ _ hb hk
      ·exact g2 z hz
     ·refine .inr ⟨j+1,e',v',g1,by simpa using g2,g3,fun i z hi hz=>?_,g5⟩
      cases i with
      |zero=>simp at hz;subst hz;exact hEQ _ _ _ hb hk
      |succ i=>exact g4 i z (by omega) (by simpa using hz)
    ·cases h
   ·cases h
theorem xLy{c:Ctx}{key v:V}{EQ:Value→Bool→Prop}(hEQ:∀kx vx b,keyB key kx=some b→RV c kx vx→EQ vx b):∀(xs:List V) (es:List MapEntry) (ys:List V),mput key v xs=some ys→RVl c xs (es.map ent) →
  (ys=xs++[.tup [key,v]]∧∀e∈es,EQ e.key false)∨∃(j:Nat) (e:MapEntry),es[j]?=some e∧EQ e.key true∧(∀(i:Nat) (e':MapEntry),i<j→es[i]?=some e'→EQ e'.key false)∧ys=xs.set j (.tup [key,v])
 |[],es,ys,h,hx=>by
  simp only[mput,Option.some.injEq]at h;simp only[RVl,List.map_eq_nil_iff]at hx;subst h;subst hx;exact .inl ⟨rfl,by simp⟩
 |x::xs,es,ys,h,hx=>by
  simp only[RVl]at hx;obtain⟨u,q,he,h1,h2⟩:=hx;cases es with
  |nil=>simp at he
  |cons e es=>
   simp only[List.map_cons,List.cons.injEq]at he;obtain⟨rfl,rfl⟩:=he;unfold mput at h;split at h
   ·rename_i heq;cases heq
   ·rename_i k v0 r' heq;cases heq
    obtain⟨hk,hv⟩:=yJu.1 h1;split at h
    ·rename_i hb;cases h
     exact .inr ⟨0,e,rfl,hEQ _ _ _ hb hk,by simp,rfl⟩
    ·rename_i hb;obtain⟨l,hl,rfl⟩:=Option.map_eq_some_iff.1 h;rcases xLy hEQ xs es l hl h2 with ⟨g1,g2⟩|⟨j,e',g2,g3,g4,g5⟩
     ·refine .inl ⟨by rw[g1];rfl,fun z hz=>?_⟩
      rcases List.mem_cons.1 hz with rfl|hz
      ·exact hEQ _ _ _ hb hk
      ·exact g2 z hz
     ·refine .inr ⟨j+1,e',by simpa using g2,g3,fun i z hi hz=>?_,by rw[g5];rfl⟩
      cases i with
      |zero=>simp at hz;subst hz;exact hEQ _ _ _ hb hk
      |succ i=>exact g4 i z (by omega) (by simpa using hz)
    ·cases h
   ·cases h
theorem zQz{d:TypeDesc}{kv:Value}:∀(es:List MapEntry) (i:Nat),(∀e∈es,Instr.sameNow d kv e.key=some false)→Instr.findNow d kv es i=some none
 |[],i,_=>rfl
 |e::es,i,h=>by
  simp only[Instr.findNow,h e (by simp)]
  exact zQz es (i+1) fun z hz=>h z (by simp[hz])
theorem zWx{d:TypeDesc}{kv:Value}:∀(es:List MapEntry) (i j:Nat) (e:MapEntry),es[j]?=some e→Instr.sameNow d kv e.key=some true→(∀k e',k<j→es[k]?=some e'→Instr.sameNow d kv e'.key=some false)→Instr.findNow d kv es i=some (some (i+j,e.val))
 |[],i,j,e,h,_,_=>by simp at h
 |x::es,i,0,e,h,h1,_=>by
  simp at h;subst h;simp[Instr.findNow,h1]
 |x::es,i,j+1,e,h,h1,h2=>by
  simp only[Instr.findNow,h2 0 x (by omega) rfl]
  rw[zWx es (i+1) j e (by simpa using h) h1 fun k e' hk he=>h2 (k+1) e' (by omega) (by simpa using he)]
  simp;omega
theorem zLc{K:TypeId}{kv:Value}(w:World):∀(es:List MapEntry) (i:Nat),(∀e∈es,(Op.equal K kv e.key).run P w= .ok false w)→(Instr.findAsking K kv es i).run P w= .ok none w
 |[],i,_=>rfl
 |e::es,i,h=>by
  simp only[Instr.findAsking,Sem.run_bind,h e (by simp),Result.andThen_ok,Bool.false_eq_true,if_false]
  exact zLc w es (i+1) fun z hz=>h z (by simp[hz])
theorem zOw{K:TypeId}{kv:Value}(w:World):∀(es:List MapEntry) (i j:Nat) (e:MapEntry),es[j]?=some e→(Op.equal K kv e.key).run P w= .ok true w→(∀k e',k<j→es[k]?=some e'→(Op.equal K kv e'.key).run P w= .ok false w)→(Instr.findAsking K kv es i).run P w= .ok (some (i+j,e.val)) w
 |[],i,j,e,h,_,_=>by simp at h
 |x::es,i,0,e,h,h1,_=>by
  simp at h;subst h;simp[Instr.findAsking,h1]
 |x::es,i,j+1,e,h,h1,h2=>by
  simp only[Instr.findAsking,Sem.run_bind,h2 0 x (by omega) rfl,Result.andThen_ok,Bool.false_eq_true,if_false]
  rw[zOw w es (i+1) j e (by simpa using h) h1 fun k e' hk he=>h2 (k+1) e' (by omega) (by simpa using he)]
  simp;omega
def yDu(P:Program)(w:World)(K:TypeId)(kv v:Value)(b:Bool):Prop:=
 (b=true→Instr.sameBits 10000 v kv=true) ∧
 ((∃d,P.underlying K=some d∧Instr.sameNow d kv v=some b) ∨
  (∃n e,P.underlying K=some (.array n e)∧(Op.equal K kv v).run P w= .ok b w))
theorem yJe{c:Ctx}{T K E':TypeId}{bk:Bool}(hT:zRp P T=some (bk,K,E')){key kx:V}{kv vx:Value}{b:Bool}(hf:keyF bk key=true)(h:keyB key kx=some b)(hk:RV c key kv)(hx:RV c kx vx):yDu P w K kv vx b:=by
 unfold zRp at hT
 split at hT
 ·rename_i K' E'' hu;split at hT
  ·rename_i kk hK;cases hT
   cases key<;>simp only[keyF,Bool.false_eq_true]at hf
   cases kx<;>simp only[keyB,reduceCtorEq]at h
   split at h
   ·rename_i hkk;subst hkk;cases h
    simp only[RV]at hk hx;obtain⟨rfl,_⟩:=hk;obtain⟨rfl,_⟩:=hx;refine⟨fun h=>?_,.inl ⟨_,hK,by simp[Instr.sameNow]⟩⟩
    rw[show (10000:Nat)=9999+1 from rfl]
    simp at h;simp[Instr.sameBits,h]
   ·cases h
  ·rename_i e hK;split at hT
   ·rename_i kk he;split at hT
    ·rename_i hc;cases hT
     cases key<;>simp only[keyF,Bool.false_eq_true]at hf
     unfold keyB at h;split at h
     ·exact absurd ‹V.agg _=V.int _ _› (by simp)
     ·rename_i k1 a1 j1 b1 k2 a2 j2 b2 h1;cases h1
      split at h
      ·rename_i hkk;obtain⟨rfl,rfl⟩:=hkk;cases h
       simp only[RV,RVl]at hk hx;obtain⟨cv,rfl,⟨u1,r1,h1,⟨rfl,_⟩,u2,r2,h2,⟨rfl,_⟩,h3⟩,_⟩:=hk;obtain⟨dv,rfl,⟨v1,s1,g1,⟨rfl,_⟩,v2,s2,g2,⟨rfl,_⟩,g3⟩,_⟩:=hx;subst h3;subst h2;subst g3;subst g2;have e1:cv= #[.int k1 a1,.int j1 b1]:=by apply Array.ext';simpa using h1
       have e2:dv= #[.int k1 a2,.int j1 b2]:=by apply Array.ext';simpa using g1
       subst e1;subst e2;refine⟨fun h=>?_,.inr ⟨_,_,hK,?_⟩⟩
       ·rw[show (10000:Nat)=9999+1 from rfl]
        simp at h;simp[Instr.sameBits,h]
       ·have hi:∃i,P.info? e=some i:=by
         unfold Program.cellsOf at hc;cases hq:P.info? e with
         |none=>simp[hq]at hc
         |some i=>exact⟨i,rfl⟩
        obtain⟨i,hi⟩:=hi;have hag:∀w,(isAgg e).run P w= .ok false w:=fun w=>zGi (by simp[zAn,he]) w
        unfold Op.equal;rw[show Op.maxDepth=9999+1 from rfl,run_equalIn_array w 9999 _ _ hK hi]
        have q1:∀(m:Nat) (v:Value) (cs:Array Value),cs[m]?=some v→(part e cs m).run P w= .ok v w:=fun m v cs hm=>by
         simp[part,hag,hm]
        have q2:=run_equalIn_int (P:=P) w 9998 e k1 kk a1 a2 he;have q3:=run_equalIn_int (P:=P) w 9998 e j1 kk b1 b2 he;have hr:List.range 2=[0,1]:=by decide
        have p1:(part e #[Value.int k1 a1,.int j1 b1] 1).run P w= .ok (.int j1 b1) w:=q1 1 _ _ rfl;have p2:(part e #[Value.int k1 a2,.int j1 b2] 1).run P w= .ok (.int j1 b2) w:=q1 1 _ _ rfl;rw[hr];simp only[Op.eqItems,hc,Sem.run_bind,q1 0 _ _ (show (#[Value.int k1 a1,.int j1 b1])[0*1]?=some (.int k1 a1) from rfl),q1 0 _ _ (show (#[Value.int k1 a2,.int j1 b2])[0*1]?=some (.int k1 a2) from rfl),
         q1 1 _ _ (show (#[Value.int k1 a1,.int j1 b1])[1*1]?=some (.int j1 b1) from rfl),q1 1 _ _ (show (#[Value.int k1 a2,.int j1 b2])[1*1]?=some (.int j1 b2) from rfl),Result.andThen_ok]
        rw[show (9999:Nat)=9998+1 from rfl]
        simp only[q2,Result.andThen_ok];by_cases hab:a1=a2
        ·subst hab;simp[q3,p1,p2];by_cases hbb:b1=b2
         ·subst hbb;simp
         ·simp[hbb]
        ·simp[hab]
      ·cases h
     ·cases h
    ·cases hT
   ·cases hT
  ·cases hT
 ·cases hT
theorem zYw{K:TypeId}{d:TypeDesc}{n e:Nat}(h1:P.underlying K=some d)(h2:P.underlying K=some (.array n e)){kv v:Value}{b:Bool}:Instr.sameNow d kv v≠some b:=by
 rw[h1]at h2;cases h2
 simp[Instr.sameNow]
theorem zUi{K:TypeId}{kv:Value}{es:List MapEntry}(hK:∃d,P.underlying K=some d∧((∃k,d= .int k)∨∃n e,d= .array n e)) :
  ((∀e∈es,yDu P w K kv e.key false)→(Instr.findKey K kv es).run P w= .ok none w) ∧
  (∀(j:Nat) (e:MapEntry),es[j]?=some e→yDu P w K kv e.key true→(∀(i:Nat) (e':MapEntry),i<j→es[i]?=some e'→yDu P w K kv e'.key false)→(Instr.findKey K kv es).run P w= .ok (some (j,e.val)) w):=by
 obtain⟨d,hd,hk⟩:=hK
 rcases hk with ⟨k,rfl⟩|⟨n,e,rfl⟩
 ·have key:∀ {v b},yDu P w K kv v b→Instr.sameNow (.int k) kv v=some b:=fun{v b} h=>by
   rcases h.2 with ⟨d,h1,h2⟩|⟨n,e,h1,_⟩
   ·rw[hd]at h1;cases h1;exact h2
   ·rw[hd]at h1;cases h1
  constructor
  ·intro h;simp[Instr.findKey,run_underlying hd,zQz es 0 fun e he=>key (h e he)]
  ·intro j e he h1 h2;have:=zWx es 0 j e he (key h1) fun i e' hi he'=>key (h2 i e' hi he')
   rw[Nat.zero_add]at this;simp[Instr.findKey,run_underlying hd,this]
 ·have key:∀ {v b},yDu P w K kv v b→(Op.equal K kv v).run P w= .ok b w:=fun{v b} h=>by
   rcases h.2 with ⟨d,h1,h2⟩|⟨n,e,h1,h2⟩
   ·exact absurd h2 (zYw h1 hd)
   ·exact h2
  have asks:es≠[]→(Instr.findKey K kv es).run P w=(Instr.findAsking K kv es).run P w:=fun hne=>by
   cases es with
   |nil=>exact absurd rfl hne
   |cons e es=>simp[Instr.findKey,run_underlying hd,Instr.findNow,Instr.sameNow]
  constructor
  ·intro h;by_cases hes:es=[]
   ·subst hes;simp[Instr.findKey,run_underlying hd,Instr.findNow]
   ·rw[asks hes];exact zLc w es 0 fun e he=>key (h e he)
  ·intro j e he h1 h2;rw[asks (by rintro rfl;simp at he)]
   have:=zOw w es 0 j e he (key h1) fun i e' hi he'=>key (h2 i e' hi he')
   rwa [Nat.zero_add]at this
theorem zLq{T K E':TypeId}{bk:Bool}(hT:zRp P T=some (bk,K,E')):P.underlying T=some (.map K E')∧∃d,P.underlying K=some d∧((bk=false∧∃k,d= .int k)∨(bk=true∧∃e k,d= .array 2 e∧P.underlying e=some (.int k)∧P.cellsOf e=1)):=by
 unfold zRp at hT
 split at hT
 ·rename_i K' E'' hu;split at hT
  ·rename_i kk hK;cases hT
   exact⟨hu,_,hK,.inl ⟨rfl,kk,rfl⟩⟩
  ·rename_i e hK;split at hT
   ·rename_i kk he;split at hT
    ·rename_i hc;cases hT
     exact⟨hu,_,hK,.inr ⟨rfl,e,kk,rfl,he,hc⟩⟩
    ·cases hT
   ·cases hT
  ·cases hT
 ·cases hT
theorem zRc(em:Bool)(n:Nat){K:TypeId}{k k':IntKind}{m:Int}(hd:P.underlying K=some (.int k)):(Instr.checkKey em (n+1) K (.int k' m)).run P w= .ok () w:=by
 simp[Instr.checkKey,run_underlying hd]
theorem zZn(em:Bool)(n:Nat){K e:TypeId}{k:IntKind}{x y:Value}(hd:P.underlying K=some (.array 2 e))(he:P.underlying e=some (.int k))(hc:P.cellsOf e=1)(h1:∃k m,x= .int k m)(h2:∃k m,y= .int k m):(Instr.checkKey em (n+1+1) K (.agg #[x,y])).run P w= .ok () w:=by
 have hag:∀w,(isAgg e).run P w= .ok false w:=fun w=>zGi (by simp[zAn,he]) w
 have hsz:(sizeOf e).run P w= .ok 1 w:=by have:=zBd (P:=P) (T:=e) (by omega) w;rwa [hc]at this
 obtain⟨k1,a1,rfl⟩:=h1
 obtain⟨k2,a2,rfl⟩:=h2
 have q2:∀k a,(Instr.checkKey em (n+1) e (.int k a)).run P w= .ok () w:=fun k a=>zRc em n he
 have p0:(part e #[Value.int k1 a1,.int k2 a2] 0).run P w= .ok (.int k1 a1) w:=by simp[part,hag]
 have p1:(part e #[Value.int k1 a1,.int k2 a2] 1).run P w= .ok (.int k2 a2) w:=by simp[part,hag]
 rw[Instr.checkKey]
 simp only[Sem.run_bind,run_underlying hd,Result.andThen_ok]
 simp only[Std.Legacy.Range.forIn_eq_forIn_range',Std.Legacy.Range.size,Nat.sub_zero,Nat.add_one_sub_one,Nat.div_one]
 rw[show List.range' 0 2 1=[0,1] from rfl]
 simp[hsz,p0,p1,q2]
theorem zRb{c:Ctx}{T K E':TypeId}{bk:Bool}(hT:zRp P T=some (bk,K,E')){key:V}{kv:Value}(hf:keyF bk key=true)(hk:RV c key kv)(em:Bool) :
  (Instr.checkKey em 10000 K kv).run P w= .ok () w:=by
 obtain⟨_,d,hd,h⟩:=zLq hT
 rcases h with ⟨rfl,k,rfl⟩|⟨rfl,e,k,rfl,he,hc⟩
 ·cases key<;>simp only[keyF,Bool.false_eq_true]at hf
  simp only[RV]at hk;obtain⟨rfl,_⟩:=hk;exact zRc em 9999 hd
 ·have hlen:∃k1 a1 j1 b1,key= .agg [.int k1 a1,.int j1 b1]:=by
   unfold keyF at hf;split at hf
   ·cases ‹true=false›
   ·exact⟨_,_,_,_,rfl⟩
   ·cases hf
  obtain⟨k1,a1,j1,b1,rfl⟩:=hlen;simp only[RV,RVl]at hk;obtain⟨cv,rfl,⟨u1,r1,h1,⟨rfl,_⟩,u2,r2,h2,⟨rfl,_⟩,h3⟩,_⟩:=hk;subst h3;subst h2;have e1:cv= #[.int k1 a1,.int j1 b1]:=by apply Array.ext';simpa using h1
  subst e1;exact zZn em 9998 hd he hc ⟨_,_,rfl⟩ ⟨_,_,rfl⟩
theorem yIw(hr:Rel E s a w η){x:Operand}{id:Nat}{ob:Obj}(hx:s.ev x= .mp id)(hid:s.hp id=some ob) :
  ob.k= .map∧s.kn id∧0<ob.e∧ob.xs.length≤140737488355328∧∃r es clk,a.eval x= .map (some r)∧η id= .map (some r)∧w.heap[r]?=some (.map es clk)∧RVl (s.ctx E w η) ob.xs (es.toList.map ent):=by
 have h:=zAi hr x
 rw[hx]at h
 simp only[RV]at h
 obtain⟨_,_,hkn,h⟩:=h
 simp only[FSt.ctx,hid]at h
 obtain⟨hp,_,hlen,⟨us,r1,r2⟩,_⟩:=hr.laid.obj id ob hid
 unfold zGw at r2
 rw[if_pos h.1]at r2
 obtain⟨r,es,clk,h1,h2,h3⟩:=r2
 subst h3
 have hro:decide (ob.k=Kind.ro)=false:=by rw[h.1];rfl
 rw[hro]at r1
 exact⟨h.1,hkn,hp,hlen,r,es,clk,h.2.trans h1,h1,h2,r1⟩
theorem yQw(hr:Rel E s a w η){fid:Nat}{T K E':TypeId}{bk:Bool}(ho:o.op= .makeMap T none)(hT:zRp P T=some (bk,K,E'))(hf:¬s.kn fid):Done P E s a w o ⟨.mp fid,[(fid,⟨.map,T,1,[]⟩)],[]⟩:=by
 have hrun:(execOp a.eval o).run P w= .ok (.value (.map (some w.heap.size))) (w.alloc (.map #[] 0)):=by
  unfold execOp;simp[ho,Instr.makeMap]
 have L:=hr.layG (w':=w.alloc (.map #[] 0)) fid ⟨.map,T,1,[]⟩ (.map (some w.heap.size)) none (World.grownBy_alloc w _ none) (.inl ⟨hf,rfl⟩) (by simp) (by simp) (by simp)
  (fun b hb=>by simp[blk]at hb;exact .inl (by omega)) (by simp) [] (by simp[RVl]) (by
   unfold zGw;simp only[if_true];exact⟨_,#[],0,rfl,by show (w.heap.push _)[w.heap.size]?=_;simp,by simp⟩)
 have:=L.put o.dst (x:= .mp fid) (v:= .map (some w.heap.size)) (by
  simp only[RV,FSt.ctx];exact⟨⟨_,rfl⟩,trivial,.inl trivial,by simp⟩)
 rw[← FSt.app_one s o.dst (.mp fid) fid _ []]at this
 exact⟨_,_,_,hrun,.inl ⟨_,rfl,this⟩⟩
theorem xCl(hr:Rel E s a w η){T K E':TypeId}{bk:Bool}{x i:Operand}(ho:o.op= .lookup T x i false){id:Nat}{ob:Obj}{z v:V}{rd:List Nat}(hx:s.ev x= .mp id)(hid:s.hp id=some ob)(hT:zRp P T=some (bk,K,E'))
  (hz:zBw P E'=some z) (hv:xPa z (s.ev i) ob.xs=some v) (hf:keyF bk (s.ev i)=true):Done P E s a w o ⟨v,[],rd⟩:=by
 obtain⟨hk,_,_,hlen,r,es,clk,hxv,hη,hw,hes⟩:=yIw hr hx hid
 obtain⟨hu,d,hd,hdd⟩:=zLq hT
 have hiv:=zAi hr i
 generalize s.ev i=key at *
 generalize hkv:a.eval i=kv at *
 have hck:=fun em=>zRb (P:=P) (w:=w) hT hf hiv em
 obtain⟨fr,hm,rfl⟩:=Option.map_eq_some_iff.1 hv
 have hfk:=zUi (P:=P) (w:=w) (K:=K) (kv:=kv) (es:=es.toList) ⟨d,hd,by rcases hdd with ⟨_,k,h⟩|⟨_,e,k,h,_⟩;(exact .inl ⟨_,h⟩);(exact .inr ⟨_,_,h⟩)⟩
 have hg:(getObj r).run P w= .ok (.map es clk) w:=by simp[getObj,Sem.run,hw]
 rcases xMf (EQ:=yDu P w K kv) (fun kx vx b hb hx=>yJe hT hf hb hiv hx) _ _ _ hm hes with ⟨rfl,h2⟩|⟨j,e,v',rfl,h2,h3,h4,h5⟩
 ·unfold zBw at hz;cases hinf:P.info? E' with
  |none=>simp[hinf]at hz
  |some inf=>
   cases hzz:inf.zero with
   |none=>simp[hinf,hzz]at hz
   |some zv=>
    simp only[hinf,Option.bind_some,hzz,Option.some.injEq]at hz;subst hz;refine Done.val hr (v:=zv) (zUn (c:=s.ctx E w η) rfl zv) ?_;have hzr:(zeroValue E').run P w= .ok zv w:=by simp[zeroValue,typeInfo,hinf,hzz]
    unfold execOp;simp[ho,hxv,hkv,Instr.lookup,run_underlying hu,hg,hck,hfk.1 h2,hzr]
 ·refine Done.val hr (v:=e.val) h5 ?_;unfold execOp;simp[ho,hxv,hkv,Instr.lookup,run_underlying hu,hg,hck,hfk.2 j e h2 h3 h4]
theorem yFa(hr:Rel E s a w η){T K E':TypeId}{bk:Bool}{x i y:Operand}(ho:o.op= .mapUpdate T x i y){id:Nat}{ob:Obj}{ys:List V}{rd:List Nat}(hx:s.ev x= .mp id)(hid:s.hp id=some ob)(hT:zRp P T=some (bk,K,E'))
  (hv:mput (s.ev i) (s.ev y) ob.xs=some ys) (hf:keyF bk (s.ev i)=true) (hlen1:ob.xs.length+1≤140737488355328):Done P E s a w o ⟨.tup [],[(id,{ ob with xs:=ys })],rd⟩:=by
 obtain⟨hk,hkn,hpos,hlen,r,es,clk,hxv,hη,hw,hes⟩:=yIw hr hx hid
 obtain⟨hu,d,hd,hdd⟩:=zLq hT
 have hiv:=zAi hr i
 have hyv:=zAi hr y
 generalize s.ev i=key at *
 generalize s.ev y=Y at *
 generalize hkv:a.eval i=kv at *
 generalize hyvv:a.eval y=yv at *
 have hck:=fun em=>zRb (P:=P) (w:=w) hT hf hiv em
 have hfk:=zUi (P:=P) (w:=w) (K:=K) (kv:=kv) (es:=es.toList) ⟨d,hd,by rcases hdd with ⟨_,k,h⟩|⟨_,e,k,h,_⟩;(exact .inl ⟨_,h⟩);(exact .inr ⟨_,_,h⟩)⟩
 have hg:(getObj r).run P w= .ok (.map es clk) w:=by simp[getObj,Sem.run,hw]
 have fin:∀(es':Array MapEntry) (clk':Nat),(execOp a.eval o).run P w= .ok .skip (putO w r (.map es' clk'))→RVl (s.ctx E w η) ys (es'.toList.map ent)→ob.xs.length≤ys.length→ys.length≤140737488355328→Done P E s a w o ⟨.tup [],[(id,{ ob with xs:=ys })],rd⟩:=by
  intro es' clk' hrun hrv hl1 hl2;have L:=hr.layG (w':=putO w r (.map es' clk')) id { ob with xs:=ys } (η id) (blk (η id)) (by rw[hη];exact yMi w r _)
   (.inr ⟨ob,hid,by rw[hk];simp,rfl,rfl,Iff.rfl,fun _=>rfl,hl1,fun _=>rfl⟩) (by simp[hk]) hpos hl2 (fun b hb=> .inr hb) (by simp[hk]) (es'.toList.map ent) hrv (by
    unfold zGw;simp only[hk,if_true];exact⟨r,es',clk',hη,zKo (Array.getElem?_eq_some_iff.1 hw).1,rfl⟩)
  have hηs:(fun i=>if i=id then η id else η i)=η:=by funext i;split<;>simp_all
  have:=L.put o.dst (x:= .tup []) (v:=undef) (by simp only[RV];exact⟨#[],rfl,by simp[RVl]⟩)
  rw[← FSt.app_one s o.dst (.tup []) id _ rd]at this;exact⟨_,_,_,hrun,.inr ⟨rfl,this⟩⟩
 have hes0:=hes
 have hset:∀o',(setObj r o').run P w= .ok () (putO w r o'):=fun o'=>by simp[setObj,Sem.run,hw,putO]
 rcases xLy (EQ:=yDu P w K kv) (fun kx vx b hb hx=>yJe hT hf hb hiv hx) _ _ _ hv hes with ⟨rfl,h2⟩|⟨j,e,h2,h3,h4,rfl⟩
 ·refine fin (es.push { key:=kv,val:=yv,born:=clk }) (clk+1) ?_ ?_ (by simp) (by simpa using hlen1)
  ·unfold execOp;simp[ho,hxv,hkv,hyvv,Instr.mapUpdate,run_underlying hu,hg,hck,hfk.1 h2,hset]
  ·simp only[Array.toList_push,List.map_append,List.map_cons,List.map_nil];refine zCb hes0 ?_;simp only[RVl];exact⟨_,[],rfl,yJu.2 ⟨hiv,hyv⟩,rfl⟩
 ·have hjl:=(List.getElem?_eq_some_iff.1 h2).1;have hes':es.size=es.toList.length:=by simp
  have hej:es[j]?=some e:=by simpa using h2
  refine fin (es.modify j fun e=>{ e with key:=kv,val:=yv }) clk ?_ ?_ (by simp) (by simpa using hlen)
  ·have hkt:(Instr.keyThatStays e.key kv).run P w= .ok kv w:=by simp[Instr.keyThatStays,h3.1 rfl]
   unfold execOp;simp[ho,hxv,hkv,hyvv,Instr.mapUpdate,run_underlying hu,hg,hck,hfk.2 j e h2 h3 h4,hset,hej,hkt]
  ·have:(es.modify j fun e=>{ e with key:=kv,val:=yv }).toList.map ent=(es.toList.map ent).set j (ent { e with key:=kv,val:=yv }):=by
    apply List.ext_getElem?
    intro n;simp only[Array.toList_modify,List.getElem?_map,List.getElem?_set,List.length_map,List.getElem?_modify];by_cases hn:j=n
    ·subst hn;simp[hej];simpa using hjl
    ·simp[hn]
   rw[this];exact zVb hes0 (yJu.2 ⟨hiv,hyv⟩)
end
end Go.AM
set_option linter.unusedSimpArgs false
set_option linter.unusedVariables false
namespace Go.AM
open Go.RowKit
section
variable {P : Program} {E : zBf} {s : FSt} {a : Act} {w : World} {η : Nat → Value} {o : Oper}
theorem yEx(hr:Rel E s a w η){T:TypeId}{x:Operand}{lo hi:Option Operand}(ho:o.op= .slice T x lo hi none){l h:Int}{st:ByteArray}(hT:P.underlying T=some .string)(hx:s.ev x= .str st)
  (hl:bnd 0 (lo.map s.ev)=some l) (hh:bnd st.size (hi.map s.ev)=some h) (h0:0≤l) (h1:l≤h) (h2:h≤st.size):Done P E s a w o ⟨.str (st.extract l.toNat h.toNat),[],[]⟩:=by
 have hxx:=zAi hr x
 rw[hx]at hxx
 simp only[RV]at hxx
 have hb:=zFx (P:=P) (b:=false) (cap:=st.size) hr hl hh h0 h1 h2 (Nat.le_refl _)
 refine Done.val hr (v:= .string (st.extract l.toNat h.toNat)) (by simp only[RV]) ?_
 unfold execOp
 simp[ho,hxx,Instr.sliceAt,Instr.slice,run_underlying hT,hb]
theorem yEy(hr:Rel E s a w η){T T':TypeId}{x:Operand}{lo hi:Option Operand}(ho:o.op= .slice T x lo hi none){l h:Int}(hT:zAu P T=some T')(hx:s.ev x= .nilS)
  (hl:bnd 0 (lo.map s.ev)=some l) (hh:bnd ((0:Nat):Int) (hi.map s.ev)=some h) (h0:l=0) (h1:h=0) (hc:0<P.cellsOf T'):Done P E s a w o ⟨.nilS,[],[]⟩:=by
 have hxx:=zAi hr x
 rw[hx]at hxx
 simp only[RV]at hxx
 subst h0;subst h1
 have hb:=zFx (P:=P) (b:=true) (cap:=0) hr hl hh (by omega) (by omega) (by omega) (Nat.le_refl _)
 refine Done.val hr (v:= .slice none 0 0) (by simp only[RV]) ?_
 unfold execOp
 simp only[ho,hxx,Option.map_none,Sem.run_bind,zFd (zAw hT)]
 simp at hb
 simp[Instr.slice,run_underlying (zAw hT),hb,zBd hc]
theorem RV_ro(hr:Rel E s a w η){id n:Nat}{ob:Obj}{v:Value}(hv:RV (s.ctx E w η) (.obj id n) v)(hid:s.hp id=some ob)(hn:n=ob.xs.length)(hk:ob.k= .ro):RV (s.ctx E w η) (.sl ob.e ob.xs) v:=by
 obtain⟨hpos,hkn,hlen,⟨us,r1,rr⟩,hro,_,_⟩:=hr.laid.obj id ob hid
 unfold zGw at rr
 rw[if_neg (by rw[hk];simp)]at rr
 obtain⟨r2,r3,r4⟩:=rr
 rw[show decide (ob.k=Kind.ro)=true by simpa using hk]at r1
 simp only[RV]at hv ⊢
 obtain⟨_,_,_,hv⟩:=hv
 simp only[FSt.ctx,hid]at hv
 have hη:=hv.2.2 hn
 subst hη
 rcases r4.2 with ⟨h3,h4⟩|⟨g,cp,cur,h3,_,hg,hnc,_⟩
 ·have hxs:ob.xs=[]:=List.eq_nil_of_length_eq_zero h4;refine⟨none,0,us,?_,by simp[hxs],by simp[hxs],r1,r2,r3,.inl hxs⟩
  rw[hxs];exact h3
 ·refine⟨_,_,us,h3,hnc,hlen,r1,r2,r3,.inr ⟨g,0,rfl,hro hk g (by
   show blk (η id)=some g
   have:η id=_:=h3;rw[this];rfl),(Array.getElem?_eq_some_iff.1 hg).1,zEo r4 (by
   have:η id=_:=h3;show blk (η id)=some g
   rw[this];rfl)⟩⟩
theorem yMy{c:Ctx}(big:Bool)(w:World):∀(n:Nat) (xs:List V) (us:List Value) (y:V),xs.length=n→minV big xs=some y→RVl c xs us→∃v,((if big then Builtin.max_ else Builtin.min_) #[] 0 us.toArray).run P w= .ok v w∧RV c y v:=by
 have step:∀(k k':IntKind) (p q:Int),((if big then Builtin.max2 else Builtin.min2) (.int k p) (.int k' q)).run P w= .ok (.int k (if big then(if q>p then q else p)else(if q<p then q else p))) w:=by
  intro k k' p q;cases big<;>simp[Builtin.max2,Builtin.min2]
 have uni:∀us:List Value,(if big then Builtin.max_ else Builtin.min_) #[] 0 us.toArray=match us with|[]=>(if big then Builtin.max_ #[] 0 #[]else Builtin.min_ #[] 0 #[])|x::rest=>rest.foldlM (if big then Builtin.max2 else Builtin.min2) x:=by
  intro us;cases us<;>cases big<;>simp[Builtin.max_,Builtin.min_]
 intro n
 induction n with
 |zero=>intro xs us y hn hm;cases xs<;>simp[minV]at hm hn
 |succ n ih=>
  intro xs us y hn hm hr
  match xs,hn,hm,hr with
  |[x],hn,hm,hr=>
   simp only[RVl]at hr;obtain⟨u,r,rfl,hxu,rfl⟩:=hr;cases x<;>simp only[minV,Option.some.injEq,reduceCtorEq]at hm
   subst hm;exact⟨u,by rw[uni];simp,hxu⟩
  |x::z::r,hn,hm,hr=>
   simp only[RVl]at hr;obtain⟨u,_,rfl,hxu,u2,us2,rfl,hzu,hr2⟩:=hr;cases x<;>cases z<;>simp only[minV,reduceCtorEq]at hm
   rename_i k p k' q;split at hm
   rotate_left
   ·cases hm
   rename_i hkk;subst hkk;simp only[RV]at hxu hzu;obtain⟨rfl,hp⟩:=hxu;obtain⟨rfl,hq⟩:=hzu;have hq':k.has (if big then(if q>p then q else p)else(if q<p then q else p)):=by cases big<;>simp<;>split<;>assumption
   obtain⟨v,hv,hy⟩:=ih _ (.int k (if big then(if q>p then q else p)else(if q<p then q else p))::us2) y (by simpa using hn) hm (by
    simp only[RVl];exact⟨_,_,rfl,by simp only[RV];exact⟨trivial,hq'⟩,hr2⟩)
   refine⟨v,?_,hy⟩;rw[uni]at hv ⊢;simp only[List.foldlM_cons,Sem.run_bind,step,Result.andThen_ok]at hv ⊢;exact hv
theorem zKl(P:Program)(w:World)(t ty e:TypeId)(i:TypeInfo)(size:Nat)(ht:P.underlying t=some (.slice e))(hi:P.info? e=some i)
  (v:Value) (n c:Nat) (xs:List Value) (hown:w.ownsRow 0 e size v n xs):(Builtin.append_ #[t,t] ty #[v,.slice none 0 c]).run P w= .ok v w:=by
 rcases hown.2 with ⟨rfl,rfl⟩|⟨g,cap,cur,rfl,_,_,hnc,_⟩
 ·simp[Builtin.append_,run_underlying ht,sizeOf,typeInfo,hi,Builtin.lenOf,Builtin.firstCells]
 ·simp[Builtin.append_,run_underlying ht,sizeOf,typeInfo,hi,Builtin.lenOf,Builtin.firstCells,hnc,storeCells]
theorem zXn{P:Program}(w:World)(t ty e:TypeId)(i:TypeInfo)(z:Value)(size bytes:Nat)(ht:P.underlying t=some (.slice e))(hi:P.info? e=some i)(hz:i.zero=some z)
  (hsize:i.size=size) (hby:i.bytes=bytes) (hzs:z.cells.size=size) (hsz:0<size) (v:Value) (n:Nat) (xs:List Value) (hown:w.ownsRow 0 e size v n xs)
  (ao:Option Addr) (m c:Nat) (news:List Value) (hl:news.length=m*size) (hnone:ao=none→m=0) (hnews:∀a,ao=some a→∀j u,news[j]?=some u→w.cell? (a.add j)=some u) (h1:∀u∈news,u.oneCell'=true)
  (h63:n+m≤140737488355328) (hbytes:(n+m)*bytes≤140737488355328) :
  ∃v' w',(Builtin.append_ #[t,t] ty #[v,.slice ao m c]).run P w= .ok v' w'∧w'.ownsRow 0 e size v' (n+m) (xs++news)∧w.grownBy w' v.ownBlock∧(∀b,v'.ownBlock=some b→w.heap.size≤b∨v.ownBlock=some b):=by
 have hml:n+m≤maxLen:=by unfold maxLen;omega
 cases ao with
 |none=>
  have hm:=hnone rfl;subst hm;have hn:news=[]:=List.eq_nil_of_length_eq_zero (by simpa using hl)
  subst hn;exact⟨v,w,zKl P w t ty e i size ht hi v n c xs hown,by simpa using hown,⟨rfl,rfl,rfl,Nat.le_refl _,fun _ _ _=>rfl⟩,fun b hb=> .inr hb⟩
 |some a=>
  have hnews:=hnews a rfl;obtain⟨v',w',hrun,ho,hg,hnil⟩:=run_append_own (P:=P) w 0 t ty e i z size bytes ht hi hz hsize hby hzs hsz v n xs hown a m c news hl hnews h1 hml hbytes (Nat.zero_le _);refine⟨v',w',hrun,ho,hg,?_⟩;rcases hown.2 with ⟨rfl,rfl⟩|⟨g,cap,cur,rfl,_,hgg,hnc,hcm,hcs,htake⟩
  ·by_cases hm:m=0
   ·have:=hnil.2 ⟨rfl,hm⟩;subst this;intro b hb;simp[Value.ownBlock]at hb
   ·have hr:=run_append_nil (P:=P) w t ty e i z ht hi hz a m c news (by rw[hsize];exact hl) hnews (by omega) (by omega) (by rw[hby];simp at hbytes;omega)
    rw[hr]at hrun;cases hrun
    intro b hb;simp[Value.ownBlock]at hb;exact .inl (by omega)
  ·by_cases hroom:n+m≤cap
   ·obtain⟨w2,hr,_,_⟩:=run_append_fits (P:=P) w 0 t ty e i size ht hi hsize g n cap xs hown a m c news hl hnews h1 hroom;rw[hr]at hrun;cases hrun
    intro b hb;exact .inr hb
   ·have hr:=run_append_grow (P:=P) w t ty e i z ht hi hz ⟨g,0,none⟩ n cap xs (by rw[hsize];exact hown.1) (hown.cells rfl) a m c news (by rw[hsize];exact hl) hnews (by omega) (by omega)
     (by rw[hby];exact growslice_fits (by omega) hbytes)
    rw[hr]at hrun;cases hrun
    intro b hb;simp[Value.ownBlock]at hb;exact .inl (by omega)
theorem zNt(hr:Rel E s a w η){x:V}{v:Value}(hv:RV (s.ctx E w η) x v){e:Nat}{ys:List V}(h:(x= .nilS∧ys=[])∨(x= .nl∧ys=[])∨x= .sl e ys∨x= .sn e ys∨(∃id n ob,x= .obj id n∧s.hp id=some ob∧n=ob.xs.length∧e=ob.e∧ys=ob.xs)∨∃id n i k ob,x= .win id n i 0 k∧s.hp id=some ob∧n=ob.xs.length∧e=ob.e∧ob.k= .arr∧i+k≤n∧ys=(ob.xs.drop i).take k) :
  ∃ao c us,v= .slice ao ys.length c∧RVl (s.ctx E w η) ys us∧(∀u∈us,u.cells.size=e)∧(∀x∈flat us,x.oneCell'=true)∧(ao=none→ys.length=0)∧(∀a,ao=some a→∀j u,(flat us)[j]?=some u→w.cell? (a.add j)=some u):=by
 rcases h with ⟨rfl,rfl⟩|⟨rfl,rfl⟩|rfl|rfl|⟨id,n,ob,rfl,hid,hn,rfl,rfl⟩|⟨id,n,i,k,ob,rfl,hid,hn,rfl,hka,hik,rfl⟩
 ·simp only[RV]at hv;exact⟨none,0,[],hv,by simp[RVl],by simp,by simp[flat],by simp,by simp⟩
 ·simp only[RV]at hv;obtain⟨cap,hv⟩:=hv;exact⟨none,cap,[],hv,by simp[RVl],by simp,by simp[flat],by simp,by simp⟩
 ·simp only[RV]at hv;obtain⟨ao,cap,us,hv,hc,hl,r1,r2,hone,r3⟩:=hv;refine⟨ao,cap,us,hv,zGe (c:=s.ctx E w η) _ _ r1,r2,hone,fun h=>?_,fun a ha j u hu=>?_⟩
  ·rcases r3 with r3|⟨b,off,h',_⟩
   ·simp[r3]
   ·rw[h]at h';cases h'
  ·rcases r3 with r3|⟨b,off,h',_,_,hra⟩
   ·subst r3;have:=zAp r1;have:us=[]:=List.eq_nil_of_length_eq_zero (by simpa using this)
    subst this;simp[flat]at hu
   ·rw[ha]at h';cases h';rw[Addr.add_mid];exact hra j u hu
 ·simp only[RV]at hv;obtain⟨_,ao,cap,us,hv,hc,hl,r1,r2,hone,r3⟩:=hv;refine⟨ao,cap,us,hv,zGe (c:=s.ctx E w η) _ _ r1,r2,hone,fun h=>?_,fun a ha j u hu=>?_⟩
  ·rcases r3 with r3|⟨b,off,h',_⟩
   ·simp[r3]
   ·rw[h]at h';cases h'
  ·rcases r3 with r3|⟨b,off,h',_,_,hra⟩
   ·subst r3;have:=zAp r1;have:us=[]:=List.eq_nil_of_length_eq_zero (by simpa using this)
    subst this;simp[flat]at hu
   ·rw[ha]at h';cases h';rw[Addr.add_mid];exact hra j u hu
 ·simp only[RV]at hv;obtain⟨_,_,_,hv⟩:=hv;simp only[FSt.ctx,hid]at hv;have hη:=hv.2.2 hn;obtain⟨_,_,_,us,r1,r2,r3,r4⟩:=zCu hr hid hv.1;rcases r4.2 with ⟨h3,h4⟩|⟨g,cp,cur,h3,h5⟩
  ·refine⟨none,0,us,by rw[hη,h3,h4],r1,r2,r3,fun _=>h4,by simp⟩
  ·refine⟨some ⟨g,0,none⟩,cp,us,by rw[hη,h3],r1,r2,r3,by simp,fun a ha j u hu=>?_⟩
   cases ha
   exact r4.cells (by rw[h3];rfl) j u hu
 ·simp only[RV]at hv;obtain⟨_,_,_,hv⟩:=hv;simp only[FSt.ctx,hid]at hv;obtain⟨b,cap,hb,hv2,hkc,hkl⟩:=hv.2.2 hn;obtain⟨_,_,_,us,r1,r2,r3,r4⟩:=zCu hr hid hv.1;have hul:=zAp r1;rcases r4.2 with ⟨h3,h4⟩|⟨g,cp,cur,h3,h5⟩
  ·rw[h3]at hb;cases hb
  ·have hgb:b=g:=by rw[h3]at hb;simpa[blk] using hb.symm
   subst hgb;refine⟨some ⟨b,i*ob.e+0,none⟩,cap,(us.drop i).take k,by rw[hv2];congr 1;rw[List.length_take,List.length_drop];omega,zEf k (zFp i r1),fun u hu=>r2 u (List.mem_of_mem_drop (List.mem_of_mem_take hu)),fun x hx=>?_,by simp,fun a ha j u hu=>?_⟩
   ·obtain⟨v,hv',hyv⟩:=List.mem_flatMap.1 hx;exact r3 x (zFh (List.mem_of_mem_drop (List.mem_of_mem_take hv')) hyv)
   ·cases ha
    have hfd:flat ((us.drop i).take k)=((flat us).take ((i+k)*ob.e)).drop (i*ob.e):=by
     rw[← zCn r2 i (i+k),List.drop_take]
     congr 2;omega
    rw[hfd,List.getElem?_drop,List.getElem?_take]at hu;split at hu
    ·have:=r4.cells (by rw[h3];rfl) (i*ob.e+j) u hu
     rw[Addr.add_mid]at this ⊢;rw[show i*ob.e+0+j=0+(i*ob.e+j) by omega]
     exact this
    ·cases hu
theorem yIf(hr:Rel E s a w η){fid:Nat}{T T':TypeId}{xs xx:Operand}(ho:o.op= .call { callee:= .builtin .append,args:= #[xs,xx],argTypes:= #[T,T] })(hT:zAu P T=some T')(hz:∃z,zBw P T'=some z∧zKb z=P.cellsOf T'∧(z.sc=true∨z.cl.isSome=true))
  (hc:0<P.cellsOf T') {ys:List V} (hx:(s.ev xx= .nilS∧ys=[])∨(s.ev xx= .nl∧ys=[])∨s.ev xx= .sl (P.cellsOf T') ys∨s.ev xx= .sn (P.cellsOf T') ys∨(∃id n ob,s.ev xx= .obj id n∧s.hp id=some ob∧n=ob.xs.length∧P.cellsOf T'=ob.e∧ys=ob.xs)∨∃id n i k ob,s.ev xx= .win id n i 0 k∧s.hp id=some ob∧n=ob.xs.length∧P.cellsOf T'=ob.e∧ob.k= .arr∧i+k≤n∧ys=(ob.xs.drop i).take k) {rd:List Nat} :
  (s.ev xs= .nilS→¬s.kn fid→ys.length*P.bytesOf T'≤140737488355328→ys.length≤140737488355328→Done P E s a w o ⟨.obj fid ys.length,[(fid,⟨.arr,T',P.cellsOf T',ys⟩)],rd⟩) ∧
  (∀id n ob,s.ev xs= .obj id n→s.hp id=some ob→n=ob.xs.length→ob.k= .arr→ob.T=T'→ob.e=P.cellsOf T'→(n+ys.length)*P.bytesOf T'≤140737488355328→n+ys.length≤140737488355328 →
   Done P E s a w o ⟨.obj id (n+ys.length),[(id,{ ob with xs:=ob.xs++ys })],rd⟩):=by
 obtain⟨ao,c,us,hxv,hus,hsz,hone,hnone,hcell⟩:=zNt hr (zAi hr xx) hx
 obtain⟨z,hz,hzs,hzsc⟩:=hz
 unfold zBw at hz
 cases hi:P.info? T' with
 |none=>simp[hi]at hz
 |some i=>
  cases hzz:i.zero with
  |none=>simp[hi,hzz]at hz
  |some zv=>
   simp only[hi,Option.bind_some,hzz,Option.some.injEq]at hz;subst hz;have hzsize:zv.cells.size=P.cellsOf T':=by rw[zNp (zUn (c:=s.ctx E w η) rfl zv) hzsc];exact hzs
   have hisz:i.size=P.cellsOf T':=by simp[Program.cellsOf,hi]
   have hib:i.bytes=P.bytesOf T':=by simp[Program.bytesOf,hi]
   have hlen:=zAp hus;have hrunE:∀v v' w',a.eval xs=v→(Builtin.append_ #[T,T] o.type #[v,.slice ao ys.length c]).run P w= .ok v' w'→(execOp a.eval o).run P w= .ok (.value v') w':=fun v v' w' hv h=>by
    unfold execOp;simp[ho,hv,hxv,resolve,invoke,builtin,h]
   constructor
   ·intro hs hf hb hl;have hsv:=zAi hr xs;rw[hs]at hsv;simp only[RV]at hsv;obtain⟨v',w',hrun,how,hg,hblk⟩:=zXn (P:=P) w T o.type T' i zv (P.cellsOf T') (P.bytesOf T') (zAw hT) hi hzz hisz hib hzsize hc (.slice none 0 0) 0 [] (World.ownsRow_nil _ _ _ _) ao ys.length c (flat us) (by rw[zBi hsz,hlen]) hnone hcell hone (by omega) (by simpa using hb)
    have L:=hr.lay (w':=w') fid ⟨.arr,T',P.cellsOf T',ys⟩ v' none (by simpa[Value.ownBlock] using hg) (.inl ⟨hf,rfl⟩) (by simp) hc hl (fun b hb'=>by
     rw[zIo how]at hb';rcases hblk b hb' with h|h
     ·exact .inl h
     ·simp[Value.ownBlock]at h) (by simp) us hus hsz hone (by simpa using how) (by simp) (fun o2 h2 _ hkn=>absurd hkn hf)
    have:=L.put o.dst (x:= .obj fid ys.length) (v:=v') (by
     have hsl:∃a m cap,v'= .slice a m cap:=by rcases how.2 with ⟨h,_⟩|⟨g,cap,cur,h,_⟩<;>exact⟨_,_,_,h⟩
     simp only[RV,FSt.ctx];exact⟨hsl,trivial,.inl trivial,by simp⟩)
    rw[← FSt.app_one s o.dst (.obj fid ys.length) fid _ rd]at this;exact⟨_,_,_,hrunE _ _ _ hsv hrun,.inl ⟨_,rfl,this⟩⟩
   ·intro id n ob hs hid hn hk hT' he hb hl;have hsv:=zAi hr xs;rw[hs]at hsv;simp only[RV]at hsv;obtain⟨_,_,_,hsv⟩:=hsv;simp only[FSt.ctx,hid]at hsv;have hη:=hsv.2.2 hn;obtain⟨hpos,hkn,hobl,vs,r1,r2,r3,r4⟩:=zCu hr hid (by rw[hk];simp)
    have hbk:=zIo r4;rw[hT',he]at r4;obtain⟨v',w',hrun,how,hg,hblk⟩:=zXn (P:=P) w T o.type T' i zv (P.cellsOf T') (P.bytesOf T') (zAw hT) hi hzz hisz hib hzsize hc (η id) ob.xs.length (flat vs) r4 ao ys.length c (flat us) (by rw[zBi hsz,hlen]) hnone hcell hone (by omega) (by rw[← hn];exact hb)
    have hgrow:(flat vs)++(flat us)=flat (vs++us):=(zCz _ _).symm;rw[hgrow]at how;have hself:ys.length=0→v'=η id:=fun h0=>by
     have hy0:ys=[]:=List.eq_nil_of_length_eq_zero h0;have hu0:us=[]:=List.eq_nil_of_length_eq_zero (by rw[hlen,h0])
     cases ao with
     |none=>
      have:=zKl P w T o.type T' i (P.cellsOf T') (zAw hT) hi (η id) ob.xs.length c (flat vs) r4;rw[h0]at hrun;rw[this]at hrun;cases hrun;rfl
     |some ad=>
      rcases r4.2 with ⟨h3,h4⟩|⟨g,cap,cur,h3,h5⟩
      ·have h6:=run_append_own (P:=P) w 0 T o.type T' i zv (P.cellsOf T') (P.bytesOf T') (zAw hT) hi hzz hisz hib hzsize hc (η id) ob.xs.length (flat vs) r4 ad ys.length c (flat us) (by rw[zBi hsz,hlen]) (hcell ad rfl) hone (by unfold maxLen;omega) (by rw[← hn];exact hb) (Nat.zero_le _)
       obtain⟨v2,w2,q1,_,_,q4⟩:=h6;rw[q1]at hrun;cases hrun
       rw[h3]at q4 ⊢;exact q4.2 ⟨rfl,h0⟩
      ·have r4':=r4;rw[h3]at r4';obtain⟨w2,q1,_,_⟩:=run_append_fits (P:=P) w 0 T o.type T' i (P.cellsOf T') (zAw hT) hi hisz g ob.xs.length cap (flat vs) r4' ad ys.length c (flat us) (by rw[zBi hsz,hlen]) (hcell ad rfl) hone (by have:=h5.2.2.1;omega)
       rw[h3]at hrun ⊢;rw[q1]at hrun;cases hrun
       rw[h0];rfl
    have L:=hr.lay (w':=w') id { ob with xs:=ob.xs++ys } v' (blk (η id)) (by rw[hbk];exact hg) (.inr ⟨ob,hid,by rw[hk];simp,rfl,rfl,by simp,fun h=>hself (by simp at h;simp[h])⟩) (by rw[hk];simp) hpos (by simp;omega) (fun b hb'=>by rw[hbk];rw[zIo how]at hb';exact hblk b hb') (fun hbx=>by rw[hk]at hbx;cases hbx)
     (vs++us) (zCb r1 hus) (fun u hu=>by
      rcases List.mem_append.1 hu with hu|hu
      ·exact r2 u hu
      ·show u.cells.size=ob.e;rw[he];exact hsz u hu) (fun x hx=>by
      rw[zCz]at hx;rcases List.mem_append.1 hx with hx|hx
      ·exact r3 x hx
      ·exact hone x hx) (by simpa[hT',he] using how) (by simp[hk]) (fun o2 h2 _ _=>by rw[hid]at h2;cases h2;simp[hk])
    have:=L.put o.dst (x:= .obj id (n+ys.length)) (v:=v') (by
     have hsl:∃a m cap,v'= .slice a m cap:=by rcases how.2 with ⟨h,_⟩|⟨g,cap,cur,h,_⟩<;>exact⟨_,_,_,h⟩
     simp only[RV,FSt.ctx];refine⟨hsl,trivial,.inl trivial,?_⟩;simp[hn,hk])
    rw[← FSt.app_one s o.dst (.obj id (n+ys.length)) id _ rd]at this;exact⟨_,_,_,hrunE _ _ _ hη hrun,.inl ⟨_,rfl,this⟩⟩
theorem zWp:∀(l:List Value) (k off:Nat) (cs:Array Value),off+k+l.length≤cs.size →
  ((l.zipIdx k).foldl (fun(cs:Array Value) (p:Value × Nat)=>cs.setIfInBounds (off+p.2) p.1) cs).toList=cs.toList.take (off+k)++l++cs.toList.drop (off+k+l.length)
 |[],k,off,cs,h=>by simp
 |x::l,k,off,cs,h=>by
  simp only[List.length_cons]at h;simp only[List.zipIdx_cons,List.foldl_cons];rw[zWp l (k+1) off _ (by simp;omega)]
  have hk:off+k<cs.toList.length:=by simp;omega
  simp only[Array.toList_setIfInBounds,List.length_cons];have t:(cs.toList.set (off+k) x).take (off+(k+1))=cs.toList.take (off+k)++[x]:=by
   rw[List.take_set,show off+(k+1)=off+k+1 by omega,List.take_succ_eq_append_getElem hk,List.set_append_right _ _ (by simp;omega)]
   simp only[List.length_take];rw[show off+k-min (off+k) cs.toList.length=0 by omega];rfl
  have d:(cs.toList.set (off+k) x).drop (off+(k+1)+l.length)=cs.toList.drop (off+k+(l.length+1)):=by
   rw[List.drop_set_of_lt (by omega),show off+(k+1)+l.length=off+k+(l.length+1) by omega]
  rw[t,d];simp
theorem yCi(v:Value)(off:Nat)(cs:Array Value)(h:off+v.cells.size≤cs.size) :
  (v.cells.zipIdx.foldl (fun cs (c,j)=>cs.setIfInBounds (off+j) c) cs).toList=cs.toList.take off++v.cells.toList++cs.toList.drop (off+v.cells.size):=by
 have:=zWp v.cells.toList 0 off cs (by simpa using h)
 simp only[Nat.add_zero,Array.length_toList]at this
 rw[← this,← Array.foldl_toList]
 congr 2
 simp
theorem zPh{c:Ctx}{x:V}{v:Value}(h:RV c x v)(hx:x.cl.isSome=true∨x.sc=true):RVl c (yKc x) v.cells.toList∧(∀u∈v.cells.toList,u.oneCell'=true):=by
 unfold yKc
 cases hc:x.cl with
 |some cs=>
  obtain⟨cv,rfl,h1,h2⟩:=yPc hc h;exact⟨h1,h2⟩
 |none=>
  rcases hx with hx|hx
  ·simp[hc]at hx
  ·have ho:=yDr h hx;rw[zEs ho];exact⟨by simp only[RVl];exact⟨v,[],rfl,h,rfl⟩,by simpa using ho⟩
theorem zWy{c:Ctx}{pl:Nat→Option (Nat × Nat)}:∀(zIw:List (Nat × V)) (vs:List (Nat × Value)) (cells cells':List V) (cv:Array Value),yNy pl cells zIw=some cells'→RVl c cells cv.toList→(∀u∈cv.toList,u.oneCell'=true) →
  vs.length=zIw.length→(∀(j:Nat) p q,zIw[j]?=some p→vs[j]?=some q→q.1=p.1∧RV c p.2 q.2)→∃cv',Instr.fill pl cv vs=some cv'∧RVl c cells' cv'.toList∧(∀u∈cv'.toList,u.oneCell'=true)
 |[],vs,cells,cells',cv,h,hr,ho,hl,_=>by
  cases vs with
  |cons _ _=>simp at hl
  |nil=>
   simp only[yNy,Option.some.injEq]at h;subst h;exact⟨cv,rfl,hr,ho⟩
 |(i,x)::rest,vs,cells,cells',cv,h,hr,ho,hl,hp=>by
  cases vs with
  |nil=>simp at hl
  |cons q vs=>
   obtain⟨i',v⟩:=q;obtain⟨e1,e2⟩:=hp 0 (i,x) (i',v) (by simp) (by simp)
   simp only at e1 e2;subst e1;simp only[yNy]at h;simp only[Instr.fill];cases hpl:pl i' with
   |none=>rw[hpl]at h;cases h
   |some os=>
    obtain⟨off,size⟩:=os;rw[hpl]at h;simp only at h ⊢;split at h
    ·rename_i hc;obtain⟨h1,h2,h3⟩:=hc;have hsz:v.cells.size=size:=by rw[zNp e2 (h1.symm),h2]
     have hlen:cv.size=cells.length:=by simpa using zAp hr
     have hcond:(decide (v.cells.size≠size)||decide (off+v.cells.size>cv.size))=false:=by simp;omega
     obtain⟨g1,g2⟩:=zPh e2 h1;have hst:=yCi v off cv (by omega)
     obtain⟨cv',k1,k2,k3⟩:=zWy (c:=c) (pl:=pl) rest vs _ cells' (v.cells.zipIdx.foldl (fun cs (c,j)=>cs.setIfInBounds (off+j) c) cv) h (by rw[hst,hsz];exact zCb (zCb (zEf _ hr) g1) (zFp _ hr))
      (fun u hu=>by
       rw[hst]at hu;simp only[List.mem_append]at hu;rcases hu with (hu|hu)|hu
       ·exact ho u (List.mem_of_mem_take hu)
       ·exact g2 u hu
       ·exact ho u (List.mem_of_mem_drop hu)) (by simpa using hl) (fun j p q hp1 hq1=>hp (j+1) p q (by simpa using hp1) (by simpa using hq1))
     refine⟨cv',?_,k2,k3⟩;have hc2:¬(v.cells.size≠size):=by omega
     have hc3:¬(off+v.cells.size>cv.size):=by omega
     simp only[hc2,hc3,decide_false,Bool.or_self,Bool.false_eq_true,if_false];exact k1
    ·cases h
theorem xOc(hr:Rel E s a w η){T:TypeId}{ps:Array (Nat × Operand)}(ho:o.op= .build T ps){q:Stp}(h:yKe P T (ps.toList.map fun p=>(p.1,s.ev p.2))=some q):Done P E s a w o q.e:=by
 unfold yKe at h
 split at h
 ·rename_i pl z hpl hz;obtain⟨cs,hcs,rfl⟩:=Option.map_eq_some_iff.1 h;unfold zBw at hz;cases hi:P.info? T with
  |none=>simp[hi]at hz
  |some i=>
   cases hzz:i.zero with
   |none=>simp[hi,hzz]at hz
   |some zv=>
    simp only[hi,Option.bind_some,hzz,Option.some.injEq]at hz;have hzr:=zUn (c:=s.ctx E w η) rfl zv;rw[hz]at hzr;simp only[RV]at hzr;obtain⟨zc,rfl,h1,h2⟩:=hzr;obtain⟨cv',k1,k2,k3⟩:=zWy _ (ps.toList.map fun p=>(p.1,a.eval p.2)) _ _ zc hcs h1 h2 (by simp) (fun j p q hp hq=>by
     rw[List.getElem?_map]at hp hq;cases hj:ps.toList[j]? with
     |none=>simp[hj]at hp
     |some x=>
      simp only[hj,Option.map_some,Option.some.injEq]at hp hq;subst hp;subst hq;exact⟨rfl,zAi hr x.2⟩)
    refine Done.val hr (v:= .agg cv') (by simp only[RV];exact⟨cv',rfl,k2,k3⟩) ?_
    have hb:P.built T (ps.map fun(i,x)=>(i,a.eval x)).toList=some cv':=by
     unfold Program.built;unfold plF at hpl;split at hpl
     ·rename_i n e hu;obtain⟨ie,hie,rfl⟩:=Option.map_eq_some_iff.1 hpl;simp only[hi,hu,hzz,hie];simpa[Value.cells] using k1
     ·rename_i fs hu;obtain⟨places,hpp,rfl⟩:=Option.map_eq_some_iff.1 hpl;simp only[hi,hu,hzz,hpp];simpa[Value.cells] using k1
     ·cases hpl
    unfold execOp;simp only[ho,Sem.run_bind,run_build w T _ cv' hb,Result.andThen_ok,Sem.run_pure]
 ·cases h
theorem zMl(z:Value)(e:Nat)(hz:z.cells.size=e)(he:0<e)(n:Nat):(madeCells z.cells (n*e)).toList=flat (List.replicate n z):=by
 have hsz:∀u∈List.replicate n z,u.cells.size=e:=fun u hu=>by rw[(List.mem_replicate.1 hu).2];exact hz
 apply List.ext_getElem?
 intro j
 by_cases hj:j<n*e
 ·have hi:j / e<n:=by rw[Nat.div_lt_iff_lt_mul he];exact hj
  have hm:j % e<e:=Nat.mod_lt _ he;have:=zOv hsz (j / e) z (by simp[hi]) (j % e) hm
  rw[show j / e*e+j % e=j by rw[Nat.mul_comm];exact Nat.div_add_mod j e]at this
  rw[this];have hm':j % e<z.cells.size:=by omega
  simp only[madeCells,Array.toList_map,Array.toList_range,List.getElem?_map,hz];rw[List.getElem?_range hj,Array.getElem?_eq_getElem hm',Option.map_some,getElem!_pos z.cells (j % e) hm']
 ·rw[List.getElem?_eq_none (by simp[madeCells];omega),List.getElem?_eq_none (by rw[zBi hsz];simp;omega)]
theorem yDc{c:Ctx}{e:Nat}:∀(zIw:List (Nat × V)) (vs:List (Nat × Value)) (xs xs':List V) (us:List Value) (cv:Array Value),zOz e xs zIw=some xs'→RVl c xs us→(∀u∈us,u.cells.size=e)→(∀x∈flat us,x.oneCell'=true)→cv.toList=flat us →
  vs.length=zIw.length→(∀(j:Nat) p q,zIw[j]?=some p→vs[j]?=some q→q.1=p.1∧RV c p.2 q.2) →
  ∃cv' us',Instr.fill (fun i=>some (i*e,e)) cv vs=some cv'∧cv'.toList=flat us'∧RVl c xs' us'∧(∀u∈us',u.cells.size=e)∧(∀x∈flat us',x.oneCell'=true)
 |[],vs,xs,xs',us,cv,h,hr,hs,ho,hcv,hl,_=>by
  cases vs with
  |cons _ _=>simp at hl
  |nil=>
   simp only[zOz,Option.some.injEq]at h;subst h;exact⟨cv,us,rfl,hcv,hr,hs,ho⟩
 |(i,x)::rest,vs,xs,xs',us,cv,h,hr,hs,ho,hcv,hl,hp=>by
  cases vs with
  |nil=>simp at hl
  |cons q vs=>
   obtain⟨i',v⟩:=q;obtain⟨e1,e2⟩:=hp 0 (i,x) (i',v) (by simp) (by simp)
   simp only at e1 e2;subst e1;simp only[zOz]at h;simp only[Instr.fill];split at h
   ·rename_i hc;obtain⟨h1,h2,h3⟩:=hc;have hsz:v.cells.size=e:=by rw[zNp e2 (h1.symm),h2]
    have hlen:=zAp hr;have hul:i'<us.length:=by omega
    have hu:us[i']?=some us[i']:=List.getElem?_eq_getElem hul;have hcl:cv.size=xs.length*e:=by
     have:=congrArg List.length hcv;rw[zBi hs,hlen]at this;simpa using this
    have hie:(i'+1)*e≤xs.length*e:=Nat.mul_le_mul_right _ h3;rw[Nat.add_mul]at hie;obtain⟨g1,g2⟩:=zPh e2 h1;have hst:=yCi v (i'*e) cv (by omega)
    obtain⟨cv',us',k1,k2,k3,k4,k5⟩:=yDc (c:=c) (e:=e) rest vs _ xs' (us.set i' v) (v.cells.zipIdx.foldl (fun cs (c,j)=>cs.setIfInBounds (i'*e+j) c) cv) h (zVb hr e2)
     (fun u hu=>by
      rcases List.mem_or_eq_of_mem_set hu with hu|hu
      ·exact hs u hu
      ·rw[hu];exact hsz)
     (fun y hy=>by
      obtain⟨u,hu,hyu⟩:=List.mem_flatMap.1 hy;rcases List.mem_or_eq_of_mem_set hu with hu|hu
      ·exact ho y (zFh hu hyu)
      ·rw[hu]at hyu;exact g2 y hyu)
     (by rw[hst,hcv,hsz,zLw hs i' us[i'] v hu hsz]) (by simpa using hl) (fun j p q hp1 hq1=>hp (j+1) p q (by simpa using hp1) (by simpa using hq1))
    refine⟨cv',us',?_,k2,k3,k4,k5⟩;have hc2:¬(v.cells.size≠e):=by omega
    have hc3:¬(i'*e+v.cells.size>cv.size):=by omega
    simp only[hc2,hc3,decide_false,Bool.or_self,Bool.false_eq_true,if_false];exact k1
   ·cases h
theorem ySz(hr:Rel E s a w η){fid:Nat}{T:TypeId}{e n cap:Nat}{xs:List V}{us:List Value}{cv:Array Value}(hf:¬s.kn fid)(he:0<e)(hxs:RVl (s.ctx E w η) xs us)(hsz:∀u∈us,u.cells.size=e)(hone:∀x∈flat us,x.oneCell'=true)
  (hn:n=xs.length) (hlen:n≤140737488355328) (hrow:(w.alloc (.cells cv T)).ownsRow 0 T e (.slice (some ⟨w.heap.size,0,none⟩) n cap) n (flat us))
  (h:(execOp a.eval o).run P w= .ok (.value (.slice (some ⟨w.heap.size,0,none⟩) n cap)) (w.alloc (.cells cv T))) :
  Done P E s a w o ⟨.obj fid n,[(fid,⟨.arr,T,e,xs⟩)],[]⟩:=by
 subst hn
 have L:=hr.lay (w':=w.alloc (.cells cv T)) fid ⟨.arr,T,e,xs⟩ (.slice (some ⟨w.heap.size,0,none⟩) xs.length cap) none (World.grownBy_alloc w _ none) (.inl ⟨hf,rfl⟩)
  (by simp) he hlen (fun b hb=>by simp[blk]at hb;exact .inl (by omega)) (by simp) us hxs hsz hone hrow (by simp) (fun o2 h2 _ hkn=>absurd hkn hf)
 have:=L.put o.dst (x:= .obj fid xs.length) (v:= .slice (some ⟨w.heap.size,0,none⟩) xs.length cap) (by
  simp only[RV,FSt.ctx];exact⟨⟨_,_,_,rfl⟩,trivial,.inl trivial,by simp⟩)
 rw[← FSt.app_one s o.dst (.obj fid xs.length) fid _ []]at this
 exact⟨_,_,_,h,.inl ⟨_,rfl,this⟩⟩
theorem yPh{T:TypeId}{z:V}(hz:zBw P T=some z):∃i zv,P.info? T=some i∧i.zero=some zv∧z=cst zv:=by
 unfold zBw at hz
 cases hi:P.info? T with
 |none=>simp[hi]at hz
 |some i=>
  cases hzz:i.zero with
  |none=>simp[hi,hzz]at hz
  |some zv=>
   simp only[hi,Option.bind_some,hzz,Option.some.injEq]at hz;exact⟨i,zv,rfl,hzz,hz.symm⟩
theorem zJs{c:Ctx}{x:V}{v:Value}(h:RV c x v):∀n,RVl c (List.replicate n x) (List.replicate n v)
 |0=>by simp[RVl]
 |n+1=>by simp only[List.replicate_succ,RVl];exact⟨_,_,rfl,h,zJs h n⟩
theorem zOy{e:Nat}:∀ {zIw:List (Nat × V)} {xs xs':List V},zOz e xs zIw=some xs'→xs'.length=xs.length
 |[],xs,xs',h=>by simp only[zOz,Option.some.injEq]at h;rw[h]
 |(i,v)::r,xs,xs',h=>by
  simp only[zOz]at h;split at h
  ·rw[zOy h];simp
  ·cases h
theorem s_bsl(hr:Rel E s a w η){fid:Nat}{T len:Nat}{ps:Array (Nat × Operand)}(ho:o.op= .buildSlice T len ps){q:Stp}(h:bslS P fid T len (ps.toList.map fun p=>(p.1,s.ev p.2))=some q)(hs:q.side)(hf:¬s.kn fid):Done P E s a w o q.e:=by
 unfold bslS at h
 split at h
 ·cases h
 ·rename_i E' hT;split at h
  ·cases h
  ·rename_i z hz;obtain⟨xs,hxs,rfl⟩:=Option.map_eq_some_iff.1 h;obtain⟨i,zv,hi,hzz,rfl⟩:=yPh hz;obtain⟨hc,hzs,hzsc,hlen⟩:=hs;have hzr:=zUn (c:=s.ctx E w η) rfl zv;have hzsize:zv.cells.size=P.cellsOf E':=by rw[zNp hzr hzsc];exact hzs
   have hisz:i.size=P.cellsOf E':=by simp[Program.cellsOf,hi]
   have hzone:=(zPh hzr (hzsc.symm)).2;have hfr:=zMl zv _ hzsize hc len;obtain⟨cv',us',k1,k2,k3,k4,k5⟩:=yDc _ (ps.toList.map fun p=>(p.1,a.eval p.2)) _ xs (List.replicate len zv) (madeCells zv.cells (len*P.cellsOf E')) hxs (zJs hzr len)
    (fun u hu=>by rw[(List.mem_replicate.1 hu).2];exact hzsize) (fun y hy=>by
     obtain⟨u,hu,hyu⟩:=List.mem_flatMap.1 hy;rw[(List.mem_replicate.1 hu).2]at hyu;exact hzone y hyu) hfr (by simp) (fun j p q hp hq=>by
     rw[List.getElem?_map]at hp hq;cases hj:ps.toList[j]? with
     |none=>simp[hj]at hp
     |some x=>
      simp only[hj,Option.map_some,Option.some.injEq]at hp hq;subst hp;subst hq;exact⟨rfl,zAi hr x.2⟩)
   have hxl:xs.length=len:=by rw[zOy hxs];simp
   have hcs:cv'.size=len*P.cellsOf E':=by
    have:=congrArg List.length k2;rw[zBi k4,zAp k3,hxl]at this;simpa using this
   have hrow:=World.ownsRow_lit (base:=0) (e:=E') (size:=P.cellsOf E') w cv' len (Nat.zero_le _) (by
    have:len≤len*P.cellsOf E':=Nat.le_mul_of_pos_right _ hc;unfold maxLen;omega) hcs
   rw[k2]at hrow;have hll:len≤16777216:=by
    have:len≤len*P.cellsOf E':=Nat.le_mul_of_pos_right _ hc;omega
   refine ySz hr hf hc k3 k4 k5 hxl.symm (by omega) hrow ?_
   have hkk:Instr.fill (fun i=>some (i*P.cellsOf E',P.cellsOf E')) (madeCells zv.cells (len*P.cellsOf E')) (ps.toList.map fun p=>(p.1,a.eval p.2))=some cv':=k1
   unfold execOp;unfold madeCells at hkk;by_cases h0:len*P.cellsOf E'=0
   ·rw[h0]at hkk;have hlen0:¬(16777216<len*P.cellsOf E'):=by omega
    have hz0:len=0:=by
     rcases Nat.mul_eq_zero.1 h0 with h|h
     ·exact h
     ·omega
    subst hz0;have hm0:(Array.map (fun x=>zv.cells[x % zv.cells.size]!) (Array.range 0))= #[]:=by simp
    rw[hm0]at hkk;simp[ho,Instr.buildSlice,run_underlying (zAw hT),zBd hc,newRow,Array.range_zero',hkk]
   ·have hlen0:¬(16777216<len*P.cellsOf E'):=by omega
    simp[ho,Instr.buildSlice,run_underlying (zAw hT),zBd hc,h0,hlen0,hkk,newRow,zeroValue,typeInfo,hi,hzz]
theorem xUa(hr:Rel E s a w η){fid:Nat}{T:Nat}{l c:Operand}(ho:o.op= .makeSlice T l c){q:Stp}(h:ySq P fid T (s.ev l) (s.ev c)=some q)(hs:q.side)(hf:¬s.kn fid):Done P E s a w o q.e:=by
 have hl:=zAi hr l
 have hcc:=zAi hr c
 generalize s.ev l=L at *
 generalize s.ev c=C at *
 unfold ySq at h
 split at h
 ·cases h
 ·rename_i E' hT;split at h
  ·rename_i z k n k' m hz;cases h
   obtain⟨i,zv,hi,hzz,rfl⟩:=yPh hz;obtain⟨hc,hzs,hzsc,h0,h1,h2,h3⟩:=hs;have hzr:=zUn (c:=s.ctx E w η) rfl zv;have hzsize:zv.cells.size=P.cellsOf E':=by rw[zNp hzr hzsc];exact hzs
   have hisz:i.size=P.cellsOf E':=by simp[Program.cellsOf,hi]
   have hib:i.bytes=P.bytesOf E':=by simp[Program.bytesOf,hi]
   have hzone:=(zPh hzr (hzsc.symm)).2;simp only[RV]at hl hcc;have hrun:=run_make (P:=P) w T E' i zv (zAw hT) hi hzz k k' n m h0 h1 (by rw[hib];omega) (by omega)
   have hfr:=zMl zv _ hzsize hc m.toNat
   rw[hisz]at hrun;have hrow:(w.alloc (.cells (madeCells zv.cells (m.toNat*P.cellsOf E')) E')).ownsRow 0 E' (P.cellsOf E') (.slice (some ⟨w.heap.size,0,none⟩) n.toNat m.toNat) n.toNat (flat (List.replicate n.toNat zv)):=by
    refine⟨?_,.inr ⟨w.heap.size,m.toNat,_,rfl,Nat.zero_le _,heap_alloc_new w _,by omega,by unfold maxLen;omega,size_madeCells _ _,?_⟩⟩
    ·rw[zBi (e:=P.cellsOf E') (fun u hu=>by rw[(List.mem_replicate.1 hu).2];exact hzsize)];simp
    ·rw[hfr];have:=zCn (e:=P.cellsOf E') (us:=List.replicate m.toNat zv) (fun u hu=>by rw[(List.mem_replicate.1 hu).2];exact hzsize) 0 n.toNat
     simp only[List.drop_zero,Nat.zero_mul]at this;rw[← this,List.take_replicate]
     congr 2;omega
   refine ySz hr hf hc (zJs hzr n.toNat) (fun u hu=>by rw[(List.mem_replicate.1 hu).2];exact hzsize) (fun y hy=>by
     obtain⟨u,hu,hyu⟩:=List.mem_flatMap.1 hy;rw[(List.mem_replicate.1 hu).2]at hyu;exact hzone y hyu) (by simp) (by omega) hrow ?_
   unfold execOp;simp only[ho,hl.1,hcc.1,Sem.run_bind,hrun,Result.andThen_ok,Sem.run_pure]
  ·cases h
theorem zWj{c:Ctx}{big:Bool}{l:List Operand}{y:V}{q:Array TypeId}{ρ:Operand→V}{σ:Operand→Value}(w:World)(T:TypeId)(hy:minV big (l.map ρ)=some y)(hr:RVl c (l.map ρ) (l.map σ)) :
  ∃v,((if big then Builtin.max_ else Builtin.min_) q T (l.map σ).toArray).run P w= .ok v w∧RV c y v:=by
 obtain⟨v,h,hv⟩:=yMy (P:=P) big w _ _ _ y rfl hy hr
 exact⟨v,by cases big<;>exact h,hv⟩
theorem yAn{hp:Heap}{e:Nat}{x:V}{ys:List V}{rd:List Nat}{p:Prop}(h:zRk hp e x=some (ys,rd,p))(hp':p) :
  (x= .nilS∧ys=[])∨(x= .nl∧ys=[])∨x= .sl e ys∨x= .sn e ys∨(∃id n ob,x= .obj id n∧hp id=some ob∧n=ob.xs.length∧e=ob.e∧ys=ob.xs)∨∃id n i k ob,x= .win id n i 0 k∧hp id=some ob∧n=ob.xs.length∧e=ob.e∧ob.k= .arr∧i+k≤n∧ys=(ob.xs.drop i).take k:=by
 unfold zRk at h
 split at h
 ·cases h;exact .inl ⟨rfl,rfl⟩
 ·cases h;exact .inr (.inl ⟨rfl,rfl⟩)
 ·cases h;subst hp';exact .inr (.inr (.inl rfl))
 ·cases h;subst hp';exact .inr (.inr (.inr (.inl rfl)))
 ·split at h
  ·rename_i ob hid;cases h;exact .inr (.inr (.inr (.inr (.inl ⟨_,_,ob,rfl,hid,hp'.1,hp'.2,rfl⟩))))
  ·cases h
 ·split at h
  ·rename_i ob hid;cases h
   obtain⟨h1,h2,h3,rfl,h5⟩:=hp';exact .inr (.inr (.inr (.inr (.inr ⟨_,_,_,_,ob,rfl,hid,h1,h2,h3,h5,rfl⟩))))
  ·cases h
 ·cases h
theorem zLd{c:Ctx}:∀(xs:List V) (us:List Value) (l:List UInt8),zRd xs=some l→RVl c xs us→∃ns:List Int,us=ns.map (Value.int .u8)∧ns.map (fun n=>UInt8.ofNat n.toNat)=l
 |[],us,l,h,hr=>by
  simp only[zRd,Option.some.injEq]at h;simp only[RVl]at hr;subst h;subst hr;exact⟨[],rfl,rfl⟩
 |x::xs,us,l,h,hr=>by
  simp only[RVl]at hr;obtain⟨u,r,rfl,h1,h2⟩:=hr;unfold zRd at h;split at h
  ·rename_i heq;cases heq
  ·rename_i n r' heq;cases heq
   obtain⟨l',hl',rfl⟩:=Option.map_eq_some_iff.1 h;obtain⟨ns,rfl,rfl⟩:=zLd xs r l' hl' h2;simp only[RV]at h1;rw[h1.1];exact⟨n::ns,rfl,rfl⟩
  ·cases h
theorem zWo:∀(ns:List Int) (s:ByteArray),ns.foldl (fun r n=>r.push (UInt8.ofNat n.toNat)) s=⟨s.data++(ns.map fun n=>UInt8.ofNat n.toNat).toArray⟩
 |[],s=>by simp
 |n::ns,s=>by
  rw[List.foldl_cons,zWo ns];simp[ByteArray.push]
theorem s_str(hr:Rel E s a w η){src dst E':TypeId}{x:Operand}(ho:o.op= .convert src dst x)(h1:P.underlying src=some (.slice E'))(h2:P.underlying dst=some .string){q:Stp}(hp:strS P s.hp E' (s.ev x)=some q)(hs:q.side):Done P E s a w o q.e:=by
 unfold strS at hp
 split at hp
 ·rename_i xs rd p hE hsrc;obtain⟨l,hl,rfl⟩:=Option.map_eq_some_iff.1 hp;obtain⟨ao,c,us,hv,hus,hsz,hone,hnone,hcell⟩:=zNt hr (zAi hr x) (yAn hsrc hs);obtain⟨ns,rfl,rfl⟩:=zLd xs us l hl hus;have hlen:=zAp hus;have hflat:flat (ns.map (Value.int .u8))=ns.map (Value.int .u8):=zEq fun x hx=>by
   obtain⟨n,_,rfl⟩:=List.mem_map.1 hx;rfl
  have hrun:(convert src dst (.slice ao xs.length c)).run P w= .ok (.string ⟨(ns.map fun n=>UInt8.ofNat n.toNat).toArray⟩) w:=by
   rw[run_convert_bytes_string w src dst E' ao _ c h1 hE h2];cases ao with
   |none=>
    have h0:=hnone rfl;have:ns=[]:=List.eq_nil_of_length_eq_zero (by simpa[h0] using hlen)
    subst this;simp[Conv.bytesToString];rfl
   |some ad=>
    have hc2:=run_loadCells_list (P:=P) w ad (ns.map (Value.int .u8)) (fun j v hj=>hcell ad rfl j v (by rw[hflat];exact hj))
    rw[List.length_map,show ns.length=xs.length by simpa using hlen]at hc2
    rw[run_bytesToString w ad _ c ns hc2,zWo];simp[ByteArray.empty,ByteArray.emptyWithCapacity];rfl
  exact Done.val hr (v:= .string ⟨(ns.map fun n=>UInt8.ofNat n.toNat).toArray⟩) (by simp only[RV]) (by unfold execOp;simp[ho,hv,hrun])
 ·cases hp
theorem xCk(hr:Rel E s a w η){T na E':Nat}{x:Operand}{lo hi:Option Operand}(ho:o.op= .slice T x lo hi none){id n i o':Nat}{ob:Obj}{l h:Int}{rd:List Nat}(hT:zIf P T=some (na,E'))(hx:s.ev x= .ptr id n i o')(hid:s.hp id=some ob)
  (hl:bnd 0 (lo.map s.ev)=some l) (hh:bnd na (hi.map s.ev)=some h) (hn:n=ob.xs.length) (hE:P.cellsOf E'=1) (h0:0≤l) (hln:l<na) (h1:l≤h) (h2:h≤na) (hna:na≤140737488355328) :
  Done P E s a w o ⟨.win id n i (o'+l.toNat) (h.toNat-l.toNat),[],rd⟩:=by
 obtain⟨hkm,b,hb,hv⟩:=zRy hr hx hid hn
 have hxx:=zAi hr x
 rw[hx]at hxx
 simp only[RV]at hxx
 obtain⟨_,_,hkn,hxx⟩:=hxx
 simp only[FSt.ctx,hid]at hxx
 have hbd:=zFx (P:=P) (b:=false) (cap:=na) hr hl hh h0 h1 h2 (Nat.le_refl _)
 refine Done.val hr (v:= .slice (some ⟨b,i*ob.e+(o'+l.toNat),none⟩) (h.toNat-l.toNat) (na-l.toNat)) ?_ ?_
 ·simp only[RV,FSt.ctx,hid];exact⟨⟨_,_,_,rfl⟩,trivial,hkn,hkm,by omega,fun _=>⟨b,na-l.toNat,hb,rfl,by omega,by omega⟩⟩
 ·unfold execOp;have hne:¬na=l.toNat:=by omega
  have hadd:(⟨b,i*ob.e+o',none⟩:Addr).add l.toNat=⟨b,i*ob.e+(o'+l.toNat),none⟩:=by rw[Addr.add_mid,Nat.add_assoc]
  simp only[ho,hv,Option.map_none,Sem.run_bind];simp[Instr.sliceAt,run_underlying (zUx hT),Instr.sureAddr,hbd,zBd (show 0<P.cellsOf E' by omega),hE,hne,hadd]
theorem ySx(hr:Rel E s a w η){id i o':Nat}{ob:Obj}(hid:s.hp id=some ob)(hkm:ob.k≠ .map){b:Nat}(hb:blk (η id)=some b)(hi:i<ob.xs.length)(hk:ob.k≠ .ro){cs ys:List V}(hcs:ob.xs[i]?=some (.agg cs)){vs:List Value}(hys:RVl (s.ctx E w η) ys vs)(hone:∀v∈vs,v.oneCell'=true)(hoe:o'+vs.length≤cs.length) :
  (∀P':Program,(storeCells ⟨b,i*ob.e+o',none⟩ vs 0).run P' w= .ok () (w.setCells b (i*ob.e+o') vs)) ∧
  Rel E { s with hp:=fun j=>if j=id then some { ob with xs:=ob.xs.set i (.agg (cs.take o'++ys++cs.drop (o'+vs.length))) } else s.hp j,kn:=fun j=>j=id∨s.kn j } a (w.setCells b (i*ob.e+o') vs) (fun j=>if j=id then η id else η j):=by
 obtain⟨hpos,hkn,hlen,us,r1,r2,r3,r4⟩:=zCu hr hid hkm
 obtain⟨u,hu,hxu⟩:=zDa r1 i _ hcs
 have humem:=List.mem_of_getElem? hu
 simp only[RV]at hxu
 obtain⟨cv,rfl,hc1,hc2⟩:=hxu
 have hcl:=zAp hc1
 have huc:cv.size=ob.e:=r2 _ humem
 have hvl:=zAp hys
 have hcvl:cv.toList.length=cs.length:=hcl
 have hce:cs.length=ob.e:=by rw[← hcvl];simpa using huc
 let u':Value:= .agg (cv.toList.take o'++vs++cv.toList.drop (o'+vs.length)).toArray
 have hcells:u'.cells.toList=cv.toList.take o'++vs++cv.toList.drop (o'+vs.length):=by simp[u',Value.cells]
 have hu':RV (s.ctx E w η) (.agg (cs.take o'++ys++cs.drop (o'+vs.length))) u':=by
  simp only[RV];refine⟨_,rfl,?_,fun x hx=>?_⟩
  ·simp only;exact zCb (zCb (zEf _ hc1) hys) (zFp _ hc1)
  ·simp only[List.mem_append]at hx;rcases hx with (hx|hx)|hx
   ·exact hc2 x (List.mem_of_mem_take hx)
   ·exact hone x hx
   ·exact hc2 x (List.mem_of_mem_drop hx)
 rcases r4.2 with ⟨h0,h1⟩|⟨g,cap,cur,hη,hrest⟩
 ·omega
 ·have hbg:b=g:=by rw[hη]at hb;simp[blk]at hb;exact hb.symm
  subst hbg;have r4':=r4;rw[hη]at r4';have hthere:=zIt r4 hb i o' vs.length hi (by omega)
  have hrun:∀P':Program,(storeCells ⟨b,i*ob.e+o',none⟩ vs 0).run P' w= .ok () (w.setCells b (i*ob.e+o') vs):=fun P'=>by
   have:=run_storeCells_cells (P:=P') b (i*ob.e+o') vs 0 w (fun j hj=>by simpa using(hthere j (by simpa using hj)).1) (fun j hj=>by simpa using(hthere j (by simpa using hj)).2) hone
   simpa using this
  refine⟨hrun,?_⟩;have hulen:us.length=ob.xs.length:=zAp r1;have hie:(i+1)*ob.e≤ob.xs.length*ob.e:=Nat.mul_le_mul_right _ hi;rw[Nat.add_mul]at hie;have hfl:(flat us).length=ob.xs.length*ob.e:=by rw[zBi r2,hulen]
  obtain⟨q1,q2⟩:=zHa vs (i*ob.e+o') w (flat us) r4' (by omega)
  have hu'c:u'.cells.size=ob.e:=by
   have:=congrArg List.length hcells;simp only[Array.length_toList,List.length_append,List.length_take,List.length_drop]at this;rw[show cv.size=cv.toList.length from by simp]at this
   omega
  have hflat:(flat us).take (i*ob.e+o')++vs++(flat us).drop (i*ob.e+o'+vs.length)=flat (us.set i u'):=by
   rw[zLw r2 i (.agg cv) u' hu hu'c,hcells];have hsplit:flat us=(flat us).take (i*ob.e)++cv.toList++(flat us).drop (i*ob.e+ob.e):=by
    have:=zLw r2 i (.agg cv) (.agg cv) hu huc;have hself:us.set i (.agg cv)=us:=by
     apply List.ext_getElem?
     intro j;rw[List.getElem?_set];split
     ·rename_i hij;subst hij;have:=(List.getElem?_eq_some_iff.1 hu).1;simp[this,← hu]
     ·rfl
    rw[hself]at this;exact this
   have e1:(flat us).take (i*ob.e+o')=(flat us).take (i*ob.e)++cv.toList.take o':=by
    conv=>lhs;rw[hsplit]
    rw[List.append_assoc,List.take_append,List.take_of_length_le (by simp;omega)]
    simp only[List.length_take,hfl];rw[show min (i*ob.e) (ob.xs.length*ob.e)=i*ob.e by omega,Nat.add_sub_cancel_left]
    rw[List.take_append_of_le_length (by omega)]
   have e2:(flat us).drop (i*ob.e+o'+vs.length)=cv.toList.drop (o'+vs.length)++(flat us).drop (i*ob.e+ob.e):=by
    conv=>lhs;rw[hsplit]
    rw[List.append_assoc,List.drop_append,List.drop_of_length_le (by simp;omega)]
    simp only[List.length_take,hfl,List.nil_append];rw[show min (i*ob.e) (ob.xs.length*ob.e)=i*ob.e by omega,show i*ob.e+o'+vs.length-i*ob.e=o'+vs.length by omega]
    rw[List.drop_append_of_le_length (by omega)]
   rw[e1,e2];simp only[List.append_assoc]
  rw[hflat]at q1;exact hr.lay (w':=w.setCells b (i*ob.e+o') vs) id { ob with xs:=ob.xs.set i (.agg (cs.take o'++ys++cs.drop (o'+vs.length))) } (η id) (blk (η id)) (by rw[hb];exact q2)
   (.inr ⟨ob,hid,hk,rfl,rfl,by simp,fun _=>rfl⟩) hk hpos (by simpa using hlen) (fun b' hb'=> .inr hb') (fun hbx=>(hr.laid.obj id ob hid).box hbx) (us.set i u') (zVb r1 hu') (fun v hv=>by
    rcases List.mem_or_eq_of_mem_set hv with hv|hv
    ·exact r2 v hv
    ·rw[hv];exact hu'c) (fun y hy=>by
    obtain⟨v,hv,hyv⟩:=List.mem_flatMap.1 hy;rcases List.mem_or_eq_of_mem_set hv with hv|hv
    ·exact r3 y (zFh hv hyv)
    ·rw[hv,hcells]at hyv;simp only[List.mem_append]at hyv;rcases hyv with (hyv|hyv)|hyv
     ·exact hc2 y (List.mem_of_mem_take hyv)
     ·exact hone y hyv
     ·exact hc2 y (List.mem_of_mem_drop hyv)) (by simpa[hη] using q1) hkm (fun o2 h2 _ _=>by rw[hid]at h2;cases h2;exact hkm)
theorem yQs{c:Ctx}:∀ {xs:List V} {us:List Value},scs xs=true→RVl c xs us→∀u∈us,u.oneCell'=true
 |[],us,_,h=>by simp only[RVl]at h;subst h;simp
 |x::xs,us,hs,h=>by
  simp only[RVl]at h;obtain⟨u,r,rfl,h1,h2⟩:=h;simp only[scs,Bool.and_eq_true]at hs;intro v hv;rcases List.mem_cons.1 hv with rfl|hv
  ·exact yDr h1 hs.1
  ·exact yQs hs.2 h2 v hv
theorem zHk{e:Nat}{us:List Value}(h:∀u∈us,u.cells.size=e)(m:Nat):flat (us.take m)=(flat us).take (m*e):=by
 have:=zCn h 0 m
 simpa using this
theorem yTl{c:Ctx}{n:Nat}(h:n≤140737488355328):RV c (.int .i64 (n:Int)) (.int .i64 (n:Int)):=by
 simp only[RV,true_and,IntKind.has,IntKind.min,IntKind.max,IntKind.signed,IntKind.bits]
 constructor<;>simp<;>omega
theorem yEz(hr:Rel E s a w η){T E':Nat}{x:Operand}{lo hi:Option Operand}(ho:o.op= .slice T x lo hi none){id n:Nat}{ob:Obj}{l h:Int}{rd:List Nat}(hT:zAu P T=some E')(hx:s.ev x= .obj id n)(hid:s.hp id=some ob)(hka:ob.k= .arr)
  (hl:bnd 0 (lo.map s.ev)=some l) (hh:bnd ob.xs.length (hi.map s.ev)=some h) (hn:n=ob.xs.length) (he:ob.e=P.cellsOf E') (hpos:0<ob.e) (h0:0≤l) (hln:l<n) (h1:l≤h) (h2:h≤n) :
  Done P E s a w o ⟨.win id n l.toNat 0 (h.toNat-l.toNat),[],rd⟩:=by
 have hxx:=zAi hr x
 rw[hx]at hxx
 simp only[RV]at hxx
 obtain⟨_,_,hkn,hxx⟩:=hxx
 simp only[FSt.ctx,hid]at hxx
 obtain⟨hkm,_,hv⟩:=hxx
 have hv:=hv hn
 obtain⟨_,_,hlen,us,r1,r2,r3,r4⟩:=zCu hr hid hkm
 rcases r4.2 with ⟨g0,g1⟩|⟨g,cap,cur,g3,_,_,g6,_⟩
 ·omega
 ·have hb:blk (η id)=some g:=by rw[g3];rfl
  rw[g3]at hv;have hbd:=zFx (P:=P) (b:=true) (cap:=cap) hr hl hh h0 h1 (by omega) (by omega)
  have hne:¬cap=l.toNat:=by omega
  have hadd:(⟨g,0,none⟩:Addr).add (l.toNat*P.cellsOf E')=⟨g,l.toNat*ob.e+0,none⟩:=by rw[Addr.add_mid,he,Nat.add_comm]
  refine Done.val hr (v:= .slice (some ⟨g,l.toNat*ob.e+0,none⟩) (h.toNat-l.toNat) (cap-l.toNat)) ?_ ?_
  ·simp only[RV,FSt.ctx,hid];exact⟨⟨_,_,_,rfl⟩,trivial,hkn,hkm,by omega,fun _=>⟨g,cap-l.toNat,hb,rfl,by omega,by omega⟩⟩
  ·unfold execOp;simp only[ho,hv,Option.map_none,Sem.run_bind,zFd (zAw hT)];simp[Instr.slice,run_underlying (zAw hT),hbd,zBd (show 0<P.cellsOf E' by omega),hne,hadd]
theorem yEw(hr:Rel E s a w η){T E':Nat}{x:Operand}{lo hi:Option Operand}(ho:o.op= .slice T x lo hi none){id n i o' k:Nat}{ob:Obj}{l h:Int}{rd:List Nat}(hT:zAu P T=some E')(hx:s.ev x= .win id n i o' k)(hid:s.hp id=some ob)(hka:ob.k= .arr)
  (hl:bnd 0 (lo.map s.ev)=some l) (hh:bnd k (hi.map s.ev)=some h) (hn:n=ob.xs.length) (he:ob.e=P.cellsOf E') (hpos:0<ob.e) (h0:0≤l) (hln:l<k) (h1:l≤h) (h2:h≤k) :
  Done P E s a w o ⟨.win id n (i+l.toNat) o' (h.toNat-l.toNat),[],rd⟩:=by
 have hxx:=zAi hr x
 rw[hx]at hxx
 simp only[RV]at hxx
 obtain⟨_,_,hkn,hxx⟩:=hxx
 simp only[FSt.ctx,hid]at hxx
 obtain⟨hkm,hnl,hv⟩:=hxx
 obtain⟨g,cap,hb,hv,hkc,hkl⟩:=hv hn
 have hbd:=zFx (P:=P) (b:=true) (cap:=cap) hr hl hh h0 h1 (by omega) (by omega)
 have hne:¬cap=l.toNat:=by omega
 have hadd:(⟨g,i*ob.e+o',none⟩:Addr).add (l.toNat*P.cellsOf E')=⟨g,(i+l.toNat)*ob.e+o',none⟩:=by
  rw[Addr.add_mid,he,Nat.add_mul,Nat.add_right_comm]
 refine Done.val hr (v:= .slice (some ⟨g,(i+l.toNat)*ob.e+o',none⟩) (h.toNat-l.toNat) (cap-l.toNat)) ?_ ?_
 ·simp only[RV,FSt.ctx,hid];exact⟨⟨_,_,_,rfl⟩,trivial,hkn,hkm,hnl,fun _=>⟨g,cap-l.toNat,hb,rfl,by omega,by omega⟩⟩
 ·unfold execOp;simp only[ho,hv,Option.map_none,Sem.run_bind,zFd (zAw hT)];simp[Instr.slice,run_underlying (zAw hT),hbd,zBd (show 0<P.cellsOf E' by omega),hne,hadd]
theorem yUm{e:Nat}{us:List Value}(h:∀u∈us,u.cells.size=e)(m:Nat):flat (us.drop m)=(flat us).drop (m*e):=by
 have:=zCn h m us.length
 rw[List.take_of_length_le (Nat.le_refl _),List.take_of_length_le (by rw[zBi h];exact Nat.le_refl _)]at this
 exact this
theorem yMc(hr:Rel E s a w η){T E':TypeId}{d x:Operand}(ho:o.op= .call { callee:= .builtin .copy,args:= #[d,x],argTypes:= #[T,T] })(hT:zAu P T=some E'){id n i o' k:Nat}{ob:Obj}(hd:s.ev d= .win id n i o' k)(hid:s.hp id=some ob)(hk:ob.k= .arr)
  {ys:List V} {rd:List Nat} {p:Prop} (hsrc:zRk s.hp (P.cellsOf E') (s.ev x)=some (ys,rd,p)) (hpp:p) (hE:0<P.cellsOf E') (he:ob.e=P.cellsOf E') (hn:n=ob.xs.length) (ho0:o'=0) (hik:i+k≤n) :
  Done P E s a w o ⟨.int .i64 (min k ys.length:Nat),[(id,{ ob with xs:=ob.xs.take i++ys.take (min k ys.length)++ob.xs.drop (i+min k ys.length) })],id::rd⟩:=by
 subst ho0
 obtain⟨ao,c,us,hv,hus,hsz,hone,hnone,hcell⟩:=zNt hr (zAi hr x) (yAn hsrc hpp)
 have hlen:=zAp hus
 have hdv:=zAi hr d
 rw[hd]at hdv
 simp only[RV]at hdv
 obtain⟨_,_,_,hdv⟩:=hdv
 simp only[FSt.ctx,hid]at hdv
 obtain⟨hkm,_,hdv⟩:=hdv
 obtain⟨g,cap,hb,hdv,hkc,hkl⟩:=hdv hn
 obtain⟨hpos,hkn,hol,vs,r1,r2,r3,r4⟩:=zCu hr hid hkm
 have hvl:=zAp r1
 have hmk:min k ys.length≤ys.length∧min k ys.length≤k:=by omega
 have hmin:Nat.min ys.length k=min k ys.length:=by
  show min ys.length k=min k ys.length
  omega
 generalize hm:min k ys.length=m at *
 have hmu:(us.take m).length=m:=by rw[List.length_take];omega
 have hsz':∀u∈us.take m,u.cells.size=P.cellsOf E':=fun u hu=>hsz u (List.mem_of_mem_take hu)
 have hfl:(flat (us.take m)).length=m*P.cellsOf E':=by rw[zBi hsz',hmu]
 rcases r4.2 with ⟨h0,_⟩|⟨g2,cp,cur,h3,h5⟩
 ·rw[h0]at hb;cases hb
 have hb2:blk (η id)=some g2:=by rw[h3];rfl
 have hgg:g2=g:=by rw[hb]at hb2;exact(Option.some.inj hb2).symm
 subst hgg
 have r4':=r4
 rw[h3]at r4'
 have hfc:(Builtin.firstCells (P.cellsOf E') m (.slice ao ys.length c)).run P w= .ok (flat (us.take m)).toArray w:=by
  cases ao with
  |none=>
   have h0:=hnone rfl;have:m=0:=by omega
   subst this;simp[Builtin.firstCells,flat]
  |some ad=>
   have:=run_loadCells_list (P:=P) w ad (flat (us.take m)) (fun j v hj=>hcell ad rfl j v (by
    rw[zHk hsz,List.getElem?_take]at hj;split at hj
    ·exact hj
    ·cases hj))
   rw[hfl]at this;simp[Builtin.firstCells,this]
 have hfv:(flat vs).length=n*ob.e:=by rw[zBi r2,hvl,hn]
 have hle:i*ob.e+m*P.cellsOf E'≤n*ob.e:=by rw[← he,← Nat.add_mul];exact Nat.mul_le_mul_right _ (by omega)
 have hthere:∀j,j<(flat (us.take m)).length→(w.cell? ⟨g2,(i*ob.e+0)+0+j,none⟩).isSome=true∧w.frozen? ⟨g2,(i*ob.e+0)+0+j,none⟩=false:=fun j hj=>by
  have hje:j / ob.e<m:=by
   rw[hfl]at hj;exact Nat.div_lt_of_lt_mul (by rw[Nat.mul_comm,he];exact hj)
  have hjm:j % ob.e<ob.e:=Nat.mod_lt _ hpos;have:=zIt r4 hb (i+j / ob.e) (j % ob.e) 1 (by omega) (by omega)
  have hj2:=this 0 (by omega)
  have hjj:j / ob.e*ob.e+j % ob.e=j:=by rw[Nat.mul_comm];exact Nat.div_add_mod j ob.e
  have hpl:(i+j / ob.e)*ob.e+j % ob.e=i*ob.e+j:=by rw[Nat.add_mul];omega
  simpa[hpl] using hj2
 have honeu:∀v∈flat (us.take m),v.oneCell'=true:=fun v hv'=>hone v (by rw[zHk hsz]at hv';exact List.mem_of_mem_take hv')
 have hst:=run_storeCells_cells (P:=P) g2 (i*ob.e+0) (flat (us.take m)) 0 w (fun j hj=>(hthere j hj).1) (fun j hj=>(hthere j hj).2) honeu
 simp only[Nat.add_zero]at hst hdv
 obtain⟨q1,q2⟩:=zHa (flat (us.take m)) (i*ob.e) w (flat vs) r4' (by omega)
 have hflat:(flat vs).take (i*ob.e)++flat (us.take m)++(flat vs).drop (i*ob.e+(flat (us.take m)).length)=flat (vs.take i++us.take m++vs.drop (i+m)):=by
  rw[zCz,zCz,hfl,zHk r2,yUm r2,Nat.add_mul,he]
 rw[hflat]at q1
 have hlenx:(ob.xs.take i++ys.take m++ob.xs.drop (i+m)).length=ob.xs.length:=by simp only[List.length_append,List.length_take,List.length_drop];omega
 have L:=hr.lay (w':=w.setCells g2 (i*ob.e) (flat (us.take m))) id { ob with xs:=ob.xs.take i++ys.take m++ob.xs.drop (i+m) } (η id) (blk (η id)) (by rw[hb];exact q2)
  (.inr ⟨ob,hid,by rw[hk];simp,rfl,rfl,by rw[hlenx];exact Nat.le_refl _,fun _=>rfl⟩) (by rw[hk];simp) hpos (by rw[hlenx];exact hol) (fun b' hb'=> .inr hb') (fun hbx=>by rw[hk]at hbx;cases hbx) (vs.take i++us.take m++vs.drop (i+m)) (zCb (zCb (zEf i r1) (zEf m hus)) (zFp (i+m) r1)) (fun v hv'=>by
   simp only[List.mem_append]at hv';rcases hv' with (hv'|hv')|hv'
   ·exact r2 v (List.mem_of_mem_take hv')
   ·show v.cells.size=ob.e;rw[he];exact hsz' v hv'
   ·exact r2 v (List.mem_of_mem_drop hv')) (fun y hy=>by
   rw[zCz,zCz]at hy;simp only[List.mem_append]at hy;rcases hy with (hy|hy)|hy
   ·obtain⟨v,hv',hyv⟩:=List.mem_flatMap.1 hy;exact r3 y (zFh (List.mem_of_mem_take hv') hyv)
   ·exact honeu y hy
   ·obtain⟨v,hv',hyv⟩:=List.mem_flatMap.1 hy;exact r3 y (zFh (List.mem_of_mem_drop hv') hyv)) (by rw[h3];simpa only[hlenx] using q1) hkm (fun o2 h2 _ _=>by rw[hid]at h2;cases h2;exact hkm)
 have hrun:(execOp a.eval o).run P w= .ok (.value (.int .i64 (m:Int))) (w.setCells g2 (i*ob.e) (flat (us.take m))):=by
  unfold execOp;simp[ho,hdv,hv,resolve,invoke,builtin,Builtin.copy_,run_underlying (zAw hT),Builtin.lenOf,hmin,zBd hE,hfc,hst,goInt]
 have L2:=L.put o.dst (x:= .int .i64 (m:Int)) (v:= .int .i64 (m:Int)) (yTl (by omega))
 rw[← FSt.app_one s o.dst (.int .i64 (m:Int)) id _ (id::rd)]at L2
 exact⟨_,_,_,hrun,.inl ⟨_,rfl,L2⟩⟩
theorem xUb(hr:Rel E s a w η){T:TypeId}{d x:Operand}(ho:o.op= .call { callee:= .builtin .copy,args:= #[d,x],argTypes:= #[T,T] }){q:Stp}(hp:yYx P s.hp T (s.ev d) (s.ev x)=some q)(hs:q.side):Done P E s a w o q.e:=by
 unfold yYx at hp
 split at hp
 ·cases hp
 ·rename_i E' hT;split at hp
  ·rename_i id n i o' k hd;split at hp
   case h_2=>cases hp
   rename_i ob hid;split at hp
   ·rename_i hka;split at hp
    ·rename_i ys rd p hsrc;cases hp
     exact yMc hr ho hT hd hid hka hsrc hs.1 hs.2.1 hs.2.2.1 hs.2.2.2.1 hs.2.2.2.2.1 hs.2.2.2.2.2.1
    ·cases hp
   split at hp
   ·rename_i ys rd p hsrc;split at hp
    ·rename_i cs hcs;cases hp
     obtain⟨hpp,hE,hn,hi,hok,hk,hsc⟩:=hs;obtain⟨ao,c,us,hv,hus,hsz,_,hnone,hcell⟩:=zNt hr (zAi hr x) (yAn hsrc hpp);have hlen:=zAp hus;have hdv:=zAi hr d;rw[hd]at hdv;simp only[RV]at hdv;obtain⟨_,_,_,hdv⟩:=hdv;simp only[FSt.ctx,hid]at hdv;obtain⟨hkm,_,hdv⟩:=hdv;obtain⟨b,cap,hb,hdv,hkc,hkl⟩:=hdv hn;have hxi:ob.xs[i]?=some (.agg cs):=by
      rw[zKs]at hcs;rw[List.getElem?_eq_getElem hi];rw[List.getD_eq_getElem?_getD,List.getElem?_eq_getElem hi]at hcs;simpa using hcs
     have hone:=yQs hsc hus;have hfl:=zEq hone;have hmk:min k ys.length≤ys.length:=by omega
     have hmin:Nat.min ys.length k=min k ys.length:=by
      show min ys.length k=min k ys.length
      omega
     generalize hm:min k ys.length=m at *;have hmu:(us.take m).length=m:=by rw[List.length_take];omega
     have hfc:(Builtin.firstCells 1 m (.slice ao ys.length c)).run P w= .ok (us.take m).toArray w:=by
      cases ao with
      |none=>
       have h0:=hnone rfl;have:m=0:=by omega
       subst this;simp[Builtin.firstCells]
      |some ad=>
       have:=run_loadCells_list (P:=P) w ad (us.take m) (fun j v hj=>hcell ad rfl j v (by
        rw[hfl];rw[List.getElem?_take]at hj;split at hj
        ·exact hj
        ·cases hj))
       rw[hmu]at this;simp[Builtin.firstCells,this]
     obtain⟨hst,L⟩:=ySx hr hid hkm hb hi hk (o':=o') hxi (zEf m hus) (fun v hv'=>hone v (List.mem_of_mem_take hv')) (by rw[hmu];omega)
     rw[hmu]at L;have hrun:(execOp a.eval o).run P w= .ok (.value (.int .i64 (m:Int))) (w.setCells b (i*ob.e+o') (us.take m)):=by
      unfold execOp;simp[ho,hdv,hv,resolve,invoke,builtin,Builtin.copy_,run_underlying (zAw hT),Builtin.lenOf,hmin,zBd (show 0<P.cellsOf E' by omega),hE,hfc,hst P,goInt]
     have L2:=L.put o.dst (x:= .int .i64 (m:Int)) (v:= .int .i64 (m:Int)) (yTl (by omega))
     rw[← FSt.app_one s o.dst (.int .i64 (m:Int)) id _ (id::rd)]at L2;exact⟨_,_,_,hrun,.inl ⟨_,rfl,L2⟩⟩
    ·cases hp
   ·cases hp
  ·rename_i id n hd;split at hp
   ·rename_i ob ys rd p hid hsrc;cases hp
    obtain⟨hpp,hE,he,hn,hn0,hk⟩:=hs;obtain⟨ao,c,us,hv,hus,hsz,hone,hnone,hcell⟩:=zNt hr (zAi hr x) (yAn hsrc hpp);have hlen:=zAp hus;have hdv:=zAi hr d;rw[hd]at hdv;simp only[RV]at hdv;obtain⟨_,_,_,hdv⟩:=hdv;simp only[FSt.ctx,hid]at hdv;obtain⟨hkm,_,hdv⟩:=hdv;have hη:=hdv hn;obtain⟨hpos,hkn,hol,vs,r1,r2,r3,r4⟩:=zCu hr hid hkm;have hvl:=zAp r1;have hmk:min n ys.length≤ys.length∧min n ys.length≤n:=by omega
    have hmin:Nat.min ys.length n=min n ys.length:=by
     show min ys.length n=min n ys.length
     omega
    generalize hm:min n ys.length=m at *;have hmu:(us.take m).length=m:=by rw[List.length_take];omega
    have hsz':∀u∈us.take m,u.cells.size=P.cellsOf E':=fun u hu=>hsz u (List.mem_of_mem_take hu)
    have hfl:(flat (us.take m)).length=m*P.cellsOf E':=by rw[zBi hsz',hmu]
    rcases r4.2 with ⟨h0,h1⟩|⟨g,cp,cur,h3,h5⟩
    ·omega
    ·have hb:blk (η id)=some g:=by rw[h3];rfl
     have r4':=r4;rw[h3]at r4';have hdv2:a.eval d= .slice (some ⟨g,0,none⟩) n cp:=by rw[hη,h3,hn]
     have hfc:(Builtin.firstCells (P.cellsOf E') m (.slice ao ys.length c)).run P w= .ok (flat (us.take m)).toArray w:=by
      cases ao with
      |none=>
       have h0:=hnone rfl;have:m=0:=by omega
       subst this;simp[Builtin.firstCells,flat]
      |some ad=>
       have:=run_loadCells_list (P:=P) w ad (flat (us.take m)) (fun j v hj=>hcell ad rfl j v (by
        rw[zHk hsz,List.getElem?_take]at hj;split at hj
        ·exact hj
        ·cases hj))
       rw[hfl]at this;simp[Builtin.firstCells,this]
     have hfv:(flat vs).length=n*ob.e:=by rw[zBi r2,hvl,hn]
     have hle:m*P.cellsOf E'≤n*ob.e:=by rw[he];exact Nat.mul_le_mul_right _ hmk.2
     have hthere:∀j,j<(flat (us.take m)).length→(w.cell? ⟨g,0+0+j,none⟩).isSome=true∧w.frozen? ⟨g,0+0+j,none⟩=false:=fun j hj=>by
      have hje:j / ob.e<ob.xs.length:=by
       rw[hfl]at hj;rw[← hn];exact Nat.div_lt_of_lt_mul (by rw[Nat.mul_comm];omega)
      have hjm:j % ob.e<ob.e:=Nat.mod_lt _ hpos;have:=zIt r4 hb (j / ob.e) (j % ob.e) 1 hje (by omega)
      have hj2:=this 0 (by omega)
      have hjj:j / ob.e*ob.e+j % ob.e=j:=by rw[Nat.mul_comm];exact Nat.div_add_mod j ob.e
      simpa[hjj] using hj2
     have honeu:∀v∈flat (us.take m),v.oneCell'=true:=fun v hv'=>hone v (by rw[zHk hsz]at hv';exact List.mem_of_mem_take hv')
     have hst:=run_storeCells_cells (P:=P) g 0 (flat (us.take m)) 0 w (fun j hj=>(hthere j hj).1) (fun j hj=>(hthere j hj).2) honeu
     simp only[Nat.add_zero]at hst;obtain⟨q1,q2⟩:=zHa (flat (us.take m)) 0 w (flat vs) r4' (by omega)
     have hflat:(flat vs).take 0++flat (us.take m)++(flat vs).drop (0+(flat (us.take m)).length)=flat (us.take m++vs.drop m):=by
      rw[List.take_zero,List.nil_append,zCz,hfl,Nat.zero_add]
      congr 1
      have:=zCn r2 m vs.length;rw[List.take_of_length_le (Nat.le_refl _),List.take_of_length_le (by rw[zBi r2];exact Nat.le_refl _)]at this
      rw[this,he]
     rw[hflat]at q1;have hlenx:(ys.take m++ob.xs.drop m).length=ob.xs.length:=by rw[List.length_append,List.length_take,List.length_drop];omega
     have L:=hr.lay (w':=w.setCells g 0 (flat (us.take m))) id { ob with xs:=ys.take m++ob.xs.drop m } (η id) (blk (η id)) (by rw[hb];exact q2)
      (.inr ⟨ob,hid,by rw[hk];simp,rfl,rfl,by rw[hlenx];exact Nat.le_refl _,fun _=>rfl⟩) (by rw[hk];simp) hpos (by rw[hlenx];exact hol) (fun b' hb'=> .inr hb') (fun hbx=>by rw[hk]at hbx;cases hbx) (us.take m++vs.drop m) (zCb (zEf m hus) (zFp m r1)) (fun v hv'=>by
       rcases List.mem_append.1 hv' with hv'|hv'
       ·show v.cells.size=ob.e;rw[he];exact hsz' v hv'
       ·exact r2 v (List.mem_of_mem_drop hv')) (fun y hy=>by
       rw[zCz]at hy;rcases List.mem_append.1 hy with hy|hy
       ·exact honeu y hy
       ·obtain⟨v,hv',hyv⟩:=List.mem_flatMap.1 hy;exact r3 y (zFh (List.mem_of_mem_drop hv') hyv)) (by rw[h3];simpa only[hlenx] using q1) hkm (fun o2 h2 _ _=>by rw[hid]at h2;cases h2;exact hkm)
     have hrun:(execOp a.eval o).run P w= .ok (.value (.int .i64 (m:Int))) (w.setCells g 0 (flat (us.take m))):=by
      unfold execOp;simp[ho,hdv2,hv,resolve,invoke,builtin,Builtin.copy_,run_underlying (zAw hT),Builtin.lenOf,hmin,zBd hE,hfc,hst,goInt]
     have L2:=L.put o.dst (x:= .int .i64 (m:Int)) (v:= .int .i64 (m:Int)) (yTl (by omega))
     rw[← FSt.app_one s o.dst (.int .i64 (m:Int)) id _ (id::rd)]at L2;exact⟨_,_,_,hrun,.inl ⟨_,rfl,L2⟩⟩
   ·cases hp
  ·cases hp
theorem yGh(hr:Rel E s a w η){fid:Nat}{t:Stp}(h:zOq P s.ev s.hp fid o=some t)(hs:t.side)(hf:fid∈t.e.ids→¬s.kn fid):Done P E s a w o t.e:=by
 unfold zOq at h
 split at h
 ·rename_i x ho;split at h
  ·cases h
  ·simp only[just,Option.some.injEq]at h;subst h;exact xLw hr (.inl ho)
 ·rename_i x ho;split at h
  ·cases h
  ·simp only[just,Option.some.injEq]at h;subst h;exact xLw hr (.inr ho)
 ·rename_i c x y ho;split at h
  ·rename_i b hc;exact xTz hr ho hc h hs
  ·cases h
 ·rename_i T ho;obtain⟨z,hz,h⟩:=Option.bind_eq_some_iff.1 h;cases h
  exact xOd hr ho hz (hf (by simp[Eff.ids])) hs.2.2 hs.1 hs.2.1
 ·rename_i T x ho;cases h
  exact s_box hr ho (hf (by simp[Eff.ids])) hs.2.2 hs.1 hs.2.1
 ·rename_i T x ho;obtain⟨q,hq,rfl⟩:=Option.map_eq_some_iff.1 h;unfold ldS at hq;split at hq
  ·rename_i id n i o' hx;split at hq
   ·rename_i ob hid;obtain⟨v,hv,rfl⟩:=Option.map_eq_some_iff.1 hq;rw[zKs]at hv;exact yMa hr ho hx hid hv hs.1.1 hs.1.2 hs.2
   ·cases hq
  ·rename_i e xs i o' hx;obtain⟨v,hv,rfl⟩:=Option.map_eq_some_iff.1 hq;rw[zKs]at hv;exact yFb hr ho hx hv hs.1.1 hs.1.2 hs.2
  ·cases hq
 ·rename_i T p x ho;obtain⟨q,hq,rfl⟩:=Option.map_eq_some_iff.1 h;unfold stS at hq;split at hq
  ·rename_i id n i o' hp;split at hq
   ·rename_i ob hid;obtain⟨v,hv,rfl⟩:=Option.map_eq_some_iff.1 hq;rw[zKs]at hv;exact xOa hr ho hp hid hv hs.1.1 hs.1.2.1 hs.1.2.2.1 hs.1.2.2.2 hs.2
   ·cases hq
  ·cases hq
 ·rename_i x ho;split at h
  ·rename_i id n i o' hx;cases h
   exact zVh hr ho hx
  ·rename_i f l c hx;cases h
   exact zSv hr ho hx
  ·cases h
 ·rename_i op T x y T' ho;exact s_bin hr ho h hs
 ·rename_i op T x ho;exact s_un hr ho h
 ·rename_i src dst x ho;split at h
  ·rename_i k' k kk n h1 h2 hx;cases h
   exact xUc hr ho h1 h2 hx
  ·rename_i E' h1 h2;exact s_str hr ho h1 h2 h hs
  ·cases h
 ·rename_i fn f c ho;cases h
  exact yLz hr ho
 ·rename_i T x lo hi ho;unfold yIb at h;split at h
  ·rename_i st hx;split at h
   ·rename_i l m hl hm;cases h
    exact yEx hr ho hs.1 hx hl hm hs.2.1 hs.2.2.1 hs.2.2.2
   ·cases h
  ·rename_i e xs hx;split at h
   ·rename_i E' l m hT hl hm;cases h
    exact zVz hr ho hT (by rw[← hx];exact zAi hr x) hl hm hs.1 hs.2.2.1 hs.2.2.2.1 hs.2.2.2.2 (by have:=hs.1;have:=hs.2.1;simp only at *;omega)
   ·cases h
  ·rename_i hx;split at h
   ·rename_i E' l m hT hl hm;cases h
    exact yEy hr ho hT hx hl hm hs.2.1 hs.2.2 hs.1
   ·cases h
  ·rename_i id n i o' hx;split at h
   ·rename_i ob hid;split at h
    ·rename_i na E' hT;split at h
     ·rename_i l m hl hm;cases h
      exact xCk hr ho hT hx hid hl hm hs.1 hs.2.1 hs.2.2.1 hs.2.2.2.1 hs.2.2.2.2.1 hs.2.2.2.2.2.1 hs.2.2.2.2.2.2
     ·cases h
    ·cases h
   ·cases h
  ·rename_i id n hx;split at h
   ·rename_i ob hid;split at h
    ·rename_i E' l m hT hl hm;split at h
     ·rename_i hka;cases h
      exact yEz hr ho hT hx hid hka hl hm hs.1 hs.2.2.1 hs.2.2.2.1 hs.2.2.2.2.1 hs.2.2.2.2.2.1 hs.2.2.2.2.2.2.1 hs.2.2.2.2.2.2.2
     cases h
     exact zVz hr ho hT (RV_ro hr (by rw[← hx];exact zAi hr x) hid hs.1 hs.2.1) hl hm hs.2.2.1 hs.2.2.2.2.1 hs.2.2.2.2.2.1 hs.2.2.2.2.2.2 (by have:=hs.2.2.1;have:=hs.2.2.2.1;simp only at *;omega)
    ·cases h
   ·cases h
  ·rename_i id n i o' k hx;split at h
   ·rename_i ob hid;split at h
    ·rename_i E' l m hT hl hm;cases h
     exact yEw hr ho hT hx hid hs.2.1 hl hm hs.1 hs.2.2.1 hs.2.2.2.1 hs.2.2.2.2.1 hs.2.2.2.2.2.1 hs.2.2.2.2.2.2.1 hs.2.2.2.2.2.2.2
    ·cases h
   ·cases h
  ·cases h
 ·rename_i T x f ho;split at h
  ·rename_i off ft id n i o' hfl hx;cases h
   exact zSx hr ho hfl hs hx
  ·rename_i off ft e xs i o' hfl hx;cases h
   exact zRm hr ho hfl hs hx
  ·cases h
 ·rename_i T x f ho;split at h
  ·rename_i off ft hfl;split at h
   ·rename_i cs hx;obtain⟨v,hv,rfl⟩:=Option.map_eq_some_iff.1 h;exact xOb hr ho hfl hx hv hs
   ·cases h
  ·cases h
 ·rename_i T ps ho;exact xOc hr ho h
 ·rename_i T len ps ho;refine s_bsl hr ho h hs ?_;unfold bslS at h;split at h
  ·cases h
  ·split at h
   ·cases h
   ·obtain⟨xs,_,rfl⟩:=Option.map_eq_some_iff.1 h;exact hf (by simp[Eff.ids])
 ·rename_i T l c ho;refine xUa hr ho h hs ?_;unfold ySq at h;split at h
  ·cases h
  ·split at h
   ·cases h
    exact hf (by simp[Eff.ids])
   ·cases h
 ·rename_i T ho;obtain⟨⟨bk,K,E'⟩,hT,rfl⟩:=Option.map_eq_some_iff.1 h;exact yQw hr ho hT (hf (by simp[Eff.ids]))
 ·rename_i T x i ho;unfold xDw at h;split at h
  ·rename_i id hx;split at h
   ·rename_i ob hid;split at h
    ·rename_i bk K E' hT;obtain⟨z,hz,h⟩:=Option.bind_eq_some_iff.1 h;obtain⟨v,hv,rfl⟩:=Option.map_eq_some_iff.1 h;exact xCl hr ho hx hid hT hz hv hs
    ·cases h
   ·cases h
  ·cases h
 ·rename_i T x i y ho;unfold xDr at h;split at h
  ·rename_i id hx;split at h
   ·rename_i ob hid;split at h
    ·rename_i bk K E' hT;split at h
     ·cases h
     ·obtain⟨ys,hv,rfl⟩:=Option.map_eq_some_iff.1 h;exact yFa hr ho hx hid hT hv hs.1 hs.2
    ·cases h
   ·cases h
  ·cases h
 ·rename_i T x i ho;unfold idxS at h;split at h
  ·rename_i k j hi;split at h
   ·rename_i E' hT;split at h
    ·rename_i e xs hx;cases h
     exact yMb hr ho hi hT hx hs.1 hs.2.1 hs.2.2.1 hs.2.2.2
    ·rename_i id n hx;split at h
     ·rename_i ob hid;cases h
      exact yFd hr ho hi hT hx hid hs.1 hs.2.2.1 hs.2.2.2.1 hs.2.2.2.2
     ·cases h
    ·cases h
   ·split at h
    ·rename_i n E' hT;split at h
     ·rename_i e xs i' o' hx;cases h
      exact zRl hr ho hi hT hx hs.1 hs.2.1 hs.2.2
     ·rename_i id m i' o' hx;split at h
      ·rename_i ob hid;cases h
       exact zSw hr ho hi hT hx hid hs.1 hs.2.1 hs.2.2.1 hs.2.2.2
      ·cases h
     ·cases h
    ·cases h
  ·cases h
 ·rename_i x i ho;split at h
  ·rename_i vs hx;obtain⟨y,hy,h⟩:=Option.bind_eq_some_iff.1 h;cases h
   exact yQx hr ho hx hy
  ·cases h
 ·rename_i T x i ho;split at h
  ·rename_i st k n hx hi;cases h
   exact yFc hr ho hs.1 hx hi hs.2.1 hs.2.2
  ·rename_i cs k n hx hi;split at h
   ·rename_i na e hT;split at h
    ·rename_i v hR hv;cases h
     exact yFe hr ho hT hR hx hi hv hs.1 hs.2.1 hs.2.2
    ·cases h
   ·cases h
  ·cases h
 ·rename_i b args tys ho;split at h
  ·rename_i x T hargs htys;have ha:∃xo,args= #[xo]∧s.ev xo=x:=by
    cases args with|mk l=>
    match l,hargs with
    |[xo],hargs=>simp at hargs;exact⟨xo,rfl,hargs⟩
   obtain⟨xo,rfl,hxo⟩:=ha;have ht:tys= #[T]:=by cases tys with|mk l=>simp at htys;simp[htys]
   subst ht;obtain⟨q,hq,rfl⟩:=Option.map_eq_some_iff.1 h;rw[← hxo]at hq;simp only at hs;refine s_len (q:=q) hr ⟨_,ho,rfl⟩ hq hs.1 (fun b hb=>?_) (fun hne hne2=>?_) (fun i hi=>?_)
   ·have h2:=hs.2;rw[← hxo,hb]at h2;exact h2
   ·have h2:=hs.2;rw[← hxo]at h2;split at h2
    ·rename_i b hb;exact absurd hb (hne b)
    ·rename_i i hi;exact absurd hi (hne2 i)
    ·obtain⟨e,he⟩:=Option.isSome_iff_exists.1 h2;exact⟨e,zAw he⟩
   ·have h2:=hs.2;rw[← hxo,hi]at h2;obtain⟨⟨bk,K,E'⟩,hT⟩:=Option.isSome_iff_exists.1 h2;exact⟨K,E',(zLq hT).1⟩
  ·rename_i v1 v2 T T' hargs htys;split at h
   ·rename_i hTT;subst hTT;have ha:∃x1 x2,args= #[x1,x2]∧s.ev x1=v1∧s.ev x2=v2:=by
     cases args with|mk l=>
     match l,hargs with
     |[x1,x2],hargs=>simp at hargs;exact⟨x1,x2,rfl,hargs⟩
    obtain⟨x1,x2,rfl,h1,h2⟩:=ha;have ht:tys= #[T,T]:=by cases tys with|mk l=>simp at htys;simp[htys]
    subst ht;unfold appS at h;split at h
    ·cases h
    ·rename_i E' hT;split at h
     ·rename_i z ys rd p hz hsrc;have hxs:=fun hp=>yAn (x:=s.ev x2) (by rw[h2];exact hsrc) hp
      split at h
      ·cases h
       simp only at hs;exact(yIf hr (fid:=fid) ho hT ⟨z,hz,hs.2.2.1,hs.2.2.2.1⟩ hs.2.1 (hxs hs.1)).1 h1 (hf (by simp[Eff.ids])) hs.2.2.2.2.1 hs.2.2.2.2.2
      ·rename_i id n;split at h
       ·rename_i ob hid;cases h
        simp only at hs;exact(yIf hr (fid:=fid) ho hT ⟨z,hz,hs.2.2.1,hs.2.2.2.1⟩ hs.2.1 (hxs hs.1)).2 id n ob h1 hid hs.2.2.2.2.1 hs.2.2.2.2.2.1 hs.2.2.2.2.2.2.1 hs.2.2.2.2.2.2.2.1 hs.2.2.2.2.2.2.2.2.1 hs.2.2.2.2.2.2.2.2.2
       ·cases h
      ·cases h
     ·cases h
   ·cases h
  ·rename_i v1 v2 T T' hargs htys;split at h
   ·rename_i hTT;subst hTT;have ha:∃x1 x2,args= #[x1,x2]∧s.ev x1=v1∧s.ev x2=v2:=by
     cases args with|mk l=>
     match l,hargs with
     |[x1,x2],hargs=>simp at hargs;exact⟨x1,x2,rfl,hargs⟩
    obtain⟨x1,x2,rfl,rfl,rfl⟩:=ha;have ht:tys= #[T,T]:=by cases tys with|mk l=>simp at htys;simp[htys]
    subst ht;exact xUb hr ho h hs
   ·cases h
  ·rename_i xs _;obtain⟨y,hy,h⟩:=Option.bind_eq_some_iff.1 h;cases h
   obtain⟨v,hv,hyv⟩:=zWj (P:=P) (q:=tys) w o.type hy (zHp hr args.toList);refine Done.val hr hyv ?_;have:(List.map a.eval args.toList).toArray=args.map a.eval:=by cases args;simp
   rw[this]at hv;simp only[if_true]at hv;unfold execOp;simp[ho,resolve,invoke,builtin,hv]
  ·rename_i xs _;obtain⟨y,hy,h⟩:=Option.bind_eq_some_iff.1 h;cases h
   obtain⟨v,hv,hyv⟩:=zWj (P:=P) (q:=tys) w o.type hy (zHp hr args.toList);refine Done.val hr hyv ?_;have:(List.map a.eval args.toList).toArray=args.map a.eval:=by cases args;simp
   rw[this]at hv;simp only[Bool.false_eq_true,if_false]at hv;unfold execOp;simp[ho,resolve,invoke,builtin,hv]
  ·cases h
 ·cases h
end
end Go.AM
