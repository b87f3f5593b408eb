/- A slice that is nil, or is not. -/
import Derived.Test.YtlgbdpabcbcmcaaGreatDoorLNAmSimp
set_option linter.unusedSimpArgs false
set_option linter.unusedVariables false
namespace Go.AM
open Go.RowKit
theorem yIc{c:Ctx}{e:Nat}{xs:List V}{v:Value}(h:RV c (.sl e xs) v):(xs=[]∧RV c .nl v)∨RV c (.sn e xs) v:=by
 simp only[RV]at h ⊢
 obtain⟨a,cap,us,hv,h1,h2,h3,h4,h5,hm⟩:=h
 cases a with
 |none=>
  rcases hm with rfl|⟨b,off,h,_⟩
  ·exact .inl ⟨rfl,cap,by simpa using hv⟩
  ·cases h
 |some a=>exact .inr ⟨⟨a,_,_,hv⟩,some a,cap,us,hv,h1,h2,h3,h4,h5,hm⟩
theorem yUi{P:Program}{f:FuncId}{e:Nat}{xs:List V}{res:V}{gl:zCd}(h1:xs=[]→FnF P f [.nl] res gl)(h2:FnF P f [.sn e xs] res gl):FnF P f [.sl e xs] res gl:=by
 refine⟨h2.1,fun w O cargs hO hargs hgl=>?_⟩
 have key:(xs=[]∧RVl (dctx w O) [.nl] cargs.toList)∨RVl (dctx w O) [.sn e xs] cargs.toList:=by
  simp only[RVl]at hargs ⊢;obtain⟨u,r,hu,h3,h4⟩:=hargs;rcases yIc h3 with ⟨hx,h3⟩|h3
  ·exact .inl ⟨hx,u,r,hu,h3,h4⟩
  ·exact .inr ⟨u,r,hu,h3,h4⟩
 rcases key with ⟨hx,h⟩|h
 ·exact(h1 hx).2 w O cargs hO h hgl
 ·exact h2.2 w O cargs hO h hgl
theorem xMe{gl:zCd}{E:zBf}{a:Act}{w:World}{η:Nat→Value}{x y:V}(h:Rel E (inF [] [x] gl) a w η)(hxy:RV ((inF [] [x] gl).ctx E w η) x (a.tmps.getD 0 undef)→RV ((inF [] [x] gl).ctx E w η) y (a.tmps.getD 0 undef)):Rel E (inF [] [y] gl) a w η:=by
 refine⟨fun t=>?_,h.laid,h.since,h.fresh,h.tmps,⟨h.defers.fix,h.defers.marks⟩,⟨h.held.nb,h.held.at_⟩,h.glob,h.ghost⟩
 have h0:=h.slots t
 cases t with
 |zero=>exact hxy h0
 |succ t=>exact h0
theorem zJa{P:Program}{f:FuncId}{e:Nat}{xs:List V}{obs':List Obj}{res:V}{gl:zCd}(h1:xs=[]→FnR P f [] [.nl] obs' res gl)(h2:FnR P f [] [.sn e xs] obs' res gl):FnR P f [] [.sl e xs] obs' res gl:=by
 refine⟨h2.1,fun E cargs η q1 q2 q3 q4 q5 q6 hr=>?_⟩
 have h0:=hr.slots 0
 rcases yIc h0 with ⟨hx,h3⟩|h3
 ·exact(h1 hx).2 E cargs η q1 q2 q3 q4 q5 q6 (xMe hr fun _=>h3)
 ·exact h2.2 E cargs η q1 q2 q3 q4 q5 q6 (xMe hr fun _=>h3)
end Go.AM
