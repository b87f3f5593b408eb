
/- What is known of handed-in bytes, plans, bonds, votes: their forms. -/
import Derived.Test.YtdeionjkcmpnpaaGreatDoorNetRead
import Derived.Test.YtdeionjkcmpnpaaGreatDoorRaw
set_option linter.unusedSimpArgs false
set_option linter.unusedVariables false
namespace Go.Proofs.YtdeionjkcmpnpaaGreatDoor
open Go.AM Go.RowKit
set_option maxRecDepth 100000

/-- A contract asks nothing where its arguments are none. -/
theorem fnD_wf {P : Program} {f : FuncId} {fn : Func} {args : List V} {res : V} {gl : Globs} (hf : P.funcs[f]? = some fn) (hb : fn.body.isSome = true) (hn : (fn.name == "runtime.NumGoroutine") = false) (h : wfs args → FnD P f args res gl) : FnD P f args res gl :=
  ⟨⟨fn, hf, hb, hn⟩, fun w O cargs hO hargs hgl => (h (RVl_wf _ _ hargs)).2 w O cargs hO hargs hgl⟩
section
variable {m : Nat}
theorem one_u8 {y : V} (h : one Tryz.prog (sh Tryz.prog (m + 1)) 5 y) : ∃ n, y = .int .u8 n := by
  simp only [one, isRowT, Tryz.underlying5, Option.map_some] at h
  obtain ⟨n, h⟩ := sh_u8 h
  exact ⟨n, by simpa using h⟩
def u8s (l : List Int) : List V := l.map fun n => .int .u8 n
theorem one_bytes {y : V} (h : one Tryz.prog (sh Tryz.prog (m + 2)) 27 y) : ∃ l, y = .sl 1 (u8s l) := by
  simp only [one, isRowT, Tryz.underlying27, Option.map_some] at h
  rw [sh] at h
  simp only [Tryz.underlying27, fcells5] at h
  obtain ⟨ys, hs, _, hy⟩ := h
  obtain ⟨l, rfl⟩ := list_of_all (fun n => V.int .u8 n) (fun y hy => one_u8 hy) hy
  exact ⟨l, by simpa [u8s] using hs⟩
theorem u8s_bts : ∀ {l : List Int}, wfs (u8s l) → u8s l = bts (l.map fun n => UInt8.ofNat n.toNat)
  | [], _ => rfl
  | n :: l, h => by
    simp only [u8s, List.map_cons, wfs] at h
    have ih := u8s_bts (l := l) h.2
    have h1 := h.1
    simp [go_sem] at h1
    have e : ((UInt8.ofNat n.toNat).toNat : Int) = n := by
      rw [UInt8.toNat_ofNat']
      omega
    simp only [u8s, bts, List.map_cons, e] at ih ⊢
    rw [ih]
theorem one_plns {y : V} (h : one Tryz.prog (sh Tryz.prog (m + 4)) 85 y) : ∃ l : List Pln, y = .sl 3 (l.map plnV) := by
  simp only [one, isRowT, Tryz.underlying85, Option.map_some] at h
  obtain ⟨l, h⟩ := sh_plns h
  exact ⟨l, by simpa using h⟩
theorem one_bonds {y : V} (h : one Tryz.prog (sh Tryz.prog (m + 3)) 43 y) : ∃ l : List (Bool × Int), y = .sl 2 (l.map fun b => .agg [.bool b.1, .int .i64 b.2]) := by
  simp only [one, isRowT, Tryz.underlying43, Option.map_some] at h
  rw [sh] at h
  simp only [Tryz.underlying43, fcells134] at h
  obtain ⟨ys, hs, _, hy⟩ := h
  obtain ⟨l, rfl⟩ := list_of_all (fun b : Bool × Int => V.agg [.bool b.1, .int .i64 b.2]) (fun y hy => by obtain ⟨b, k, e⟩ := one_bond hy; exact ⟨(b, k), e⟩) hy
  exact ⟨l, by simpa using hs⟩
theorem one_votes {y : V} (h : one Tryz.prog (sh Tryz.prog (m + 3)) 42 y) : ∃ l : List (Int × Int × Int), y = .sl 3 (l.map voteV) := by
  simp only [one, isRowT, Tryz.underlying42, Option.map_some] at h
  rw [sh] at h
  simp only [Tryz.underlying42, fcells62] at h
  obtain ⟨ys, hs, _, hy⟩ := h
  obtain ⟨l, rfl⟩ := list_of_all voteV (fun y hy => one_vote hy) hy
  exact ⟨l, by simpa using hs⟩
end
end Go.Proofs.YtdeionjkcmpnpaaGreatDoor
