
/- What is known of handed-in regions, sites, votes: their forms. -/
import Derived.Test.YtdeionjkcmpnpaaGreatDoorTied
import Derived.Test.YtdeionjkcmpnpaaGreatDoorCyc
set_option linter.unusedSimpArgs false
set_option linter.unusedVariables false
namespace Go.Proofs.YtdeionjkcmpnpaaGreatDoor
open Go.AM Go.RowKit
set_option maxRecDepth 100000

theorem list_of_all {α : Type} (f : α → V) {p : V → Prop} (hp : ∀ y, p y → ∃ x, y = f x) : ∀ {ys : List V}, (∀ y ∈ ys, p y) → ∃ l : List α, ys = l.map f
  | [], _ => ⟨[], rfl⟩
  | y :: ys, h => by
    obtain ⟨x, rfl⟩ := hp y (h y (by simp))
    obtain ⟨l, hl⟩ := list_of_all f hp (ys := ys) fun z hz => h z (by simp [hz])
    exact ⟨x :: l, by rw [hl]; rfl⟩

section
variable {m : Nat}
theorem sh_int {xs : List V} (h : sh Tryz.prog (m + 1) 3 xs) : ∃ n, xs = [.int .i64 n] := by
  simpa [sh, Tryz.underlying3, IntKind.signed] using h
theorem sh_i64 {xs : List V} (h : sh Tryz.prog (m + 1) 2 xs) : ∃ n, xs = [.int .i64 n] := by
  simpa [sh, Tryz.underlying2, IntKind.signed] using h
theorem sh_u8 {xs : List V} (h : sh Tryz.prog (m + 1) 5 xs) : ∃ n : Int, xs = [.int .u8 n] := by
  simp [sh, Tryz.underlying5, IntKind.signed] at h
  obtain ⟨n, h⟩ := h
  exact ⟨n, h⟩
theorem sh_u32 {xs : List V} (h : sh Tryz.prog (m + 1) 149 xs) : ∃ n : Nat, xs = [.int .u32 n] := by
  simpa [sh, Tryz.underlying149, IntKind.signed] using h
theorem sh_bool {xs : List V} (h : sh Tryz.prog (m + 1) 4 xs) : ∃ b, xs = [.bool b] := by
  simpa [sh, Tryz.underlying4] using h
theorem one_int {y : V} (h : one Tryz.prog (sh Tryz.prog (m + 1)) 3 y) : ∃ n, y = .int .i64 n := by
  simp only [one, isRowT, Tryz.underlying3, Option.map_some] at h
  obtain ⟨n, h⟩ := sh_int h
  exact ⟨n, by simpa using h⟩
theorem one_u32 {y : V} (h : one Tryz.prog (sh Tryz.prog (m + 1)) 149 y) : ∃ n : Nat, y = .int .u32 n := by
  simp only [one, isRowT, Tryz.underlying149, Option.map_some] at h
  obtain ⟨n, h⟩ := sh_u32 h
  exact ⟨n, by simpa using h⟩
theorem sh_ints {xs : List V} (h : sh Tryz.prog (m + 2) 52 xs) : ∃ l, xs = [.sl 1 (ints l)] := by
  rw [sh] at h
  simp only [Tryz.underlying52, fcells3] at h
  obtain ⟨ys, rfl, _, hy⟩ := h
  obtain ⟨l, rfl⟩ := list_of_all (fun n => V.int .i64 n) (fun y hy => one_int hy) hy
  exact ⟨l, rfl⟩
theorem sh_sets {xs : List V} (h : sh Tryz.prog (m + 2) 81 xs) : ∃ l, xs = [.sl 1 (sets l)] := by
  rw [sh] at h
  simp only [Tryz.underlying81, fcells149] at h
  obtain ⟨ys, rfl, _, hy⟩ := h
  obtain ⟨l, rfl⟩ := list_of_all (fun n : Nat => V.int .u32 n) (fun y hy => one_u32 hy) hy
  exact ⟨l, rfl⟩
theorem one_ints {y : V} (h : one Tryz.prog (sh Tryz.prog (m + 2)) 52 y) : ∃ l, y = .sl 1 (ints l) := by
  simp only [one, isRowT, Tryz.underlying52, Option.map_some] at h
  obtain ⟨n, h⟩ := sh_ints h
  exact ⟨n, by simpa using h⟩
theorem sh_rows {xs : List V} (h : sh Tryz.prog (m + 3) 82 xs) : ∃ l, xs = [.sl 1 (rows l)] := by
  rw [sh] at h
  simp only [Tryz.underlying82, fcells52] at h
  obtain ⟨ys, rfl, _, hy⟩ := h
  obtain ⟨l, rfl⟩ := list_of_all (fun r => V.sl 1 (ints r)) (fun y hy => one_ints hy) hy
  exact ⟨l, rfl⟩
theorem one_grp {y : V} (h : one Tryz.prog (sh Tryz.prog (m + 2)) 148 y) : ∃ g, y = grpV g := by
  simp only [one, isRowT, Tryz.underlying148, Option.map_some] at h
  obtain ⟨cs, rfl, h⟩ := h
  rw [sh] at h
  simp only [Tryz.underlying148, parts] at h
  obtain ⟨_, _, rfl, h1, _, _, rfl, h2, _, _, rfl, h3, rfl⟩ := h
  obtain ⟨a, rfl⟩ := sh_u8 h1
  obtain ⟨b, rfl⟩ := sh_int h2
  obtain ⟨c, rfl⟩ := sh_int h3
  exact ⟨⟨a, b, c⟩, rfl⟩
theorem sh_grps {xs : List V} (h : sh Tryz.prog (m + 3) 80 xs) : ∃ l : List Grp, xs = [.sl 3 (l.map grpV)] := by
  rw [sh] at h
  simp only [Tryz.underlying80, fcells148] at h
  obtain ⟨ys, rfl, _, hy⟩ := h
  obtain ⟨l, rfl⟩ := list_of_all grpV (fun y hy => one_grp hy) hy
  exact ⟨l, rfl⟩
theorem one_pha {y : V} (h : one Tryz.prog (sh Tryz.prog (m + 2)) 151 y) : ∃ g, y = phaV g := by
  simp only [one, isRowT, Tryz.underlying151, Option.map_some] at h
  obtain ⟨cs, rfl, h⟩ := h
  rw [sh] at h
  simp only [Tryz.underlying151, parts] at h
  obtain ⟨_, _, rfl, h1, _, _, rfl, h2, _, _, rfl, h3, _, _, rfl, h4, _, _, rfl, h5, rfl⟩ := h
  obtain ⟨a, rfl⟩ := sh_u32 h1
  obtain ⟨b, rfl⟩ := sh_int h2
  obtain ⟨c, rfl⟩ := sh_int h3
  obtain ⟨d, rfl⟩ := sh_int h4
  obtain ⟨e, rfl⟩ := sh_bool h5
  exact ⟨⟨a, b, c, d, e⟩, rfl⟩
theorem sh_phas {xs : List V} (h : sh Tryz.prog (m + 3) 83 xs) : ∃ l : List Pha, xs = [.sl 5 (l.map phaV)] := by
  rw [sh] at h
  simp only [Tryz.underlying83, fcells151] at h
  obtain ⟨ys, rfl, _, hy⟩ := h
  obtain ⟨l, rfl⟩ := list_of_all phaV (fun y hy => one_pha hy) hy
  exact ⟨l, rfl⟩
theorem one_eye {y : V} (h : one Tryz.prog (sh Tryz.prog (m + 2)) 154 y) : ∃ g, y = eyeV g := by
  simp only [one, isRowT, Tryz.underlying154, Option.map_some] at h
  obtain ⟨cs, rfl, h⟩ := h
  rw [sh] at h
  simp only [Tryz.underlying154, parts] at h
  obtain ⟨_, _, rfl, h1, _, _, rfl, h2, _, _, rfl, h3, _, _, rfl, h4, rfl⟩ := h
  obtain ⟨a, rfl⟩ := sh_int h1
  obtain ⟨b, rfl⟩ := sh_int h2
  obtain ⟨c, rfl⟩ := sh_int h3
  obtain ⟨d, rfl⟩ := sh_int h4
  exact ⟨⟨a, b, c, d⟩, rfl⟩
theorem sh_eyes {xs : List V} (h : sh Tryz.prog (m + 3) 84 xs) : ∃ l : List Eye, xs = [.sl 4 (l.map eyeV)] := by
  rw [sh] at h
  simp only [Tryz.underlying84, fcells154] at h
  obtain ⟨ys, rfl, _, hy⟩ := h
  obtain ⟨l, rfl⟩ := list_of_all eyeV (fun y hy => one_eye hy) hy
  exact ⟨l, rfl⟩
theorem one_pln {y : V} (h : one Tryz.prog (sh Tryz.prog (m + 3)) 89 y) : ∃ g, y = plnV g := by
  simp only [one, isRowT, Tryz.underlying89, Option.map_some] at h
  obtain ⟨cs, rfl, h⟩ := h
  rw [sh] at h
  simp only [Tryz.underlying89, parts] at h
  obtain ⟨_, _, rfl, h1, _, _, rfl, h2, _, _, rfl, h3, rfl⟩ := h
  obtain ⟨a, rfl⟩ := sh_int h1
  obtain ⟨b, rfl⟩ := sh_int h2
  obtain ⟨c, rfl⟩ := sh_ints h3
  exact ⟨⟨a, b, c⟩, rfl⟩
theorem sh_plns {xs : List V} (h : sh Tryz.prog (m + 4) 85 xs) : ∃ l : List Pln, xs = [.sl 3 (l.map plnV)] := by
  rw [sh] at h
  simp only [Tryz.underlying85, fcells89] at h
  obtain ⟨ys, rfl, _, hy⟩ := h
  obtain ⟨l, rfl⟩ := list_of_all plnV (fun y hy => one_pln hy) hy
  exact ⟨l, rfl⟩
theorem one_sit {y : V} (h : one Tryz.prog (sh Tryz.prog (m + 5)) 87 y) : ∃ s, y = sitV s := by
  simp only [one, isRowT, Tryz.underlying87, Option.map_some] at h
  obtain ⟨cs, rfl, h⟩ := h
  rw [sh] at h
  simp only [Tryz.underlying87, parts] at h
  obtain ⟨_, _, rfl, h1, _, _, rfl, h2, _, _, rfl, h3, _, _, rfl, h4, _, _, rfl, h5, _, _, rfl, h6, _, _, rfl, h7, _, _, rfl, h8, _, _, rfl, h9, _, _, rfl, h10, _, _, rfl, h11, _, _, rfl, h12, rfl⟩ := h
  obtain ⟨a1, rfl⟩ := sh_int h1
  obtain ⟨a2, rfl⟩ := sh_grps h2
  obtain ⟨a3, rfl⟩ := sh_sets h3
  obtain ⟨a4, rfl⟩ := sh_rows h4
  obtain ⟨a5, rfl⟩ := sh_phas h5
  obtain ⟨a6, rfl⟩ := sh_eyes h6
  obtain ⟨a7, rfl⟩ := sh_int h7
  obtain ⟨a8, rfl⟩ := sh_int h8
  obtain ⟨a9, rfl⟩ := sh_int h9
  obtain ⟨a10, rfl⟩ := sh_int h10
  obtain ⟨a11, rfl⟩ := sh_int h11
  obtain ⟨a12, rfl⟩ := sh_plns h12
  exact ⟨⟨a1, a2, a3, a4, a5, a6, a7, a8, a9, a10, a11, a12⟩, rfl⟩
theorem sh_sits {xs : List V} (h : sh Tryz.prog (m + 6) 22 xs) : ∃ l : List Sit, xs = [.sl 12 (l.map sitV)] := by
  rw [sh] at h
  simp only [Tryz.underlying22, fcells87] at h
  obtain ⟨ys, rfl, _, hy⟩ := h
  obtain ⟨l, rfl⟩ := list_of_all sitV (fun y hy => one_sit hy) hy
  exact ⟨l, rfl⟩
theorem one_sub {y : V} (h : one Tryz.prog (sh Tryz.prog (m + 3)) 95 y) : ∃ g, y = subV g := by
  simp only [one, isRowT, Tryz.underlying95, Option.map_some] at h
  obtain ⟨cs, rfl, h⟩ := h
  rw [sh] at h
  simp only [Tryz.underlying95, parts] at h
  obtain ⟨_, _, rfl, h1, _, _, rfl, h2, rfl⟩ := h
  obtain ⟨a, rfl⟩ := sh_ints h1
  obtain ⟨b, rfl⟩ := sh_int h2
  exact ⟨⟨a, b⟩, rfl⟩
theorem sh_subs {xs : List V} (h : sh Tryz.prog (m + 4) 23 xs) : ∃ l : List SubN, xs = [.sl 2 (l.map subV)] := by
  rw [sh] at h
  simp only [Tryz.underlying23, fcells95] at h
  obtain ⟨ys, rfl, _, hy⟩ := h
  obtain ⟨l, rfl⟩ := list_of_all subV (fun y hy => one_sub hy) hy
  exact ⟨l, rfl⟩
theorem one_wed {y : V} (h : one Tryz.prog (sh Tryz.prog (m + 3)) 97 y) : ∃ g, y = wedV g := by
  simp only [one, isRowT, Tryz.underlying97, Option.map_some] at h
  obtain ⟨cs, rfl, h⟩ := h
  rw [sh] at h
  simp only [Tryz.underlying97, parts] at h
  obtain ⟨_, _, rfl, h1, _, _, rfl, h2, _, _, rfl, h3, _, _, rfl, h4, rfl⟩ := h
  obtain ⟨a, rfl⟩ := sh_int h1
  obtain ⟨b, rfl⟩ := sh_int h2
  obtain ⟨c, rfl⟩ := sh_int h3
  obtain ⟨d, rfl⟩ := sh_ints h4
  exact ⟨⟨a, b, c, d⟩, rfl⟩
theorem sh_weds {xs : List V} (h : sh Tryz.prog (m + 4) 24 xs) : ∃ l : List WedN, xs = [.sl 4 (l.map wedV)] := by
  rw [sh] at h
  simp only [Tryz.underlying24, fcells97] at h
  obtain ⟨ys, rfl, _, hy⟩ := h
  obtain ⟨l, rfl⟩ := list_of_all wedV (fun y hy => one_wed hy) hy
  exact ⟨l, rfl⟩
theorem one_net {y : V} (h : one Tryz.prog (sh Tryz.prog (m + 7)) 26 y) : ∃ n, y = netV n := by
  simp only [one, isRowT, Tryz.underlying26, Option.map_some] at h
  obtain ⟨cs, rfl, h⟩ := h
  rw [sh] at h
  simp only [Tryz.underlying26, parts] at h
  obtain ⟨_, _, rfl, h1, _, _, rfl, h2, _, _, rfl, h3, _, _, rfl, h4, _, _, rfl, h5, _, _, rfl, h6, rfl⟩ := h
  obtain ⟨a1, rfl⟩ := sh_sits h1
  obtain ⟨a2, rfl⟩ := sh_subs h2
  obtain ⟨a3, rfl⟩ := sh_weds h3
  obtain ⟨a4, rfl⟩ := sh_int h4
  obtain ⟨a5, rfl⟩ := sh_int h5
  obtain ⟨a6, rfl⟩ := sh_int h6
  exact ⟨⟨a1, a2, a3, a4, a5, a6⟩, rfl⟩
theorem one_vote {y : V} (h : one Tryz.prog (sh Tryz.prog (m + 2)) 62 y) : ∃ v, y = voteV v := by
  simp only [one, isRowT, Tryz.underlying62, Option.map_some] at h
  obtain ⟨cs, rfl, h⟩ := h
  rw [sh] at h
  simp only [Tryz.underlying62, parts] at h
  obtain ⟨_, _, rfl, h1, _, _, rfl, h2, _, _, rfl, h3, rfl⟩ := h
  obtain ⟨a, rfl⟩ := sh_int h1
  obtain ⟨b, rfl⟩ := sh_int h2
  obtain ⟨c, rfl⟩ := sh_int h3
  exact ⟨(a, b, c), rfl⟩
theorem one_i64 {y : V} (h : one Tryz.prog (sh Tryz.prog (m + 1)) 2 y) : ∃ n, y = .int .i64 n := by
  simp only [one, isRowT, Tryz.underlying2, Option.map_some] at h
  obtain ⟨n, h⟩ := sh_i64 h
  exact ⟨n, by simpa using h⟩
theorem one_loads {y : V} (h : one Tryz.prog (sh Tryz.prog (m + 2)) 58 y) : ∃ l, y = .sl 1 (ints l) := by
  simp only [one, isRowT, Tryz.underlying58, Option.map_some] at h
  rw [sh] at h
  simp only [Tryz.underlying58, fcells2] at h
  obtain ⟨ys, hs, _, hy⟩ := h
  obtain ⟨l, rfl⟩ := list_of_all (fun n => V.int .i64 n) (fun y hy => one_i64 hy) hy
  exact ⟨l, by simpa [ints] using hs⟩
theorem one_bond {y : V} (h : one Tryz.prog (sh Tryz.prog (m + 2)) 134 y) : ∃ (b : Bool) (k : Int), y = .agg [.bool b, .int .i64 k] := by
  simp only [one, isRowT, Tryz.underlying134, Option.map_some] at h
  obtain ⟨cs, rfl, h⟩ := h
  rw [sh] at h
  simp only [Tryz.underlying134, parts] at h
  obtain ⟨_, _, rfl, h1, _, _, rfl, h2, rfl⟩ := h
  obtain ⟨a, rfl⟩ := sh_bool h1
  obtain ⟨b, rfl⟩ := sh_int h2
  exact ⟨a, b, rfl⟩
end
end Go.Proofs.YtdeionjkcmpnpaaGreatDoor
