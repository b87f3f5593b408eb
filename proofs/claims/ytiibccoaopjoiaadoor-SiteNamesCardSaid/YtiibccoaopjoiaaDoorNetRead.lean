/- What is known of handed-in regions, sites, votes: their forms. -/
import Derived.Test.YtiibccoaopjoiaaDoorTied
import Derived.Test.YtiibccoaopjoiaaDoorCyc
set_option linter.unusedSimpArgs false
set_option linter.unusedVariables false
namespace Go.Proofs.YtiibccoaopjoiaaDoor
open Go.AM Go.RowKit
set_option maxRecDepth 100000

theorem list_of_all {α : Type} (f : α → V) {p : V → Prop} (hp : ∀ y, p y → ∃ x, y = f x) : ∀ {ys : List V}, (∀ y ∈ ys, p y) → ∃ l : List α, ys = l.map f
  | [], _ => ⟨[], rfl⟩
  | y :: ys, h => by
    obtain ⟨x, rfl⟩ := hp y (h y (by simp))
    obtain ⟨l, hl⟩ := list_of_all f hp (ys := ys) fun z hz => h z (by simp [hz])
    exact ⟨x :: l, by rw [hl]; rfl⟩

section
variable {m : Nat}
theorem sh_int {xs : List V} (h : sh Tryd.prog (m + 1) 3 xs) : ∃ n, xs = [.int .i64 n] := by
  simpa [sh, Tryd.underlying3, IntKind.signed] using h
theorem sh_i64 {xs : List V} (h : sh Tryd.prog (m + 1) 2 xs) : ∃ n, xs = [.int .i64 n] := by
  simpa [sh, Tryd.underlying2, IntKind.signed] using h
theorem sh_u8 {xs : List V} (h : sh Tryd.prog (m + 1) 5 xs) : ∃ n : Int, xs = [.int .u8 n] := by
  simp [sh, Tryd.underlying5, IntKind.signed] at h
  obtain ⟨n, h⟩ := h
  exact ⟨n, h⟩
theorem sh_u32 {xs : List V} (h : sh Tryd.prog (m + 1) 100 xs) : ∃ n : Nat, xs = [.int .u32 n] := by
  simpa [sh, Tryd.underlying100, IntKind.signed] using h
theorem sh_bool {xs : List V} (h : sh Tryd.prog (m + 1) 4 xs) : ∃ b, xs = [.bool b] := by
  simpa [sh, Tryd.underlying4] using h
theorem one_int {y : V} (h : one Tryd.prog (sh Tryd.prog (m + 1)) 3 y) : ∃ n, y = .int .i64 n := by
  simp only [one, isRowT, Tryd.underlying3, Option.map_some] at h
  obtain ⟨n, h⟩ := sh_int h
  exact ⟨n, by simpa using h⟩
theorem one_u32 {y : V} (h : one Tryd.prog (sh Tryd.prog (m + 1)) 100 y) : ∃ n : Nat, y = .int .u32 n := by
  simp only [one, isRowT, Tryd.underlying100, Option.map_some] at h
  obtain ⟨n, h⟩ := sh_u32 h
  exact ⟨n, by simpa using h⟩
theorem sh_ints {xs : List V} (h : sh Tryd.prog (m + 2) 44 xs) : ∃ l, xs = [.sl 1 (ints l)] := by
  rw [sh] at h
  simp only [Tryd.underlying44, fcells3] at h
  obtain ⟨ys, rfl, _, hy⟩ := h
  obtain ⟨l, rfl⟩ := list_of_all (fun n => V.int .i64 n) (fun y hy => one_int hy) hy
  exact ⟨l, rfl⟩
theorem sh_sets {xs : List V} (h : sh Tryd.prog (m + 2) 23 xs) : ∃ l, xs = [.sl 1 (sets l)] := by
  rw [sh] at h
  simp only [Tryd.underlying23, fcells100] at h
  obtain ⟨ys, rfl, _, hy⟩ := h
  obtain ⟨l, rfl⟩ := list_of_all (fun n : Nat => V.int .u32 n) (fun y hy => one_u32 hy) hy
  exact ⟨l, rfl⟩
theorem one_ints {y : V} (h : one Tryd.prog (sh Tryd.prog (m + 2)) 44 y) : ∃ l, y = .sl 1 (ints l) := by
  simp only [one, isRowT, Tryd.underlying44, Option.map_some] at h
  obtain ⟨n, h⟩ := sh_ints h
  exact ⟨n, by simpa using h⟩
theorem sh_rows {xs : List V} (h : sh Tryd.prog (m + 3) 24 xs) : ∃ l, xs = [.sl 1 (rows l)] := by
  rw [sh] at h
  simp only [Tryd.underlying24, fcells44] at h
  obtain ⟨ys, rfl, _, hy⟩ := h
  obtain ⟨l, rfl⟩ := list_of_all (fun r => V.sl 1 (ints r)) (fun y hy => one_ints hy) hy
  exact ⟨l, rfl⟩
theorem one_grp {y : V} (h : one Tryd.prog (sh Tryd.prog (m + 2)) 107 y) : ∃ g, y = grpV g := by
  simp only [one, isRowT, Tryd.underlying107, Option.map_some] at h
  obtain ⟨cs, rfl, h⟩ := h
  rw [sh] at h
  simp only [Tryd.underlying107, parts] at h
  obtain ⟨_, _, rfl, h1, _, _, rfl, h2, _, _, rfl, h3, rfl⟩ := h
  obtain ⟨a, rfl⟩ := sh_u8 h1
  obtain ⟨b, rfl⟩ := sh_int h2
  obtain ⟨c, rfl⟩ := sh_int h3
  exact ⟨⟨a, b, c⟩, rfl⟩
theorem sh_grps {xs : List V} (h : sh Tryd.prog (m + 3) 22 xs) : ∃ l : List Grp, xs = [.sl 3 (l.map grpV)] := by
  rw [sh] at h
  simp only [Tryd.underlying22, fcells107] at h
  obtain ⟨ys, rfl, _, hy⟩ := h
  obtain ⟨l, rfl⟩ := list_of_all grpV (fun y hy => one_grp hy) hy
  exact ⟨l, rfl⟩
theorem one_pha {y : V} (h : one Tryd.prog (sh Tryd.prog (m + 2)) 102 y) : ∃ g, y = phaV g := by
  simp only [one, isRowT, Tryd.underlying102, Option.map_some] at h
  obtain ⟨cs, rfl, h⟩ := h
  rw [sh] at h
  simp only [Tryd.underlying102, parts] at h
  obtain ⟨_, _, rfl, h1, _, _, rfl, h2, _, _, rfl, h3, _, _, rfl, h4, _, _, rfl, h5, rfl⟩ := h
  obtain ⟨a, rfl⟩ := sh_u32 h1
  obtain ⟨b, rfl⟩ := sh_int h2
  obtain ⟨c, rfl⟩ := sh_int h3
  obtain ⟨d, rfl⟩ := sh_int h4
  obtain ⟨e, rfl⟩ := sh_bool h5
  exact ⟨⟨a, b, c, d, e⟩, rfl⟩
theorem sh_phas {xs : List V} (h : sh Tryd.prog (m + 3) 25 xs) : ∃ l : List Pha, xs = [.sl 5 (l.map phaV)] := by
  rw [sh] at h
  simp only [Tryd.underlying25, fcells102] at h
  obtain ⟨ys, rfl, _, hy⟩ := h
  obtain ⟨l, rfl⟩ := list_of_all phaV (fun y hy => one_pha hy) hy
  exact ⟨l, rfl⟩
theorem one_eye {y : V} (h : one Tryd.prog (sh Tryd.prog (m + 2)) 129 y) : ∃ g, y = eyeV g := by
  simp only [one, isRowT, Tryd.underlying129, Option.map_some] at h
  obtain ⟨cs, rfl, h⟩ := h
  rw [sh] at h
  simp only [Tryd.underlying129, parts] at h
  obtain ⟨_, _, rfl, h1, _, _, rfl, h2, _, _, rfl, h3, _, _, rfl, h4, rfl⟩ := h
  obtain ⟨a, rfl⟩ := sh_int h1
  obtain ⟨b, rfl⟩ := sh_int h2
  obtain ⟨c, rfl⟩ := sh_int h3
  obtain ⟨d, rfl⟩ := sh_int h4
  exact ⟨⟨a, b, c, d⟩, rfl⟩
theorem sh_eyes {xs : List V} (h : sh Tryd.prog (m + 3) 26 xs) : ∃ l : List Eye, xs = [.sl 4 (l.map eyeV)] := by
  rw [sh] at h
  simp only [Tryd.underlying26, fcells129] at h
  obtain ⟨ys, rfl, _, hy⟩ := h
  obtain ⟨l, rfl⟩ := list_of_all eyeV (fun y hy => one_eye hy) hy
  exact ⟨l, rfl⟩
theorem one_pln {y : V} (h : one Tryd.prog (sh Tryd.prog (m + 3)) 46 y) : ∃ g, y = plnV g := by
  simp only [one, isRowT, Tryd.underlying46, Option.map_some] at h
  obtain ⟨cs, rfl, h⟩ := h
  rw [sh] at h
  simp only [Tryd.underlying46, parts] at h
  obtain ⟨_, _, rfl, h1, _, _, rfl, h2, _, _, rfl, h3, rfl⟩ := h
  obtain ⟨a, rfl⟩ := sh_int h1
  obtain ⟨b, rfl⟩ := sh_int h2
  obtain ⟨c, rfl⟩ := sh_ints h3
  exact ⟨⟨a, b, c⟩, rfl⟩
theorem sh_plns {xs : List V} (h : sh Tryd.prog (m + 4) 27 xs) : ∃ l : List Pln, xs = [.sl 3 (l.map plnV)] := by
  rw [sh] at h
  simp only [Tryd.underlying27, fcells46] at h
  obtain ⟨ys, rfl, _, hy⟩ := h
  obtain ⟨l, rfl⟩ := list_of_all plnV (fun y hy => one_pln hy) hy
  exact ⟨l, rfl⟩
theorem one_sit {y : V} (h : one Tryd.prog (sh Tryd.prog (m + 5)) 29 y) : ∃ s, y = sitV s := by
  simp only [one, isRowT, Tryd.underlying29, Option.map_some] at h
  obtain ⟨cs, rfl, h⟩ := h
  rw [sh] at h
  simp only [Tryd.underlying29, parts] at h
  obtain ⟨_, _, rfl, h1, _, _, rfl, h2, _, _, rfl, h3, _, _, rfl, h4, _, _, rfl, h5, _, _, rfl, h6, _, _, rfl, h7, _, _, rfl, h8, _, _, rfl, h9, _, _, rfl, h10, _, _, rfl, h11, _, _, rfl, h12, rfl⟩ := h
  obtain ⟨a1, rfl⟩ := sh_int h1
  obtain ⟨a2, rfl⟩ := sh_grps h2
  obtain ⟨a3, rfl⟩ := sh_sets h3
  obtain ⟨a4, rfl⟩ := sh_rows h4
  obtain ⟨a5, rfl⟩ := sh_phas h5
  obtain ⟨a6, rfl⟩ := sh_eyes h6
  obtain ⟨a7, rfl⟩ := sh_int h7
  obtain ⟨a8, rfl⟩ := sh_int h8
  obtain ⟨a9, rfl⟩ := sh_int h9
  obtain ⟨a10, rfl⟩ := sh_int h10
  obtain ⟨a11, rfl⟩ := sh_int h11
  obtain ⟨a12, rfl⟩ := sh_plns h12
  exact ⟨⟨a1, a2, a3, a4, a5, a6, a7, a8, a9, a10, a11, a12⟩, rfl⟩
theorem sh_sits {xs : List V} (h : sh Tryd.prog (m + 6) 81 xs) : ∃ l : List Sit, xs = [.sl 12 (l.map sitV)] := by
  rw [sh] at h
  simp only [Tryd.underlying81, fcells29] at h
  obtain ⟨ys, rfl, _, hy⟩ := h
  obtain ⟨l, rfl⟩ := list_of_all sitV (fun y hy => one_sit hy) hy
  exact ⟨l, rfl⟩
theorem one_sub {y : V} (h : one Tryd.prog (sh Tryd.prog (m + 3)) 125 y) : ∃ g, y = subV g := by
  simp only [one, isRowT, Tryd.underlying125, Option.map_some] at h
  obtain ⟨cs, rfl, h⟩ := h
  rw [sh] at h
  simp only [Tryd.underlying125, parts] at h
  obtain ⟨_, _, rfl, h1, _, _, rfl, h2, rfl⟩ := h
  obtain ⟨a, rfl⟩ := sh_ints h1
  obtain ⟨b, rfl⟩ := sh_int h2
  exact ⟨⟨a, b⟩, rfl⟩
theorem sh_subs {xs : List V} (h : sh Tryd.prog (m + 4) 82 xs) : ∃ l : List SubN, xs = [.sl 2 (l.map subV)] := by
  rw [sh] at h
  simp only [Tryd.underlying82, fcells125] at h
  obtain ⟨ys, rfl, _, hy⟩ := h
  obtain ⟨l, rfl⟩ := list_of_all subV (fun y hy => one_sub hy) hy
  exact ⟨l, rfl⟩
theorem one_wed {y : V} (h : one Tryd.prog (sh Tryd.prog (m + 3)) 116 y) : ∃ g, y = wedV g := by
  simp only [one, isRowT, Tryd.underlying116, Option.map_some] at h
  obtain ⟨cs, rfl, h⟩ := h
  rw [sh] at h
  simp only [Tryd.underlying116, parts] at h
  obtain ⟨_, _, rfl, h1, _, _, rfl, h2, _, _, rfl, h3, _, _, rfl, h4, rfl⟩ := h
  obtain ⟨a, rfl⟩ := sh_int h1
  obtain ⟨b, rfl⟩ := sh_int h2
  obtain ⟨c, rfl⟩ := sh_int h3
  obtain ⟨d, rfl⟩ := sh_ints h4
  exact ⟨⟨a, b, c, d⟩, rfl⟩
theorem sh_weds {xs : List V} (h : sh Tryd.prog (m + 4) 83 xs) : ∃ l : List WedN, xs = [.sl 4 (l.map wedV)] := by
  rw [sh] at h
  simp only [Tryd.underlying83, fcells116] at h
  obtain ⟨ys, rfl, _, hy⟩ := h
  obtain ⟨l, rfl⟩ := list_of_all wedV (fun y hy => one_wed hy) hy
  exact ⟨l, rfl⟩
theorem one_net {y : V} (h : one Tryd.prog (sh Tryd.prog (m + 7)) 85 y) : ∃ n, y = netV n := by
  simp only [one, isRowT, Tryd.underlying85, Option.map_some] at h
  obtain ⟨cs, rfl, h⟩ := h
  rw [sh] at h
  simp only [Tryd.underlying85, parts] at h
  obtain ⟨_, _, rfl, h1, _, _, rfl, h2, _, _, rfl, h3, _, _, rfl, h4, _, _, rfl, h5, _, _, rfl, h6, rfl⟩ := h
  obtain ⟨a1, rfl⟩ := sh_sits h1
  obtain ⟨a2, rfl⟩ := sh_subs h2
  obtain ⟨a3, rfl⟩ := sh_weds h3
  obtain ⟨a4, rfl⟩ := sh_int h4
  obtain ⟨a5, rfl⟩ := sh_int h5
  obtain ⟨a6, rfl⟩ := sh_int h6
  exact ⟨⟨a1, a2, a3, a4, a5, a6⟩, rfl⟩
theorem one_vote {y : V} (h : one Tryd.prog (sh Tryd.prog (m + 2)) 41 y) : ∃ v, y = voteV v := by
  simp only [one, isRowT, Tryd.underlying41, Option.map_some] at h
  obtain ⟨cs, rfl, h⟩ := h
  rw [sh] at h
  simp only [Tryd.underlying41, parts] at h
  obtain ⟨_, _, rfl, h1, _, _, rfl, h2, _, _, rfl, h3, rfl⟩ := h
  obtain ⟨a, rfl⟩ := sh_int h1
  obtain ⟨b, rfl⟩ := sh_int h2
  obtain ⟨c, rfl⟩ := sh_int h3
  exact ⟨(a, b, c), rfl⟩
theorem one_i64 {y : V} (h : one Tryd.prog (sh Tryd.prog (m + 1)) 2 y) : ∃ n, y = .int .i64 n := by
  simp only [one, isRowT, Tryd.underlying2, Option.map_some] at h
  obtain ⟨n, h⟩ := sh_i64 h
  exact ⟨n, by simpa using h⟩
theorem one_loads {y : V} (h : one Tryd.prog (sh Tryd.prog (m + 2)) 42 y) : ∃ l, y = .sl 1 (ints l) := by
  simp only [one, isRowT, Tryd.underlying42, Option.map_some] at h
  rw [sh] at h
  simp only [Tryd.underlying42, fcells2] at h
  obtain ⟨ys, hs, _, hy⟩ := h
  obtain ⟨l, rfl⟩ := list_of_all (fun n => V.int .i64 n) (fun y hy => one_i64 hy) hy
  exact ⟨l, by simpa [ints] using hs⟩
theorem one_bond {y : V} (h : one Tryd.prog (sh Tryd.prog (m + 2)) 110 y) : ∃ (b : Bool) (k : Int), y = .agg [.bool b, .int .i64 k] := by
  simp only [one, isRowT, Tryd.underlying110, Option.map_some] at h
  obtain ⟨cs, rfl, h⟩ := h
  rw [sh] at h
  simp only [Tryd.underlying110, parts] at h
  obtain ⟨_, _, rfl, h1, _, _, rfl, h2, rfl⟩ := h
  obtain ⟨a, rfl⟩ := sh_bool h1
  obtain ⟨b, rfl⟩ := sh_int h2
  exact ⟨a, b, rfl⟩
end
end Go.Proofs.YtiibccoaopjoiaaDoor
