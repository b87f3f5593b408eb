/- Numbers, plans and sites as bytes: the plain law that what is written is read again. -/
import Derived.Test.YtdeionjkcmpnpaaGreatDoorByt
import Derived.Test.YtdeionjkcmpnpaaGreatDoorSiteB
set_option linter.unusedSimpArgs false
set_option linter.unusedVariables false
namespace Go.Proofs.YtdeionjkcmpnpaaGreatDoor
open Go.AM Go.RowKit
set_option maxRecDepth 100000

/-! one number -/
theorem readK_small : ∀ (f m i n : Nat) (rest : List UInt8), i + f = 10 → m * 2 ^ (7 * i) < 18446744073709551616 → (0 < i → 1 ≤ m) →
    readK i n (smallF f m ++ rest) = some (n + m * 2 ^ (7 * i), i + (smallF f m).length)
  | 0, m, i, n, rest, hf, hm, h1 => by
    exfalso
    have hi : i = 10 := by omega
    subst hi
    have := h1 (by omega)
    have h2 : 1 * 2 ^ (7 * 10) ≤ m * 2 ^ (7 * 10) := Nat.mul_le_mul_right _ this
    have h3 : (18446744073709551616 : Nat) < 1 * 2 ^ (7 * 10) := by decide
    omega
  | f + 1, m, i, n, rest, hf, hm, h1 => by
    have h9 : ∀ x, x ≤ 127 → x = m → ¬ (i = 9 ∧ 1 < x) := by
      rintro x hx rfl ⟨hi, hx1⟩
      subst hi
      have h2 : 2 * 2 ^ (7 * 9) ≤ x * 2 ^ (7 * 9) := Nat.mul_le_mul_right _ (by omega)
      have h3 : (18446744073709551616 : Nat) ≤ 2 * 2 ^ (7 * 9) := by decide
      omega
    by_cases h : m ≤ 127
    · have e : smallF (f + 1) m = [UInt8.ofNat m] := smallF_end h
      have hu : (UInt8.ofNat m).toNat = m := by rw [UInt8.toNat_ofNat']; omega
      rw [e, List.singleton_append, readK, hu, if_neg (h9 m h rfl), if_pos (by omega), if_neg (by omega), show m % 128 = m by omega]
      rfl
    · have e : smallF (f + 1) m = UInt8.ofNat (m % 128 + 128) :: smallF f (m / 128) := by rw [smallF, if_neg h]
      have hu : (UInt8.ofNat (m % 128 + 128)).toNat = m % 128 + 128 := by rw [UInt8.toNat_ofNat']; omega
      have hi9 : i ≠ 9 := by
        intro hi
        subst hi
        have h2 : 128 * 2 ^ (7 * 9) ≤ m * 2 ^ (7 * 9) := Nat.mul_le_mul_right _ (by omega)
        have h3 : (18446744073709551616 : Nat) ≤ 128 * 2 ^ (7 * 9) := by decide
        omega
      have hp : 2 ^ (7 * (i + 1)) = 128 * 2 ^ (7 * i) := by rw [show 7 * (i + 1) = 7 * i + 7 by omega, Nat.pow_add]; omega
      have hmm : m / 128 * 2 ^ (7 * (i + 1)) ≤ m * 2 ^ (7 * i) := by
        rw [hp, ← Nat.mul_assoc]
        exact Nat.mul_le_mul_right _ (Nat.div_mul_le_self m 128)
      rw [e, List.cons_append, readK, hu, if_neg (fun h => hi9 h.1), if_neg (by omega), readK_small f (m / 128) (i + 1) _ rest (by omega) (by omega) (fun _ => by omega)]
      simp only [List.length_cons, Option.some.injEq, Prod.mk.injEq]
      refine ⟨?_, by omega⟩
      rw [hp, show (m % 128 + 128) % 128 = m % 128 by omega, ← Nat.mul_assoc, Nat.add_assoc, ← Nat.add_mul]
      congr 2
      omega
theorem readN_small {m : Nat} (rest : List UInt8) (h : m < 18446744073709551616) : readN (small m ++ rest) = some (m, (small m).length) := by
  have := readK_small 10 m 0 0 rest rfl (by simpa using h) (by omega)
  simpa [readN, small] using this
theorem readK_le : ∀ (l : List UInt8) (i n : Nat) {v k : Nat}, readK i n l = some (v, k) → i < k ∧ k ≤ i + l.length
  | [], i, n, v, k, h => by simp [readK] at h
  | x :: r, i, n, v, k, h => by
    unfold readK at h
    split at h
    · cases h
    · split at h
      · split at h
        · cases h
        · simp only [Option.some.injEq, Prod.mk.injEq] at h
          simp only [List.length_cons]
          omega
      · have := readK_le r (i + 1) _ h
        simp only [List.length_cons]
        omega
theorem readN_le {l : List UInt8} {v k : Nat} (h : readN l = some (v, k)) : 0 < k ∧ k ≤ l.length := by
  have := readK_le l 0 0 h
  omega

/-- Bytes that are read; was something wrong? -/
structure RdS where
  b : List UInt8
  bad : Bool
def oneF (s : RdS) (most : Int) : Int × RdS := match readN s.b with
  | some (n, k) => if (n : Int) ≤ most then ((n : Int), ⟨s.b.drop k, s.bad⟩) else (0, ⟨s.b, true⟩)
  | none => (0, ⟨s.b, true⟩)
theorem oneF_in (s : RdS) {most : Int} (hm : 0 ≤ most) : 0 ≤ (oneF s most).1 ∧ (oneF s most).1 ≤ most ∧ (oneF s most).2.b.length ≤ s.b.length := by
  unfold oneF
  split
  · split
    · exact ⟨by simp, by assumption, by simp⟩
    · exact ⟨by simp, hm, by simp⟩
  · exact ⟨by simp, hm, by simp⟩
/-- So many, one behind another. -/
def repF {α : Type} (f : RdS → α × RdS) : Nat → RdS → List α × RdS
  | 0, s => ([], s)
  | n + 1, s => ((f s).1 :: (repF f n (f s).2).1, (repF f n (f s).2).2)
theorem repF_snoc {α : Type} (f : RdS → α × RdS) : ∀ (n : Nat) (s : RdS), repF f (n + 1) s = ((repF f n s).1 ++ [(f (repF f n s).2).1], (f (repF f n s).2).2)
  | 0, s => rfl
  | n + 1, s => by
    rw [repF, repF_snoc f n (f s).2]
    rfl
theorem repF_len {α : Type} (f : RdS → α × RdS) : ∀ (n : Nat) (s : RdS), (repF f n s).1.length = n
  | 0, s => rfl
  | n + 1, s => by rw [repF, List.length_cons, repF_len f n]
/-- It stops where something is wrong. -/
def repQ {α : Type} (f : RdS → α × RdS) : Nat → RdS → List α × RdS
  | 0, s => ([], s)
  | n + 1, s => if s.bad then ([], s) else ((f s).1 :: (repQ f n (f s).2).1, (repQ f n (f s).2).2)

/-- These numbers are read as this. -/
def Rds {α : Type} (f : RdS → α × RdS) (e : List Int) (x : α) : Prop := ∀ rest, f ⟨putN e ++ rest, false⟩ = (x, ⟨rest, false⟩)
theorem Rds.one {x most : Int} (h : 0 ≤ x ∧ x ≤ most) (hm : most < 18446744073709551616) : Rds (fun s => oneF s most) [x] x := by
  intro rest
  obtain ⟨n, rfl⟩ := Int.eq_ofNat_of_zero_le h.1
  have hp : putN [(n : Int)] = small n := by simp [putN]
  rw [hp]
  unfold oneF
  simp only
  rw [readN_small rest (by omega)]
  simp only [if_pos h.2]
  rw [List.drop_left]
theorem Rds.app {α : Type} {f : RdS → α × RdS} {e : List Int} {x : α} (h : Rds f e x) (e' : List Int) (rest : List UInt8) : f ⟨putN (e ++ e') ++ rest, false⟩ = (x, ⟨putN e' ++ rest, false⟩) := by
  rw [putN_app, List.append_assoc]; exact h _
theorem Rds.cons {f : RdS → Int × RdS} {y : Int} (h : Rds f [y] y) (e' : List Int) (rest : List UInt8) : f ⟨putN (y :: e') ++ rest, false⟩ = (y, ⟨putN e' ++ rest, false⟩) := h.app e' rest
theorem Rds.rep {α : Type} {f : RdS → α × RdS} {e : α → List Int} : ∀ {xs : List α}, (∀ x ∈ xs, Rds f (e x) x) → Rds (repF f xs.length) (xs.flatMap e) xs
  | [], h => fun rest => rfl
  | x :: xs, h => fun rest => by
    have h1 := (h x (by simp)).app (xs.flatMap e) rest
    have h2 := Rds.rep (xs := xs) (fun y hy => h y (by simp [hy])) rest
    rw [List.flatMap_cons, List.length_cons, repF, h1, h2]
theorem Rds.rpq {α : Type} {f : RdS → α × RdS} {e : α → List Int} : ∀ {xs : List α}, (∀ x ∈ xs, Rds f (e x) x) → Rds (repQ f xs.length) (xs.flatMap e) xs
  | [], h => fun rest => rfl
  | x :: xs, h => fun rest => by
    have h1 := (h x (by simp)).app (xs.flatMap e) rest
    have h2 := Rds.rpq (xs := xs) (fun y hy => h y (by simp [hy])) rest
    rw [List.flatMap_cons, List.length_cons, repQ, if_neg (by simp), h1, h2]

/-! plans -/
def timesR (n : Nat) (s : RdS) : List Int × RdS := repF (fun s => oneF s 1048576) n s
def planR (s : RdS) : Pln × RdS :=
  let a := oneF s 1048576; let b := oneF a.2 1048576; let c := oneF b.2 8; let d := timesR c.1.toNat c.2
  (⟨a.1, b.1, d.1⟩, d.2)
def plansR (s : RdS) : List Pln × RdS := let n := oneF s 8; repF planR n.1.toNat n.2
def planI (p : Pln) : List Int := p.cycle :: p.offset :: (p.splits.length : Int) :: p.splits
def plansI (l : List Pln) : List Int := (l.length : Int) :: l.flatMap planI
/-- A plan that is written. -/
def PlnW (p : Pln) : Prop := (1 ≤ p.cycle ∧ p.cycle ≤ 1048576) ∧ (0 ≤ p.offset ∧ p.offset ≤ p.cycle - 1) ∧ (1 ≤ p.splits.length ∧ p.splits.length ≤ 8) ∧ ∀ x ∈ p.splits, 0 ≤ x ∧ x ≤ 1048576
theorem flatMap_one (l : List Int) : (l.flatMap fun x => [x]) = l := by induction l <;> simp_all
theorem times_rds {l : List Int} (h : ∀ x ∈ l, 0 ≤ x ∧ x ≤ 1048576) : Rds (timesR l.length) l l := by
  have := Rds.rep (f := fun s => oneF s 1048576) (e := fun x => [x]) (xs := l) fun x hx => Rds.one (h x hx) (by decide)
  rw [flatMap_one] at this
  exact this
theorem plan_rds {p : Pln} (h : PlnW p) : Rds planR (planI p) p := by
  intro rest
  obtain ⟨h1, h2, h3, h4⟩ := h
  have e1 := (Rds.one (x := p.cycle) (most := 1048576) (by omega) (by decide)).cons (p.offset :: (p.splits.length : Int) :: p.splits) rest
  have e2 := (Rds.one (x := p.offset) (most := 1048576) (by omega) (by decide)).cons ((p.splits.length : Int) :: p.splits) rest
  have e3 := (Rds.one (x := (p.splits.length : Int)) (most := 8) (by omega) (by decide)).cons p.splits rest
  have e4 := times_rds h4 rest
  simp only [planR, planI, e1, e2, e3, Int.toNat_natCast, e4]
theorem plans_rds {l : List Pln} (hl : l.length ≤ 8) (h : ∀ p ∈ l, PlnW p) : Rds plansR (plansI l) l := by
  intro rest
  have e1 := (Rds.one (x := (l.length : Int)) (most := 8) (by omega) (by decide)).cons (l.flatMap planI) rest
  have e2 := Rds.rep (f := planR) (e := planI) (xs := l) (fun p hp => plan_rds (h p hp)) rest
  simp only [plansR, plansI, e1, Int.toNat_natCast, e2]

/-! sites -/
def grpR (s : RdS) : Grp × RdS := let a := oneF s 255; let b := oneF a.2 1048576; let c := oneF b.2 1048576; (⟨a.1, b.1, c.1⟩, c.2)
def apR (s : RdS) : Nat × RdS := let a := oneF s 65536; (a.1.toNat, a.2)
def phaR (s : RdS) : Pha × RdS :=
  let a := oneF s 65536; let b := oneF a.2 1048576; let c := oneF b.2 1048576; let d := oneF c.2 1048576; let e := oneF d.2 1
  (⟨a.1.toNat, b.1, c.1, d.1, e.1 == 1⟩, e.2)
def eyeR (s : RdS) : Eye × RdS := let a := oneF s 8; let b := oneF a.2 1048576; let c := oneF b.2 1048576; let d := oneF c.2 64; (⟨a.1, b.1, c.1, d.1⟩, d.2)
/-! all that is read of a site but its plans, step by step -/
def rI (s : RdS) : Int × RdS := oneF s 65535
def rN (s : RdS) : Int × RdS := oneF (rI s).2 16
def rG (s : RdS) : List Grp × RdS := repF grpR (rN s).1.toNat (rN s).2
def rA (s : RdS) : List Nat × RdS := repF apR (rN s).1.toNat (rG s).2
def rB (s : RdS) : List (List Int) × RdS := repF (timesR (rN s).1.toNat) (rN s).1.toNat (rA s).2
def rMp (s : RdS) : Int × RdS := oneF (rB s).2 8
def rP (s : RdS) : List Pha × RdS := repF phaR (rMp s).1.toNat (rMp s).2
def rMe (s : RdS) : Int × RdS := oneF (rP s).2 24
def rE (s : RdS) : List Eye × RdS := repF eyeR (rMe s).1.toNat (rMe s).2
def rW (s : RdS) : Int × RdS := oneF (rE s).2 1048576
def rF (s : RdS) : Int × RdS := oneF (rW s).2 1048576
def rH (s : RdS) : Int × RdS := oneF (rF s).2 1048576
def rLo (s : RdS) : Int × RdS := oneF (rH s).2 1048576
def rHi (s : RdS) : Int × RdS := oneF (rLo s).2 1048576
def rSit (s : RdS) (l : List Pln) : Sit := ⟨(rI s).1, (rG s).1, (rA s).1, (rB s).1, (rP s).1, (rE s).1, (rW s).1, (rF s).1, (rH s).1, (rLo s).1, (rHi s).1, l⟩
def siteR (s : RdS) : Sit × RdS := (rSit s (plansR (rHi s).2).1, (plansR (rHi s).2).2)

def grpI (g : Grp) : List Int := [g.kind, g.min, g.yellow]
def b2i (b : Bool) : Int := if b then 1 else 0
def phaI (p : Pha) : List Int := [(p.set : Int), p.min, p.max, p.gap, b2i p.always]
def eyeI (e : Eye) : List Int := [e.phase, e.on, e.off, e.turns]
def tailI (s : Sit) : List Int := [s.watch, s.feed, s.heal, s.low, s.high]
/-- A site's numbers. -/
def siteI (s : Sit) : List Int :=
  s.id :: (s.groups.length : Int) :: (s.groups.flatMap grpI ++ ((s.apart.map fun (x : Nat) => (x : Int)) ++ (s.between.flatten ++ ((s.phases.length : Int) :: (s.phases.flatMap phaI ++ ((s.eyes.length : Int) :: (s.eyes.flatMap eyeI ++ (tailI s ++ plansI s.plans))))))))
/-- A site that is written. -/
structure SitW (s : Sit) : Prop where
  id : 0 ≤ s.id ∧ s.id ≤ 65535
  gl : s.groups.length ≤ 16
  gr : ∀ g ∈ s.groups, (0 ≤ g.kind ∧ g.kind ≤ 2) ∧ (0 ≤ g.min ∧ g.min ≤ 1048576) ∧ (0 ≤ g.yellow ∧ g.yellow ≤ 1048576)
  al : s.apart.length = s.groups.length
  ap : ∀ x ∈ s.apart, x ≤ 65536
  bl : s.between.length = s.groups.length
  bt : ∀ r ∈ s.between, r.length = s.groups.length ∧ ∀ x ∈ r, 0 ≤ x ∧ x ≤ 1048576
  pl : s.phases.length ≤ 8
  ph : ∀ p ∈ s.phases, p.set ≤ 65536 ∧ (0 ≤ p.min ∧ p.min ≤ 1048576) ∧ (0 ≤ p.max ∧ p.max ≤ 1048576) ∧ (0 ≤ p.gap ∧ p.gap ≤ 1048576)
  el : s.eyes.length ≤ 24
  ey : ∀ e ∈ s.eyes, (0 ≤ e.phase ∧ e.phase ≤ 8) ∧ (0 ≤ e.on ∧ e.on ≤ 1048576) ∧ (0 ≤ e.off ∧ e.off ≤ 1048576) ∧ (0 ≤ e.turns ∧ e.turns ≤ 64)
  tl : ∀ x ∈ tailI s, 0 ≤ x ∧ x ≤ 1048576
  ql : s.plans.length ≤ 8
  qp : ∀ p ∈ s.plans, PlnW p
theorem grp_rds {k : Int} {g : Grp} (hk : 2 ≤ k ∧ k ≤ 255) (h : (0 ≤ g.kind ∧ g.kind ≤ 2) ∧ (0 ≤ g.min ∧ g.min ≤ 1048576) ∧ (0 ≤ g.yellow ∧ g.yellow ≤ 1048576)) :
    Rds (fun s => let a := oneF s k; let b := oneF a.2 1048576; let c := oneF b.2 1048576; ((⟨a.1, b.1, c.1⟩ : Grp), c.2)) (grpI g) g := by
  intro rest
  have e1 := (Rds.one (x := g.kind) (most := k) (by omega) (by omega)).cons [g.min, g.yellow] rest
  have e2 := (Rds.one (x := g.min) (most := 1048576) (by omega) (by decide)).cons [g.yellow] rest
  have e3 := (Rds.one (x := g.yellow) (most := 1048576) (by omega) (by decide)) rest
  simp only [grpI, e1, e2, e3]
theorem ap_rds {x : Nat} (h : x ≤ 65536) : Rds apR [(x : Int)] x := by
  intro rest
  have e1 := (Rds.one (x := (x : Int)) (most := 65536) (by omega) (by omega)) rest
  simp only [apR, e1, Int.toNat_natCast]
theorem pha_rds {p : Pha} (h : p.set ≤ 65536 ∧ (0 ≤ p.min ∧ p.min ≤ 1048576) ∧ (0 ≤ p.max ∧ p.max ≤ 1048576) ∧ (0 ≤ p.gap ∧ p.gap ≤ 1048576)) : Rds phaR (phaI p) p := by
  intro rest
  have hb : 0 ≤ b2i p.always ∧ b2i p.always ≤ 1 := by unfold b2i; split <;> omega
  have e1 := (Rds.one (x := (p.set : Int)) (most := 65536) (by omega) (by omega)).cons [p.min, p.max, p.gap, b2i p.always] rest
  have e2 := (Rds.one (x := p.min) (most := 1048576) (by omega) (by decide)).cons [p.max, p.gap, b2i p.always] rest
  have e3 := (Rds.one (x := p.max) (most := 1048576) (by omega) (by decide)).cons [p.gap, b2i p.always] rest
  have e4 := (Rds.one (x := p.gap) (most := 1048576) (by omega) (by decide)).cons [b2i p.always] rest
  have e5 := (Rds.one (x := b2i p.always) (most := 1) hb (by decide)) rest
  simp only [phaR, phaI, e1, e2, e3, e4, e5, Int.toNat_natCast]
  have : (b2i p.always == 1) = p.always := by unfold b2i; cases p.always <;> rfl
  rw [this]
theorem eye_rds {e : Eye} (h : (0 ≤ e.phase ∧ e.phase ≤ 8) ∧ (0 ≤ e.on ∧ e.on ≤ 1048576) ∧ (0 ≤ e.off ∧ e.off ≤ 1048576) ∧ (0 ≤ e.turns ∧ e.turns ≤ 64)) : Rds eyeR (eyeI e) e := by
  intro rest
  have e1 := (Rds.one (x := e.phase) (most := 8) (by omega) (by omega)).cons [e.on, e.off, e.turns] rest
  have e2 := (Rds.one (x := e.on) (most := 1048576) (by omega) (by decide)).cons [e.off, e.turns] rest
  have e3 := (Rds.one (x := e.off) (most := 1048576) (by omega) (by decide)).cons [e.turns] rest
  have e4 := (Rds.one (x := e.turns) (most := 64) (by omega) (by decide)) rest
  simp only [eyeR, eyeI, e1, e2, e3, e4]
theorem aps_flat (l : List Nat) : (l.flatMap fun (x : Nat) => [(x : Int)]) = l.map fun (x : Nat) => (x : Int) := by induction l <;> simp_all
theorem betw_flat (l : List (List Int)) : (l.flatMap fun r => r) = l.flatten := by induction l <;> simp_all
theorem betw_rds {n : Nat} {l : List (List Int)} (hl : l.length = n) (h : ∀ r ∈ l, r.length = n ∧ ∀ x ∈ r, 0 ≤ x ∧ x ≤ 1048576) : Rds (repF (timesR n) n) l.flatten l := by
  have := Rds.rep (f := timesR n) (e := fun r => r) (xs := l) fun r hr => by
    obtain ⟨h1, h2⟩ := h r hr
    have := times_rds h2
    rw [h1] at this
    exact this
  rw [betw_flat, hl] at this
  exact this
theorem site_rds {s : Sit} (h : SitW s) : Rds siteR (siteI s) s := by
  intro rest
  obtain ⟨id, groups, apart, between, phases, eyes, watch, feed, heal, low, high, plans⟩ := s
  obtain ⟨h1, h2, h3, h4, h5, h6, h7, h8, h9, h10, h11, h12, h13, h14⟩ := h
  simp only [tailI, List.mem_cons, List.not_mem_nil, or_false, forall_eq_or_imp, forall_eq] at h1 h2 h3 h4 h5 h6 h7 h8 h9 h10 h11 h12 h13 h14
  obtain ⟨t1, t2, t3, t4, t5⟩ := h12
  have p := plans_rds h13 h14 rest
  have a1 := fun e => (Rds.one (x := id) (most := 65535) (by omega) (by decide)).cons e rest
  have a2 := fun e => (Rds.one (x := (groups.length : Int)) (most := 16) (by omega) (by decide)).cons e rest
  have a3 := fun e => (Rds.rep (f := grpR) (e := grpI) (xs := groups) (fun g hg => grp_rds (k := 255) (by omega) (h3 g hg))).app e rest
  have a4 := fun e => (Rds.rep (f := apR) (e := fun (x : Nat) => [(x : Int)]) (xs := apart) (fun g hg => ap_rds (h5 g hg))).app e rest
  simp only [aps_flat, h4] at a4
  have a5 := fun e => (betw_rds h6 h7).app e rest
  have a6 := fun e => (Rds.one (x := (phases.length : Int)) (most := 8) (by omega) (by decide)).cons e rest
  have a7 := fun e => (Rds.rep (f := phaR) (e := phaI) (xs := phases) (fun g hg => pha_rds (h9 g hg))).app e rest
  have a8 := fun e => (Rds.one (x := (eyes.length : Int)) (most := 24) (by omega) (by decide)).cons e rest
  have a9 := fun e => (Rds.rep (f := eyeR) (e := eyeI) (xs := eyes) (fun g hg => eye_rds (h11 g hg))).app e rest
  have b1 := fun e => (Rds.one (x := watch) (most := 1048576) t1 (by decide)).cons e rest
  have b2 := fun e => (Rds.one (x := feed) (most := 1048576) t2 (by decide)).cons e rest
  have b3 := fun e => (Rds.one (x := heal) (most := 1048576) t3 (by decide)).cons e rest
  have b4 := fun e => (Rds.one (x := low) (most := 1048576) t4 (by decide)).cons e rest
  have b5 := fun e => (Rds.one (x := high) (most := 1048576) t5 (by decide)).cons e rest
  simp only [siteI, siteR, rSit, rHi, rLo, rH, rF, rW, rE, rMe, rP, rMp, rB, rA, rG, rN, rI, tailI, a1, a2, a3, a4, a5, a6, a7, a8, a9, Int.toNat_natCast, List.cons_append, List.nil_append, b1, b2, b3, b4, b5, p]

/-! a site's bytes -/
def insideB (s : Sit) : List UInt8 := putN (siteI s)
def writeB (s : Sit) : List UInt8 := insideB s ++ sumB (insideB s)
theorem sumB_len (l : List UInt8) : (sumB l).length = 4 := putB_len _ _
theorem writeB_len (s : Sit) : (writeB s).length = (insideB s).length + 4 := by unfold writeB; rw [List.length_append, sumB_len]
theorem siteR_write {s : Sit} (h : SitW s) : siteR ⟨(writeB s).take ((writeB s).length - 4), false⟩ = (s, ⟨[], false⟩) := by
  have e : (writeB s).take ((writeB s).length - 4) = insideB s := by
    rw [writeB_len, Nat.add_sub_cancel]
    exact List.take_left ..
  rw [e]
  have := site_rds h []
  rw [List.append_nil] at this
  exact this
theorem write_sum (s : Sit) : sumB ((writeB s).take ((writeB s).length - 4)) = (writeB s).drop ((writeB s).length - 4) := by
  rw [writeB_len, Nat.add_sub_cancel]
  unfold writeB
  rw [List.take_left, List.drop_left]
/-! sites that may be are written -/
theorem leftK_le {s : Sit} {p : Pln} (hN : NeedsOk s) (hl : p.splits.length = s.phases.length) (h : ∀ i, i < p.splits.length → fitAt s p i) : ∀ i, i ≤ p.splits.length → leftK p i ≤ p.cycle
  | 0, _ => by simp [leftK]
  | i + 1, hi => by
    have ih := leftK_le hN hl h i (by omega)
    have hf := (h i (by omega)).1
    have hn := (hN i (by omega)).1
    have hi' : i < p.splits.length := by omega
    rw [leftK_succ p i hi']
    rw [show p.splits.getD i 0 = p.splits[i] by simp [hi']] at hf
    omega
theorem fits_w {s : Sit} {p : Pln} (hOk : SiteOk s) (h : Fits s p) : PlnW p := by
  obtain ⟨h1, h2, h3, h4, h5⟩ := h
  have hN := hOk.needs
  have hS := hOk.shaped
  have h4' : timedN s = true := hOk 4 (by omega)
  simp [timedN, inN] at h4'
  have hph := hS.2.2.2.1
  refine ⟨by omega, h2, by omega, fun x hx => ?_⟩
  obtain ⟨i, hi, rfl⟩ := List.getElem_of_mem hx
  have hf := h4 i hi
  have hn := (hN i (by omega)).1
  have hle := leftK_le hN h3 h4 i (by omega)
  unfold fitAt at hf
  rw [show p.splits.getD i 0 = p.splits[i] by simp [hi]] at hf
  omega
theorem SiteOk.written {s : Sit} (hOk : SiteOk s) : SitW s := by
  have hS := hOk.shaped
  have hA := hOk.apart
  have hP := hOk.phased
  have hI := (hOk 0 (by omega)).1
  have h3 : s.eyes.all (eyeOk s.phases.length) = true := hOk 3 (by omega)
  have h4 : timedN s = true := hOk 4 (by omega)
  have h5 : (s.plans.all fun p => decide (Fits s p)) = true := hOk 5 (by omega)
  have hS' := hS
  obtain ⟨⟨s1, s2⟩, s3, s4, ⟨s5, s6⟩, s7, s8, s9⟩ := hS'
  have hpow : 2 ^ s.groups.length ≤ 65536 := by
    have : (2 : Nat) ^ s.groups.length ≤ 2 ^ 16 := Nat.pow_le_pow_right (by omega) s2
    simpa using this
  refine ⟨hI, s2, fun g hg => ?_, s3, fun x hx => ?_, s4, fun r hr => ?_, s6, fun p hp => ?_, s7, fun e he => ?_, fun x hx => ?_, s8, fun p hp => ?_⟩
  · obtain ⟨i, hi, rfl⟩ := List.getElem_of_mem hg
    obtain ⟨g1, g2, g3⟩ := (hA i hi).1 hi
    exact ⟨by omega, by omega, by omega⟩
  · obtain ⟨i, hi, rfl⟩ := List.getElem_of_mem hx
    have := (s9 i (by omega)).2
    rw [show s.apart.getD i 0 = s.apart[i] by simp [hi]] at this
    omega
  · obtain ⟨i, hi, rfl⟩ := List.getElem_of_mem hr
    have hlen := (s9 i (by omega)).1
    rw [show s.between.getD i [] = s.between[i] by simp [hi]] at hlen
    refine ⟨hlen, fun x hx => ?_⟩
    obtain ⟨j, hj, rfl⟩ := List.getElem_of_mem hx
    have := betw_bound s hA i j (by omega) (by omega)
    unfold betw at this
    rw [show s.between.getD i [] = s.between[i] by simp [hi], show s.between[i].getD j 0 = s.between[i][j] by simp [hj]] at this
    exact this
  · obtain ⟨i, hi, rfl⟩ := List.getElem_of_mem hp
    obtain ⟨_, p2, ⟨p3, p4, p5⟩, _⟩ := hP.1 i hi hi
    exact ⟨by omega, by omega, by omega, by omega⟩
  · have := List.all_eq_true.1 h3 e he
    simp [eyeOk, inN] at this
    exact ⟨by omega, by omega, by omega, by omega⟩
  · simp [timedN, inN] at h4
    simp [tailI] at hx
    rcases hx with rfl | rfl | rfl | rfl | rfl <;> omega
  · have := List.all_eq_true.1 h5 p hp
    exact fits_w hOk (by simpa using this)
end Go.Proofs.YtdeionjkcmpnpaaGreatDoor
