/- How the reference stoplineref05 reads plans and sites: it stops where something is wrong; what is written is read again. -/
import Derived.Test.YtdeionjkcmpnpaaGreatDoorRw
set_option linter.unusedSimpArgs false
set_option linter.unusedVariables false
namespace Go.Proofs.YtdeionjkcmpnpaaGreatDoor
open Go.AM Go.RowKit
set_option maxRecDepth 100000

theorem oneF_at {x most : Int} {b : Bool} (rest : List UInt8) (h : 0 ≤ x ∧ x ≤ most) (hm : x < 18446744073709551616) : oneF ⟨putN [x] ++ rest, b⟩ most = (x, ⟨rest, b⟩) := by
  obtain ⟨n, rfl⟩ := Int.eq_ofNat_of_zero_le h.1
  have hp : putN [(n : Int)] = small n := by simp [putN]
  rw [hp, oneF_fit (readN_small rest (by omega)) h.2, List.drop_left]
theorem repQ_snoc {α : Type} (f : RdS → α × RdS) : ∀ (n : Nat) (s : RdS), (repQ f n s).2.bad = false → repQ f (n + 1) s = ((repQ f n s).1 ++ [(f (repQ f n s).2).1], (f (repQ f n s).2).2)
  | 0, s, h => by simp only [repQ] at h ⊢; rw [if_neg (by simp [h])]; rfl
  | n + 1, s, h => by
    by_cases hb : s.bad = true
    · simp only [repQ, hb, if_true] at h; exact absurd h (by decide)
    · have e : ∀ m, repQ f (m + 1) s = ((f s).1 :: (repQ f m (f s).2).1, (repQ f m (f s).2).2) := fun m => by simp only [repQ]; rw [if_neg hb]
      rw [e] at h
      simp only at h
      rw [e, e, repQ_snoc f n (f s).2 h]
      rfl
theorem repQ_stop {α : Type} (f : RdS → α × RdS) : ∀ (n m : Nat) (s : RdS), (repQ f n s).2.bad = true → n ≤ m → repQ f m s = repQ f n s
  | 0, 0, s, _, _ => rfl
  | 0, m + 1, s, h, _ => by simp only [repQ] at h ⊢; rw [if_pos h]
  | n + 1, 0, s, _, hm => by omega
  | n + 1, m + 1, s, h, hm => by
    by_cases hb : s.bad = true
    · simp only [repQ, hb, if_true]
    · have e : ∀ m, repQ f (m + 1) s = ((f s).1 :: (repQ f m (f s).2).1, (repQ f m (f s).2).2) := fun m => by simp only [repQ]; rw [if_neg hb]
      rw [e] at h
      rw [e, e, repQ_stop f n m (f s).2 h (by omega)]
theorem repQ_len {α : Type} (f : RdS → α × RdS) : ∀ (n : Nat) (s : RdS), (repQ f n s).1.length ≤ n
  | 0, s => by simp [repQ]
  | n + 1, s => by
    have := repQ_len f n (f s).2
    simp only [repQ]
    split
    · simp
    · simp only [List.length_cons]; omega
/-- A loop that goes on while nothing is wrong, k rounds in. -/
theorem repQ_full {α : Type} (f : RdS → α × RdS) : ∀ (n : Nat) (s : RdS), (repQ f n s).2.bad = false → (repQ f n s).1.length = n
  | 0, s, _ => by simp [repQ]
  | n + 1, s, h => by
    by_cases hb : s.bad = true
    · simp only [repQ, hb, if_true] at h; exact absurd h (by decide)
    · have e : ∀ m, repQ f (m + 1) s = ((f s).1 :: (repQ f m (f s).2).1, (repQ f m (f s).2).2) := fun m => by simp only [repQ]; rw [if_neg hb]
      rw [e] at h ⊢
      simp only [List.length_cons]
      rw [repQ_full f n (f s).2 h]

/-! plans -/
def numsQ (n : Nat) (s : RdS) : List Int × RdS := repQ (fun s => oneF s 1048576) n s
def pC (s : RdS) : Int × RdS := oneF s 1048576
def pO (s : RdS) : Int × RdS := oneF (pC s).2 1048576
def pM (s : RdS) : Int × RdS := oneF (pO s).2 8
def pS (s : RdS) : List Int × RdS := numsQ (pM s).1.toNat (pM s).2
def planQ (s : RdS) : Pln × RdS := (⟨(pC s).1, (pO s).1, (pS s).1⟩, (pS s).2)
def plansM (s : RdS) : Int × RdS := oneF s 8
def plansQ (s : RdS) : List Pln × RdS := repQ planQ (plansM s).1.toNat (plansM s).2
theorem nums_rdq {l : List Int} (h : ∀ x ∈ l, 0 ≤ x ∧ x ≤ 1048576) : Rds (numsQ l.length) l l := by
  have := Rds.rpq (f := fun s => oneF s 1048576) (e := fun x => [x]) (xs := l) fun x hx => Rds.one (h x hx) (by decide)
  rw [flatMap_one] at this
  exact this
theorem plan_rdq {p : Pln} (h : PlnW p) : Rds planQ (planI p) p := by
  intro rest
  obtain ⟨h1, h2, h3, h4⟩ := h
  have e1 := (Rds.one (x := p.cycle) (most := 1048576) (by omega) (by decide)).cons (p.offset :: (p.splits.length : Int) :: p.splits) rest
  have e2 := (Rds.one (x := p.offset) (most := 1048576) (by omega) (by decide)).cons ((p.splits.length : Int) :: p.splits) rest
  have e3 := (Rds.one (x := (p.splits.length : Int)) (most := 8) (by omega) (by decide)).cons p.splits rest
  have e4 := nums_rdq h4 rest
  simp only [planQ, pS, pM, pO, pC, planI, e1, e2, e3, Int.toNat_natCast, e4]
theorem plans_rdq {l : List Pln} (hl : l.length ≤ 8) (h : ∀ p ∈ l, PlnW p) : Rds plansQ (plansI l) l := by
  intro rest
  have e1 := (Rds.one (x := (l.length : Int)) (most := 8) (by omega) (by decide)).cons (l.flatMap planI) rest
  have e2 := Rds.rpq (f := planQ) (e := planI) (xs := l) (fun p hp => plan_rdq (h p hp)) rest
  simp only [plansQ, plansM, plansI, e1, Int.toNat_natCast, e2]

/-! sites -/
def grpQ (s : RdS) : Grp × RdS := let a := oneF s 2; let b := oneF a.2 1048576; let c := oneF b.2 1048576; (⟨a.1, b.1, c.1⟩, c.2)
def qI (s : RdS) : Int × RdS := oneF s 65535
def qN (s : RdS) : Int × RdS := oneF (qI s).2 16
def qG (s : RdS) : List Grp × RdS := repQ grpQ (qN s).1.toNat (qN s).2
def qA (s : RdS) : List Nat × RdS := repQ apR (qN s).1.toNat (qG s).2
def qB (s : RdS) : List (List Int) × RdS := repQ (timesR (qN s).1.toNat) (qN s).1.toNat (qA s).2
def qMp (s : RdS) : Int × RdS := oneF (qB s).2 8
def qP (s : RdS) : List Pha × RdS := repQ phaR (qMp s).1.toNat (qMp s).2
def qMe (s : RdS) : Int × RdS := oneF (qP s).2 24
def qE (s : RdS) : List Eye × RdS := repQ eyeR (qMe s).1.toNat (qMe s).2
def qW (s : RdS) : Int × RdS := oneF (qE s).2 1048576
def qF (s : RdS) : Int × RdS := oneF (qW s).2 1048576
def qH (s : RdS) : Int × RdS := oneF (qF s).2 1048576
def qLo (s : RdS) : Int × RdS := oneF (qH s).2 1048576
def qHi (s : RdS) : Int × RdS := oneF (qLo s).2 1048576
def qPl (s : RdS) : List Pln × RdS := plansQ (qHi s).2
def qSit (s : RdS) : Sit := ⟨(qI s).1, (qG s).1, (qA s).1, (qB s).1, (qP s).1, (qE s).1, (qW s).1, (qF s).1, (qH s).1, (qLo s).1, (qHi s).1, (qPl s).1⟩
theorem betw_rdq {n : Nat} {l : List (List Int)} (hl : l.length = n) (h : ∀ r ∈ l, r.length = n ∧ ∀ x ∈ r, 0 ≤ x ∧ x ≤ 1048576) : Rds (repQ (timesR n) n) l.flatten l := by
  have := Rds.rpq (f := timesR n) (e := fun r => r) (xs := l) fun r hr => by
    obtain ⟨h1, h2⟩ := h r hr
    have := times_rds h2
    rw [h1] at this
    exact this
  rw [betw_flat, hl] at this
  exact this
theorem site_rdq {s : Sit} (h : SitW s) : Rds (fun st => (qSit st, (qPl st).2)) (siteI s) s := by
  intro rest
  obtain ⟨id, groups, apart, between, phases, eyes, watch, feed, heal, low, high, plans⟩ := s
  obtain ⟨h1, h2, h3, h4, h5, h6, h7, h8, h9, h10, h11, h12, h13, h14⟩ := h
  simp only [tailI, List.mem_cons, List.not_mem_nil, or_false, forall_eq_or_imp, forall_eq] at h1 h2 h3 h4 h5 h6 h7 h8 h9 h10 h11 h12 h13 h14
  obtain ⟨t1, t2, t3, t4, t5⟩ := h12
  have p := plans_rdq h13 h14 rest
  have a1 := fun e => (Rds.one (x := id) (most := 65535) (by omega) (by decide)).cons e rest
  have a2 := fun e => (Rds.one (x := (groups.length : Int)) (most := 16) (by omega) (by decide)).cons e rest
  have a3 := fun e => (Rds.rpq (f := grpQ) (e := grpI) (xs := groups) (fun g hg => grp_rds (k := 2) (by omega) (h3 g hg))).app e rest
  have a4 := fun e => (Rds.rpq (f := apR) (e := fun (x : Nat) => [(x : Int)]) (xs := apart) (fun g hg => ap_rds (h5 g hg))).app e rest
  simp only [aps_flat, h4] at a4
  have a5 := fun e => (betw_rdq h6 h7).app e rest
  have a6 := fun e => (Rds.one (x := (phases.length : Int)) (most := 8) (by omega) (by decide)).cons e rest
  have a7 := fun e => (Rds.rpq (f := phaR) (e := phaI) (xs := phases) (fun g hg => pha_rds (h9 g hg))).app e rest
  have a8 := fun e => (Rds.one (x := (eyes.length : Int)) (most := 24) (by omega) (by decide)).cons e rest
  have a9 := fun e => (Rds.rpq (f := eyeR) (e := eyeI) (xs := eyes) (fun g hg => eye_rds (h11 g hg))).app e rest
  have b1 := fun e => (Rds.one (x := watch) (most := 1048576) t1 (by decide)).cons e rest
  have b2 := fun e => (Rds.one (x := feed) (most := 1048576) t2 (by decide)).cons e rest
  have b3 := fun e => (Rds.one (x := heal) (most := 1048576) t3 (by decide)).cons e rest
  have b4 := fun e => (Rds.one (x := low) (most := 1048576) t4 (by decide)).cons e rest
  have b5 := fun e => (Rds.one (x := high) (most := 1048576) t5 (by decide)).cons e rest
  simp only [siteI, qSit, qPl, qHi, qLo, qH, qF, qW, qE, qMe, qP, qMp, qB, qA, qG, qN, qI, tailI, a1, a2, a3, a4, a5, a6, a7, a8, a9, Int.toNat_natCast, List.cons_append, List.nil_append, b1, b2, b3, b4, b5, p]
/-- What a site was written as is read as it by the reference. -/
theorem readQ_write {s : Sit} (h : SiteOk s) : qSit ⟨(writeB s).take ((writeB s).length - 4), false⟩ = s ∧ (qPl ⟨(writeB s).take ((writeB s).length - 4), false⟩).2 = ⟨[], false⟩ := by
  have e : (writeB s).take ((writeB s).length - 4) = insideB s := by
    rw [writeB_len, Nat.add_sub_cancel]
    exact List.take_left ..
  rw [e]
  have := site_rdq h.written []
  rw [List.append_nil] at this
  simp only [Prod.mk.injEq] at this
  exact this
end Go.Proofs.YtdeionjkcmpnpaaGreatDoor
