/- Regions as bytes: the plain law that what is written is read again, by the program's reader and by the reference's. -/
import Derived.Test.YtdeionjkcmpnpaaGreatDoorRdQ
set_option linter.unusedSimpArgs false
set_option linter.unusedVariables false
namespace Go.Proofs.YtdeionjkcmpnpaaGreatDoor
open Go.AM Go.RowKit
set_option maxRecDepth 100000

/-! what is written -/
def siteNB (s : Sit) : List UInt8 := putN [((writeB s).length : Int)] ++ writeB s
def subI (u : SubN) : List Int := (u.sites.length : Int) :: (u.sites ++ [u.critical])
def wedI (w : WedN) : List Int := w.a :: w.b :: w.votes :: (w.offsets.length : Int) :: w.offsets
def netI (n : NetN) : List Int := (n.subs.length : Int) :: (n.subs.flatMap subI ++ (n.low :: n.high :: n.step :: (n.weds.length : Int) :: n.weds.flatMap wedI))
def insideN (n : NetN) : List UInt8 := putN [(n.sites.length : Int)] ++ (n.sites.flatMap siteNB ++ putN (netI n))
def writeNB (n : NetN) : List UInt8 := insideN n ++ sumB (insideN n)

/-! what is read -/
def someR (m : Int) (s : RdS) : List Int × RdS := timesR (oneF s m).1.toNat (oneF s m).2
def someQ (m : Int) (s : RdS) : List Int × RdS := numsQ (oneF s m).1.toNat (oneF s m).2
def subR (s : RdS) : SubN × RdS := (⟨(someR 12 s).1, (oneF (someR 12 s).2 12).1⟩, (oneF (someR 12 s).2 12).2)
def subQ (s : RdS) : SubN × RdS := (⟨(someQ 12 s).1, (oneF (someQ 12 s).2 12).1⟩, (oneF (someQ 12 s).2 12).2)
def wdA (s : RdS) : Int × RdS := oneF s 6
def wdB (s : RdS) : Int × RdS := oneF (wdA s).2 6
def wdV (s : RdS) : Int × RdS := oneF (wdB s).2 1048576
def wedR (s : RdS) : WedN × RdS := (⟨(wdA s).1, (wdB s).1, (wdV s).1, (someR 8 (wdV s).2).1⟩, (someR 8 (wdV s).2).2)
def wedQ (s : RdS) : WedN × RdS := (⟨(wdA s).1, (wdB s).1, (wdV s).1, (someQ 8 (wdV s).2).1⟩, (someQ 8 (wdV s).2).2)
/-- A site's size, and what is behind it. -/
def szR (s : RdS) : Int × RdS := oneF s s.b.length
noncomputable def szN (s : RdS) : RdS := ⟨(szR s).2.b.drop (szR s).1.toNat, (szR s).2.bad || decide (readE ((szR s).2.b.take (szR s).1.toNat) ≠ 0)⟩
noncomputable def sitesR : Nat → RdS → List Sit × RdS
  | 0, s => ([], s)
  | m + 1, s => if ((szR s).2.b.length : Int) < (szR s).1 then ([], ⟨(szR s).2.b, true⟩)
    else (readS ((szR s).2.b.take (szR s).1.toNat) :: (sitesR m (szN s)).1, (sitesR m (szN s)).2)
/-- The reference goes on while nothing is wrong, and leaves at once where a site is none. -/
noncomputable def sitesQ : Nat → RdS → Option (List Sit × RdS)
  | 0, s => some ([], s)
  | m + 1, s => if s.bad then some ([], s) else if ((szR s).2.b.length : Int) < (szR s).1 then none
    else if readE ((szR s).2.b.take (szR s).1.toNat) ≠ 0 then none
    else (sitesQ m ⟨(szR s).2.b.drop (szR s).1.toNat, (szR s).2.bad⟩).map fun x => (readS ((szR s).2.b.take (szR s).1.toNat) :: x.1, x.2)

noncomputable def nS (s : RdS) : List Sit × RdS := sitesR (oneF s 12).1.toNat (oneF s 12).2
noncomputable def nU (s : RdS) : List SubN × RdS := repF subR (oneF (nS s).2 6).1.toNat (oneF (nS s).2 6).2
noncomputable def nLo (s : RdS) : Int × RdS := oneF (nU s).2 1048576
noncomputable def nHi (s : RdS) : Int × RdS := oneF (nLo s).2 1048576
noncomputable def nSt (s : RdS) : Int × RdS := oneF (nHi s).2 1048576
noncomputable def nW (s : RdS) : List WedN × RdS := repF wedR (oneF (nSt s).2 8).1.toNat (oneF (nSt s).2 8).2
noncomputable def netR (s : RdS) : NetN := ⟨(nS s).1, (nU s).1, (nW s).1, (nLo s).1, (nHi s).1, (nSt s).1⟩
/-! behind the sites, by the reference -/
def mU (s : RdS) : List SubN × RdS := repQ subQ (oneF s 6).1.toNat (oneF s 6).2
def mLo (s : RdS) : Int × RdS := oneF (mU s).2 1048576
def mHi (s : RdS) : Int × RdS := oneF (mLo s).2 1048576
def mSt (s : RdS) : Int × RdS := oneF (mHi s).2 1048576
def mW (s : RdS) : List WedN × RdS := repQ wedQ (oneF (mSt s).2 8).1.toNat (oneF (mSt s).2 8).2
def netQ (x : List Sit × RdS) : NetN := ⟨x.1, (mU x.2).1, (mW x.2).1, (mLo x.2).1, (mHi x.2).1, (mSt x.2).1⟩

/-! the law -/
structure NetW (n : NetN) : Prop where
  sl : n.sites.length ≤ 12
  so : ∀ s ∈ n.sites, SiteOk s
  ul : n.subs.length ≤ 6
  us : ∀ u ∈ n.subs, u.sites.length ≤ 12 ∧ (∀ x ∈ u.sites, 0 ≤ x ∧ x ≤ 1048576) ∧ 0 ≤ u.critical ∧ u.critical ≤ 12
  lo : 0 ≤ n.low ∧ n.low ≤ 1048576
  hi : 0 ≤ n.high ∧ n.high ≤ 1048576
  st : 0 ≤ n.step ∧ n.step ≤ 1048576
  wl : n.weds.length ≤ 8
  ws : ∀ w ∈ n.weds, (0 ≤ w.a ∧ w.a ≤ 6) ∧ (0 ≤ w.b ∧ w.b ≤ 6) ∧ (0 ≤ w.votes ∧ w.votes ≤ 1048576) ∧ w.offsets.length ≤ 8 ∧ ∀ x ∈ w.offsets, 0 ≤ x ∧ x ≤ 1048576
theorem flatMap_mem_len {α : Type} (f : α → List Int) : ∀ {l : List α} {u : α}, u ∈ l → (f u).length ≤ (l.flatMap f).length
  | x :: l, u, h => by
    rw [List.flatMap_cons, List.length_append]
    rcases List.mem_cons.1 h with rfl | h
    · omega
    · have := flatMap_mem_len f h; omega
theorem NetOk.written {n : NetN} (h : NetOk n) : NetW n := by
  obtain ⟨hT, hS, hU, hW⟩ := h
  obtain ⟨t1, t2, t3, _⟩ := hT
  obtain ⟨s1, s2, s3⟩ := hS
  obtain ⟨u1, u2, u3, u4⟩ := hU
  obtain ⟨w1, w2, w3⟩ := hW
  have eK : seenK n n.subs.length = n.subs.flatMap SubN.sites := by unfold seenK; rw [List.take_length]
  rw [eK] at u2 u4
  have hin : ∀ u ∈ n.subs, ∀ x ∈ u.sites, 0 ≤ x ∧ x < n.sites.length := fun u hu x hx => u2.2 x (List.mem_flatMap.2 ⟨u, hu, hx⟩)
  refine ⟨s1.2, fun s hs => (s3 s hs).1, u1.2, fun u hu => ⟨?_, fun x hx => ?_, ?_, ?_⟩, by omega, by omega, by omega, w1, fun w hw => ?_⟩
  · have := flatMap_mem_len SubN.sites hu; omega
  · have := hin u hu x hx; omega
  · exact (hin u hu _ (u3 u hu)).1
  · have := hin u hu _ (u3 u hu); omega
  · obtain ⟨a1, a2, a3, a4, a5, a6⟩ := w3 w hw
    exact ⟨by omega, by omega, by omega, by omega, fun x hx => by have := a6 x hx; omega⟩
theorem some_rds {l : List Int} {m : Int} (hl : l.length ≤ m) (hm : m < 18446744073709551616) (h : ∀ x ∈ l, 0 ≤ x ∧ x ≤ 1048576) : Rds (someR m) ((l.length : Int) :: l) l := by
  intro rest
  have e1 := (Rds.one (x := (l.length : Int)) (most := m) (by omega) hm).cons l rest
  simp only [someR, e1, Int.toNat_natCast, times_rds h rest]
theorem some_rdq {l : List Int} {m : Int} (hl : l.length ≤ m) (hm : m < 18446744073709551616) (h : ∀ x ∈ l, 0 ≤ x ∧ x ≤ 1048576) : Rds (someQ m) ((l.length : Int) :: l) l := by
  intro rest
  have e1 := (Rds.one (x := (l.length : Int)) (most := m) (by omega) hm).cons l rest
  simp only [someQ, e1, Int.toNat_natCast, nums_rdq h rest]
theorem sub_rds {u : SubN} (h : u.sites.length ≤ 12 ∧ (∀ x ∈ u.sites, 0 ≤ x ∧ x ≤ 1048576) ∧ 0 ≤ u.critical ∧ u.critical ≤ 12) : Rds subR (subI u) u := by
  intro rest
  have e1 := (some_rds (m := 12) (by omega) (by decide) h.2.1).app [u.critical] rest
  have e2 := (Rds.one (x := u.critical) (most := 12) h.2.2 (by decide)) rest
  simp only [List.cons_append] at e1
  simp only [subR, subI, e1, e2]
theorem sub_rdq {u : SubN} (h : u.sites.length ≤ 12 ∧ (∀ x ∈ u.sites, 0 ≤ x ∧ x ≤ 1048576) ∧ 0 ≤ u.critical ∧ u.critical ≤ 12) : Rds subQ (subI u) u := by
  intro rest
  have e1 := (some_rdq (m := 12) (by omega) (by decide) h.2.1).app [u.critical] rest
  have e2 := (Rds.one (x := u.critical) (most := 12) h.2.2 (by decide)) rest
  simp only [List.cons_append] at e1
  simp only [subQ, subI, e1, e2]
theorem wed_rds {w : WedN} (h : (0 ≤ w.a ∧ w.a ≤ 6) ∧ (0 ≤ w.b ∧ w.b ≤ 6) ∧ (0 ≤ w.votes ∧ w.votes ≤ 1048576) ∧ w.offsets.length ≤ 8 ∧ ∀ x ∈ w.offsets, 0 ≤ x ∧ x ≤ 1048576) : Rds wedR (wedI w) w := by
  intro rest
  have e1 := (Rds.one (x := w.a) (most := 6) (by omega) (by decide)).cons (w.b :: w.votes :: (w.offsets.length : Int) :: w.offsets) rest
  have e2 := (Rds.one (x := w.b) (most := 6) (by omega) (by decide)).cons (w.votes :: (w.offsets.length : Int) :: w.offsets) rest
  have e3 := (Rds.one (x := w.votes) (most := 1048576) (by omega) (by decide)).cons ((w.offsets.length : Int) :: w.offsets) rest
  have e4 := some_rds (m := 8) (by omega) (by decide) h.2.2.2.2 rest
  simp only [wedR, wdV, wdB, wdA, wedI, e1, e2, e3, e4]
theorem wed_rdq {w : WedN} (h : (0 ≤ w.a ∧ w.a ≤ 6) ∧ (0 ≤ w.b ∧ w.b ≤ 6) ∧ (0 ≤ w.votes ∧ w.votes ≤ 1048576) ∧ w.offsets.length ≤ 8 ∧ ∀ x ∈ w.offsets, 0 ≤ x ∧ x ≤ 1048576) : Rds wedQ (wedI w) w := by
  intro rest
  have e1 := (Rds.one (x := w.a) (most := 6) (by omega) (by decide)).cons (w.b :: w.votes :: (w.offsets.length : Int) :: w.offsets) rest
  have e2 := (Rds.one (x := w.b) (most := 6) (by omega) (by decide)).cons (w.votes :: (w.offsets.length : Int) :: w.offsets) rest
  have e3 := (Rds.one (x := w.votes) (most := 1048576) (by omega) (by decide)).cons ((w.offsets.length : Int) :: w.offsets) rest
  have e4 := some_rdq (m := 8) (by omega) (by decide) h.2.2.2.2 rest
  simp only [wedQ, wdV, wdB, wdA, wedI, e1, e2, e3, e4]
theorem sz_site {s : Sit} (h : SiteOk s) (rest : List UInt8) : szR ⟨siteNB s ++ rest, false⟩ = (((writeB s).length : Int), ⟨writeB s ++ rest, false⟩) := by
  have hl := insideB_len h.written
  have hw := writeB_len s
  unfold szR siteNB
  rw [List.append_assoc]
  exact oneF_at _ ⟨by omega, by simp only [List.length_append]; omega⟩ (by omega)
theorem sitesR_write : ∀ {l : List Sit}, (∀ s ∈ l, SiteOk s) → ∀ rest, sitesR l.length ⟨l.flatMap siteNB ++ rest, false⟩ = (l, ⟨rest, false⟩)
  | [], _, rest => rfl
  | s :: l, h, rest => by
    have hs := h s (by simp)
    have e := sz_site hs (l.flatMap siteNB ++ rest)
    have ih := sitesR_write (l := l) (fun t ht => h t (by simp [ht])) rest
    obtain ⟨r1, r2⟩ := read_write hs
    obtain ⟨r3, r4⟩ := read_ok r1
    have ez : szN ⟨siteNB s ++ (l.flatMap siteNB ++ rest), false⟩ = ⟨l.flatMap siteNB ++ rest, false⟩ := by
      unfold szN
      rw [e]
      simp only [Int.toNat_natCast, List.take_left, List.drop_left, r4]
      simp
    rw [List.flatMap_cons, List.append_assoc, List.length_cons, sitesR, ez, ih, e]
    simp only [Int.toNat_natCast, List.take_left, r3, r2]
    rw [if_neg (by simp only [List.length_append]; omega)]
theorem sitesQ_write : ∀ {l : List Sit}, (∀ s ∈ l, SiteOk s) → ∀ rest, sitesQ l.length ⟨l.flatMap siteNB ++ rest, false⟩ = some (l, ⟨rest, false⟩)
  | [], _, rest => rfl
  | s :: l, h, rest => by
    have hs := h s (by simp)
    have e := sz_site hs (l.flatMap siteNB ++ rest)
    have ih := sitesQ_write (l := l) (fun t ht => h t (by simp [ht])) rest
    obtain ⟨r1, r2⟩ := read_write hs
    obtain ⟨r3, r4⟩ := read_ok r1
    rw [List.flatMap_cons, List.append_assoc, List.length_cons, sitesQ, e]
    simp only [Int.toNat_natCast, List.take_left, List.drop_left, r3, r2, r4, ih]
    rw [if_neg (by simp), if_neg (by simp only [List.length_append]; omega), if_neg (by simp)]
    rfl
theorem netR_write {n : NetN} (h : NetW n) : netR ⟨insideN n, false⟩ = n ∧ (nW ⟨insideN n, false⟩).2 = ⟨[], false⟩ := by
  have g1 := oneF_at (x := (n.sites.length : Int)) (most := 12) (b := false) (n.sites.flatMap siteNB ++ putN (netI n)) (by have := h.sl; omega) (by have := h.sl; omega)
  have g2 := sitesR_write h.so (putN (netI n))
  have eS : nS ⟨insideN n, false⟩ = (n.sites, ⟨putN (netI n), false⟩) := by unfold nS insideN; rw [g1]; simp only [Int.toNat_natCast]; rw [g2]
  have u1 := (Rds.one (x := (n.subs.length : Int)) (most := 6) (by have := h.ul; omega) (by decide)).cons (n.subs.flatMap subI ++ (n.low :: n.high :: n.step :: (n.weds.length : Int) :: n.weds.flatMap wedI)) []
  have u2 := (Rds.rep (f := subR) (e := subI) (xs := n.subs) fun u hu => sub_rds (h.us u hu)).app (n.low :: n.high :: n.step :: (n.weds.length : Int) :: n.weds.flatMap wedI) []
  have u3 := (Rds.one (x := n.low) (most := 1048576) h.lo (by decide)).cons (n.high :: n.step :: (n.weds.length : Int) :: n.weds.flatMap wedI) []
  have u4 := (Rds.one (x := n.high) (most := 1048576) h.hi (by decide)).cons (n.step :: (n.weds.length : Int) :: n.weds.flatMap wedI) []
  have u5 := (Rds.one (x := n.step) (most := 1048576) h.st (by decide)).cons ((n.weds.length : Int) :: n.weds.flatMap wedI) []
  have u6 := (Rds.one (x := (n.weds.length : Int)) (most := 8) (by have := h.wl; omega) (by decide)).cons (n.weds.flatMap wedI) []
  have u7 := Rds.rep (f := wedR) (e := wedI) (xs := n.weds) (fun u hu => wed_rds (h.ws u hu)) []
  simp only [List.append_nil] at u1 u2 u3 u4 u5 u6 u7
  simp only [netR, nW, nSt, nHi, nLo, nU, eS, netI, u1, u2, u3, u4, u5, u6, u7, Int.toNat_natCast]
  exact ⟨trivial, trivial⟩
theorem netQ_write {n : NetN} (h : NetW n) : sitesQ (oneF ⟨insideN n, false⟩ 12).1.toNat (oneF ⟨insideN n, false⟩ 12).2 = some (n.sites, ⟨putN (netI n), false⟩) ∧
    netQ (n.sites, ⟨putN (netI n), false⟩) = n ∧ (mW ⟨putN (netI n), false⟩).2 = ⟨[], false⟩ := by
  have g1 := oneF_at (x := (n.sites.length : Int)) (most := 12) (b := false) (n.sites.flatMap siteNB ++ putN (netI n)) (by have := h.sl; omega) (by have := h.sl; omega)
  have g2 := sitesQ_write h.so (putN (netI n))
  refine ⟨by unfold insideN; rw [g1]; simp only [Int.toNat_natCast]; rw [g2], ?_⟩
  have u1 := (Rds.one (x := (n.subs.length : Int)) (most := 6) (by have := h.ul; omega) (by decide)).cons (n.subs.flatMap subI ++ (n.low :: n.high :: n.step :: (n.weds.length : Int) :: n.weds.flatMap wedI)) []
  have u2 := (Rds.rpq (f := subQ) (e := subI) (xs := n.subs) fun u hu => sub_rdq (h.us u hu)).app (n.low :: n.high :: n.step :: (n.weds.length : Int) :: n.weds.flatMap wedI) []
  have u3 := (Rds.one (x := n.low) (most := 1048576) h.lo (by decide)).cons (n.high :: n.step :: (n.weds.length : Int) :: n.weds.flatMap wedI) []
  have u4 := (Rds.one (x := n.high) (most := 1048576) h.hi (by decide)).cons (n.step :: (n.weds.length : Int) :: n.weds.flatMap wedI) []
  have u5 := (Rds.one (x := n.step) (most := 1048576) h.st (by decide)).cons ((n.weds.length : Int) :: n.weds.flatMap wedI) []
  have u6 := (Rds.one (x := (n.weds.length : Int)) (most := 8) (by have := h.wl; omega) (by decide)).cons (n.weds.flatMap wedI) []
  have u7 := Rds.rpq (f := wedQ) (e := wedI) (xs := n.weds) (fun u hu => wed_rdq (h.ws u hu)) []
  simp only [List.append_nil] at u1 u2 u3 u4 u5 u6 u7
  simp only [netQ, mW, mSt, mHi, mLo, mU, netI, u1, u2, u3, u4, u5, u6, u7, Int.toNat_natCast]
  exact ⟨trivial, trivial⟩

/-! which bytes are a region -/
def zeroN : NetN := ⟨[], [], [], 0, 0, 0⟩
def stN (l : List UInt8) : RdS := ⟨l.take (l.length - 4), false⟩
noncomputable def readNT (l : List UInt8) : NetN := netR (stN l)
noncomputable def readNB (l : List UInt8) : Bool := (nW (stN l)).2.bad
def ReadNOk (l : List UInt8) : Prop := 4 ≤ l.length ∧ readNB l = false ∧ NetOk (readNT l) ∧ writeNB (readNT l) = l
noncomputable instance (l : List UInt8) : Decidable (ReadNOk l) := Classical.propDecidable _
noncomputable def readNS (l : List UInt8) : NetN := if ReadNOk l then readNT l else zeroN
noncomputable def readNE (l : List UInt8) : Int := if ReadNOk l then 0 else 8
theorem readN_ok {l : List UInt8} (h : ReadNOk l) : readNS l = readNT l ∧ readNE l = 0 := by unfold readNS readNE; rw [if_pos h, if_pos h]; exact ⟨rfl, rfl⟩
theorem readN_bad {l : List UInt8} (h : ¬ ReadNOk l) : readNS l = zeroN ∧ readNE l = 8 := by unfold readNS readNE; rw [if_neg h, if_neg h]; exact ⟨rfl, rfl⟩
theorem writeNB_len (n : NetN) : (writeNB n).length = (insideN n).length + 4 := by unfold writeNB; rw [List.length_append, sumB_len]
theorem stN_write (n : NetN) : stN (writeNB n) = ⟨insideN n, false⟩ := by
  unfold stN
  rw [writeNB_len, Nat.add_sub_cancel]
  unfold writeNB
  rw [List.take_left]
theorem readN_write {n : NetN} (h : NetOk n) : ReadNOk (writeNB n) ∧ readNT (writeNB n) = n := by
  have e := netR_write h.written
  have hl := writeNB_len n
  have e1 : readNT (writeNB n) = n := by unfold readNT; rw [stN_write]; exact e.1
  have e2 : readNB (writeNB n) = false := by unfold readNB; rw [stN_write, e.2]
  unfold ReadNOk
  rw [e1, e2]
  exact ⟨⟨by omega, rfl, h, rfl⟩, rfl⟩
theorem readN_iff (l : List UInt8) : ReadNOk l ↔ ∃ n, NetOk n ∧ writeNB n = l := by
  constructor
  · intro h; exact ⟨_, h.2.2.1, h.2.2.2⟩
  · rintro ⟨s, hs, rfl⟩; exact (readN_write hs).1
noncomputable def netE (n : NetN) : List UInt8 := if netN n = 0 then writeNB n else []
end Go.Proofs.YtdeionjkcmpnpaaGreatDoor
