/- Contracts of the layer pulse. -/
import Derived.Test.YtnikgmdpnlfbiaaAmClose
import Derived.Test.YtnikgmdpnlfbiaaAmRange
import Derived.Test.YtnikgmdpnlfbiaaFacts
namespace Go.Proofs.Ytnikgmdpnlfbiaa
open Go.AM Go.RowKit
set_option maxRecDepth 100000

abbrev Pul := Bool × Bool × Int
def pulV (p : Pul) : V := .agg [.bool p.1, .bool p.2.1, .int .i64 p.2.2]
def bools (l : List Bool) : List V := l.map V.bool
theorem bools_nil : bools [] = [] := rfl
theorem bools_len (l : List Bool) : (bools l).length = l.length := by simp [bools]
theorem nth_bools {l : List Bool} {k : Nat} (h : k < l.length) : nth (bools l) k = .bool l[k] := by rw [bools, nth_map h]
theorem bools_pure (l : List Bool) : pures (bools l) := by induction l with | nil => simp [bools, pures] | cons x l ih => simp only [bools, List.map_cons, pures, V.pure] at ih ⊢; exact ⟨trivial, ih⟩

/-- What is wrong with a pulse, ticks and a hold. -/
def askedN (p : Pul) (many hold : Int) : Int :=
  if p.2.2 < 0 ∨ p.2.2 > 1048576 then 8 else if many > 4096 then 4 else if hold < 1 ∨ hold > 1048576 then 2 else 0

theorem asked_spec (p : Pul) (many hold : Int) : FnD Try.prog 22 [pulV p, .int .i64 many, .int .i64 hold] (.int .i64 (askedN p many hold)) := by
  obtain ⟨u, r, s⟩ := p
  unfold pulV
  refine fnD_of mixed Try.func22 rfl rfl (by simp [Try.ntmps22]) fun hwf E => ?_
  simp (disch := omega) [Try.ntmps22, go_sem]
  refine br_of (fun h1 => ?_) (fun h1 => ?_) <;> simp at h1 <;> simp (disch := omega) [go_sem]
  · simp only [askedN]; rw [if_pos (by simp; omega)]
  · have n1 : ¬ (s < 0 ∨ s > 1048576) := by omega
    refine br_of (fun h2 => ?_) (fun h2 => ?_) <;> simp at h2 <;> simp (disch := omega) [go_sem]
    · simp only [askedN, if_neg n1]; rw [if_pos (by omega)]
    · have n2 : ¬ many > 4096 := by omega
      refine br_of (fun h3 => ?_) (fun h3 => ?_) <;> simp at h3 <;> simp (disch := omega) [go_sem]
      · simp only [askedN, if_neg n1, if_neg n2]; rw [if_pos (by omega)]
      · simp only [askedN, if_neg n1, if_neg n2]; rw [if_neg (by omega)]

theorem pulses_spec (p : Pul) (l : List Bool) (hold : Int) : FnR Try.prog 23 [] [pulV p, .sl 1 (bools l), .int .i64 hold] [⟨.box, 31, 1, [.sl 1 (bools l)]⟩, ⟨.box, 34, 3, [pulV p]⟩, ⟨.box, 3, 1, [.int .i64 hold]⟩] (.func (.func 27) [] [.ptr 0 1 0 0, .ptr 1 1 0 0, .ptr 2 1 0 0]) := by
  unfold pulV
  refine fnR_of mixed Try.func23 rfl rfl (by simp [Try.ntmps23]) (by simp) fun hwf E => ?_
  simp (disch := omega) [Try.ntmps23, go_sem]
  refine Le.mk [(0, some 32), (1, some 16), (2, some 48)] [32, 16, 48] ⟨rfl, rfl, rfl⟩ ?_ ?_ ?_ <;> simp [go_sem]

/-- A pulse a tick later. -/
def stepP (hold : Int) (p : Pul) (x : Bool) : Pul :=
  let s := min ((if x = p.2.1 then p.2.2 else 0) + 1) 1048576
  (if s ≥ hold then x else p.1, x, s)
def runP (hold : Int) : Pul → List Bool → Pul × List Bool
  | p, [] => (p, [])
  | p, x :: r => ((runP hold (stepP hold p x) r).1, (stepP hold p x).1 :: (runP hold (stepP hold p x) r).2)
/-- Behind the first k ticks. -/
def atP (hold : Int) (p : Pul) (l : List Bool) (k : Nat) : Pul := (runP hold p (l.take k)).1
def outP (hold : Int) (p : Pul) (l : List Bool) (k : Nat) : List Bool := (runP hold p (l.take k)).2

theorem runP_append (hold : Int) : ∀ (l m : List Bool) (p : Pul), runP hold p (l ++ m) = ((runP hold (runP hold p l).1 m).1, (runP hold p l).2 ++ (runP hold (runP hold p l).1 m).2)
  | [], m, p => by simp [runP]
  | x :: l, m, p => by simp [runP, runP_append hold l m]
theorem runP_len (hold : Int) : ∀ (l : List Bool) (p : Pul), (runP hold p l).2.length = l.length
  | [], p => rfl
  | x :: l, p => by simp [runP, runP_len hold l]
theorem atP_zero {hold : Int} {p : Pul} {l : List Bool} : atP hold p l 0 = p := by simp [atP, runP]
theorem outP_zero {hold : Int} {p : Pul} {l : List Bool} : outP hold p l 0 = [] := by simp [outP, runP]
theorem atP_succ {hold : Int} {p : Pul} {l : List Bool} {k : Nat} (h : k < l.length) : atP hold p l (k + 1) = stepP hold (atP hold p l k) l[k] := by
  unfold atP
  rw [List.take_succ_eq_append_getElem h, runP_append]
  simp [runP]
theorem outP_succ {hold : Int} {p : Pul} {l : List Bool} {k : Nat} (h : k < l.length) : outP hold p l (k + 1) = outP hold p l k ++ [(stepP hold (atP hold p l k) l[k]).1] := by
  unfold atP outP
  rw [List.take_succ_eq_append_getElem h, runP_append]
  simp [runP]
theorem outP_len {hold : Int} {p : Pul} {l : List Bool} {k : Nat} (h : k ≤ l.length) : (outP hold p l k).length = k := by
  unfold outP
  rw [runP_len]; simp; omega
theorem stepP_bound {hold : Int} {p : Pul} {x : Bool} (h : 0 ≤ p.2.2) : 0 ≤ (stepP hold p x).2.2 ∧ (stepP hold p x).2.2 ≤ 1048576 := by
  simp only [stepP]; split <;> omega
theorem atP_bound {hold : Int} {p : Pul} {l : List Bool} (h : 0 ≤ p.2.2 ∧ p.2.2 ≤ 1048576) : ∀ (k : Nat), k ≤ l.length → 0 ≤ (atP hold p l k).2.2 ∧ (atP hold p l k).2.2 ≤ 1048576
  | 0, _ => by rw [atP_zero]; exact h
  | k + 1, hk => by
    rw [atP_succ (by omega)]
    exact stepP_bound (atP_bound h k (by omega)).1

/-- What lies between two rounds: the iterator's own boxes (its pulse), the caller's pulse, what it said. -/
def itObs (q c : Pul) (l outs : List Bool) (hold : Int) : List AM.Obj :=
  [⟨.box, 31, 1, [.sl 1 (bools l)]⟩, ⟨.box, 34, 3, [pulV q]⟩, ⟨.box, 3, 1, [.int .i64 hold]⟩, ⟨.box, 34, 3, [pulV c]⟩, ⟨.box, 31, 1, [.obj 5 outs.length]⟩, ⟨.arr, 4, 1, bools outs⟩]

/-- What a round of the caller does. -/
def RoundDoes (asg bod : Code) (l : List Bool) (hold : Int) : Prop := ∀ (q c : Pul) (outs : List Bool) (E E2 : Entry) (l' : Nat), outs.length ≤ 4096 →
  AWi Try.prog E (some l') asg ⟨[(28, pulV q), (3, .ptr 3 1 0 0), (10, .ptr 4 1 0 0)], obsL 0 (itObs q c l outs hold), 16, [], 37, 6, []⟩ fun e s1 => e = .normal ∧
    AWi Try.prog E2 (some l') bod s1 fun e s2 => e = .normal ∧ Le s2 ⟨[], obsL 0 (itObs q q l (outs ++ [q.1]) hold), 16, [], 37, 6, []⟩

def itF (p : Pul) (l : List Bool) (hold : Int) (l' k : Nat) : St := ⟨[(9, .int .i64 k), (8, .int .i64 l.length), (7, .sl 1 (bools l)), (0, .func (.yield l') [] []), (1, .ptr 0 1 0 0), (2, .ptr 1 1 0 0), (3, .ptr 2 1 0 0)], obsL 0 (itObs (atP hold p l k) (atP hold p l k) l (outP hold p l k) hold), 64, [], 36, 6, []⟩
def itS (x : Bool) (q c : Pul) (l outs : List Bool) (hold : Int) (l' k : Nat) : St := ⟨[(6, .bool x), (9, .int .i64 k), (8, .int .i64 l.length), (7, .sl 1 (bools l)), (0, .func (.yield l') [] []), (1, .ptr 0 1 0 0), (2, .ptr 1 1 0 0), (3, .ptr 2 1 0 0)], obsL 0 (itObs q c l outs hold), 16, [], 36, 6, []⟩
def sixR : Ren := [(0, some 0), (1, some 1), (2, some 2), (3, some 3), (4, some 4), (5, some 5)]

theorem iter_spec {asg bod : Code} (p : Pul) (l : List Bool) (hold : Int) (hp : 0 ≤ p.2.2 ∧ p.2.2 ≤ 1048576) (hlen : l.length ≤ 4096) (hro : RoundDoes asg bod l hold) :
    Iter Try.prog 27 #[28] asg bod 37 [] (itObs p p l [] hold) [.ptr 0 1 0 0, .ptr 1 1 0 0, .ptr 2 1 0 0] [(3, .ptr 3 1 0 0), (10, .ptr 4 1 0 0)] (itObs (runP hold p l).1 (runP hold p l).1 l (runP hold p l).2 hold) := by
  intro E' l' rc cargs W η0 hst hpe hps has hbo hsz hfix hgh hlb hnb hhp0 hhd0 hcs hin
  subst has hbo
  refine calls_ref Try.func27 rfl (by simp [Try.ntmps27]) (by simp [itObs]) ?_ ?_ hin
  · rw [hfix]; intro p hp q; simp at hp; subst hp; simp
  · intro _
    refine aw_seq mixed ?_
    simp (disch := omega) [Try.ntmps27, go_sem, bools_len, itObs]
    refine aw_block ?_
    refine aw_loopA (itF p l hold l') (fun k => k ≤ l.length) (fun k => l.length - k) 0 (by simp) ?_ ?_
    · refine Le.mk sixR [0, 1, 2, 3, 4, 5] ⟨rfl, rfl, rfl⟩ ?_ ?_ ?_ <;> simp [go_sem, itObs, atP_zero, outP_zero, bools_nil, pulV, bools_pure, itF, sixR]
    · intro k hk
      have hb := atP_bound (hold := hold) (l := l) hp k hk
      refine aw_seq mixed ?_
      simp (disch := omega) [go_sem, itObs, pulV, itF]
      refine aw_seq mixed ?_
      simp (disch := omega) [go_sem]
      refine br_of (fun h => ?_) (fun h => ?_) <;> simp at h
      · simp (disch := omega) [go_sem]
        refine aw_seqA (aw_block ?_)
        refine aw_seq mixed ?_
        simp (disch := omega) [go_sem, bools_len, nth_bools, h]
        generalize hq : atP hold p l k = q at *
        generalize hx : l[k] = x at *
        refine aw_join mixed (itS x (q.1, x, if x = q.2.1 then q.2.2 else 0) q l (outP hold p l k) hold l' k) ?_ ?_
        · simp (disch := omega) [go_sem]
          refine br_of (fun h2 => ?_) (fun h2 => ?_) <;> simp at h2
          · simp (disch := omega) [go_sem]
            refine Le.mk sixR [0, 1, 2, 3, 4, 5] ⟨rfl, rfl, rfl⟩ ?_ ?_ ?_ <;> simp [go_sem, itObs, pulV, bools_pure, itS, sixR, h2]
          · simp (disch := omega) [go_sem]
            refine Le.mk sixR [0, 1, 2, 3, 4, 5] ⟨rfl, rfl, rfl⟩ ?_ ?_ ?_ <;> simp [go_sem, itObs, pulV, bools_pure, itS, sixR, h2]
        · have hs0 : 0 ≤ (if x = q.2.1 then q.2.2 else 0) ∧ (if x = q.2.1 then q.2.2 else 0) ≤ 1048576 := by split <;> omega
          have hst2 : stepP hold q x = (if min ((if x = q.2.1 then q.2.2 else 0) + 1) 1048576 ≥ hold then x else q.1, x, min ((if x = q.2.1 then q.2.2 else 0) + 1) 1048576) := rfl
          generalize (if x = q.2.1 then q.2.2 else 0) = s at hs0 hst2 ⊢
          refine aw_join mixed (itS x (stepP hold q x) q l (outP hold p l k) hold l' k) ?_ ?_
          · have hm : (if 1048576 < s + 1 then (1048576 : Int) else s + 1) = min (s + 1) 1048576 := by split <;> omega
            simp (disch := omega) [go_sem, itS, itObs, pulV, hm]
            refine br_of (fun h2 => ?_) (fun h2 => ?_) <;> simp at h2
            · simp (disch := omega) [go_sem]
              refine Le.mk sixR [0, 1, 2, 3, 4, 5] ⟨rfl, rfl, rfl⟩ ?_ ?_ ?_ <;> simp [go_sem, itObs, pulV, bools_pure, itS, sixR, h2, hst2]
            · have h3 : ¬ hold ≤ min (s + 1) 1048576 := by omega
              simp (disch := omega) [go_sem]
              refine Le.mk sixR [0, 1, 2, 3, 4, 5] ⟨rfl, rfl, rfl⟩ ?_ ?_ ?_ <;> simp [go_sem, itObs, pulV, bools_pure, itS, sixR, h3, hst2]
          · have hq' : stepP hold q x = atP hold p l (k + 1) := by rw [atP_succ h, hq, hx]
            have ho' : outP hold p l (k + 1) = outP hold p l k ++ [(stepP hold q x).1] := by rw [outP_succ h, hq, hx]
            have hol := outP_len (hold := hold) (p := p) hk
            generalize stepP hold q x = q' at hq' ho' ⊢
            refine aw_seqA (aw_yield (l1 := [_, _]) (l2 := [_]) rfl rfl ?_)
            simp (disch := omega) [go_sem, itS, itObs, pulV]
            refine ⟨l', rc, _, _, _, obsL 0 (itObs q' q' l (outP hold p l k ++ [q'.1]) hold), by rw [hfix]; simp, rfl, rfl, by simp [go_sem], by rw [hps]; rfl, ?_, ?_⟩
            · intro a w η hr n
              have htm : (rc.params.zip #[a.eval (.tmp 32)]).foldl (fun tmps (t, v) => tmps.setIfInBounds t v) rc.tmps = rc.tmps.setIfInBounds 28 (a.eval (.tmp 32)) := by rw [hps]; simp
              rw [htm]
              have hfw := mk_fix hr.defers.marks
              have hl1 := (hr.defers.fix (l', Go.Obj.loop rc) (by rw [hfix]; simp)).1
              have hB := (hr.swap (s' := (⟨[(28, pulV q'), (3, .ptr 3 1 0 0), (10, .ptr 4 1 0 0)], obsL 0 (itObs q' q l (outP hold p l k) hold), 16, [], 37, 6, []⟩ : St).F) (a' := { tmps := rc.tmps.setIfInBounds 28 (a.eval (.tmp 32)), defers := [] }) rfl rfl rfl rfl
                (slots_of (s := ⟨[(28, pulV q'), (3, .ptr 3 1 0 0), (10, .ptr 4 1 0 0)], obsL 0 (itObs q' q l (outP hold p l k) hold), 16, [], 37, 6, []⟩) rfl ⟨?_, ?_, ?_, trivial⟩) (by simp [hsz]; rfl) trivial [(.sl 1 (bools l), a.tmps.getD 7 undef)] ?_).setFix (fx := (l', Go.Obj.loop rc) :: mk a.defers) ?_
              · have hro' := hro q' q (outP hold p l k) { E' with fix := (l', Go.Obj.loop rc) :: mk a.defers, gh := [(.sl 1 (bools l), a.tmps.getD 7 undef)] } { E' with fix := (l', Go.Obj.loop { rc with state := .busy }) :: mk a.defers, gh := [(.sl 1 (bools l), a.tmps.getD 7 undef)] } l' (by omega)
                have := round_of_awi (P := Try.prog) (n := n) (E := { E' with fix := (l', Go.Obj.loop rc) :: mk a.defers, gh := [(.sl 1 (bools l), a.tmps.getD 7 undef)] }) (s3 := (⟨[(32, pulV q'), (31, .func (.yield l') [] []), (6, .bool x), (9, .int .i64 k), (8, .int .i64 l.length), (7, .sl 1 (bools l)), (0, .func (.yield l') [] []), (1, .ptr 0 1 0 0), (2, .ptr 1 1 0 0), (3, .ptr 2 1 0 0)], obsL 0 (itObs q' q' l (outP hold p l k ++ [q'.1]) hold), 16, [], 36, 6, []⟩ : St).F) (aI := a) rfl (fun p hp e => ?_) hst hpe hlb hB (by
                  intro n1 a1 w1 η1 hr1
                  refine wpIn_mono (hro' n1 a1 w1 η1 hr1) ?_
                  rintro e a2 w2 ⟨s2, η2, ⟨rfl, hbod⟩, hr2⟩
                  refine ⟨s2, η2, ⟨rfl, ?_⟩, hr2⟩
                  intro n3 a3 w3 η3 hr3
                  refine wpIn_mono (hbod n3 a3 w3 η3 hr3) ?_
                  rintro e a4 w4 ⟨s4, η4, ⟨rfl, hle⟩, hr4⟩
                  refine ⟨s4, η4, ⟨rfl, ?_⟩, hr4⟩
                  intro a5 w5 η5 hr5
                  obtain ⟨η6, hr6⟩ := hle _ a5 w5 η5 hr5
                  have hgh6 := hr6.ghost (.sl 1 (bools l), a.tmps.getD 7 undef) (by simp)
                  refine ⟨η6, hr6.swap (s' := (⟨[(32, pulV q'), (31, .func (.yield l') [] []), (6, .bool x), (9, .int .i64 k), (8, .int .i64 l.length), (7, .sl 1 (bools l)), (0, .func (.yield l') [] []), (1, .ptr 0 1 0 0), (2, .ptr 1 1 0 0), (3, .ptr 2 1 0 0)], obsL 0 (itObs q' q' l (outP hold p l k ++ [q'.1]) hold), 16, [], 36, 6, []⟩ : St).F) (a' := a) rfl rfl rfl rfl
                    (slots_of (s := ⟨[(32, pulV q'), (31, .func (.yield l') [] []), (6, .bool x), (9, .int .i64 k), (8, .int .i64 l.length), (7, .sl 1 (bools l)), (0, .func (.yield l') [] []), (1, .ptr 0 1 0 0), (2, .ptr 1 1 0 0), (3, .ptr 2 1 0 0)], obsL 0 (itObs q' q' l (outP hold p l k ++ [q'.1]) hold), 16, [], 36, 6, []⟩) rfl ⟨?_, ?_, ?_, ?_, ?_, ?_, ?_, ?_, ?_, ?_, trivial⟩) hr.tmps (mk_marks hr.defers.marks fun p hp => hr6.defers.fix p (by simp [hp])) [] (fun p hp => nomatch hp)⟩
                  · exact RV_noRef _ _ (by simp [pulV, V.noRef, noRefs]) (hr.slots 32)
                  · exact RV_yield (hr.slots 31)
                  · exact RV_noRef _ _ (by simp [V.noRef]) (hr.slots 6)
                  · exact RV_noRef _ _ (by simp [V.noRef]) (hr.slots 9)
                  · exact RV_noRef _ _ (by simp [V.noRef]) (hr.slots 8)
                  · exact RV_data (c := FSt.ctx _ _ w5 η6) _ _ hgh6
                  · exact RV_yield (hr.slots 0)
                  · exact RV_pass (o0 := ⟨.box, 31, 1, [.sl 1 (bools l)]⟩) hr hr6 rfl rfl (by rw [hhp0]; rfl) (by show 0 < 6; omega) (by show 0 < 6; omega) rfl rfl rfl rfl (hr.slots 1) rfl
                  · exact RV_pass (o0 := ⟨.box, 34, 3, [pulV p]⟩) hr hr6 rfl rfl (by rw [hhp0]; rfl) (by show 1 < 6; omega) (by show 1 < 6; omega) rfl rfl rfl rfl (hr.slots 2) rfl
                  · exact RV_pass (o0 := ⟨.box, 3, 1, [.int .i64 hold]⟩) hr hr6 rfl rfl (by rw [hhp0]; rfl) (by show 2 < 6; omega) (by show 2 < 6; omega) rfl rfl rfl rfl (hr.slots 3) rfl)
                · refine this.mono ?_
                  rintro e w' ⟨rfl, η', hr'⟩
                  refine ⟨rfl, η', ?_⟩
                  have h9 := hr'.setFix (fx := [(l', Go.Obj.loop rc)]) (fun p hp => hr'.defers.fix p (by simp at hp; simp [hp]))
                  have hE9 : ({ { { E' with fix := (l', Go.Obj.loop rc) :: mk a.defers, gh := [(.sl 1 (bools l), a.tmps.getD 7 undef)] } with gh := [] } with fix := [(l', Go.Obj.loop rc)] } : Entry) = E' := by
                    cases E'; simp_all
                  rw [hE9] at h9
                  exact h9
                · have h8 := (hfw.1 p hp).1
                  rw [e, hl1, (hfw.2 p hp)] at h8
                  cases h8
              · have h32 := ev_sound hr (.tmp 32)
                have e32 : (rc.tmps.setIfInBounds 28 (a.eval (.tmp 32))).getD 28 undef = a.eval (.tmp 32) := by simp [hsz]
                rw [e32]
                exact h32
              · have e3 : (rc.tmps.setIfInBounds 28 (a.eval (.tmp 32))).getD 3 undef = rc.tmps.getD 3 undef := by simp
                rw [e3]
                exact RV_again (o0 := ⟨.box, 34, 3, [pulV p]⟩) hr hhd0 (by rw [hhp0]; rfl) (by show 3 < 6; omega) rfl rfl rfl rfl (hcs (3, .ptr 3 1 0 0) (by simp))
              · have e10 : (rc.tmps.setIfInBounds 28 (a.eval (.tmp 32))).getD 10 undef = rc.tmps.getD 10 undef := by simp
                rw [e10]
                exact RV_again (o0 := ⟨.box, 31, 1, [.obj 5 0]⟩) hr hhd0 (by rw [hhp0]; rfl) (by show 4 < 6; omega) rfl rfl rfl rfl (hcs (10, .ptr 4 1 0 0) (by simp))
              · intro p hp
                simp only [List.mem_singleton] at hp; subst hp
                exact RV_pure _ _ (by simp [V.pure]) (hr.slots 7)
              · intro p hp
                rcases List.mem_cons.1 hp with rfl | hp
                · exact ⟨hl1, rfl⟩
                · exact hfw.1 p hp
            · simp (disch := omega) [go_sem, itObs, pulV]
              refine aev_of_AW ?_ mixed
              simp (disch := omega) [go_sem]
              refine aev_of_AW ?_ mixed
              simp (disch := omega) [go_sem]
              refine round_of (k + 1) (by omega) (by omega) (Le.mk sixR [0, 1, 2, 3, 4, 5] ⟨rfl, rfl, rfl⟩ ?_ ?_ ?_) <;> simp [go_sem, itObs, pulV, bools_pure, sixR, itF, ← hq', ho']
      · have hkl : k = l.length := by omega
        subst hkl
        have e1 : atP hold p l l.length = (runP hold p l).1 := by simp [atP]
        have e2 : outP hold p l l.length = (runP hold p l).2 := by simp [outP]
        simp (disch := omega) [go_sem]
        refine Le.mk sixR [0, 1, 2, 3, 4, 5] ⟨rfl, rfl, rfl⟩ ?_ ?_ ?_ <;> simp [go_sem, itObs, pulV, bools_pure, sixR, e1, e2]

theorem run_spec (p : Pul) (l : List Bool) (hold : Int) : FnD Try.prog 12 [pulV p, .sl 1 (bools l), .int .i64 hold] (.tup [pulV (if askedN p l.length hold = 0 then (runP hold p l).1 else (false, false, 0)), .sl 1 (bools (if askedN p l.length hold = 0 then (runP hold p l).2 else [])), .int .i64 (askedN p l.length hold)]) := by
  unfold pulV
  refine fnD_of mixed Try.func12 rfl rfl (by simp [Try.ntmps12]) fun hwf E => ?_
  simp (disch := omega) [go_sem, bools_len] at hwf
  simp (disch := omega) [Try.ntmps12, go_sem, bools_len]
  refine callK_data (asked_spec p l.length hold) [] (by simp [go_sem, pulV]) (.inl rfl) (by simp [go_sem]) fun _ => ?_
  simp (disch := omega) [go_sem]
  refine br_of (fun h => ?_) (fun h => ?_)
  · simp at h
    simp (disch := omega) [go_sem, h, bools_len]
    simp [bools]
  · simp at h
    simp (disch := omega) [go_sem, bools_len]
    refine ⟨by omega, ?_⟩
    refine callK_ref (pulses_spec p l hold) [] [] [] [] ?_ ?_ ?_ (.inl ⟨rfl, .inl rfl⟩) (fun _ => ?_)
    · simp [go_sem, pulV, bools_pure]
    · simp [go_sem]
    · simp [go_sem]
    simp (disch := omega) [go_sem, pulV, bools_pure]
    refine aw_range [(0, some 320), (1, some 321), (2, some 322), (3, some 0), (4, some 240), (5, some 224)] [320, 321, 322, 0, 240, 224] [(3, .ptr 3 1 0 0), (10, .ptr 4 1 0 0)] (capsV := [.ptr 320 1 0 0, .ptr 321 1 0 0, .ptr 322 1 0 0]) (capsR := [.ptr 0 1 0 0, .ptr 1 1 0 0, .ptr 2 1 0 0]) (obs := itObs p p l [] hold) (obs' := itObs (runP hold p l).1 (runP hold p l).1 l (runP hold p l).2 hold) ⟨_, Try.func27, rfl, rfl⟩ ?_ ?_ ?_ ?_ ?_ ?_ ?_ ?_
    · simp [go_sem]
    · simp [go_sem, itObs, pulV, bools, bools_pure]
    · simp [go_sem]
    · simp [go_sem, itObs]
    · refine ⟨rfl, fun i hi => ?_⟩
      simp [itObs] at hi
      have : i = 0 ∨ i = 1 ∨ i = 2 ∨ i = 3 ∨ i = 4 ∨ i = 5 := by omega
      rcases this with rfl | rfl | rfl | rfl | rfl | rfl <;> exact ⟨_, rfl⟩
    · simp [go_sem, cslLe]
    · refine iter_spec p l hold ?_ ?_ ?_
      · simp only [askedN] at h; repeat' split at h
        all_goals first | omega | cases h
      · simp only [askedN] at h; repeat' split at h
        all_goals first | omega | cases h
      · intro q c outs E1 E2 l' ho
        refine aev_soundIn _ _ _ rfl ?_
        simp (disch := omega) [go_sem, itObs, pulV]
        refine aev_soundIn _ _ _ rfl ?_
        simp (disch := omega) [go_sem, bools_len]
        refine ⟨by omega, ?_⟩
        have hb : bools (outs ++ [q.1]) = bools outs ++ [V.bool q.1] := by simp [bools]
        refine Le.mk sixR [0, 1, 2, 3, 4, 5] ⟨rfl, rfl, rfl⟩ ?_ ?_ ?_ <;> simp [go_sem, itObs, pulV, bools_pure, sixR, hb]
    · simp (disch := omega) [go_sem, itObs, pulV, bools_pure, h]
      simp [rens_pure, bools_pure]
      exact ⟨by kernel_rfl, (bools_len _).symm, argsLe_self (bools_pure _)⟩
end Go.Proofs.Ytnikgmdpnlfbiaa
