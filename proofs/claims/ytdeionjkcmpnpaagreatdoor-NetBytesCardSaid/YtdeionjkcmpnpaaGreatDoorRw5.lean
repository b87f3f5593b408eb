
/- The reference stoplineref05: sites and plans are read. -/
import Derived.Test.YtdeionjkcmpnpaaGreatDoorSite5
set_option linter.unusedSimpArgs false
set_option linter.unusedVariables false
namespace Go.Proofs.YtdeionjkcmpnpaaGreatDoor
open Go.AM Go.RowKit
set_option maxRecDepth 100000

def partsX (l : List UInt8) : List Pln × RdS := plansQ ⟨l, false⟩
theorem partsX_yes {l : List UInt8} (h : PartsOk5 l) : (partsX l).2.bad = false ∧ wholeE (partsX l).1 = 0 ∧ putN (plansI (partsX l).1) = l ∧ partsP l = (partsX l).1 := by
  obtain ⟨h1, h2, h3⟩ := h
  obtain ⟨w1, w2⟩ := whole_ok h2
  have e := plans_rdq w1 w2 []
  rw [List.append_nil, h3] at e
  have e1 : partsX l = (partsP l, ⟨[], false⟩) := e
  rw [e1]
  exact ⟨rfl, h2, h3, rfl⟩
theorem partsX_of {l : List UInt8} (h2 : wholeE (partsX l).1 = 0) (h3 : putN (plansI (partsX l).1) = l) : PartsOk5 l ∧ partsP l = (partsX l).1 := by
  have := parts_whole h2
  rw [h3] at this
  exact this
def stR (l : List UInt8) : RdS := ⟨l.take (l.length - 4), false⟩
theorem readX_yes {l : List UInt8} (h : ReadOk l) : (qPl (stR l)).2.bad = false ∧ SiteOk (qSit (stR l)) ∧ writeB (qSit (stR l)) = l ∧ readT l = qSit (stR l) := by
  obtain ⟨_, _, _, h4, h5⟩ := h
  have e := readQ_write h4
  rw [h5] at e
  have e1 : qSit (stR l) = readT l := e.1
  have e2 : (qPl (stR l)).2 = ⟨[], false⟩ := e.2
  rw [e1, e2]
  exact ⟨rfl, h4, h5, rfl⟩
theorem readX_of {l : List UInt8} (h2 : SiteOk (qSit (stR l))) (h3 : writeB (qSit (stR l)) = l) : ReadOk l := (read_iff l).2 ⟨_, h2, h3⟩
theorem r5read_spec (l : List UInt8) : FnD Tryz.prog 47 [.sl 1 (bts l)] (.tup [sitV (readS l), .int .i64 (readE l)]) := by
  have hno : ¬ ReadOk l → readS l = zeroS ∧ readE l = 8 := read_bad
  have hz : sitV zeroS = .agg [.int .i64 0, .sl 3 [], .sl 1 [], .sl 1 [], .sl 5 [], .sl 4 [], .int .i64 0, .int .i64 0, .int .i64 0, .int .i64 0, .int .i64 0, .sl 3 []] := rfl
  refine fnD_of mixed Tryz.func47 rfl rfl (by simp [Tryz.ntmps47]) fun hwf E => ?_
  simp (disch := omega) [go_sem] at hwf
  simp (disch := omega) [Tryz.ntmps47, go_sem]
  by_cases h4 : l.length < 4
  · have hn : ¬ ReadOk l := fun h => by have := h.1; omega
    obtain ⟨e1, e2⟩ := hno hn
    rw [e1, e2, hz]
    have hd : decide ((l.length : Int) < 4) = true := by simp; omega
    simp (disch := omega) [go_sem, hd, bts_len]
  · have q3 := r5site_spec (stR l)
    have hy := readX_yes (l := l)
    have ho := readX_of (l := l)
    have hok := read_ok (l := l)
    have hst : rq (stR l) = ⟨.box, 112, 2, [.agg [.sl 1 (bts (l.take (l.length - 4))), .bool false]]⟩ := rfl
    rw [hst] at q3
    have hsv : ∀ s, sitV s = .agg [.int .i64 s.id, .sl 3 (s.groups.map grpV), .sl 1 (sets s.apart), .sl 1 (rows s.between), .sl 5 (s.phases.map phaV), .sl 4 (s.eyes.map eyeV), .int .i64 s.watch, .int .i64 s.feed, .int .i64 s.heal, .int .i64 s.low, .int .i64 s.high, .sl 3 (s.plans.map plnV)] := fun _ => rfl
    generalize qSit (stR l) = t at *
    generalize (qPl (stR l)).2 = st at *
    have q5 := r5write_spec t
    rw [hsv] at q3 q5
    have ht : ((l.length : Int) - 4).toNat = l.length - 4 := by omega
    have hd : decide ((l.length : Int) < 4) = false := by simp; omega
    simp (disch := omega) [go_sem, rq, hd, ht, bts_len, bts_take, bts_drop, bytesV_bts, strV, baList]
    refine ⟨by omega, ?_⟩
    refine callK_ref q3 [(0, some 176)] [176] [] [] ?_ ?_ ?_ (.inl ⟨rfl, .inl rfl⟩) (fun _ => ?_)
    · simp [go_sem, rq, hd, ht, bts_len, bts_take, bts_drop, bytesV_bts, strV, baList]
    · simp [go_sem, rq, hd, ht, bts_len, bts_take, bts_drop, bytesV_bts, strV, baList]
    · simp [go_sem, rq, hd, ht, bts_len, bts_take, bts_drop, bytesV_bts, strV, baList]
    simp (disch := omega) [go_sem, rq, hd, ht, bts_len, bts_take, bts_drop, bytesV_bts, strV, baList]
    by_cases hP : ReadOk l
    · obtain ⟨y1, y2, y3, y4⟩ := hy hP
      rw [(hok hP).1, (hok hP).2, y4, hsv]
      have ew : writeV t = l := by unfold writeV; rw [if_pos y2, y3]
      rw [checkN_ok y2, ew] at q5
      refine callK_data q5 [] (by simp [go_sem, rq, hd, ht, bts_len, bts_take, bts_drop, bytesV_bts, strV, baList]) (.inl rfl) (by simp [go_sem, rq, hd, ht, bts_len, bts_take, bts_drop, bytesV_bts, strV, baList]) (fun _ => ?_)
      simp (disch := omega) [go_sem, rq, hd, ht, bts_len, bts_take, bts_drop, bytesV_bts, strV, baList]
      simp (disch := omega) [go_sem, rq, hd, ht, bts_len, bts_take, bts_drop, bytesV_bts, strV, baList, y1]
    · rw [(hno hP).1, (hno hP).2, hz]
      by_cases hw : SiteOk t
      · have ew : writeV t = writeB t := by unfold writeV; rw [if_pos hw]
        have hn : writeB t ≠ l := fun h => hP (ho hw h)
        rw [ew, checkN_ok hw] at q5
        have hbq : (writeB t == l) = false := by simpa using hn
        refine callK_data q5 [] (by simp [go_sem, rq, hd, ht, bts_len, bts_take, bts_drop, bytesV_bts, strV, baList]) (.inl rfl) (by simp [go_sem, rq, hd, ht, bts_len, bts_take, bts_drop, bytesV_bts, strV, baList]) (fun _ => ?_)
        simp (disch := omega) [go_sem, rq, hd, ht, bts_len, bts_take, bts_drop, bytesV_bts, strV, baList]
        cases hb : st.bad <;> simp (disch := omega) [go_sem, hb, hbq, bytesV_bts, strV, baList]
      · rw [checkN_bad hw] at q5
        refine callK_data q5 [] (by simp [go_sem, rq, hd, ht, bts_len, bts_take, bts_drop, bytesV_bts, strV, baList]) (.inl rfl) (by simp [go_sem, rq, hd, ht, bts_len, bts_take, bts_drop, bytesV_bts, strV, baList]) (fun _ => ?_)
        simp (disch := omega) [go_sem, rq, hd, ht, bts_len, bts_take, bts_drop, bytesV_bts, strV, baList]
end Go.Proofs.YtdeionjkcmpnpaaGreatDoor
