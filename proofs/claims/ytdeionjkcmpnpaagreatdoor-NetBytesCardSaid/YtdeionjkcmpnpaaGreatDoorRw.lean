
/- The layer site: sites and plans are read. -/
import Derived.Test.YtdeionjkcmpnpaaGreatDoorRd3
import Derived.Test.YtdeionjkcmpnpaaGreatDoorWr2
set_option linter.unusedSimpArgs false
set_option linter.unusedVariables false
namespace Go.Proofs.YtdeionjkcmpnpaaGreatDoor
open Go.AM Go.RowKit
set_option maxRecDepth 100000

def zeroS : Sit := ⟨0, [], [], [], [], [], 0, 0, 0, 0, 0, []⟩
def readR (l : List UInt8) : Sit × RdS := siteR ⟨l.take (l.length - 4), false⟩
def readT (l : List UInt8) : Sit := (readR l).1
def readB (l : List UInt8) : Bool := (readR l).2.bad
def ReadOk (l : List UInt8) : Prop := 4 ≤ l.length ∧ sumB (l.take (l.length - 4)) = l.drop (l.length - 4) ∧ readB l = false ∧ SiteOk (readT l) ∧ writeB (readT l) = l
noncomputable instance (l : List UInt8) : Decidable (ReadOk l) := Classical.propDecidable _
noncomputable def readS (l : List UInt8) : Sit := if ReadOk l then readT l else zeroS
noncomputable def readE (l : List UInt8) : Int := if ReadOk l then 0 else 8
theorem read_ok {l : List UInt8} (h : ReadOk l) : readS l = readT l ∧ readE l = 0 := by unfold readS readE; rw [if_pos h, if_pos h]; exact ⟨rfl, rfl⟩
theorem read_bad {l : List UInt8} (h : ¬ ReadOk l) : readS l = zeroS ∧ readE l = 8 := by unfold readS readE; rw [if_neg h, if_neg h]; exact ⟨rfl, rfl⟩
/-- What a site was written as is read as it. -/
theorem read_write {s : Sit} (h : SiteOk s) : ReadOk (writeB s) ∧ readT (writeB s) = s := by
  have e := siteR_write h.written
  have hl := writeB_len s
  have e1 : readT (writeB s) = s := by unfold readT readR; rw [e]
  have e2 : readB (writeB s) = false := by unfold readB readR; rw [e]
  unfold ReadOk
  rw [e1, e2]
  exact ⟨⟨by omega, write_sum s, rfl, h, rfl⟩, rfl⟩
theorem read_iff (l : List UInt8) : ReadOk l ↔ ∃ s, SiteOk s ∧ writeB s = l := by
  constructor
  · intro h; exact ⟨_, h.2.2.2.1, h.2.2.2.2⟩
  · rintro ⟨s, hs, rfl⟩; exact (read_write hs).1
set_option maxHeartbeats 4000000 in
theorem sread_spec (l : List UInt8) : FnD Tryz.prog 96 [.sl 1 (bts l)] (.tup [sitV (readS l), .int .i64 (readE l)]) tabG := by
  have hpl := bts_pure l
  have hll := bts_len l
  refine fnD_of mixed Tryz.func96 rfl rfl (by simp [Tryz.ntmps96]) fun hwf E => ?_
  simp (disch := omega) [go_sem, hll] at hwf
  by_cases h4 : l.length < 4
  · have hn : ¬ ReadOk l := fun h => by have := h.1; omega
    obtain ⟨e1, e2⟩ := read_bad hn
    rw [e1, e2]
    have hd : decide ((l.length : Int) < 4) = true := by simp; omega
    simp (disch := omega) [Tryz.ntmps96, go_sem, hll, hd]
    exact ⟨.inl (by kernel_rfl), by simp [zeroS, sitV, sets, rows, go_sem]⟩
  · have hpt := bts_pure (l.take (l.length - 4))
    have hpd := bts_pure (l.drop (l.length - 4))
    have q1 := sum_spec (l.take (l.length - 4))
    have q2 := equal_spec (sumB (l.take (l.length - 4))) (l.drop (l.length - 4))
    have hps := bts_pure (sumB (l.take (l.length - 4)))
    have hRO : ReadOk l ↔ (sumB (l.take (l.length - 4)) = l.drop (l.length - 4)) ∧ readB l = false ∧ SiteOk (readT l) ∧ writeB (readT l) = l := ⟨fun h => h.2, fun h => ⟨by omega, h⟩⟩
    have hd : decide ((l.length : Int) < 4) = false := by simp; omega
    have ht : ((l.length : Int) - 4).toNat = l.length - 4 := by omega
    simp (disch := omega) [Tryz.ntmps96, go_sem, hll, hd, ht, bts_take, bts_drop, List.take_of_length_le]
    refine ⟨by omega, ?_⟩
    refine callK_data q1 [] (by simp [go_sem, hpt]) (.inl rfl) (by simp [go_sem, hps]) (fun _ => ?_)
    simp (disch := omega) [go_sem, hll, hd, ht, bts_take, bts_drop, List.take_of_length_le]
    generalize sumB (l.take (l.length - 4)) = A at *
    generalize l.drop (l.length - 4) = B at *
    refine ⟨⟨by omega, by omega⟩, ?_⟩
    refine callK_bool q2 [] (by simp [go_sem, hps, hpd]) (fun h1 => ?_) (fun h1 => ?_) <;> simp at h1
    · simp (disch := omega) [go_sem, hll, hd, ht, bts_take, bts_drop, List.take_of_length_le]
      replace hRO : ReadOk l ↔ readB l = false ∧ SiteOk (readT l) ∧ writeB (readT l) = l := ⟨fun h => (hRO.1 h).2, fun h => hRO.2 ⟨h1, h⟩⟩
      have hre : readR l = (rSit ⟨l.take (l.length - 4), false⟩ (plansR (rHi ⟨l.take (l.length - 4), false⟩).2).1, (plansR (rHi ⟨l.take (l.length - 4), false⟩).2).2) := by unfold readR; unfold siteR; exact rfl
      have hsit : readT l = rSit ⟨l.take (l.length - 4), false⟩ (plansR (rHi ⟨l.take (l.length - 4), false⟩).2).1 := by unfold readT; rw [hre]
      have hbd : readB l = (plansR (rHi ⟨l.take (l.length - 4), false⟩).2).2.bad := by unfold readB; rw [hre]
      clear hre
      have q3 := read_spec ⟨l.take (l.length - 4), false⟩
      generalize hST : (⟨l.take (l.length - 4), false⟩ : RdS) = ST at *
      have q4 := plans0_spec (rHi ST).2 (restV (rI ST).1 (.sl 3 ((rG ST).1.map grpV)) (.sl 1 (sets (rA ST).1)) (.sl 1 (rows (rB ST).1)) (.sl 5 ((rP ST).1.map phaV)) (.sl 4 ((rE ST).1.map eyeV)) (rW ST).1 (rF ST).1 (rH ST).1 (rLo ST).1 (rHi ST).1 .nilS) (by simp [restV, go_sem, grps_pure, sets_pure, rows_pure, phas_pure, eyes_pure])
      have hSb : ST.b = l.take (l.length - 4) := by rw [← hST]
      have hSd : ST.bad = false := by rw [← hST]
      have q5 := write_spec (readT l)
      have hsv : sitV (readT l) = .agg [.int .i64 (rI ST).1, .sl 3 ((rG ST).1.map grpV), .sl 1 (sets (rA ST).1), .sl 1 (rows (rB ST).1), .sl 5 ((rP ST).1.map phaV), .sl 4 ((rE ST).1.map eyeV), .int .i64 (rW ST).1, .int .i64 (rF ST).1, .int .i64 (rH ST).1, .int .i64 (rLo ST).1, .int .i64 (rHi ST).1, .sl 3 ((plansR (rHi ST).2).1.map plnV)] := by rw [hsit]; simp only [rSit, sitV]
      have hv1 := fun h => (read_ok (l := l) h).1
      have hv2 := fun h => (read_ok (l := l) h).2
      rw [hsv] at q5
      clear hsit
      rw [hbd] at hRO
      generalize hX : plansR (rHi ST).2 = X at *
      have hpr := plns_pure X.1
      have hpb := bts_pure X.2.b
      clear hX
      generalize rHi ST = vhi at *
      generalize rLo ST = vlo at *
      generalize rH ST = vh at *
      generalize rF ST = vf at *
      generalize rW ST = vw at *
      generalize rE ST = ve at *
      generalize rP ST = vp at *
      generalize rB ST = vb at *
      generalize rA ST = va at *
      generalize rG ST = vg at *
      generalize rI ST = vi at *
      have hph := bts_pure vhi.2.b
      generalize readT l = t at *
      have q6 := equal_spec (writeB t) l
      have hpw := bts_pure (writeV t)
      refine ⟨.inl (by kernel_rfl), ⟨by omega, by omega⟩, ?_⟩
      refine callK_ref q3 [(0, some 432)] [432] [] [] ?_ ?_ ?_ (.inl ⟨rfl, .inl rfl⟩) (fun _ => ?_)
      · simp [go_sem]
      · simp [go_sem, rdO, restV, hSb, hSd, hpt]
      · simp [go_sem, rdO, restV]
      simp (disch := omega) [go_sem, rdO, restV]
      refine callK_ref q4 [(0, some 432)] [432] [] [] ?_ ?_ ?_ (.inl ⟨rfl, .inl rfl⟩) (fun _ => ?_)
      · simp [go_sem]
      · simp [go_sem, rdO, restV, hph, grps_pure, sets_pure, rows_pure, phas_pure, eyes_pure]
      · simp [go_sem, rdO, restV]
      simp (disch := omega) [go_sem, rdO, restV]
      refine callK_data q5 [] (by simp [go_sem, hpr, grps_pure, sets_pure, rows_pure, phas_pure, eyes_pure]) (.inl rfl) (by simp [go_sem, hpw]) (fun _ => ?_) (by simp [tabG, go_sem])
      have hno : ¬ ReadOk l → readS l = zeroS ∧ readE l = 8 := read_bad
      have hz : sitV zeroS = .agg [.int .i64 0, .sl 3 [], .sl 1 [], .sl 1 [], .sl 5 [], .sl 4 [], .int .i64 0, .int .i64 0, .int .i64 0, .int .i64 0, .int .i64 0, .sl 3 []] := rfl
      by_cases hk : SiteOk t
      · have ew : writeV t = writeB t := by unfold writeV; rw [if_pos hk]
        have ec := checkN_ok hk
        rw [ew] at hpw
        cases hbb : X.2.bad with
        | true =>
          obtain ⟨e1, e2⟩ := hno fun h => by rw [hbb] at hRO; exact absurd (hRO.1 h).1 (by decide)
          rw [e1, e2, hz]
          simp (disch := omega) [go_sem, ec, ew, hbb]
        | false =>
          simp (disch := omega) [go_sem, ec, ew, hbb]
          refine callK_bool q6 [] (by simp [go_sem, hpw, hpl]) (fun h2 => ?_) (fun h2 => ?_) <;> simp at h2
          · have hy : ReadOk l := hRO.2 ⟨hbb, hk, h2⟩
            rw [hv1 hy, hv2 hy, hsv]
            simp (disch := omega) [go_sem, hpr, grps_pure, sets_pure, rows_pure, phas_pure, eyes_pure]
          · obtain ⟨e1, e2⟩ := hno fun h => h2 (hRO.1 h).2.2
            rw [e1, e2, hz]
            simp (disch := omega) [go_sem]
      · have ew : writeV t = [] := by unfold writeV; rw [if_neg hk]
        have ec := checkN_bad hk
        obtain ⟨e1, e2⟩ := hno fun h => hk (hRO.1 h).2.1
        rw [e1, e2, hz]
        cases hbb : X.2.bad <;> simp (disch := omega) [go_sem, ec, ew, hbb]
    · have hn : ¬ ReadOk l := fun h => h1 (hRO.1 h).1
      obtain ⟨e1, e2⟩ := read_bad hn
      rw [e1, e2]
      simp (disch := omega) [go_sem, hll, hd, ht, bts_take, bts_drop, List.take_of_length_le]
      exact ⟨.inl (by kernel_rfl), by simp [zeroS, sitV, sets, rows, go_sem]⟩

/-! plans -/
def partsR (l : List UInt8) : List Pln × RdS := plansR ⟨l, false⟩
def partsP (l : List UInt8) : List Pln := (partsR l).1
def partsB (l : List UInt8) : Bool := (partsR l).2.bad
def PartsOk5 (l : List UInt8) : Prop := partsB l = false ∧ wholeE (partsP l) = 0 ∧ putN (plansI (partsP l)) = l
instance (l : List UInt8) : Decidable (PartsOk5 l) := by unfold PartsOk5; infer_instance
def partsV (l : List UInt8) : List Pln := if PartsOk5 l then partsP l else []
def partsE (l : List UInt8) : Int := if PartsOk5 l then 0 else 8
theorem parts5_ok {l : List UInt8} (h : PartsOk5 l) : partsV l = partsP l ∧ partsE l = 0 := by unfold partsV partsE; rw [if_pos h, if_pos h]; exact ⟨rfl, rfl⟩
theorem parts5_bad {l : List UInt8} (h : ¬ PartsOk5 l) : partsV l = [] ∧ partsE l = 8 := by unfold partsV partsE; rw [if_neg h, if_neg h]; exact ⟨rfl, rfl⟩
theorem parts_whole {l : List Pln} (h : wholeE l = 0) : PartsOk5 (putN (plansI l)) ∧ partsP (putN (plansI l)) = l := by
  obtain ⟨h1, h2⟩ := whole_ok h
  have e := plans_rds h1 h2 []
  rw [List.append_nil] at e
  have e1 : partsP (putN (plansI l)) = l := by unfold partsP partsR; rw [e]
  have e2 : partsB (putN (plansI l)) = false := by unfold partsB partsR; rw [e]
  exact ⟨⟨e2, by rw [e1]; exact h, by rw [e1]⟩, e1⟩
end Go.Proofs.YtdeionjkcmpnpaaGreatDoor
