
/- NetNames: the law. -/
import Derived.Test.YtdeionjkcmpnpaaDoorNetPt
set_option linter.unusedSimpArgs false
set_option linter.unusedVariables false
namespace Go.Proofs.YtdeionjkcmpnpaaDoor
open Go.AM Go.RowKit
set_option maxRecDepth 100000

def sitD (id : Int) : V := .agg [.int .i64 id, .sl 3 [.agg [.int .u8 1, .int .i64 2, .int .i64 1], .agg [.int .u8 1, .int .i64 2, .int .i64 1]], .sl 1 [.int .u32 2, .int .u32 1], .sl 1 [.sl 1 [.int .i64 0, .int .i64 2], .sl 1 [.int .i64 2, .int .i64 0]], .sl 5 [.agg [.int .u32 1, .int .i64 2, .int .i64 5, .int .i64 1, .bool false], .agg [.int .u32 2, .int .i64 2, .int .i64 5, .int .i64 1, .bool false]], .sl 4 [], .int .i64 3, .int .i64 2, .int .i64 4, .int .i64 8, .int .i64 20, .sl 3 []]
theorem sitD_eq (id : Int) : sitV (siteN id) = sitD id := by simp [sitV, siteN, sitD, grpV, phaV, sets, rows, ints]
def sbD (l : List V) (c : Int) : V := .agg [.sl 1 l, .int .i64 c]
def wdD (a b : Int) : V := .agg [.int .i64 a, .int .i64 b, .int .i64 3, .sl 1 [.int .i64 0, .int .i64 4]]
def ob3 (z : Int) (u : V) (w : V) : List AM.Obj := [⟨.arr, 29, 12, [sitD 0, sitD z]⟩, ⟨.arr, 101, 2, [sbD [.int .i64 0] 0, u]⟩, ⟨.arr, 104, 4, [w]⟩]
theorem two6_ref : FnR Tryd.prog 47 [] [] (ob3 1 (sbD [.int .i64 1] 1) (wdD 0 1)) (.agg [.obj 0 2, .obj 1 2, .obj 2 1, .int .i64 8, .int .i64 20, .int .i64 4]) := by
  refine fnR_of mixed Tryd.func47 rfl rfl (by simp [Tryd.ntmps47]) (by simp) fun hwf E => ?_
  clear hwf
  simp (disch := omega) [Tryd.ntmps47, go_sem]
  refine Le.mk [(0, some 400), (1, some 480), (2, some 528)] [400, 480, 528] ⟨rfl, rfl, rfl⟩ ?_ ?_ ?_ <;> simp [go_sem, ob3, sitD, sbD, wdD]
def netD (z : Int) (u w : V) (hi st : Int) : V := .agg [.sl 12 [sitD 0, sitD z], .sl 2 [sbD [.int .i64 0] 0, u], .sl 4 [w], .int .i64 8, .int .i64 hi, .int .i64 st]
def netX (z : Int) (us : List Int) (c a b hi st : Int) : NetN := ⟨[siteN 0, siteN z], [⟨[0], 0⟩, ⟨us, c⟩], [⟨a, b, 3, [0, 4]⟩], 8, hi, st⟩
theorem netX_eq (z : Int) (us : List Int) (c a b hi st : Int) : netV (netX z us c a b hi st) = netD z (sbD (ints us) c) (wdD a b) hi st := by
  simp [netV, netX, netD, sitD_eq, subV, wedV, sbD, wdD, ints]
theorem bad_v : ¬ NetOk (netX 1 [1] 1 0 1 20 5) := fun h => by have := h.1.2.2.2.1; simp [netX] at this
theorem bad_w : ¬ NetOk (netX 1 [1] 1 0 1 24 4) := fun h => by have := (h.2.1.2.2 (siteN 0) (by simp [netX])).2.2; simp [netX, siteN] at this
theorem bad_x : ¬ NetOk (netX 1 [0] 0 0 1 20 4) := fun h => by have := (subs_all h).1; simp [netX] at this
theorem bad_y : ¬ NetOk (netX 1 [1] 1 1 0 20 4) := fun h => by have := (h.2.2.2.2.2 ⟨1, 0, 3, [0, 4]⟩ (by simp [netX])).2.1; simp at this
theorem bad_z : ¬ NetOk (netX 0 [1] 1 0 1 20 4) := fun h => by have := h.2.1.2.1; simp [netX, idsN, siteN] at this
set_option maxHeartbeats 8000000 in
theorem nnames_spec : FnD Tryd.prog 9 [] (.bool true) tabG := by
  have q0 := two6_spec
  have q1 := nsub_spec regionN 1
  have q2 := nsite_spec regionN 1
  have q3 := cycles_spec regionN
  have q4 := nsub_spec regionN 2
  have q5 := nsite_spec regionN 9
  have q6 := nread_nogood (l := []) (fun ⟨n, _, h⟩ => by have := writeNB_len n; rw [h] at this; simp at this)
  have q7 := ncheck_good regionN_ok
  have hok := regionN_ok
  have e1 : subN regionN 1 = 1 := subN_at regionN_ok (k := 1) (by simp [regionN]) (by simp [regionN])
  have e2 : placeS regionN 1 = 1 := placeS_at regionN_ok (i := 1) (by simp [regionN])
  have e4 : subN regionN 2 = -1 := rfl
  have e5 : placeS regionN 9 = -1 := rfl
  have e3 : allCyc regionN = [8, 12, 16, 20] := by rw [allCyc_ok regionN_ok]; rfl
  rw [e1, if_pos ⟨hok, by omega⟩, if_pos hok, if_pos (by omega)] at q1
  rw [e2, if_pos ⟨hok, by omega⟩, if_pos hok, if_pos (by omega)] at q2
  rw [e4, if_neg (by omega), if_pos hok, if_neg (by omega)] at q4
  rw [e5, if_neg (by omega), if_pos hok, if_neg (by omega)] at q5
  rw [e3, netN_ok hok] at q3
  have er : netV regionN = netD 1 (sbD [.int .i64 1] 1) (wdD 0 1) 20 4 := netX_eq 1 [1] 1 0 1 20 4
  have cv := ncheck_nogood bad_v
  have cw := ncheck_nogood bad_w
  have cx := ncheck_nogood bad_x
  have cy := ncheck_nogood bad_y
  have cz := ncheck_nogood bad_z
  rw [netX_eq] at cv cw cx cy cz
  rw [er] at q0 q1 q2 q3 q4 q5 q7
  have hz : netV zeroN = .agg [.sl 12 [], .sl 2 [], .sl 4 [], .int .i64 0, .int .i64 0, .int .i64 0] := rfl
  rw [hz] at q6
  have hib : bts [] = [] := rfl
  refine fnD_of mixed Tryd.func9 rfl rfl (by simp [Tryd.ntmps9]) fun hwf E => ?_
  clear hwf
  simp (disch := omega) [Tryd.ntmps9, go_sem, netD, sitD, sbD, wdD, ints, hib]
  refine callK_data q0 [] (by simp [go_sem, netD, sitD, sbD, wdD, ints, hib]) (.inl rfl) (by simp [go_sem, netD, sitD, sbD, wdD, ints, hib]) (fun _ => ?_)
  simp (disch := omega) [go_sem, netD, sitD, sbD, wdD, ints, hib]
  refine callK_data q1 [] (by simp [go_sem, netD, sitD, sbD, wdD, ints, hib]) (.inl rfl) (by simp [go_sem, netD, sitD, sbD, wdD, ints, hib]) (fun _ => ?_) (by simp [tabG, go_sem])
  simp (disch := omega) [go_sem, netD, sitD, sbD, wdD, ints, hib]
  refine callK_data q2 [] (by simp [go_sem, netD, sitD, sbD, wdD, ints, hib]) (.inl rfl) (by simp [go_sem, netD, sitD, sbD, wdD, ints, hib]) (fun _ => ?_) (by simp [tabG, go_sem])
  simp (disch := omega) [go_sem, netD, sitD, sbD, wdD, ints, hib]
  refine callK_data q3 [] (by simp [go_sem, netD, sitD, sbD, wdD, ints, hib]) (.inl rfl) (by simp [go_sem, netD, sitD, sbD, wdD, ints, hib]) (fun _ => ?_) (by simp [tabG, go_sem])
  simp (disch := omega) [go_sem, netD, sitD, sbD, wdD, ints, hib]
  refine callK_data q4 [] (by simp [go_sem, netD, sitD, sbD, wdD, ints, hib]) (.inl rfl) (by simp [go_sem, netD, sitD, sbD, wdD, ints, hib]) (fun _ => ?_) (by simp [tabG, go_sem])
  simp (disch := omega) [go_sem, netD, sitD, sbD, wdD, ints, hib]
  refine callK_data q5 [] (by simp [go_sem, netD, sitD, sbD, wdD, ints, hib]) (.inl rfl) (by simp [go_sem, netD, sitD, sbD, wdD, ints, hib]) (fun _ => ?_) (by simp [tabG, go_sem])
  simp (disch := omega) [go_sem, netD, sitD, sbD, wdD, ints, hib]
  refine callK_data q6 [] (by simp [go_sem, netD, sitD, sbD, wdD, ints, hib]) (.inl rfl) (by simp [go_sem, netD, sitD, sbD, wdD, ints, hib]) (fun _ => ?_) (by simp [tabG, go_sem])
  simp (disch := omega) [go_sem, netD, sitD, sbD, wdD, ints, hib]
  refine callK_data q7 [] (by simp [go_sem, netD, sitD, sbD, wdD, ints, hib]) (.inl rfl) (by simp [go_sem, netD, sitD, sbD, wdD, ints, hib]) (fun _ => ?_) (by simp [tabG, go_sem])
  simp (disch := omega) [go_sem, netD, sitD, sbD, wdD, ints, hib]
  refine callK_ref two6_ref [] [] [] [] ?_ ?_ ?_ (.inl ⟨rfl, .inl rfl⟩) (fun _ => ?_)
  · simp [go_sem, netD, sitD, sbD, wdD, ints, hib, ob3]
  · simp [go_sem, netD, sitD, sbD, wdD, ints, hib, ob3]
  · simp [go_sem, netD, sitD, sbD, wdD, ints, hib, ob3]
  simp (disch := omega) [go_sem, netD, sitD, sbD, wdD, ints, hib, ob3]
  refine callK_ref two6_ref [] [] [] [] ?_ ?_ ?_ (.inl ⟨rfl, .inl rfl⟩) (fun _ => ?_)
  · simp [go_sem, netD, sitD, sbD, wdD, ints, hib, ob3]
  · simp [go_sem, netD, sitD, sbD, wdD, ints, hib, ob3]
  · simp [go_sem, netD, sitD, sbD, wdD, ints, hib, ob3]
  simp (disch := omega) [go_sem, netD, sitD, sbD, wdD, ints, hib, ob3]
  refine callK_ref two6_ref [] [] [] [] ?_ ?_ ?_ (.inl ⟨rfl, .inl rfl⟩) (fun _ => ?_)
  · simp [go_sem, netD, sitD, sbD, wdD, ints, hib, ob3]
  · simp [go_sem, netD, sitD, sbD, wdD, ints, hib, ob3]
  · simp [go_sem, netD, sitD, sbD, wdD, ints, hib, ob3]
  simp (disch := omega) [go_sem, netD, sitD, sbD, wdD, ints, hib, ob3]
  refine callK_ref two6_ref [] [] [] [] ?_ ?_ ?_ (.inl ⟨rfl, .inl rfl⟩) (fun _ => ?_)
  · simp [go_sem, netD, sitD, sbD, wdD, ints, hib, ob3]
  · simp [go_sem, netD, sitD, sbD, wdD, ints, hib, ob3]
  · simp [go_sem, netD, sitD, sbD, wdD, ints, hib, ob3]
  simp (disch := omega) [go_sem, netD, sitD, sbD, wdD, ints, hib, ob3]
  refine callK_ref two6_ref [] [] [] [] ?_ ?_ ?_ (.inl ⟨rfl, .inl rfl⟩) (fun _ => ?_)
  · simp [go_sem, netD, sitD, sbD, wdD, ints, hib, ob3]
  · simp [go_sem, netD, sitD, sbD, wdD, ints, hib, ob3]
  · simp [go_sem, netD, sitD, sbD, wdD, ints, hib, ob3]
  simp (disch := omega) [go_sem, netD, sitD, sbD, wdD, ints, hib, ob3]
  trace_state
  refine ⟨.inl (by kernel_rfl), ?_⟩
  refine callK_data alive6_spec [] (by simp [go_sem, netD, sitD, sbD, wdD, ints, hib, ob3]) (.inl rfl) (by simp [go_sem, netD, sitD, sbD, wdD, ints, hib, ob3]) (fun _ => ?_) (by simp [tabG, go_sem])
  simp (disch := omega) [go_sem, netD, sitD, sbD, wdD, ints, hib, ob3]
  refine callK_data cv [1584, 1585, 1586] (by simp [go_sem, netD, sitD, sbD, wdD, ints, hib, ob3]) (.inr (by simp [go_sem, netD, sitD, sbD, wdD, ints, hib, ob3])) (by simp [go_sem, netD, sitD, sbD, wdD, ints, hib, ob3]) (fun _ => ?_) (by simp [tabG, go_sem])
  simp (disch := omega) [go_sem, netD, sitD, sbD, wdD, ints, hib, ob3]
  refine callK_data cw [1600, 1601, 1602] (by simp [go_sem, netD, sitD, sbD, wdD, ints, hib, ob3]) (.inr (by simp [go_sem, netD, sitD, sbD, wdD, ints, hib, ob3])) (by simp [go_sem, netD, sitD, sbD, wdD, ints, hib, ob3]) (fun _ => ?_) (by simp [tabG, go_sem])
  simp (disch := omega) [go_sem, netD, sitD, sbD, wdD, ints, hib, ob3]
  refine callK_data cx [1616, 1617, 1618, 1920] (by simp [go_sem, netD, sitD, sbD, wdD, ints, hib, ob3]) (.inr (by simp [go_sem, netD, sitD, sbD, wdD, ints, hib, ob3])) (by simp [go_sem, netD, sitD, sbD, wdD, ints, hib, ob3]) (fun _ => ?_) (by simp [tabG, go_sem])
  simp (disch := omega) [go_sem, netD, sitD, sbD, wdD, ints, hib, ob3]
  refine callK_data cy [1632, 1633, 1634] (by simp [go_sem, netD, sitD, sbD, wdD, ints, hib, ob3]) (.inr (by simp [go_sem, netD, sitD, sbD, wdD, ints, hib, ob3])) (by simp [go_sem, netD, sitD, sbD, wdD, ints, hib, ob3]) (fun _ => ?_) (by simp [tabG, go_sem])
  simp (disch := omega) [go_sem, netD, sitD, sbD, wdD, ints, hib, ob3]
  refine callK_data cz [1648, 1649, 1650] (by simp [go_sem, netD, sitD, sbD, wdD, ints, hib, ob3]) (.inr (by simp [go_sem, netD, sitD, sbD, wdD, ints, hib, ob3])) (by simp [go_sem, netD, sitD, sbD, wdD, ints, hib, ob3]) (fun _ => ?_) (by simp [tabG, go_sem])
  simp (disch := omega) [go_sem, netD, sitD, sbD, wdD, ints, hib, ob3]
end Go.Proofs.YtdeionjkcmpnpaaDoor
