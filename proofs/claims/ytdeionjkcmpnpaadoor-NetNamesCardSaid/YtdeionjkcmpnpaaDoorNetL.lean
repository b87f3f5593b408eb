
/- The laws of the layer net: its region alive; NetBack, NetCycles. -/
import Derived.Test.YtdeionjkcmpnpaaDoorNRw
import Derived.Test.YtdeionjkcmpnpaaDoorRegP
import Derived.Test.YtdeionjkcmpnpaaDoorGreat
import Derived.Test.YtdeionjkcmpnpaaDoorCyc
set_option linter.unusedSimpArgs false
set_option linter.unusedVariables false
namespace Go.Proofs.YtdeionjkcmpnpaaDoor
open Go.AM Go.RowKit
set_option maxRecDepth 100000

theorem nwrite_good {n : NetN} (h : NetOk n) : FnD Tryd.prog 40 [netV n] (.tup [.sl 1 (bts (writeNB n)), .int .i64 0]) tabG := by
  have q := nwrite_spec n
  rw [netN_ok h, show netE n = writeNB n by unfold netE; rw [if_pos (netN_ok h)]] at q
  exact q
theorem nwrite_nogood {n : NetN} (h : ¬ NetOk n) : FnD Tryd.prog 40 [netV n] (.tup [.sl 1 [], .int .i64 60]) tabG := by
  have q := nwrite_spec n
  rw [netN_bad h, show netE n = [] by unfold netE; rw [if_neg (by rw [netN_bad h]; decide)]] at q
  exact q
theorem nread_good {n : NetN} (h : NetOk n) : FnD Tryd.prog 41 [.sl 1 (bts (writeNB n))] (.tup [netV n, .int .i64 0]) tabG := by
  have q := nread_spec (writeNB n)
  obtain ⟨h1, h2⟩ := readN_write h
  rw [(readN_ok h1).1, (readN_ok h1).2, h2] at q
  exact q
theorem nread_nogood {l : List UInt8} (h : ¬ ∃ n, NetOk n ∧ writeNB n = l) : FnD Tryd.prog 41 [.sl 1 (bts l)] (.tup [netV zeroN, .int .i64 8]) tabG := by
  have q := nread_spec l
  have hb := readN_bad (l := l) (fun e => h ((readN_iff l).1 e))
  rw [hb.1, hb.2] at q
  exact q
theorem ncheck_good {n : NetN} (h : NetOk n) : FnD Tryd.prog 42 [netV n] (.int .i64 0) tabG := by
  have q := ncheck_spec n; rw [netN_ok h] at q; exact q
theorem ncheck_nogood {n : NetN} (h : ¬ NetOk n) : FnD Tryd.prog 42 [netV n] (.int .i64 60) tabG := by
  have q := ncheck_spec n; rw [netN_bad h] at q; exact q
theorem two6_spec : FnD Tryd.prog 47 [] (netV regionN) := by
  refine fnD_of mixed Tryd.func47 rfl rfl (by simp [Tryd.ntmps47]) fun hwf E => ?_
  clear hwf
  simp (disch := omega) [Tryd.ntmps47, go_sem]
  simp [regionN, siteN, netV, sitV, subV, wedV, grpV, phaV, sets, rows, ints, go_sem]
theorem alive6_spec : FnD Tryd.prog 39 [] (.bool true) tabG := by
  have q1 := nwrite_good regionN_ok
  have q2 := nread_good regionN_ok
  have hp := net_pure regionN
  generalize writeNB regionN = w at *
  refine fnD_of mixed Tryd.func39 rfl rfl (by simp [Tryd.ntmps39]) fun hwf E => ?_
  clear hwf
  simp (disch := omega) [Tryd.ntmps39, go_sem, hp]
  refine callK_data two6_spec [] (by simp [go_sem, hp]) (.inl rfl) (by simp [go_sem, hp]) (fun _ => ?_)
  simp (disch := omega) [go_sem, hp]
  refine callK_data q1 [] (by simp [go_sem, hp]) (.inl rfl) (by simp [go_sem, hp]) (fun _ => ?_) (by simp [tabG, go_sem])
  simp (disch := omega) [go_sem, hp]
  refine callK_data q2 [] (by simp [go_sem, hp]) (.inl rfl) (by simp [go_sem, hp]) (fun _ => ?_) (by simp [tabG, go_sem])
  simp (disch := omega) [go_sem, hp]
  simp (disch := omega) [go_sem, netV, regionN]
set_option maxHeartbeats 4000000 in
theorem nback_spec (n : NetN) (l : List UInt8) : FnD Tryd.prog 6 [netV n, .sl 1 (bts l)] (.bool true) tabG := by
  have hnv : ∀ n, netV n = .agg [.sl 12 (n.sites.map sitV), .sl 2 (n.subs.map subV), .sl 4 (n.weds.map wedV), .int .i64 n.low, .int .i64 n.high, .int .i64 n.step] := fun _ => rfl
  have qg := greatN_spec n
  have w1 := fun h => nwrite_good (n := n) h
  have w2 := fun h => nwrite_nogood (n := n) h
  have r1 := fun h => nread_good (n := n) h
  have c2 := fun h => ncheck_nogood (n := n) h
  rw [hnv] at qg w1 w2 r1 c2 ⊢
  have hbw := bytesV_bts (writeNB n)
  generalize writeNB n = w at *
  refine fnD_of mixed Tryd.func6 rfl rfl (by simp [Tryd.ntmps6]) fun hwf E => ?_
  simp (disch := omega) [go_sem, strV, bytesV_bts] at hwf
  simp (disch := omega) [Tryd.ntmps6, go_sem, strV, bytesV_bts]
  refine callK_data alive6_spec [] (by simp [go_sem, strV, bytesV_bts]) (.inl rfl) (by simp [go_sem, strV, bytesV_bts]) (fun _ => ?_) (by simp [tabG, go_sem])
  simp (disch := omega) [go_sem, strV, bytesV_bts]
  refine callK_data qg [] (by simp [go_sem, strV, bytesV_bts]) (.inl rfl) (by simp [go_sem, strV, bytesV_bts]) (fun _ => ?_)
  simp (disch := omega) [go_sem, strV, bytesV_bts]
  refine br_of (fun h1 => ?_) (fun h1 => ?_)
  · simp (disch := omega) [go_sem, strV, bytesV_bts]
  · simp (disch := omega) [go_sem, strV, bytesV_bts]
    have last : ∀ t, NetOk t ∧ writeNB t = l → FnD Tryd.prog 41 [.sl 1 (bts l)] (.tup [netV t, .int .i64 0]) tabG ∧ FnD Tryd.prog 40 [netV t] (.tup [.sl 1 (bts l), .int .i64 0]) tabG := fun t ht => by
      have a := nread_good ht.1
      have b := nwrite_good ht.1
      rw [ht.2] at a b
      exact ⟨a, b⟩
    have none_ := nread_nogood (l := l)
    rw [show netV zeroN = .agg [.sl 12 [], .sl 2 [], .sl 4 [], .int .i64 0, .int .i64 0, .int .i64 0] from rfl] at none_
    by_cases hk : NetOk n
    · refine callK_data ((w1 hk)) [] (by simp [go_sem, strV, bytesV_bts]) (.inl rfl) (by simp [go_sem, strV, bytesV_bts]) (fun _ => ?_) (by simp [tabG, go_sem])
      simp (disch := omega) [go_sem, strV, bytesV_bts]
      refine callK_data ((r1 hk)) [] (by simp [go_sem, strV, bytesV_bts]) (.inl rfl) (by simp [go_sem, strV, bytesV_bts]) (fun _ => ?_) (by simp [tabG, go_sem])
      simp (disch := omega) [go_sem, strV, bytesV_bts]
      refine callK_data ((w1 hk)) [] (by simp [go_sem, strV, bytesV_bts]) (.inl rfl) (by simp [go_sem, strV, bytesV_bts]) (fun _ => ?_) (by simp [tabG, go_sem])
      simp (disch := omega) [go_sem, strV, bytesV_bts]
      by_cases hb : ∃ t, NetOk t ∧ writeNB t = l
      · obtain ⟨t, ht⟩ := hb
        obtain ⟨r2, w4⟩ := last t ht
        rw [hnv] at r2 w4
        refine callK_data r2 [] (by simp [go_sem, strV, bytesV_bts]) (.inl rfl) (by simp [go_sem, strV, bytesV_bts]) (fun _ => ?_) (by simp [tabG, go_sem])
        simp (disch := omega) [go_sem, strV, bytesV_bts]
        refine callK_data w4 [] (by simp [go_sem, strV, bytesV_bts]) (.inl rfl) (by simp [go_sem, strV, bytesV_bts]) (fun _ => ?_) (by simp [tabG, go_sem])
        simp (disch := omega) [go_sem, strV, bytesV_bts]
      · refine callK_data ((none_ hb)) [] (by simp [go_sem, strV, bytesV_bts]) (.inl rfl) (by simp [go_sem, strV, bytesV_bts]) (fun _ => ?_) (by simp [tabG, go_sem])
        simp (disch := omega) [go_sem, strV, bytesV_bts]
    · refine callK_data ((w2 hk)) [] (by simp [go_sem, strV, bytesV_bts]) (.inl rfl) (by simp [go_sem, strV, bytesV_bts]) (fun _ => ?_) (by simp [tabG, go_sem])
      simp (disch := omega) [go_sem, strV, bytesV_bts]
      refine callK_data ((c2 hk)) [] (by simp [go_sem, strV, bytesV_bts]) (.inl rfl) (by simp [go_sem, strV, bytesV_bts]) (fun _ => ?_) (by simp [tabG, go_sem])
      simp (disch := omega) [go_sem, strV, bytesV_bts]
      by_cases hb : ∃ t, NetOk t ∧ writeNB t = l
      · obtain ⟨t, ht⟩ := hb
        obtain ⟨r2, w4⟩ := last t ht
        rw [hnv] at r2 w4
        refine callK_data r2 [] (by simp [go_sem, strV, bytesV_bts]) (.inl rfl) (by simp [go_sem, strV, bytesV_bts]) (fun _ => ?_) (by simp [tabG, go_sem])
        simp (disch := omega) [go_sem, strV, bytesV_bts]
        refine callK_data w4 [] (by simp [go_sem, strV, bytesV_bts]) (.inl rfl) (by simp [go_sem, strV, bytesV_bts]) (fun _ => ?_) (by simp [tabG, go_sem])
        simp (disch := omega) [go_sem, strV, bytesV_bts]
      · refine callK_data ((none_ hb)) [] (by simp [go_sem, strV, bytesV_bts]) (.inl rfl) (by simp [go_sem, strV, bytesV_bts]) (fun _ => ?_) (by simp [tabG, go_sem])
        simp (disch := omega) [go_sem, strV, bytesV_bts]
end Go.Proofs.YtdeionjkcmpnpaaDoor
