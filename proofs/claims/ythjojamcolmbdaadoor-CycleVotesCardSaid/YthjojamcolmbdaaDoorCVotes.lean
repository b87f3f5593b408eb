/- CycleVotes: what a load wishes, and a vote later, are the document's. -/
import Derived.Test.YthjojamcolmbdaaDoorRef25
set_option linter.unusedSimpArgs false
set_option linter.unusedVariables false
namespace Go.Proofs.YthjojamcolmbdaaDoor
open Go.AM Go.RowKit
set_option maxRecDepth 100000

set_option maxHeartbeats 1000000 in
theorem cvotes_spec (n : NetN) (v : Int × Int × Int) (load : Int) : FnD Tryd.prog 9 [netV n, voteV v, .int .i64 load] (.bool true) tabG := by
  have hp1 := sits_pure n.sites
  have hp2 := subs_pure n.subs
  have hp3 := weds_pure n.weds
  have hg := greatN_spec n
  have hw := wish_spec n load
  have hn := next_spec n v load
  have rw' := r25wish_spec n load
  have rn := r25next_spec n v load
  have hnv : netV n = .agg [.sl 12 (n.sites.map sitV), .sl 2 (n.subs.map subV), .sl 4 (n.weds.map wedV), .int .i64 n.low, .int .i64 n.high, .int .i64 n.step] := rfl
  rw [hnv] at hg hw hn rw' rn ⊢
  obtain ⟨now, wish0, many⟩ := v
  have hvv : voteV (now, wish0, many) = .agg [.int .i64 now, .int .i64 wish0, .int .i64 many] := rfl
  rw [hvv] at hn rn ⊢
  generalize nextV n (now, wish0, many) load = r at *
  obtain ⟨ra, rb, rc⟩ := r
  have hvr : voteV (ra, rb, rc) = .agg [.int .i64 ra, .int .i64 rb, .int .i64 rc] := rfl
  rw [hvr] at hn rn
  refine fnD_of mixed Tryd.func9 rfl rfl (by simp [Tryd.ntmps9]) fun hwf E => ?_
  simp (disch := omega) [Tryd.ntmps9, go_sem]
  refine callK_bool hg [] (by simp [go_sem, hp1, hp2, hp3]) (fun h1 => ?_) (fun h1 => ?_)
  · simp (disch := omega) [go_sem]
  · simp (disch := omega) [go_sem]
    refine callK_data hw [] (by simp [go_sem, hp1, hp2, hp3]) (.inl rfl) (by simp [go_sem, wishE]) (fun _ => ?_) (by simp [tabG, go_sem])
    simp (disch := omega) [go_sem, wishE]
    refine callK_data rw' [] (by simp [go_sem, hp1, hp2, hp3]) (.inl rfl) (by simp [go_sem, wishE]) (fun _ => ?_)
    simp (disch := omega) [go_sem, wishE]
    refine callK_data hn [] (by simp [go_sem, hp1, hp2, hp3]) (.inl rfl) (by simp [go_sem]) (fun _ => ?_) (by simp [tabG, go_sem])
    simp (disch := omega) [go_sem]
    refine callK_data rn [] (by simp [go_sem, hp1, hp2, hp3]) (.inl rfl) (by simp [go_sem]) (fun _ => ?_)
    simp (disch := omega) [go_sem]
end Go.Proofs.YthjojamcolmbdaaDoor
