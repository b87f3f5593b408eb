/- The statement SiteBack: its law holds of whatever it is handed, the table of math/bits as the program's text lays it. -/
import Derived.Test.YtiibccoaopjoiaaDoorRead5
import Derived.Test.YtiibccoaopjoiaaDoorBack5
set_option linter.unusedSimpArgs false
set_option linter.unusedVariables false
namespace Go.Proofs.YtiibccoaopjoiaaDoor
open Go.AM
set_option maxRecDepth 100000

theorem sback_law (xs : List V) (h : argsT Tryd.prog 13 Tryd.f3.params.toList xs) : FnD Tryd.prog 3 xs (.bool true) tabG := by
  simp only [Tryd.params3, argsT] at h
  obtain ⟨_, _, rfl, h1, _, _, rfl, h2, rfl⟩ := h
  obtain ⟨s, rfl⟩ := one_sit h1
  obtain ⟨l, rfl⟩ := one_bytes h2
  exact fnD_wf (fn := Tryd.f3) Tryd.func3 rfl rfl fun hw => by
    simp only [wfs, V.wf] at hw
    rw [u8s_bts hw.2.1.2]
    exact sback_spec s _

theorem sback_lifted (os : Os) (started : os.Started) (H : Type) (enc : TypeId × Value → H) :
    ReturnsInHanded {} Tryd.checked os 3 .any (fun w args => (Rows.siteBackSpec.pre enc Tryd.prog Tryd.f3 Rows.siteBackRow.domain false w args ∧ laidMetH Tryd.prog laidL w) ∧ sizedMet enc Tryd.prog Tryd.f3 (OpenSpec.ofChange Rows.siteBackSpec) false w args)
      (Rows.siteBackSpec.post enc Tryd.prog Tryd.f3 false true false false) := by
  refine returnsInHanded_of_change_and (C := Tryd.checked) (X := fun w _ => laidMetH Tryd.prog laidL w) (fun _ _ _ hh h => h.of_heap hh) own started (by kernel_rfl) Tryd.func3
    (ChangeSpec.witness_shaped (enc := enc) (C := Tryd.checked) (os := os) (X := fun w _ => laidMetH Tryd.prog laidL w) false (World.doorLaid Tryd.prog 14 os) #[.agg #[.int .i64 0, .slice none 0 0, .slice none 0 0, .slice none 0 0, .slice none 0 0, .slice none 0 0, .int .i64 0, .int .i64 0, .int .i64 0, .int .i64 0, .int .i64 0, .slice none 0 0], .slice none 0 0] 8 rfl (World.shaped_of_RefB (by kernel_rfl) (by kernel_rfl)) (by kernel_rfl) (by kernel_rfl) (by kernel_rfl) (door_met os _)) ?_
  intro W base args ds gs before hval hW _ hwt hL _
  exact close_law_gl 13 laidOut rfl (by kernel_rfl) rfl Tryd.underlying4
    (fun H ds h => match ds, h with | [d1, d2], _ => rfl) sback_law W (glob_of hL) base args ds gs before hval hW hwt

theorem sback_holds : Rows.SiteBackSaid :=
  OpenClaim.holds_of_wide 3 Tryd.f3 rfl rfl rfl rfl rfl rfl rfl ⟨rfl, rfl, rfl, rfl, rfl⟩ rfl rfl rfl rfl rfl (by kernel_rfl) Tryd.func3 (by kernel_rfl)
    (of_decide_eq_true (by kernel_rfl)) (by unfold Func.isWrapper; first | (rw [if_pos (by decide +kernel)]; kernel_rfl) | (rw [if_neg (by decide +kernel)]; exact ⟨rfl, rfl⟩))
    (fun os started H enc _ => sback_lifted os started H enc)

theorem proved_sback : Rows.SiteBackCardSaid :=
  Claim7.holds_tied_plain_at .later [] [.data] true (true, "7b6b20f5b8d5b0ef34afb06b36886004030d4d6b6bf663d462ca3c76e3292aa3") false
    sback_holds (fun _ h => by cases h) (by kernel_rfl) (fun _ h => by cases h) siteBack_row_tie rfl ⟨rfl, rfl⟩ (by kernel_rfl) rfl
    (fun f fn hf hfn => by
      obtain rfl : f = 3 := Option.some.inj ((show Tryd.prog.funcNamed "stopline/stoplinelaw05.SiteBack" = some 3 by kernel_rfl).symm.trans hf) |>.symm
      obtain rfl : fn = Tryd.f3 := (Option.some.inj (Tryd.func3.symm.trans hfn)).symm
      exact ⟨by kernel_rfl, fun j t ht => by
        have hall : (Tryd.f3.params.toList.all fun u => !Tryd.prog.wantsStandIn u) = true := by kernel_rfl
        have hm : t ∈ Tryd.f3.params.toList := List.mem_of_getElem? (i := j) (by rw [Array.getElem?_toList]; exact ht)
        exact (show Tryd.prog.wantsStandIn t = false by simpa using List.all_eq_true.1 hall t hm)⟩)
    (by kernel_rfl)
#print axioms proved_sback
end Go.Proofs.YtiibccoaopjoiaaDoor
