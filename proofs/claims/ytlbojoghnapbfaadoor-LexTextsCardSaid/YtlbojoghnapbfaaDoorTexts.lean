/- LexTexts, proved: for every input the law returns true, and the arguments read as before; the listed tables hold what the program's text lays (the card). No other condition than the row's own. -/
import Derived.Test.YtlbojoghnapbfaaDoorLawTexts
import Derived.Test.YtlbojoghnapbfaaDoorRowsTok
import Derived.Test.YtlbojoghnapbfaaDoorCards
import Derived.Test.YtlbojoghnapbfaaDoorTie
set_option maxRecDepth 100000
namespace Go.Proofs.YtlbojoghnapbfaaDoor.lexTexts
open Go Go.Av Go.Lexs Go.ChangeShapes Go.WideShapes Go.RowKit

theorem lifted (os : Os) (started : os.Started) (H : Type) (enc : TypeId × Value → H) :
    ReturnsInHanded {} Tryd.checked os 3 .any (fun w args => (Rows.lexTextsSpec.pre enc Tryd.prog Tryd.f3 Rows.lexTextsRow.domain false w args ∧ laidMetH Tryd.prog Rows.lexTextsRow.laid w) ∧ sizedMet enc Tryd.prog Tryd.f3 (OpenSpec.ofChange Rows.lexTextsSpec) false w args)
      (Rows.lexTextsSpec.post enc Tryd.prog Tryd.f3 false true false false) := by
  refine returnsInHanded_of_change_and (C := Tryd.checked) (X := fun w _ => laidMetH Tryd.prog Rows.lexTextsRow.laid w) (fun _ _ _ hh h => h.of_heap hh) own started (by kernel_rfl) Tryd.func3
    (ChangeSpec.witness_shaped (enc := enc) (C := Tryd.checked) (os := os) (X := fun w _ => laidMetH Tryd.prog Rows.lexTextsRow.laid w) false (World.laidAll Tryd.prog os Rows.lexTextsRow.laid) #[.slice none 0 0, .slice none 0 0] 8 (World.laidAll_os _ _ _)
      (World.shaped_of_ZipB (by kernel_rfl) (by kernel_rfl)) (by kernel_rfl) (by kernel_rfl) (by kernel_rfl)
      (by rw [MakeChecks.laidMetH_plain _ _ _ (by kernel_rfl)]; exact laidMet_laidAll _ (by kernel_rfl) (by kernel_rfl))) ?_
  intro W base args ds gs before hval hW _ hsz hL _
  rw [MakeChecks.laidMetH_plain _ _ _ (by kernel_rfl)] at hL
  have hS := tabs_sat hL (by simp [Rows.lexTextsRow]) (by simp [Rows.lexTextsRow])
  have hW' := hW
  obtain ⟨p, q, hA0, hV, _, _, _⟩ := hW
  rw [Tryd.params3] at hA0 hval hsz
  obtain ⟨v0, v1, d0, d1, p0, p1, rfl, rfl, rfl, h0, h1⟩ := trodAll_two hA0
  obtain ⟨rfl, rfl⟩ := trodVars_none hV
  obtain ⟨x0, k0, r0⟩ := arg_fits plainTok tabs_held (by simp) (hval 0 _ _ rfl rfl) h0 (weightsEach_at hsz 0 _ _ rfl rfl)
  obtain ⟨x1, k1, r1⟩ := arg_fits plainTok tabs_held (by simp) (hval 1 _ _ rfl rfl) h1 (weightsEach_at hsz 1 _ _ rfl rfl)
  obtain ⟨a, rfl, hla, hza⟩ := fits_tks k0
  obtain ⟨b, rfl, hlb, hzb⟩ := fits_tks k1
  have hre : reachBytes = 140737488351232 := rfl
  refine law_calls laidOut (by kernel_rfl) rfl (tb := 4) (by kernel_rfl) (by kernel_rfl) rfl hW' tabs tabs_held hS [.sl 5 (tksD a), .sl 5 (tksD b)] rfl (fun i d hd => ?_) (fun Q hQ => lexTexts_a a b hla hlb hza hzb _ tabs_tabs hQ)
  match i, hd with
  | 0, hd => simp at hd; subst hd; exact r0
  | 1, hd => simp at hd; subst hd; exact r1
  | i + 2, hd => simp at hd

theorem said : Rows.LexTextsSaid :=
  OpenClaim.holds_of_wide 3 Tryd.f3 rfl rfl rfl rfl rfl rfl rfl ⟨rfl, rfl, rfl, rfl, rfl⟩ rfl rfl rfl rfl rfl (by kernel_rfl) Tryd.func3 (by kernel_rfl)
    (of_decide_eq_true (by kernel_rfl)) (by unfold Func.isWrapper; first | (rw [if_pos (by decide +kernel)]; kernel_rfl) | (rw [if_neg (by decide +kernel)]; exact ⟨rfl, rfl⟩))
    (fun os started H enc _ => lifted os started H enc)

theorem plain (f : FuncId) (fn : Func) (hf : Tryd.pinned.checked.prog.funcNamed "voussoir/voussoirlaw05.LexTexts" = some f) (hfn : Tryd.pinned.checked.prog.funcs[f]? = some fn) :
    true = Tryd.pinned.checked.prog.looks [] ∧ ∀ (j : Nat) t, fn.params[j]? = some t → Tryd.pinned.checked.prog.wantsStandIn t = false := by
  obtain rfl : f = 3 := Option.some.inj ((show Tryd.prog.funcNamed "voussoir/voussoirlaw05.LexTexts" = some 3 by kernel_rfl).symm.trans hf) |>.symm
  obtain rfl : fn = Tryd.f3 := (Option.some.inj (Tryd.func3.symm.trans hfn)).symm
  refine ⟨by kernel_rfl, fun j t ht => ?_⟩
  have hall : ((Tryd.f3.params.toList).all fun u => !Tryd.prog.wantsStandIn u) = true := by kernel_rfl
  have := List.all_eq_true.1 hall t (by rw [Array.mem_toList_iff]; exact Array.mem_of_getElem? ht)
  exact (by simpa using this : Tryd.prog.wantsStandIn t = false)

theorem card : Rows.LexTextsCardSaid :=
  Claim7.holds_tied_plain_at .later [] _ _ _ _ said (fun _ h => by cases h) (by kernel_rfl) (fun _ h => by cases h) lexTexts_row_tie rfl ⟨rfl, rfl⟩ (by kernel_rfl) rfl plain (by kernel_rfl)
end Go.Proofs.YtlbojoghnapbfaaDoor.lexTexts
namespace Go.Proofs.YtlbojoghnapbfaaDoor
theorem lexTexts_holds : Rows.LexTextsCardSaid := lexTexts.card
end Go.Proofs.YtlbojoghnapbfaaDoor
