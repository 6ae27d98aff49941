/- LexLongest, proved: for every input the law returns true, and the arguments read as before; the listed tables hold what the program's text lays (the card). No other condition than the row's own. -/
import Derived.Test.YtlbojoghnapbfaaDoorLawLongest
import Derived.Test.YtlbojoghnapbfaaDoorRowsTok
import Derived.Test.YtlbojoghnapbfaaDoorCards
import Derived.Test.YtlbojoghnapbfaaDoorTie
set_option maxRecDepth 100000
namespace Go.Proofs.YtlbojoghnapbfaaDoor.lexLongest
open Go Go.Av Go.Lexs Go.ChangeShapes Go.WideShapes Go.RowKit

theorem lifted (os : Os) (started : os.Started) (H : Type) (enc : TypeId × Value → H) :
    ReturnsInHanded {} Tryd.checked os 6 .any (fun w args => (Rows.lexLongestSpec.pre enc Tryd.prog Tryd.f6 Rows.lexLongestRow.domain false w args ∧ laidMetH Tryd.prog Rows.lexLongestRow.laid w) ∧ sizedMet enc Tryd.prog Tryd.f6 (OpenSpec.ofChange Rows.lexLongestSpec) false w args)
      (Rows.lexLongestSpec.post enc Tryd.prog Tryd.f6 false true false false) := by
  refine returnsInHanded_of_change_and (C := Tryd.checked) (X := fun w _ => laidMetH Tryd.prog Rows.lexLongestRow.laid w) (fun _ _ _ hh h => h.of_heap hh) own started (by kernel_rfl) Tryd.func6
    (ChangeSpec.witness_shaped (enc := enc) (C := Tryd.checked) (os := os) (X := fun w _ => laidMetH Tryd.prog Rows.lexLongestRow.laid w) false (World.laidAll Tryd.prog os Rows.lexLongestRow.laid) #[.string ⟨#[]⟩, .slice none 0 0, .int .u8 0] 8 (World.laidAll_os _ _ _)
      (World.shaped_of_ZipB (by kernel_rfl) (by kernel_rfl)) (by kernel_rfl) (by kernel_rfl) (by kernel_rfl)
      (by rw [MakeChecks.laidMetH_plain _ _ _ (by kernel_rfl)]; exact laidMet_laidAll _ (by kernel_rfl) (by kernel_rfl))) ?_
  intro W base args ds gs before hval hW _ hsz hL _
  rw [MakeChecks.laidMetH_plain _ _ _ (by kernel_rfl)] at hL
  have hS := tabs_sat hL (by simp [Rows.lexLongestRow]) (by simp [Rows.lexLongestRow])
  have hW' := hW
  obtain ⟨p, q, hA0, hV, _, _, _⟩ := hW
  rw [Tryd.params6] at hA0 hval hsz
  obtain ⟨v0, v1, v2, d0, d1, d2, p0, p1, p2, rfl, rfl, rfl, h0, h1, h2⟩ := trodAll_three hA0
  obtain ⟨rfl, rfl⟩ := trodVars_none hV
  obtain ⟨x0, k0, r0⟩ := arg_fits plainTok tabs_held (by simp) (hval 0 _ _ rfl rfl) h0 (weightsEach_at hsz 0 _ _ rfl rfl)
  obtain ⟨x1, k1, r1⟩ := arg_fits plainTok tabs_held (by simp) (hval 1 _ _ rfl rfl) h1 (weightsEach_at hsz 1 _ _ rfl rfl)
  obtain ⟨x2, k2, r2⟩ := arg_fits plainTok tabs_held (by simp) (hval 2 _ _ rfl rfl) h2 (weightsEach_at hsz 2 _ _ rfl rfl)
  obtain ⟨s, rfl, hs⟩ := fitsV_str (by kernel_rfl) k0
  obtain ⟨ss, rfl, hlss, hzss⟩ := fits_strs (e := 9) (by kernel_rfl) (by kernel_rfl) (by kernel_rfl) (by kernel_rfl) k1
  obtain ⟨n, rfl, hn⟩ := fitsV_int (k := .u8) (by kernel_rfl) k2
  have hn := wf_u8 hn
  have hre : reachBytes = 140737488351232 := rfl
  refine law_calls laidOut (by kernel_rfl) rfl (tb := 4) (by kernel_rfl) (by kernel_rfl) rfl hW' tabs tabs_held hS [.str s, .sl 1 (strsD ss), .int .u8 n] rfl (fun i d hd => ?_) (fun Q hQ => lexLongest_a s ss n (by omega) hlss hzss hn _ tabs_tabs hQ)
  match i, hd with
  | 0, hd => simp at hd; subst hd; exact r0
  | 1, hd => simp at hd; subst hd; exact r1
  | 2, hd => simp at hd; subst hd; exact r2
  | i + 3, hd => simp at hd

theorem said : Rows.LexLongestSaid :=
  OpenClaim.holds_of_wide 6 Tryd.f6 rfl rfl rfl rfl rfl rfl rfl ⟨rfl, rfl, rfl, rfl, rfl⟩ rfl rfl rfl rfl rfl (by kernel_rfl) Tryd.func6 (by kernel_rfl)
    (of_decide_eq_true (by kernel_rfl)) (by unfold Func.isWrapper; first | (rw [if_pos (by decide +kernel)]; kernel_rfl) | (rw [if_neg (by decide +kernel)]; exact ⟨rfl, rfl⟩))
    (fun os started H enc _ => lifted os started H enc)

theorem plain (f : FuncId) (fn : Func) (hf : Tryd.pinned.checked.prog.funcNamed "voussoir/voussoirlaw05.LexLongest" = some f) (hfn : Tryd.pinned.checked.prog.funcs[f]? = some fn) :
    true = Tryd.pinned.checked.prog.looks [] ∧ ∀ (j : Nat) t, fn.params[j]? = some t → Tryd.pinned.checked.prog.wantsStandIn t = false := by
  obtain rfl : f = 6 := Option.some.inj ((show Tryd.prog.funcNamed "voussoir/voussoirlaw05.LexLongest" = some 6 by kernel_rfl).symm.trans hf) |>.symm
  obtain rfl : fn = Tryd.f6 := (Option.some.inj (Tryd.func6.symm.trans hfn)).symm
  refine ⟨by kernel_rfl, fun j t ht => ?_⟩
  have hall : ((Tryd.f6.params.toList).all fun u => !Tryd.prog.wantsStandIn u) = true := by kernel_rfl
  have := List.all_eq_true.1 hall t (by rw [Array.mem_toList_iff]; exact Array.mem_of_getElem? ht)
  exact (by simpa using this : Tryd.prog.wantsStandIn t = false)

theorem card : Rows.LexLongestCardSaid :=
  Claim7.holds_tied_plain_at .later [] _ _ _ _ said (fun _ h => by cases h) (by kernel_rfl) (fun _ h => by cases h) lexLongest_row_tie rfl ⟨rfl, rfl⟩ (by kernel_rfl) rfl plain (by kernel_rfl)
end Go.Proofs.YtlbojoghnapbfaaDoor.lexLongest
namespace Go.Proofs.YtlbojoghnapbfaaDoor
theorem lexLongest_holds : Rows.LexLongestCardSaid := lexLongest.card
end Go.Proofs.YtlbojoghnapbfaaDoor
