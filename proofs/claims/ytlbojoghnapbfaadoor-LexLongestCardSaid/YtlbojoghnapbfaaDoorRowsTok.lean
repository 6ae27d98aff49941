/- Rows of tokens among a row's arguments. -/
import Derived.Test.YtlbojoghnapbfaaDoorLexRows
import Derived.Test.YtlbojoghnapbfaaDoorLawTexts
set_option linter.unusedSimpArgs false
set_option linter.unusedVariables false
set_option maxRecDepth 100000
namespace Go.Proofs.YtlbojoghnapbfaaDoor
open Go Go.Av Go.Lexs

theorem list_five {α : Type} : ∀ (l : List α), l.length = 5 → ∃ a b c d e, l = [a, b, c, d, e]
  | [a, b, c, d, e], _ => ⟨a, b, c, d, e, rfl⟩
  | [], h => by cases h
  | [_], h => by cases h
  | [_, _], h => by cases h
  | [_, _, _], h => by cases h
  | [_, _, _, _], h => by cases h
  | _ :: _ :: _ :: _ :: _ :: _ :: _, h => by simp at h

theorem fits_tk {el : List D} (h : Fits Tryd.prog 31 el) : ∃ t : Tk, el = tkC t ∧ TkFit t := by
  obtain ⟨ps, rfl, hl, hp⟩ := fits_struct Tryd.underlying31 h
  obtain ⟨p0, p1, p2, p3, p4, rfl⟩ := list_five ps hl
  obtain ⟨k, rfl, hk⟩ := fits_int (k := .i64) (by kernel_rfl) (hp 0 _ _ rfl rfl)
  obtain ⟨s, rfl, hs⟩ := fits_str (by kernel_rfl) (hp 1 _ _ rfl rfl)
  obtain ⟨n, rfl, hn⟩ := fits_int (k := .i64) (by kernel_rfl) (hp 2 _ _ rfl rfl)
  obtain ⟨ln, rfl, _⟩ := fits_int (k := .i64) (by kernel_rfl) (hp 3 _ _ rfl rfl)
  obtain ⟨cl, rfl, _⟩ := fits_int (k := .i64) (by kernel_rfl) (hp 4 _ _ rfl rfl)
  refine ⟨⟨k, B s, n, ln, cl⟩, by unfold tkC; rw [S_B]; rfl, wf_i64 hn, ?_⟩
  show (B s).length ≤ _
  rw [B_len]
  have : reachBytes = 140737488351232 := rfl
  omega

theorem fits_tks {x : D} (h : FitsV Tryd.prog 22 x) : ∃ l : List Tk, x = .sl 5 (tksD l) ∧ l.length ≤ 4611686018427387904 ∧ ∀ t ∈ l, TkFit t := by
  obtain ⟨es, rfl, hl, hes⟩ := fitsV_sl (e := 31) (by kernel_rfl) h
  have hc : Tryd.prog.cellsOf 31 = 5 := by kernel_rfl
  have hb : 1 ≤ Tryd.prog.bytesOf 31 := of_decide_eq_true (by kernel_rfl)
  rw [hc]
  have key : ∀ es : List (List D), (∀ y ∈ es, Fits Tryd.prog 31 y) → ∃ l : List Tk, es = tksD l ∧ ∀ t ∈ l, TkFit t := by
    intro es
    induction es with
    | nil => exact fun _ => ⟨[], rfl, by simp⟩
    | cons y es ih =>
      intro h
      obtain ⟨t, rfl, ht⟩ := fits_tk (h y (List.mem_cons_self ..))
      obtain ⟨l, rfl, hl⟩ := ih (fun z hz => h z (List.mem_cons_of_mem _ hz))
      refine ⟨t :: l, rfl, fun u hu => ?_⟩
      rcases List.mem_cons.1 hu with rfl | hu
      · exact ht
      · exact hl u hu
  obtain ⟨l, rfl, hf⟩ := key es hes
  refine ⟨l, rfl, ?_, hf⟩
  rw [tksD_len] at hl
  have : reachBytes = 140737488351232 := rfl
  have := Nat.le_trans (Nat.mul_le_mul_left l.length hb) hl
  omega
theorem plainTok : plainB Tryd.prog [9, 28, 5, 22, 31, 29, 3] = true := by kernel_rfl
end Go.Proofs.YtlbojoghnapbfaaDoor
