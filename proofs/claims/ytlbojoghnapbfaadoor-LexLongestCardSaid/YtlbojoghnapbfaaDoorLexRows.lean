/- What the rows of the laws on tokens share: the tables, the arguments. -/
import Derived.Test.YtlbojoghnapbfaaDoorRows
import Derived.Test.YtlbojoghnapbfaaDoorAvRow
import Derived.Test.YtlbojoghnapbfaaDoorLawAwake
import Derived.Lay
import Derived.Stop.Joined
set_option linter.unusedSimpArgs false
set_option linter.unusedVariables false
set_option maxRecDepth 100000
namespace Go.Proofs.YtlbojoghnapbfaaDoor
open Go Go.Av Go.Lexs

theorem own : ownKnob Tryd.prog.godebug = none := by kernel_rfl
theorem laidOut : laidOutB Tryd.prog = true := by kernel_rfl
/-- The tables, as a row lists them. -/
def tabs : Heap := fun g => if g = 3 then some (.ro (tabD .u64 Lib.pow10Tab)) else if g = 0 then some (.ro (tabD .u8 Lib.asciiSpaceTab)) else none
theorem tabs_held (b : Nat) : tabs.held b = false := by
  unfold Heap.held tabs
  split <;> rename_i h
  · split at h
    · cases h; rfl
    · split at h
      · cases h; rfl
      · cases h
  · rfl
theorem tabs_tabs : Tabs tabs := ⟨by unfold tabs; rw [if_pos rfl], by unfold tabs; rw [if_neg (by decide), if_pos rfl]⟩
theorem pow_data : (Rows.laid_internal_strconv_uint64pow10 : DataW Unit) = Lib.tabData .u64 Lib.pow10Tab := by kernel_rfl
theorem space_data : (Rows.laid_strings_asciiSpace : DataW Unit) = Lib.tabData .u8 Lib.asciiSpaceTab := by kernel_rfl
theorem tabs_sat {W : World} {laid : List (String × DataW Unit)} (h : laidMet Tryd.prog laid W) (h1 : ("internal/strconv.uint64pow10", (Rows.laid_internal_strconv_uint64pow10 : DataW Unit)) ∈ laid) (h2 : ("strings.asciiSpace", (Rows.laid_strings_asciiSpace : DataW Unit)) ∈ laid) : Sat tabs W := by
  rw [pow_data] at h1
  rw [space_data] at h2
  intro b o hb
  unfold tabs at hb
  split at hb
  · rename_i e; cases hb; subst e
    exact tab_obj h h1 (by kernel_rfl) (t := (Tryd.prog.globals[3]?.map (·.type)).getD 0) (by kernel_rfl) (n := 20) (e := 89) (by kernel_rfl) (by kernel_rfl) (by kernel_rfl) (by kernel_rfl) _
  · split at hb
    · rename_i e; cases hb; subst e
      exact tab_obj h h2 (by kernel_rfl) (t := (Tryd.prog.globals[0]?.map (·.type)).getD 0) (by kernel_rfl) (n := 256) (e := 5) (by kernel_rfl) (by kernel_rfl) (by kernel_rfl) (by kernel_rfl) _
    · cases hb

theorem fits_strs {t e : Nat} {x : D} (hu : Tryd.prog.underlying t = some (.slice e)) (he : Tryd.prog.underlying e = some .string) (hc : Tryd.prog.cellsOf e = 1) (hb : Tryd.prog.bytesOf e = 16) (h : FitsV Tryd.prog t x) :
    ∃ ss : List ByteArray, x = .sl 1 (strsD ss) ∧ ss.length ≤ 4611686018427387904 ∧ ∀ s ∈ ss, s.size ≤ 4611686018427387904 := by
  obtain ⟨es, rfl, hl, hes⟩ := fitsV_sl hu h
  rw [hc]
  rw [hb] at hl
  have key : ∀ es : List (List D), (∀ y ∈ es, Fits Tryd.prog e y) → ∃ ss : List ByteArray, es = strsD ss ∧ ∀ s ∈ ss, s.size ≤ 4611686018427387904 := by
    intro es
    induction es with
    | nil => exact fun _ => ⟨[], rfl, by simp⟩
    | cons y es ih =>
      intro h
      obtain ⟨s, rfl, hs⟩ := fits_str he (h y (List.mem_cons_self ..))
      obtain ⟨ss, rfl, hss⟩ := ih (fun z hz => h z (List.mem_cons_of_mem _ hz))
      refine ⟨s :: ss, rfl, fun u hu => ?_⟩
      rcases List.mem_cons.1 hu with rfl | hu
      · have : reachBytes = 140737488351232 := rfl
        omega
      · exact hss u hu
  obtain ⟨ss, rfl, hss⟩ := key es hes
  refine ⟨ss, rfl, ?_, hss⟩
  rw [strsD_len] at hl
  have : reachBytes = 140737488351232 := rfl
  omega
theorem plain : plainB Tryd.prog [9, 28, 5] = true := by kernel_rfl
end Go.Proofs.YtlbojoghnapbfaaDoor
