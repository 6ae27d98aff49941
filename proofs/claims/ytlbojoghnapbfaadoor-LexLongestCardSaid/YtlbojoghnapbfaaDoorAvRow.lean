/- Av: what a row's reading says of an argument: an abstract value that fits its type. No program is in sight. -/
import Derived.Test.YtlbojoghnapbfaaDoorAvLib
import Derived.Test.YtlbojoghnapbfaaDoorAvOut
import Derived.ChangeArms
import Derived.ChangeMaps5
import Derived.DataReads
import Derived.Carry
import Derived.WideShapes
import GoSem.ClaimJoined
import Derived.Handed
import Derived.ProofKit
import Derived.Lib.LaidTab
import Derived.LaidMore
set_option linter.unusedVariables false
set_option linter.unusedSimpArgs false
namespace Go.Av
open Go.RowKit Go.ChangeShapes Go.WideShapes

def tileB (P : Program) : Nat → List Field → Option Nat
  | o, [] => some o
  | o, f :: r => if f.offset = o then tileB P (o + P.cellsOf f.type) r else none

/-- Types of plain data: those of 'l', closed under their parts. -/
def plainT (P : Program) (l : List TypeId) (t : TypeId) : Bool := match P.underlying t with
  | some .bool | some (.int _) | some .string => decide (P.cellsOf t = 1)
  | some (.slice e) => decide (P.cellsOf t = 1) && l.contains e && decide (0 < P.cellsOf e) && decide (0 < P.bytesOf e)
  | some (.struct fs) => decide (tileB P 0 fs.toList = some (P.cellsOf t)) && fs.toList.all (fun f => l.contains f.type)
  | _ => false
def plainB (P : Program) (l : List TypeId) : Bool := l.all (plainT P l)

inductive Fits (P : Program) : TypeId → List D → Prop
  | bool {t : TypeId} (b : Bool) (h : P.underlying t = some .bool) : Fits P t [.bool b]
  | int {t : TypeId} {k : IntKind} (n : Int) (h : P.underlying t = some (.int k)) (hw : (Lit.int k n).wf = true) : Fits P t [.int k n]
  | str {t : TypeId} (s : ByteArray) (h : P.underlying t = some .string) (hs : s.size ≤ reachBytes) : Fits P t [.str s]
  | sl {t e : TypeId} (es : List (List D)) (h : P.underlying t = some (.slice e)) (hl : es.length * P.bytesOf e ≤ reachBytes) (he : ∀ x ∈ es, Fits P e x) : Fits P t [.sl (P.cellsOf e) es]
  | struct {t : TypeId} {fs : Array Field} (ps : List (List D)) (h : P.underlying t = some (.struct fs)) (hl : ps.length = fs.size) (hp : ∀ (i : Nat) (f : Field) (p : List D), fs[i]? = some f → ps[i]? = some p → Fits P f.type p) : Fits P t ps.flatten

section
variable {H : Type} {enc : TypeId × Value → H} {P : Program}

/-- A row of abstract values tells a row of cells. -/
def RowL (w : World) (Hp : Heap) (ds : List D) (cs : List Value) : Prop := ∀ (j : Nat) (d : D), ds[j]? = some d → d.one = true ∧ R w Hp d (cs.getD j Go.undef)

theorem tile_rows {w : World} {Hp : Heap} {cs : List Value} : ∀ (fs : List Field) (o m : Nat) (ps : List (List D)), tileB P o fs = some m → m ≤ cs.length → ps.length = fs.length →
    (∀ (i : Nat) (f : Field) (p : List D), fs[i]? = some f → ps[i]? = some p → p.length = P.cellsOf f.type ∧ RowL w Hp p ((cs.drop f.offset).take (P.cellsOf f.type))) →
    o ≤ m ∧ o + ps.flatten.length = m ∧ ∀ (j : Nat) (d : D), ps.flatten[j]? = some d → d.one = true ∧ R w Hp d (cs.getD (o + j) Go.undef)
  | [], o, m, ps, ht, _, hl, _ => by
    have : ps = [] := List.eq_nil_of_length_eq_zero (by simpa using hl)
    subst this
    simp only [tileB, Option.some.injEq] at ht
    subst ht
    exact ⟨Nat.le_refl _, by simp, fun j d hd => by simp at hd⟩
  | f :: r, o, m, ps, ht, hm, hl, hp => by
    cases ps with
    | nil => simp at hl
    | cons p ps =>
      unfold tileB at ht
      split at ht
      · rename_i ho
        obtain ⟨hpl, hpr⟩ := hp 0 f p rfl rfl
        obtain ⟨h1, h2, h3⟩ := tile_rows r (o + P.cellsOf f.type) m ps ht hm (by simpa using hl) (fun i f' p' hf hp' => hp (i + 1) f' p' (by simpa using hf) (by simpa using hp'))
        refine ⟨by omega, by rw [List.flatten_cons, List.length_append, hpl]; omega, fun j d hd => ?_⟩
        rw [List.flatten_cons, List.getElem?_append] at hd
        split at hd
        · rename_i hj
          obtain ⟨k1, k2⟩ := hpr j d hd
          refine ⟨k1, ?_⟩
          have e : ((cs.drop f.offset).take (P.cellsOf f.type)).getD j Go.undef = cs.getD (o + j) Go.undef := by
            rw [List.getD_eq_getElem?_getD, List.getD_eq_getElem?_getD, List.getElem?_take_of_lt (by omega), List.getElem?_drop, ho]
          rw [← e]; exact k2
        · rename_i hj
          have := h3 (j - p.length) d hd
          have e : o + P.cellsOf f.type + (j - p.length) = o + j := by omega
          rw [e] at this
          exact this
      · cases ht

theorem weightsAll_mem {e : TypeId} {n : Nat} : ∀ {l : List (DataW H)}, (DataW.weightsAll P e l).all (· ≤ n) = true → ∀ d ∈ l, (d.weights P e).all (· ≤ n) = true
  | [], _, d, hd => by cases hd
  | x :: l, h, d, hd => by
    rw [DataW.weightsAll, List.all_append, Bool.and_eq_true] at h
    rcases List.mem_cons.1 hd with rfl | hd
    · exact h.1
    · exact weightsAll_mem h.2 d hd

theorem weightsEach_at {n : Nat} : ∀ {ts : List TypeId} {l : List (DataW H)}, (DataW.weightsEach P ts l).all (· ≤ n) = true → ∀ (i : Nat) t d, ts[i]? = some t → l[i]? = some d → (d.weights P t).all (· ≤ n) = true
  | [], _, _, i, t, d, ht, _ => by simp at ht
  | _ :: _, [], _, i, t, d, _, hd => by simp at hd
  | t0 :: ts, d0 :: l, h, i, t, d, ht, hd => by
    rw [DataW.weightsEach, List.all_append, Bool.and_eq_true] at h
    cases i with
    | zero => simp at ht hd; subst ht; subst hd; exact h.1
    | succ i => exact weightsEach_at h.2 i t d (by simpa using ht) (by simpa using hd)

theorem add_off' {a : Addr} (hs : a.spot = none) (n : Nat) : a.add n = ⟨a.block, a.off + n, none⟩ := by
  obtain ⟨b, o, s⟩ := a
  simp only at hs
  subst hs
  unfold Addr.add
  split
  · rename_i h; subst h; rfl
  · rfl

theorem fits_of_trod {l : List TypeId} (hB : plainB P l = true) {w : World} {base : Nat} {sp : Nat → Bool} {hd : Bool} {Hp : Heap} (hH : ∀ b, Hp.held b = false) :
    ∀ (n : Nat) (t : TypeId) (cs : List Value) (x : DataW H × List MemPlace), t ∈ l → DataW.trod enc P w base sp hd n t cs = some x → (x.1.weights P t).all (· ≤ reachBytes) = true →
      cs.length = P.cellsOf t ∧ ∃ ds, Fits P t ds ∧ ds.length = cs.length ∧ RowL w Hp ds cs := by
  intro n
  induction n with
  | zero => intro t cs x _ h; simp [DataW.trod] at h
  | succ n ih =>
    intro t cs x ht h hw
    have hpt : plainT P l t = true := List.all_eq_true.1 hB t ht
    unfold plainT at hpt
    have one : ∀ {d : D} {v : Value}, d.one = true → R w Hp d v → RowL w Hp [d] [v] := fun h1 h2 j d' hd' => by
      cases j with
      | zero => simp at hd'; subst hd'; exact ⟨h1, h2⟩
      | succ j => simp at hd'
    cases hu : P.underlying t with
    | none => rw [hu] at hpt; cases hpt
    | some u =>
      cases u with
      | bool =>
        rw [hu] at hpt
        obtain ⟨b, rfl, rfl⟩ := DataW.trod_bool hu h
        exact ⟨(of_decide_eq_true hpt).symm, _, .bool b hu, rfl, one rfl (.bool b)⟩
      | int k =>
        rw [hu] at hpt
        obtain ⟨m, rfl, rfl, hwf⟩ := DataW.trod_int hu h
        exact ⟨(of_decide_eq_true hpt).symm, _, .int m hu hwf, rfl, one rfl (.int k m)⟩
      | string =>
        rw [hu] at hpt
        obtain ⟨s, rfl, rfl, _⟩ := DataW.trod_string hu h
        have hsz : s.size ≤ reachBytes := by simpa [DataW.weights] using hw
        exact ⟨(of_decide_eq_true hpt).symm, _, .str s hu hsz, rfl, one rfl (.str s)⟩
      | slice e =>
        rw [hu] at hpt
        simp only [Bool.and_eq_true, decide_eq_true_eq] at hpt
        obtain ⟨⟨⟨hc1, hel⟩, hce⟩, hbe⟩ := hpt
        have hel : e ∈ l := by simpa using hel
        rcases DataW.trod_slice hu h with ⟨rfl, rfl⟩ | ⟨a, len, cap, elems, rest, m, hm, rfl, rfl, hb, hlc, hmx, hlen, hat, _, _⟩
        · exact ⟨hc1.symm, _, .sl [] hu (by simp) (by simp), rfl, one rfl (.sl0 _ _ _)⟩
        · cases hm
          have hw2 : (elems.length + rest.length) * P.bytesOf e ≤ reachBytes ∧ (DataW.weightsAll P e (elems.map (·.1))).all (· ≤ reachBytes) = true := by
            rw [DataW.weights, hu] at hw
            simp only [List.all_cons, List.all_append, Bool.and_eq_true, decide_eq_true_eq, List.length_map] at hw
            exact ⟨hw.1, hw.2.1⟩
          have hex : ∀ i, ∃ p : List D × List Value, i < len → Fits P e p.1 ∧ p.1.length = P.cellsOf e ∧ RowL w Hp p.1 p.2 ∧ ∀ j, j < P.cellsOf e → w.cell? ((a.add (i * P.cellsOf e)).add j) = some (p.2.getD j Go.undef) := by
            intro i
            by_cases hi : i < len
            · have hy := hat i hi
              have hie : i < elems.length := by omega
              rw [List.getElem?_eq_getElem hie, Option.bind_eq_some_iff] at hy
              obtain ⟨ci, hci, hti⟩ := hy
              obtain ⟨_, hcl, hcg⟩ := World.cells?_some hci
              obtain ⟨k1, ds, k2, k3, k4⟩ := ih e ci elems[i] hel hti (weightsAll_mem hw2.2 _ (List.mem_map.2 ⟨_, List.getElem_mem hie, rfl⟩))
              refine ⟨(ds, ci), fun _ => ⟨k2, by rw [k3]; exact k1, k4, fun j hj => ?_⟩⟩
              rw [hcg j hj, List.getD_eq_getElem?_getD, List.getElem?_eq_getElem (by rw [hcl]; exact hj)]
              rfl
            · exact ⟨([], []), fun h => absurd h hi⟩
          obtain ⟨g, hg⟩ := Classical.skolem.1 hex
          have hes : ∀ (i : Nat) (x : List D), ((List.range len).map fun i => (g i).1)[i]? = some x → i < len ∧ x = (g i).1 := fun i x hx => by
            simp only [List.getElem?_map, Option.map_eq_some_iff] at hx
            obtain ⟨y, hy, rfl⟩ := hx
            have hi := (List.getElem?_eq_some_iff.1 hy).1
            simp at hi
            rw [List.getElem?_range hi] at hy
            cases hy
            exact ⟨hi, rfl⟩
          have hl2 : ((List.range len).map fun i => (g i).1).length = len := by simp
          refine ⟨hc1.symm, _, .sl ((List.range len).map fun i => (g i).1) hu ?_ ?_, rfl, one rfl ?_⟩
          · rw [hl2]
            refine Nat.le_trans (Nat.mul_le_mul_right _ ?_) hw2.1
            omega
          · intro x hx
            obtain ⟨i, hi⟩ := List.mem_iff_getElem?.1 hx
            obtain ⟨hi', rfl⟩ := hes i x hi
            exact (hg i hi').1
          · show R w Hp (.sl (P.cellsOf e) ((List.range len).map fun i => (g i).1)) (.slice (some a) len cap)
            by_cases hz : len = 0
            · subst hz; exact .sl0 _ _ _
            · have h00 := (hg 0 (by omega)).2.2.2 0 hce
              rw [Nat.zero_mul] at h00
              have hspot : a.spot = none := by
                have e0 : (a.add 0).add 0 = a := rfl
                rw [e0] at h00
                unfold World.cell? at h00
                split at h00
                · split at h00
                  · cases h00
                  · rename_i hns
                    cases hsp : a.spot with
                    | none => rfl
                    | some _ => rw [hsp] at hns; exact absurd rfl hns
                · cases h00
              have hblk : a.block < w.heap.size := by
                have e0 : (a.add 0).add 0 = a := rfl
                rw [e0] at h00
                unfold World.cell? at h00
                by_cases hlt : a.block < w.heap.size
                · exact hlt
                · rw [Array.getElem?_eq_none (by omega)] at h00; cases h00
              have hcell : ∀ i j, i < len → j < P.cellsOf e → w.cell? ⟨a.block, a.off + i * P.cellsOf e + j, none⟩ = some ((g i).2.getD j Go.undef) := fun i j hi hj => by
                have := (hg i hi).2.2.2 j hj
                rw [add_off' hspot, add_off' rfl] at this
                exact this
              have hR := R.sl (w := w) (H := Hp) (P.cellsOf e) ((List.range len).map fun i => (g i).1) a.block a.off cap (fun i j => (g i).2.getD j Go.undef) hblk (hH _)
                (fun i x hx => by obtain ⟨hi, rfl⟩ := hes i x hx; exact (hg i hi).2.1) (by rw [hl2]; exact hlc) (fun i j hi hj => hcell i j (by rw [hl2] at hi; exact hi) hj)
                (fun i x j d hx hd' => by obtain ⟨hi, rfl⟩ := hes i x hx; exact ((hg i hi).2.2.1 j d hd').1) (fun i x j d hx hd' => by obtain ⟨hi, rfl⟩ := hes i x hx; exact ((hg i hi).2.2.1 j d hd').2)
              rw [hl2] at hR
              obtain ⟨ab, ao, as⟩ := a
              simp only at hspot
              subst hspot
              exact hR
      | struct fs =>
        rw [hu] at hpt
        simp only [Bool.and_eq_true, decide_eq_true_eq, List.all_eq_true] at hpt
        obtain ⟨htile, hall⟩ := hpt
        obtain ⟨xs, m, hm, rfl, hcl, hxl, hat⟩ := DataW.trod_struct hu h
        cases hm
        have hwe : (DataW.weightsEach P (fs.toList.map (·.type)) (xs.map (·.1))).all (· ≤ reachBytes) = true := by
          rw [DataW.weights, hu] at hw; exact hw
        have hex : ∀ i : Nat, ∃ p : List D, ∀ f : Field, fs[i]? = some f → Fits P f.type p ∧ p.length = P.cellsOf f.type ∧ RowL w Hp p ((cs.drop f.offset).take (P.cellsOf f.type)) := by
          intro i
          cases hf : fs[i]? with
          | none => exact ⟨[], fun f h => by cases h⟩
          | some f =>
            have hi := (Array.getElem?_eq_some_iff.1 hf).1
            have hxi : i < xs.length := by omega
            have hy := hat i f hf
            rw [List.getElem?_eq_getElem hxi] at hy
            have hfl : f.type ∈ l := by
              have := hall f (by rw [Array.mem_toList_iff]; exact Array.mem_of_getElem? hf)
              simpa using this
            have hwi := weightsEach_at hwe i f.type xs[i].1 (by simp [hf]) (by simp [List.getElem?_eq_getElem hxi])
            obtain ⟨k1, ds, k2, k3, k4⟩ := ih f.type _ xs[i] hfl hy hwi
            refine ⟨ds, fun f' hf' => ?_⟩
            cases hf'
            exact ⟨k2, by rw [k3]; exact k1, k4⟩
        obtain ⟨g, hg⟩ := Classical.skolem.1 hex
        have hpl : ((List.range fs.size).map g).length = fs.size := by simp
        have hpg : ∀ (i : Nat) (f : Field) (p : List D), fs[i]? = some f → ((List.range fs.size).map g)[i]? = some p → p = g i := fun i f p hf hp => by
          have hi := (Array.getElem?_eq_some_iff.1 hf).1
          rw [List.getElem?_map, List.getElem?_range hi] at hp
          cases hp; rfl
        obtain ⟨_, hlen, hrow⟩ := tile_rows (P := P) (w := w) (Hp := Hp) (cs := cs) fs.toList 0 (P.cellsOf t) ((List.range fs.size).map g) htile (by omega) (by simp) (fun i f p hf hp => by
          have hf' : fs[i]? = some f := by simpa using hf
          have := hpg i f p hf' hp
          subst this
          exact ⟨(hg i f hf').2.1, (hg i f hf').2.2⟩)
        refine ⟨hcl, _, .struct ((List.range fs.size).map g) hu hpl (fun i f p hf hp => by have := hpg i f p hf hp; subst this; exact (hg i f hf).1), by omega, fun j d hd => ?_⟩
        have := hrow j d hd
        rwa [Nat.zero_add] at this
      | _ => rw [hu] at hpt; cases hpt

/-- An argument. -/
def FitsV (P : Program) (t : TypeId) (x : D) : Prop := match P.underlying t with
  | some (.struct _) => ∃ ds, x = .agg ds ∧ Fits P t ds
  | _ => Fits P t [x]

theorem arg_fits {l : List TypeId} (hB : plainB P l = true) {w : World} {base b0 : Nat} {sp : Nat → Bool} {hd : Bool} {Hp : Heap} (hH : ∀ b, Hp.held b = false) {t : TypeId} {v : Value} {d : DataW H} {ps : List MemPlace} (ht : t ∈ l)
    (hval : Value.okWide P w .any b0 t v) (h : DataW.Trod enc P w base sp hd t v d ps) (hw : (d.weights P t).all (· ≤ reachBytes) = true) : ∃ x, FitsV P t x ∧ R w Hp x v := by
  obtain ⟨n, hn⟩ := h
  obtain ⟨h1, ds, h2, h3, h4⟩ := fits_of_trod hB hH n t v.cells.toList (d, ps) ht hn hw
  have hpt : plainT P l t = true := List.all_eq_true.1 hB t ht
  have leaf : (∀ fs, P.underlying t ≠ some (.struct fs)) → v.cells.toList = [v] → ∃ x, FitsV P t x ∧ R w Hp x v := by
    intro hns hv
    rw [hv] at h3 h4
    match ds, h3 with
    | [x], _ =>
      refine ⟨x, ?_, (h4 0 x rfl).2⟩
      unfold FitsV
      split
      · rename_i fs hfs; exact absurd hfs (hns fs)
      · exact h2
  cases hu : P.underlying t with
  | none => unfold plainT at hpt; rw [hu] at hpt; cases hpt
  | some u =>
    cases u with
    | bool => obtain ⟨b, rfl⟩ := okWide_bool hu hval; exact leaf (by simp [hu]) rfl
    | int k => obtain ⟨m, rfl⟩ := okWide_int hu hval; exact leaf (by simp [hu]) rfl
    | string => obtain ⟨s, rfl⟩ := okWide_string hu hval; exact leaf (by simp [hu]) rfl
    | slice e => obtain ⟨a, len, cap, rfl⟩ := okWide_slice hu hval; exact leaf (by simp [hu]) rfl
    | struct fs =>
      simp only [Value.okWide, hu] at hval
      obtain ⟨cs, rfl, hsz, _⟩ := hval
      refine ⟨.agg ds, ?_, .agg _ _ (by rw [h3]; rfl) (fun i d hd => (h4 i d hd).1) (fun i d hd => ?_)⟩
      · unfold FitsV; rw [hu]; exact ⟨ds, rfl, h2⟩
      · have := (h4 i d hd).2
        have e : (Value.agg cs).cells.toList.getD i Go.undef = cs.getD i Go.undef := by
          show cs.toList.getD i Go.undef = _
          simp
        rwa [e] at this
    | _ => unfold plainT at hpt; rw [hu] at hpt; cases hpt

/-! ### What a type's data are -/
theorem fits_str {t : TypeId} {ds : List D} (hu : P.underlying t = some .string) (h : Fits P t ds) : ∃ s, ds = [.str s] ∧ s.size ≤ reachBytes := by
  cases h with
  | str s h hs => exact ⟨s, rfl, hs⟩
  | bool b h => rw [hu] at h; cases h
  | int n h => rw [hu] at h; cases h
  | sl es h => rw [hu] at h; cases h
  | struct ps h => rw [hu] at h; cases h
theorem fits_bool {t : TypeId} {ds : List D} (hu : P.underlying t = some .bool) (h : Fits P t ds) : ∃ b, ds = [.bool b] := by
  cases h with
  | bool b h => exact ⟨b, rfl⟩
  | str s h hs => rw [hu] at h; cases h
  | int n h => rw [hu] at h; cases h
  | sl es h => rw [hu] at h; cases h
  | struct ps h => rw [hu] at h; cases h
theorem fits_int {t : TypeId} {k : IntKind} {ds : List D} (hu : P.underlying t = some (.int k)) (h : Fits P t ds) : ∃ n, ds = [.int k n] ∧ (Lit.int k n).wf = true := by
  cases h with
  | int n h hw => rw [hu] at h; cases h; exact ⟨n, rfl, hw⟩
  | bool b h => rw [hu] at h; cases h
  | str s h hs => rw [hu] at h; cases h
  | sl es h => rw [hu] at h; cases h
  | struct ps h => rw [hu] at h; cases h
theorem fits_sl {t e : TypeId} {ds : List D} (hu : P.underlying t = some (.slice e)) (h : Fits P t ds) : ∃ es, ds = [.sl (P.cellsOf e) es] ∧ es.length * P.bytesOf e ≤ reachBytes ∧ ∀ x ∈ es, Fits P e x := by
  cases h with
  | sl es h hl he => rw [hu] at h; cases h; exact ⟨es, rfl, hl, he⟩
  | bool b h => rw [hu] at h; cases h
  | str s h hs => rw [hu] at h; cases h
  | int n h => rw [hu] at h; cases h
  | struct ps h => rw [hu] at h; cases h
theorem fits_struct {t : TypeId} {fs : Array Field} {ds : List D} (hu : P.underlying t = some (.struct fs)) (h : Fits P t ds) : ∃ ps : List (List D), ds = ps.flatten ∧ ps.length = fs.size ∧ ∀ (i : Nat) (f : Field) (p : List D), fs[i]? = some f → ps[i]? = some p → Fits P f.type p := by
  cases h with
  | struct ps h hl hp => rw [hu] at h; cases h; exact ⟨ps, rfl, hl, hp⟩
  | bool b h => rw [hu] at h; cases h
  | str s h hs => rw [hu] at h; cases h
  | int n h => rw [hu] at h; cases h
  | sl es h => rw [hu] at h; cases h

theorem fitsV_leaf {t : TypeId} {x : D} (hn : ∀ fs, P.underlying t ≠ some (.struct fs)) (h : FitsV P t x) : Fits P t [x] := by
  unfold FitsV at h
  split at h
  · rename_i fs hfs; exact absurd hfs (hn fs)
  · exact h
theorem fitsV_struct {t : TypeId} {fs : Array Field} {x : D} (hu : P.underlying t = some (.struct fs)) (h : FitsV P t x) : ∃ ds, x = .agg ds ∧ Fits P t ds := by
  unfold FitsV at h
  rw [hu] at h
  exact h
theorem fitsV_str {t : TypeId} {x : D} (hu : P.underlying t = some .string) (h : FitsV P t x) : ∃ s, x = .str s ∧ s.size ≤ reachBytes := by
  obtain ⟨s, h1, h2⟩ := fits_str hu (fitsV_leaf (by simp [hu]) h)
  simp at h1
  exact ⟨s, h1, h2⟩
theorem fitsV_bool {t : TypeId} {x : D} (hu : P.underlying t = some .bool) (h : FitsV P t x) : ∃ b, x = .bool b := by
  obtain ⟨s, h1⟩ := fits_bool hu (fitsV_leaf (by simp [hu]) h)
  simp at h1
  exact ⟨s, h1⟩
theorem fitsV_int {t : TypeId} {k : IntKind} {x : D} (hu : P.underlying t = some (.int k)) (h : FitsV P t x) : ∃ n, x = .int k n ∧ (Lit.int k n).wf = true := by
  obtain ⟨s, h1, h2⟩ := fits_int hu (fitsV_leaf (by simp [hu]) h)
  simp at h1
  exact ⟨s, h1, h2⟩
theorem fitsV_sl {t e : TypeId} {x : D} (hu : P.underlying t = some (.slice e)) (h : FitsV P t x) : ∃ es, x = .sl (P.cellsOf e) es ∧ es.length * P.bytesOf e ≤ reachBytes ∧ ∀ y ∈ es, Fits P e y := by
  obtain ⟨s, h1, h2⟩ := fits_sl hu (fitsV_leaf (by simp [hu]) h)
  simp at h1
  exact ⟨s, h1, h2⟩

theorem wf_u8 {n : Int} (h : (Lit.int .u8 n).wf = true) : 0 ≤ n ∧ n ≤ 255 := by
  unfold Lit.wf at h
  rw [Bool.and_eq_true, decide_eq_true_eq, decide_eq_true_eq] at h
  exact h
theorem wf_i64 {n : Int} (h : (Lit.int .i64 n).wf = true) : -9223372036854775808 ≤ n ∧ n ≤ 9223372036854775807 := by
  unfold Lit.wf at h
  rw [Bool.and_eq_true, decide_eq_true_eq, decide_eq_true_eq] at h
  exact h

/-! ### From a call on abstract values to the row -/
theorem belowTrodAll (hl : laidOutB P = true) {W W' : World} (hb : Below W.heap.size W W') : ∀ {ts : List TypeId} {vs : List Value} {ds : List (DataW H)} {ps : List MemPlace}, ts.all (fun t => P.readableRec t && decide (t < P.types.size)) = true →
    DataW.TrodAll enc P W 0 (fun _ => true) true ts vs ds ps → (∀ x ∈ ps, x.block < W.heap.size) → DataW.TrodAll enc P W' 0 (fun b => decide (b < W.heap.size)) true ts vs ds ps
  | [], [], [], _, _, h, _ => h
  | [], [], _ :: _, _, _, h, _ => h.elim
  | [], _ :: _, _, _, _, h, _ => h.elim
  | _ :: _, [], _, _, _, h, _ => h.elim
  | _ :: _, _ :: _, [], _, _, h, _ => h.elim
  | t :: ts, v :: vs, d :: ds, ps, ht, h, hlt => by
    obtain ⟨p, q, h1, h2, rfl⟩ := h
    simp only [List.all_cons, Bool.and_eq_true, decide_eq_true_eq] at ht
    exact ⟨p, q, Below.trod hl ht.1.1 ht.1.2 h1 hb (fun x hx => hlt x (List.mem_append_left _ hx)), belowTrodAll hl hb ht.2 h2 (fun x hx => hlt x (List.mem_append_right _ hx)), rfl⟩

theorem law_calls {f : Nat} {fn : Func} {s : ChangeSpec} {W : World} {args : Array Value} {ds gs : List (DataW H)} {before : List MemPlace} {tb : TypeId} (hlaid : laidOutB P = true) (hread : fn.params.toList.all (fun t => P.readableRec t && decide (t < P.types.size)) = true)
    (hv : s.vars = []) (hres : fn.resultTypes = #[tb]) (hb : P.underlying tb = some .bool) (hs : s.fn H ds = { results := [.lit (.bool true)], args := ds })
    (hW : DataW.Whole enc P fn.params.toList s.vars false W args.toList ds gs before) (Hp : Heap) (hH : ∀ b, Hp.held b = false) (hS : Sat Hp W) (xs : List D) (hx : xs.length = args.size) (hR : ∀ (i : Nat) d, xs[i]? = some d → R W Hp d (args.getD i Go.undef))
    (hA : ∀ Q : D → Heap → Prop, Q (.bool true) Hp → ACalls P f xs Hp Q) : Calls P f args W fun e W' => ∃ v, e = .returned v ∧ s.post enc P fn false true false false W args v W' := by
  have hlt := hW.lt
  have hW0 := hW
  obtain ⟨p, q, hA0, hV, rfl, hfz, hnd⟩ := hW
  rw [hv] at hV
  obtain ⟨rfl, rfl⟩ := trodVars_none hV
  refine ((hA (fun d _ => d = .bool true) rfl).2 W args hx hR hS).mono fun e W' ⟨v, he, d, H', h1, h2, h3, h4, h5⟩ => ⟨v, he, ?_⟩
  subst h5
  have hbv := h1.bool_inv
  subst hbv
  have hbel : Below W.heap.size W W' := ⟨h3.os, h3.tape, h3.output, h3.size, fun k hk => h3.block k hk (hH k)⟩
  have hs' : s.fn H (ds ++ []) = { results := [.lit (.bool true)], args := ds } := by rw [List.append_nil]; exact hs
  refine ⟨ds, [], p ++ [], [], p, [], hW0, ?_, ?_, ?_, hbel.frame _, fun h => by cases h⟩
  · rw [hs', hres]
    exact trodAll_mk1 (shut_bool hb true)
  · rw [hs']
    exact belowTrodAll hlaid hbel hread hA0 (fun x hx => hlt x (by simpa using hx))
  · rw [hs', hv]
    exact rfl

theorem laid_at {P : Program} {w : World} : ∀ {l : List (String × DataW Unit)} {ps : List MemPlace}, DataW.LaidVars P w l ps → ∀ n d, (n, d) ∈ l →
    ∃ g t cs fuel p, P.globalNamed n = some g ∧ (P.globals[g]?).map (·.type) = some t ∧ w.var? P n = some cs ∧ DataW.trod (fun _ => ()) P w 0 (fun _ => true) false fuel t cs.toList = some (d, p)
  | [], _, _, n, d, h => by cases h
  | (n0, d0) :: r, ps, h, n, d, hm => by
    obtain ⟨g, t, cs, fuel, p, q, h1, h2, h3, h4, h5, _⟩ := h
    rcases List.mem_cons.1 hm with e | hm
    · cases e; exact ⟨g, t, cs, fuel, p, h1, h2, h3, h4⟩
    · exact laid_at h5 n d hm

/-- A table that the row lists stands so in the world. -/
theorem tab_obj {P : Program} {W : World} {laid : List (String × DataW Unit)} (h : laidMet P laid W) {name : String} {k : IntKind} {zs : List Int} (hm : (name, Lib.tabData k zs) ∈ laid) {g : Nat} {t e : TypeId} {n : Nat}
    (hg : P.globalNamed name = some g) (hty : (P.globals[g]?).map (·.type) = some t) (ht : P.underlying t = some (.array n e)) (he : P.underlying e = some (.int k)) (hce : P.cellsOf e = 1) (hct : P.cellsOf t = n) (Hp : Heap) : ObjOk W Hp g (.ro (tabD k zs)) := by
  obtain ⟨ps, hl, _⟩ := h
  obtain ⟨g', t', cs, fuel, p, hg', ht', hvar, hd⟩ := laid_at hl _ _ hm
  obtain rfl := Option.some.inj (hg.symm.trans hg')
  obtain rfl := Option.some.inj (hty.symm.trans ht')
  have hcs := Lib.cells_of_tab ht he hce hct hd
  unfold World.var? at hvar
  rw [hg] at hvar
  simp only [Option.bind_some] at hvar
  split at hvar
  · rename_i c T fz hw
    cases hvar
    refine ⟨cs, T, fz, hw, by rw [← Array.length_toList, hcs]; simp [tabD], fun j d hd => ?_⟩
    simp only [tabD, List.getElem?_map, Option.map_eq_some_iff] at hd
    obtain ⟨z, hz, rfl⟩ := hd
    have e : cs.getD j Go.undef = .int k z := by
      rw [show cs.getD j Go.undef = cs.toList.getD j Go.undef by simp, hcs]
      simp [hz]
    rw [e]
    exact ⟨rfl, .int _ _⟩
  · cases hvar
end
end Go.Av
