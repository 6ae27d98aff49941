/- The law LexLongest, walked. -/
import Derived.Test.YtlbojoghnapbfaaDoorLawForm
import Derived.Test.YtlbojoghnapbfaaDoorLexLaw
import Derived.Test.YtlbojoghnapbfaaDoorRefPlaced
set_option linter.unusedSimpArgs false
set_option linter.unusedVariables false
namespace Go.Lexs
open Go.Av
end Go.Lexs
namespace Go.Av
@[go_sem] theorem r_len {P : Program} {H : Heap} {KD : D → Heap → Prop} {ev : Operand → D} {sx : Bool} {bl : List Nat} (x : Operand) (t : Nat) : wpOpR P sx bl ev H KD (.call ⟨.builtin .len, #[x], #[t]⟩) = wpOp P ev H KD (.call ⟨.builtin .len, #[x], #[t]⟩) := by show (_ = _ ∧ _) = _; simp [cls]
end Go.Av
namespace Go.Lexs
open Go.Av
/-! ### The order of signs does not matter -/
theorem bestN_same {A A' : List (List UInt8)} (h : ∀ s, s ∈ A ↔ s ∈ A') (l : List UInt8) : bestN A l = bestN A' l := by
  have le : ∀ {X Y : List (List UInt8)}, (∀ s, s ∈ X → s ∈ Y) → bestN X l ≤ bestN Y l := by
    intro X Y hXY
    by_cases h0 : bestN X l = 0
    · omega
    · obtain ⟨s, hs, hp, he⟩ := bestN_mem h0
      rw [← he]
      exact bestN_fold_mem l Y 0 s (hXY s hs) hp
  exact Nat.le_antisymm (le fun s => (h s).1) (le fun s => (h s).2)
theorem tokN_same {A A' : List (List UInt8)} (h : ∀ s, s ∈ A ↔ s ∈ A') (l : List UInt8) : tokN A l = tokN A' l := by
  unfold tokN
  rw [bestN_same h]
theorem cutN_same {A A' : List (List UInt8)} (h : ∀ s, s ∈ A ↔ s ∈ A') (L : List UInt8) : ∀ (f i : Nat) (acc : List (Tok × Nat)), cutN A L f i acc = cutN A' L f i acc
  | 0, _, _ => rfl
  | f + 1, i, acc => by
    rw [cutN, cutN, tokN_same h]
    split
    · split
      · rfl
      · exact cutN_same h L f _ _
    · rfl
theorem cut_same {A A' : List (List UInt8)} (h : ∀ s, s ∈ A ↔ s ∈ A') (L : List UInt8) : cut A L = cut A' L := cutN_same h L _ _ _

/-! ### Lines -/
def lnStep (x : List (List UInt8) × List UInt8) (c : UInt8) : List (List UInt8) × List UInt8 := if c.toNat = 10 then (x.1 ++ [x.2], []) else (x.1, x.2 ++ [c])
def lnSt (l : List UInt8) : List (List UInt8) × List UInt8 := l.foldl lnStep ([], [])
def lnAll (l : List UInt8) : List (List UInt8) := (lnSt l).1 ++ [(lnSt l).2]
theorem lnSt_snoc (l : List UInt8) (k : Nat) (h : k < l.length) : lnSt (l.take (k + 1)) = lnStep (lnSt (l.take k)) l[k] := by
  unfold lnSt
  rw [List.take_succ_eq_append_getElem h, List.foldl_append]
  rfl
theorem place_ln (l : List UInt8) (k : Nat) : place l k = (((lnSt (l.take k)).1.length : Int) + 1, ((lnSt (l.take k)).2.length : Int) + 1) := by
  have : ∀ (m : List UInt8) (p : Int × Int) (x : List (List UInt8) × List UInt8), p = ((x.1.length : Int) + 1, (x.2.length : Int) + 1) → m.foldl adv p = (((m.foldl lnStep x).1.length : Int) + 1, ((m.foldl lnStep x).2.length : Int) + 1) := by
    intro m
    induction m with
    | nil => exact fun p x h => h
    | cons c m ih =>
      intro p x h
      rw [List.foldl_cons, List.foldl_cons]
      refine ih _ _ ?_
      subst h
      unfold adv lnStep
      split <;> simp
  exact this (l.take k) (1, 1) ([], []) rfl
theorem ln_fold : ∀ (r : List UInt8) (x : List (List UInt8) × List UInt8), ((r.foldl lnStep x).1 ++ [(r.foldl lnStep x).2])[x.1.length]? = some (x.2 ++ r.take (lineLen r)) ∧ x.1.length < ((r.foldl lnStep x).1 ++ [(r.foldl lnStep x).2]).length ∧ ∀ j, j < x.1.length → ((r.foldl lnStep x).1 ++ [(r.foldl lnStep x).2])[j]? = x.1[j]?
  | [], x => by
    refine ⟨by simp [lineLen], by simp, fun j hj => ?_⟩
    rw [List.foldl_nil, List.getElem?_append_left hj]
  | c :: r, x => by
    rw [List.foldl_cons]
    have ih := ln_fold r (lnStep x c)
    by_cases h10 : c.toNat = 10
    · have e : lnStep x c = (x.1 ++ [x.2], []) := by unfold lnStep; rw [if_pos h10]
      rw [e] at ih ⊢
      obtain ⟨h1, h2, h3⟩ := ih
      have hx : (x.1 ++ [x.2]).length = x.1.length + 1 := by simp
      simp only [hx] at h2 h3
      refine ⟨?_, by omega, fun j hj => ?_⟩
      · rw [h3 x.1.length (by omega), List.getElem?_append_right (Nat.le_refl _)]
        simp [lineLen, h10]
      · rw [h3 j (by omega), List.getElem?_append_left hj]
    · have e : lnStep x c = (x.1, x.2 ++ [c]) := by unfold lnStep; rw [if_neg h10]
      rw [e] at ih ⊢
      obtain ⟨h1, h2, h3⟩ := ih
      refine ⟨?_, h2, h3⟩
      rw [h1, lineLen, if_neg h10]
      simp
/-- The line of a place, from that place on. -/
theorem ln_at (l : List UInt8) (i : Nat) (h : i ≤ l.length) : (lnAll l)[(lnSt (l.take i)).1.length]? = some ((lnSt (l.take i)).2 ++ (l.drop i).take (lineLen (l.drop i))) := by
  have := (ln_fold (l.drop i) (lnSt (l.take i))).1
  unfold lnAll
  have e : lnSt l = (l.drop i).foldl lnStep (lnSt (l.take i)) := by
    conv => lhs; rw [← List.take_append_drop i l]
    unfold lnSt
    rw [List.foldl_append]
  rw [e]
  exact this
end Go.Lexs
namespace Go.Proofs.YtlbojoghnapbfaaDoor
open Go Go.Av Go.Lexs
attribute [local irreducible] ACalls at8

theorem weak_trans {E1 E2 E3 : Env} {H1 H2 H3 : Heap} (h : Weak E2 H2 E1 H1) (k : Weak E3 H3 E2 H2) : Weak E3 H3 E1 H1 := fun N w0 Hz a w hst => k N w0 Hz a w (h N w0 Hz a w hst)
theorem set_last (L : List (List D)) (x y : D) (n : Nat) (hn : n = L.length) : (L ++ [[x]]).set n (((L ++ [[x]]).getD n []).set 0 y) = L ++ [[y]] := by
  subst hn
  simp
theorem bytesE_S' (l : List UInt8) : bytesE (S l) = l.map fun c => [D.int .u8 c.toNat] := by
  unfold bytesE
  rw [show (S l).data.toList = l from B_S l]
theorem bytesE_len (l : List UInt8) : (bytesE (S l)).length = l.length := by simp [bytesE, S]
theorem cutN_toks (A : List (List UInt8)) (L : List UInt8) : ∀ (f i : Nat) (acc ts : List (Tok × Nat)), (∀ x ∈ acc, x.2 < L.length ∧ ∃ k, tokN A (L.drop x.2) = some (x.1, k)) → cutN A L f i acc = .ok ts → ∀ x ∈ ts, x.2 < L.length ∧ ∃ k, tokN A (L.drop x.2) = some (x.1, k)
  | 0, i, acc, ts, ha, h => by rw [cutN] at h; cases h; exact ha
  | f + 1, i, acc, ts, ha, h => by
    rw [cutN] at h
    split at h
    · rename_i hi
      split at h
      · cases h
      · rename_i x k ht
        refine cutN_toks A L f _ _ ts (fun y hy => ?_) h
        rcases List.mem_append.1 hy with hy | hy
        · exact ha y hy
        · simp at hy; subst hy; exact ⟨hi, k, ht⟩
    · cases h; exact ha
/-- What is told of a token of a string. -/
def TokAt (A : List (List UInt8)) (L : List UInt8) (t : Tk) : Prop := ∃ (x : Tok) (i k : Nat), i < L.length ∧ tokN A (L.drop i) = some (x, k) ∧ t = tkOf L (x, i) ∧ ∀ s ∈ A, isSign s = true
theorem lexR_toks (s : ByteArray) (signs : List ByteArray) : ∃ (ts : List Tk) (c : Int) (nm : List UInt8) (ln cl : Int), lexR s signs = .tuple [.sl 5 (tksD ts), .agg [.int .i64 c, .str (S nm), .int .i64 ln, .int .i64 cl]] ∧ ts.length ≤ 1000000 ∧ ∀ t ∈ ts, TokAt (signs.map B) (B s) t := by
  unfold lexR
  split
  · exact ⟨[], 3, [], 0, 0, rfl, by simp, by simp⟩
  split
  · exact ⟨[], 2, [], 0, 0, rfl, by simp, by simp⟩
  · rename_i h1 h2
    cases h : cut (signs.map B) (B s) with
    | ok ts =>
      have := cut_len h
      have hB := B_len s
      refine ⟨ts.map (tkOf (B s)), 0, [], 0, 0, by rw [← toks_tk]; rfl, by rw [List.length_map]; omega, fun t ht => ?_⟩
      obtain ⟨x, hx, rfl⟩ := List.mem_map.1 ht
      obtain ⟨k1, k, k2⟩ := cutN_toks _ _ _ _ [] ts (fun y hy => by cases hy) h x hx
      refine ⟨x.1, x.2, k, k1, k2, rfl, fun y hy => ?_⟩
      obtain ⟨z, hz, rfl⟩ := List.mem_map.1 hy
      have h3 : signs.any (fun x => !isSign (B x)) = false := by
        cases hv : signs.any (fun x => !isSign (B x)) with
        | false => rfl
        | true => exact absurd (.inr hv) h2
      simpa using List.any_eq_false.1 h3 z hz
    | error i => exact ⟨[], 10, ((B s).drop i).take 1, _, _, rfl, by simp, by simp⟩

theorem lineLen_ge : ∀ (n : Nat) (l : List UInt8), n ≤ l.length → (∀ c ∈ l.take n, c.toNat ≠ 10) → n ≤ lineLen l
  | 0, _, _, _ => Nat.zero_le _
  | n + 1, [], h, _ => by simp at h
  | n + 1, c :: r, h, hc => by
    rw [lineLen, if_neg (hc c (by simp))]
    have := lineLen_ge n r (by simpa using h) (fun d hd => hc d (by rw [List.take_succ_cons]; exact List.mem_cons_of_mem _ hd))
    omega
/-- What the law asks of a sign among the tokens. -/
theorem sign_line {A : List (List UInt8)} {L : List UInt8} {t : Tk} (h : TokAt A L t) (hk : t.kind = 4) : ∃ (p : Nat) (pre rest : List UInt8), t.line = (p : Int) + 1 ∧ p < (lnAll L).length ∧ (lnAll L)[p]? = some (pre ++ rest) ∧ t.col = (pre.length : Int) + 1 ∧ rest ≠ [] ∧
    List.isPrefixOf t.text rest = true ∧ rest.length ≤ L.length ∧ pre.length ≤ L.length ∧ ∀ s ∈ A, List.isPrefixOf s rest = true → s.length ≤ t.text.length := by
  obtain ⟨x, i, k, hi, htok, rfl, hA⟩ := h
  have hne : L.drop i ≠ [] := fun e => by have := congrArg List.length e; simp at this; omega
  have hx : x.text = (L.drop i).take (bestN A (L.drop i)) ∧ bestN A (L.drop i) ≠ 0 := by
    have hk' : x.kind = 4 := hk
    unfold tokN at htok
    split at htok
    · split at htok <;> cases htok; cases hk'
    split at htok
    · split at htok <;> cases htok; cases hk'
    split at htok
    · split at htok <;> cases htok; cases hk'
    split at htok
    · cases htok
    · rename_i hb; cases htok; exact ⟨rfl, hb⟩
  obtain ⟨s0, hs0, hp0, he0⟩ := bestN_mem hx.2
  have htx : x.text = s0 := by rw [hx.1, ← he0]; exact (List.prefix_iff_eq_take.1 (List.isPrefixOf_iff_prefix.1 hp0)).symm
  have hsg := hA s0 hs0
  have hble := bestN_le A (L.drop i)
  have hno : ∀ c ∈ (L.drop i).take (bestN A (L.drop i)), c.toNat ≠ 10 := by
    rw [← hx.1, htx]
    intro c hc e
    simp only [isSign, Bool.and_eq_true, List.all_eq_true] at hsg
    have h1 := (signI_iff _).1 (hsg.2 c hc)
    omega
  have hge := lineLen_ge _ _ hble hno
  have hll := lineLen_le (L.drop i)
  have hat := ln_at L i (Nat.le_of_lt hi)
  have hpl := place_ln L i
  have hpre : (lnSt (L.take i)).2.length ≤ L.length := by
    have h1 := (place_le L i (Nat.le_of_lt hi)).2.2.2
    rw [hpl] at h1
    simp only at h1
    omega
  refine ⟨(lnSt (L.take i)).1.length, (lnSt (L.take i)).2, (L.drop i).take (lineLen (L.drop i)), by simp [tkOf, hpl], (List.getElem?_eq_some_iff.1 hat).1, hat, by simp [tkOf, hpl], ?_, ?_, ?_, hpre, fun s hs hp => ?_⟩
  · intro e
    have := congrArg List.length e
    rw [List.length_take] at this
    simp only [List.length_nil] at this
    omega
  · show List.isPrefixOf x.text _ = true
    rw [hx.1, List.isPrefixOf_iff_prefix]
    exact List.take_prefix_take_left hge
  · rw [List.length_take, List.length_drop]; omega
  · show s.length ≤ x.text.length
    rw [htx, he0]
    refine bestN_fold_mem _ A 0 s hs (List.isPrefixOf_iff_prefix.2 ?_)
    exact (List.isPrefixOf_iff_prefix.1 hp).trans (List.take_prefix _ _)
/-- The signs turned, and once more. -/
theorem lexR_turned (s : ByteArray) (signs : List ByteArray) (k : Nat) (hl : signs.length ≤ 100) : lexR s (signs.drop k ++ signs) = lexR s signs := by
  have hm : ∀ x : ByteArray, x ∈ signs.drop k ++ signs ↔ x ∈ signs := fun x => by
    rw [List.mem_append]
    exact ⟨fun h => h.elim (fun h => List.mem_of_mem_drop h) id, .inr⟩
  have hany : (signs.drop k ++ signs).any (fun x => !isSign (B x)) = signs.any (fun x => !isSign (B x)) := by
    rw [Bool.eq_iff_iff, List.any_eq_true, List.any_eq_true]
    exact ⟨fun ⟨x, h1, h2⟩ => ⟨x, (hm x).1 h1, h2⟩, fun ⟨x, h1, h2⟩ => ⟨x, (hm x).2 h1, h2⟩⟩
  have hcut : cut ((signs.drop k ++ signs).map B) (B s) = cut (signs.map B) (B s) := cut_same (fun y => by
    rw [List.mem_map, List.mem_map]
    exact ⟨fun ⟨x, h1, h2⟩ => ⟨x, (hm x).1 h1, h2⟩, fun ⟨x, h1, h2⟩ => ⟨x, (hm x).2 h1, h2⟩⟩) _
  unfold lexR
  rw [hany, hcut]
  have h1 : ¬ 5000 < (signs.drop k ++ signs).length := by rw [List.length_append, List.length_drop]; omega
  have h2 : ¬ 5000 < signs.length := by omega
  simp only [h1, h2]

/-- A line, as the law holds it: nil if it is empty. -/
def lineD (x : List UInt8) : D := if x = [] then .nilsl else .sl 1 (bytesE (S x))
def linesD (l : List (List UInt8)) : List (List D) := l.map fun x => [lineD x]
theorem fz_sub {b sz : Nat} {es : List (List D)} {E0 E : Env} (h : Av.Sub E0 E) : ∀ p ∈ E0, Fz b sz es (E.get p.1) p.2 := fun p hp => by
  rw [h.all p hp]; exact .same _

/-- The lines so far. -/
def lnH (H : Heap) (x : List (List UInt8) × List UInt8) (c : Nat) (ob : Option Nat) : Heap := putB (H.set c (.vec 1 (linesD x.1 ++ [[outG 1 x.2.length ob]]))) 1 (bytesE (S x.2)) ob

theorem ln_freeze {H : Heap} {E E' : Env} {x : List (List UInt8) × List UInt8} {c : Nat} {ob : Option Nat} (more : List (List D)) (hc : H c = none) (hn : ob = none ↔ x.2 = []) (hob : ∀ b, ob = some b → H b = none ∧ b ≠ c) (hS : Av.Sub E' E) :
    Weak E' (H.set c (.vec 1 (linesD (x.1 ++ [x.2]) ++ more))) E (putB (H.set c (.vec 1 (linesD x.1 ++ [[outG 1 x.2.length ob]] ++ more))) 1 (bytesE (S x.2)) ob) := by
  cases ob with
  | none =>
    have h0 := hn.1 rfl
    refine weak_of hS.all ?_
    have e : linesD (x.1 ++ [x.2]) = linesD x.1 ++ [[outG 1 x.2.length none]] := by
      unfold linesD lineD
      rw [List.map_append, h0]; rfl
    rw [e]
    exact Heap.Le.refl _
  | some b =>
    obtain ⟨h1, h2⟩ := hob b rfl
    have h0 : x.2 ≠ [] := fun e => by have := hn.2 e; cases this
    have hlen : (bytesE (S x.2)).length = x.2.length := by simp [bytesE, S]
    refine weak_freeze (b := b) (sz := 1) (es := bytesE (S x.2)) (by simp [putB, Heap.set]) (fz_sub hS) (fun k o' ho => ?_)
    unfold Heap.set at ho
    by_cases hk : k = c
    · subst hk
      rw [if_pos rfl] at ho
      cases ho
      refine ⟨Ne.symm h2, .vec 1 (linesD x.1 ++ [[outG 1 x.2.length (some b)]] ++ more), by simp [putB, Heap.set, Ne.symm h2], .vec _ _ _ (by simp [linesD]) fun i y y' hy hy' => ?_⟩
      have hll : (linesD x.1).length = x.1.length := by simp [linesD]
      have e : linesD (x.1 ++ [x.2]) = linesD x.1 ++ [[lineD x.2]] := by simp [linesD]
      rw [e] at hy'
      by_cases hi : i < x.1.length
      · rw [List.append_assoc, List.getElem?_append_left (by omega)] at hy hy'
        rw [hy] at hy'; cases hy'
        exact ⟨rfl, fun j d d' h3 h4 => by rw [h3] at h4; cases h4; exact .same _⟩
      · by_cases hi2 : i = x.1.length
        · subst hi2
          rw [List.append_assoc, List.getElem?_append_right (by omega), hll, Nat.sub_self] at hy hy'
          simp at hy hy'
          subst hy; subst hy'
          refine ⟨rfl, fun j d d' h3 h4 => ?_⟩
          cases j with
          | zero =>
            simp at h3 h4
            subst h3; subst h4
            unfold lineD
            rw [if_neg h0, outG, ← hlen]
            exact .all
          | succ j => simp at h3
        · rw [List.append_assoc, List.getElem?_append_right (by omega)] at hy hy'
          rw [List.getElem?_append_right (by simp; omega)] at hy hy'
          simp only [List.length_cons, List.length_nil] at hy hy'
          rw [hy] at hy'; cases hy'
          exact ⟨rfl, fun j d d' h3 h4 => by rw [h3] at h4; cases h4; exact .same _⟩
    · rw [if_neg hk] at ho
      refine ⟨(fun e => by rw [e, h1] at ho; cases ho), o', ?_, .same _⟩
      simp only [putB, Heap.set]
      rw [if_neg (fun e => by rw [e, h1] at ho; cases ho), if_neg hk]
      exact ho

theorem ln_freeze0 {H : Heap} {E E' : Env} {x : List (List UInt8) × List UInt8} {c : Nat} {ob : Option Nat} (hc : H c = none) (hn : ob = none ↔ x.2 = []) (hob : ∀ b, ob = some b → H b = none ∧ b ≠ c) (hS : Av.Sub E' E) :
    Weak E' (H.set c (.vec 1 (linesD (x.1 ++ [x.2])))) E (lnH H x c ob) := by
  have := ln_freeze (x := x) (ob := ob) [] hc hn hob hS
  simp only [List.append_nil] at this
  exact this
theorem put_none {H : Heap} {x : List (List UInt8) × List UInt8} {c b : Nat} {ob : Option Nat} (h : lnH H x c ob b = none) : b ≠ c ∧ H b = none ∧ ∀ k, ob = some k → b ≠ k := by
  cases ob with
  | none =>
    simp only [lnH, putB, set_none] at h
    exact ⟨h.1, h.2, by simp⟩
  | some k =>
    simp only [lnH, putB, set_none] at h
    exact ⟨h.2.1, h.2.2, fun k' e => by cases e; exact h.1⟩
theorem lnH_c {H : Heap} {x : List (List UInt8) × List UInt8} {c : Nat} {ob : Option Nat} (hob : ∀ b, ob = some b → H b = none ∧ b ≠ c) : lnH H x c ob c = some (.vec 1 (linesD x.1 ++ [[outG 1 x.2.length ob]])) := by
  cases ob with
  | none => simp [lnH, putB, Heap.set]
  | some k => simp [lnH, putB, Heap.set, Ne.symm (hob k rfl).2]
theorem lnH_ob {H : Heap} {x : List (List UInt8) × List UInt8} {c b : Nat} : lnH H x c (some b) b = some (.vec 1 (bytesE (S x.2))) := by simp [lnH, putB, Heap.set]
theorem linesD_len (l : List (List UInt8)) : (linesD l).length = l.length := by simp [linesD]

set_option maxHeartbeats 4000000 in
set_option maxRecDepth 10000 in
theorem lexLongest_a {Q} (s : ByteArray) (signs : List ByteArray) (n : Int) (hs : s.size ≤ 4611686018427387904) (hl : signs.length ≤ 4611686018427387904) (hz : ∀ s ∈ signs, s.size ≤ 4611686018427387904) (hn : 0 ≤ n ∧ n ≤ 255) (H : Heap) (hT : Tabs H) (h : Q (.bool true) H) :
    ACalls Tryd.prog 6 [.str s, .sl 1 (strsD signs), .int .u8 n] H Q := by
  refine acalls_of_wp [(15, false)] Tryd.mixed Tryd.func6 rfl (by kernel_rfl) (of_decide_eq_true (by kernel_rfl)) (by kernel_rfl) ?_
  simp only [go_sem, reduceIte, Nat.reduceEqDiff, Nat.reduceAdd, Nat.reduceSub, Nat.reduceLT, Nat.reduceLeDiff, reduceCtorEq, Int.reduceToNat, Int.reduceLE, Int.reduceLT, Int.reduceEq, Int.reduceNeg, Int.reduceAdd, Int.reduceSub, Nat.reduceMul, Tryd.results6]
  have hB := B_len s
  refine few_a s signs hs hl _ ?_
  cases hf : (decide (s.size ≤ 3000) && decide (signs.length ≤ 400)) with
  | false =>
    simp only [go_sem, reduceIte, Nat.reduceEqDiff, Nat.reduceAdd, Nat.reduceSub, Nat.reduceLT, Nat.reduceLeDiff, reduceCtorEq, Int.reduceToNat, Int.reduceLE, Int.reduceLT, Int.reduceEq, Int.reduceNeg, Int.reduceAdd, Int.reduceSub, Nat.reduceMul]
    refine awake_a _ hT ?_
    simp only [go_sem, reduceIte, Nat.reduceEqDiff, Nat.reduceAdd, Nat.reduceSub, Nat.reduceLT, Nat.reduceLeDiff, reduceCtorEq, Int.reduceToNat, Int.reduceLE, Int.reduceLT, Int.reduceEq, Int.reduceNeg, Int.reduceAdd, Int.reduceSub, Nat.reduceMul]
    exact Fin.same h
  | true =>
    rw [Bool.and_eq_true, decide_eq_true_eq, decide_eq_true_eq] at hf
    by_cases h100 : 100 < signs.length
    · have h100' : (100 : Int) < signs.length := by omega
      simp only [go_sem, reduceIte, Nat.reduceEqDiff, Nat.reduceAdd, Nat.reduceSub, Nat.reduceLT, Nat.reduceLeDiff, reduceCtorEq, Int.reduceToNat, Int.reduceLE, Int.reduceLT, Int.reduceEq, Int.reduceNeg, Int.reduceAdd, Int.reduceSub, Nat.reduceMul, h100']
      refine awake_a _ hT ?_
      simp only [go_sem, reduceIte, Nat.reduceEqDiff, Nat.reduceAdd, Nat.reduceSub, Nat.reduceLT, Nat.reduceLeDiff, reduceCtorEq, Int.reduceToNat, Int.reduceLE, Int.reduceLT, Int.reduceEq, Int.reduceNeg, Int.reduceAdd, Int.reduceSub, Nat.reduceMul]
      exact Fin.same h
    have h100' : ¬ (100 : Int) < signs.length := by omega
    by_cases h00 : signs.length = 0
    · have h00' : (signs.length : Int) = 0 := by omega
      simp only [go_sem, reduceIte, Nat.reduceEqDiff, Nat.reduceAdd, Nat.reduceSub, Nat.reduceLT, Nat.reduceLeDiff, reduceCtorEq, Int.reduceToNat, Int.reduceLE, Int.reduceLT, Int.reduceEq, Int.reduceNeg, Int.reduceAdd, Int.reduceSub, Nat.reduceMul, h100', h00']
      refine awake_a _ hT ?_
      simp only [go_sem, reduceIte, Nat.reduceEqDiff, Nat.reduceAdd, Nat.reduceSub, Nat.reduceLT, Nat.reduceLeDiff, reduceCtorEq, Int.reduceToNat, Int.reduceLE, Int.reduceLT, Int.reduceEq, Int.reduceNeg, Int.reduceAdd, Int.reduceSub, Nat.reduceMul]
      exact Fin.same h
    have h00' : ¬ (signs.length : Int) = 0 := by omega
    obtain ⟨k0, hk0, hk1⟩ : ∃ r : Nat, n.tmod (signs.length : Int) = (r : Int) ∧ r < signs.length := ⟨(n.tmod (signs.length : Int)).toNat, by
      rw [Int.tmod_eq_emod_of_nonneg hn.1]
      have := Int.emod_nonneg n (b := (signs.length : Int)) (by omega)
      omega, by
      rw [Int.tmod_eq_emod_of_nonneg hn.1]
      have := Int.emod_lt_of_pos n (b := (signs.length : Int)) (by omega)
      have := Int.emod_nonneg n (b := (signs.length : Int)) (by omega)
      omega⟩
    have hwn : IntKind.i64.wrap n = n := wrap64 (by omega) (by omega)
    simp only [go_sem, reduceIte, Nat.reduceEqDiff, Nat.reduceAdd, Nat.reduceSub, Nat.reduceLT, Nat.reduceLeDiff, reduceCtorEq, Int.reduceToNat, Int.reduceLE, Int.reduceLT, Int.reduceEq, Int.reduceNeg, Int.reduceAdd, Int.reduceSub, Nat.reduceMul, h100', h00']
    refine lex_a s signs hs hl _ ?_
    obtain ⟨ts, co, nm, ln, cl, hres, hlen, htoks⟩ := lexR_toks s signs
    rw [hres]
    simp only [go_sem, reduceIte, Nat.reduceEqDiff, Nat.reduceAdd, Nat.reduceSub, Nat.reduceLT, Nat.reduceLeDiff, reduceCtorEq, Int.reduceToNat, Int.reduceLE, Int.reduceLT, Int.reduceEq, Int.reduceNeg, Int.reduceAdd, Int.reduceSub, Nat.reduceMul]
    intro b1 hb1
    have htk : (strsD signs).take signs.length = strsD signs := List.take_of_length_le (by rw [strsD_len]; exact Nat.le_refl _)
    simp only [go_sem, reduceIte, Nat.reduceEqDiff, Nat.reduceAdd, Nat.reduceSub, Nat.reduceLT, Nat.reduceLeDiff, reduceCtorEq, Int.reduceToNat, Int.reduceLE, Int.reduceLT, Int.reduceEq, Int.reduceNeg, Int.reduceAdd, Int.reduceSub, Nat.reduceMul, hwn, hk0, h00', htk]
    repeat' (first | with_reducible refine And.intro ?_ ?_ | intro _ | simp only [go_sem, reduceIte, Nat.reduceEqDiff, Nat.reduceAdd, Nat.reduceSub, Nat.reduceLT, Nat.reduceLeDiff, reduceCtorEq, Int.reduceToNat, Int.reduceLE, Int.reduceLT, Int.reduceEq, Int.reduceNeg, Int.reduceAdd, Int.reduceSub, Nat.reduceMul, hwn, hk0, h00', htk, strsD_len] | simp (disch := omega) only [wrap64] | omega)
    rename_i b2 hb2 b3 hb3 b4 hb4
    rw [set_del hb2] at hb3 hb4 ⊢
    rw [set_del hb3] at hb4 ⊢
    have htk2 : List.take (signs.length - k0) (List.drop k0 (strsD signs)) ++ strsD signs = strsD (signs.drop k0 ++ signs) := by
      rw [List.take_of_length_le (by rw [List.length_drop, strsD_len]; exact Nat.le_refl _)]
      simp [strsD]
    rw [htk2]
    refine ACalls.vec2 (es := strsD (signs.drop k0 ++ signs)) (by rw [heap_same]) (by simp [strsD]) ?_
    rw [set_del hb4]
    refine lex_a s _ hs (by rw [List.length_append, List.length_drop]; omega) _ ?_
    rw [lexR_turned s signs k0 (by omega), hres]
    simp only [go_sem, reduceIte, Nat.reduceEqDiff, Nat.reduceAdd, Nat.reduceSub, Nat.reduceLT, Nat.reduceLeDiff, reduceCtorEq, Int.reduceToNat, Int.reduceLE, Int.reduceLT, Int.reduceEq, Int.reduceNeg, Int.reduceAdd, Int.reduceSub, Nat.reduceMul]
    intro b5 hb5
    have h51 := (set_none.1 hb5).1
    simp only [go_sem, reduceIte, Nat.reduceEqDiff, Nat.reduceAdd, Nat.reduceSub, Nat.reduceLT, Nat.reduceLeDiff, reduceCtorEq, Int.reduceToNat, Int.reduceLE, Int.reduceLT, Int.reduceEq, Int.reduceNeg, Int.reduceAdd, Int.reduceSub, Nat.reduceMul, heap_ne _ (Ne.symm h51)]
    refine placed_a ts _ hlen ?_
    simp only [go_sem, reduceIte, Nat.reduceEqDiff, Nat.reduceAdd, Nat.reduceSub, Nat.reduceLT, Nat.reduceLeDiff, reduceCtorEq, Int.reduceToNat, Int.reduceLE, Int.reduceLT, Int.reduceEq, Int.reduceNeg, Int.reduceAdd, Int.reduceSub, Nat.reduceMul]
    intro b6 hb6
    have hH6 : H.Le ((H.set b1 (.box [.int .i64 co, .str (S nm), .int .i64 ln, .int .i64 cl])).set b5 (.box [.int .i64 co, .str (S nm), .int .i64 ln, .int .i64 cl])) := (heap_le_set hb1).trans (heap_le_set hb5)
    have hc6 : H b6 = none := Heap.Le.none hH6 hb6
    refine loop_a (fun (x : Nat × Nat × Option Nat) => [(0, .str s), (1, .sl 1 (strsD signs)), (7, .sl 5 (tksD ts)), (13, .vec x.2.1 1 0 ((lnSt ((B s).take x.1)).1.length + 1)), (70, .int .i64 s.size), (71, .int .i64 x.1)])
      (fun x => lnH H (lnSt ((B s).take x.1)) x.2.1 x.2.2) (fun x => x.1 ≤ s.size ∧ (lnSt ((B s).take x.1)).1.length ≤ x.1 ∧ (lnSt ((B s).take x.1)).2.length ≤ x.1 ∧ H x.2.1 = none ∧ (x.2.2 = none ↔ (lnSt ((B s).take x.1)).2 = []) ∧ ∀ b, x.2.2 = some b → H b = none ∧ b ≠ x.2.1)
      (fun x => s.size - x.1) (0, b6, none) ⟨Nat.zero_le _, by simp [lnSt], by simp [lnSt], hc6, by simp [lnSt], by simp⟩ (by simp only [go_sem, reduceIte, Nat.reduceEqDiff, Nat.reduceAdd, Nat.reduceSub, Nat.reduceLT, Nat.reduceLeDiff, reduceCtorEq, Int.reduceToNat, Int.reduceLE, Int.reduceLT, Int.reduceEq, Int.reduceNeg, Int.reduceAdd, Int.reduceSub, Nat.reduceMul]; simp [lnSt]) (by
        have e : lnH H (lnSt ((B s).take 0)) b6 none = H.set b6 (.vec 1 [[.nilsl]]) := rfl
        simp only [e]
        intro k o ho
        unfold Heap.set at ho ⊢
        by_cases hk : k = b6
        · rw [if_pos hk] at ho ⊢; exact ho
        · rw [if_neg hk] at ho ⊢; exact hH6 k o ho) ?_
    rintro ⟨k, c, ob⟩ ⟨hk, hd1, hd2, hc, hn0, hob⟩
    simp only at hk hd1 hd2 hc hn0 hob
    have hxc := lnH_c (H := H) (x := lnSt ((B s).take k)) (c := c) (ob := ob) hob
    by_cases hlt : k < s.size
    · have hkd : decide ((k : Int) < s.size) = true := decide_eq_true (by omega)
      have hst := lnSt_snoc (B s) k (by omega)
      have hnth : nth (B s) k = ((B s)[k]'(by omega)).toNat := by simp [nth, show k < s.size from hlt]
      by_cases h10 : at8 s k = 10
      · have hs10 : lnSt ((B s).take (k + 1)) = ((lnSt ((B s).take k)).1 ++ [(lnSt ((B s).take k)).2], []) := by
          rw [hst]; unfold lnStep; rw [if_pos (by rw [at8_nat, hnth] at h10; omega)]
        simp only [go_sem, reduceIte, Nat.reduceEqDiff, Nat.reduceAdd, Nat.reduceSub, Nat.reduceLT, Nat.reduceLeDiff, reduceCtorEq, Int.reduceToNat, Int.reduceLE, Int.reduceLT, Int.reduceEq, Int.reduceNeg, Int.reduceAdd, Int.reduceSub, Nat.reduceMul, hkd, h10]
        refine ⟨⟨by omega, by omega⟩, fun b3 hb3 => ?_⟩
        obtain ⟨g1, g2, g3⟩ := put_none hb3
        have hel : (linesD (lnSt ((B s).take k)).1 ++ [[outG 1 (lnSt ((B s).take k)).2.length ob]]).length = (lnSt ((B s).take k)).1.length + 1 := by rw [List.length_append, linesD_len]; rfl
        have htk9 : List.take ((lnSt ((B s).take k)).1.length + 1) (linesD (lnSt ((B s).take k)).1 ++ [[outG 1 (lnSt ((B s).take k)).2.length ob]]) = linesD (lnSt ((B s).take k)).1 ++ [[outG 1 (lnSt ((B s).take k)).2.length ob]] := List.take_of_length_le (by rw [hel]; exact Nat.le_refl _)
        simp only [go_sem, reduceIte, Nat.reduceEqDiff, Nat.reduceAdd, Nat.reduceSub, Nat.reduceLT, Nat.reduceLeDiff, reduceCtorEq, Int.reduceToNat, Int.reduceLE, Int.reduceLT, Int.reduceEq, Int.reduceNeg, Int.reduceAdd, Int.reduceSub, Nat.reduceMul, heap_ne _ (Ne.symm g1), hxc, linesD_len, htk9]
        refine ⟨by omega, by omega, fun b' hb' => ?_⟩
        have hb'2 : H b' = none ∧ ∀ b, ob = some b → b ≠ b' := by
          cases ob with
          | none => simp only [lnH, putB, Heap.set, Heap.del] at hb'; exact ⟨by grind, by simp⟩
          | some b =>
            have := hob b rfl
            have := g3 b rfl
            simp only [lnH, putB, Heap.set, Heap.del] at hb'
            exact ⟨by grind, fun b2 e => by cases e; grind⟩
        refine nx_w (k + 1, b', none) ⟨by simp only []; omega, by simp only [hs10, List.length_append, List.length_cons, List.length_nil]; omega, by simp [hs10], hb'2.1, by simp [hs10], by simp⟩ (by simp only []; omega) ?_
        simp only [hs10]
        refine weak_trans (weak_of (E' := [(0, .str s), (1, .sl 1 (strsD signs)), (7, .sl 5 (tksD ts)), (13, .vec b' 1 0 ((lnSt ((B s).take k)).1.length + 1 + 1)), (70, .int .i64 s.size), (71, .int .i64 ((k + 1 : Nat) : Int))]) (H' := putB (H.set b' (.vec 1 (linesD (lnSt ((B s).take k)).1 ++ [[outG 1 (lnSt ((B s).take k)).2.length ob]] ++ [[.nilsl]]))) 1 (bytesE (S (lnSt ((B s).take k)).2)) ob) (Av.Sub.all (by (try simp only [go_sem, reduceIte, Nat.reduceEqDiff, Nat.reduceAdd, Nat.reduceSub, Nat.reduceLT, Nat.reduceLeDiff, reduceCtorEq, Int.reduceToNat, Int.reduceLE, Int.reduceLT, Int.reduceEq, Int.reduceNeg, Int.reduceAdd, Int.reduceSub, Nat.reduceMul]) <;> (try simp (disch := omega) [wrap64]) <;> (try omega))) ?_)
          (ln_freeze (x := lnSt ((B s).take k)) (c := b') (ob := ob) [[.nilsl]] hb'2.1 hn0 (fun b e => ⟨(hob b e).1, hb'2.2 b e⟩) (by simp only [go_sem, reduceIte, Nat.reduceEqDiff, Nat.reduceAdd, Nat.reduceSub, Nat.reduceLT, Nat.reduceLeDiff, reduceCtorEq, Int.reduceToNat, Int.reduceLE, Int.reduceLT, Int.reduceEq, Int.reduceNeg, Int.reduceAdd, Int.reduceSub, Nat.reduceMul]))
        cases ob with
        | none => simp only [lnH, putB] at *; exact (by simp only [Go.Av.Heap.Le, Go.Av.Heap.set, Go.Av.Heap.del] at * <;> grind)
        | some b => have := hob b rfl; have := g3 b rfl; simp only [lnH, putB] at *; exact (by simp only [Go.Av.Heap.Le, Go.Av.Heap.set, Go.Av.Heap.del] at * <;> grind)
      · have hs10 : lnSt ((B s).take (k + 1)) = ((lnSt ((B s).take k)).1, (lnSt ((B s).take k)).2 ++ [(B s)[k]'(by omega)]) := by
          rw [hst]; unfold lnStep; rw [if_neg (by rw [at8_nat, hnth] at h10; omega)]
        simp only [go_sem, reduceIte, Nat.reduceEqDiff, Nat.reduceAdd, Nat.reduceSub, Nat.reduceLT, Nat.reduceLeDiff, reduceCtorEq, Int.reduceToNat, Int.reduceLE, Int.reduceLT, Int.reduceEq, Int.reduceNeg, Int.reduceAdd, Int.reduceSub, Nat.reduceMul, hkd, h10]
        have hw : IntKind.i64.wrap (((lnSt ((B s).take k)).1.length + 1 : Nat) - 1 : Int) = ((lnSt ((B s).take k)).1.length : Int) := by rw [wrap64 (by omega) (by omega)]; omega
        have hget : (linesD (lnSt ((B s).take k)).1 ++ [[outG 1 (lnSt ((B s).take k)).2.length ob]])[(lnSt ((B s).take k)).1.length]? = some [outG 1 (lnSt ((B s).take k)).2.length ob] := by
          rw [List.getElem?_append_right (by rw [linesD_len]; exact Nat.le_refl _), linesD_len, Nat.sub_self]; rfl
        refine ⟨⟨by omega, by omega⟩, race_mk [c] (by intro b hb; simp at hb; subst hb; rw [hxc]; simp) ?_⟩
        simp only [go_sem, reduceIte, Nat.reduceEqDiff, Nat.reduceAdd, Nat.reduceSub, Nat.reduceLT, Nat.reduceLeDiff, reduceCtorEq, Int.reduceToNat, Int.reduceLE, Int.reduceLT, Int.reduceEq, Int.reduceNeg, Int.reduceAdd, Int.reduceSub, Nat.reduceMul, hw, hxc, hget]
        refine ⟨⟨by omega, by omega⟩, ⟨by omega, by omega⟩, fun b3 hb3 => ?_⟩
        obtain ⟨g1, g2, g3⟩ := put_none hb3
        have hm3 : b3 ∉ [c] := by simp [g1]
        have hlb : (bytesE (S (lnSt ((B s).take k)).2)).length = (lnSt ((B s).take k)).2.length := by rw [bytesE_len]
        have ho1 : OutAt ((lnH H (lnSt ((B s).take k)) c ob).set b3 (.vec 1 [[.int .u8 (at8 s k)]])) 1 (bytesE (S (lnSt ((B s).take k)).2)) ob := by
          cases ob with
          | none => simp only [OutAt]; rw [hn0.1 rfl]; rfl
          | some b => have := g3 b rfl; simp only [OutAt, lnH, putB, Heap.set] at *; grind
        have ho2 : OutAt (((lnH H (lnSt ((B s).take k)) c ob).set b3 (.vec 1 [[.int .u8 (at8 s k)]])).minus [c]) 1 (bytesE (S (lnSt ((B s).take k)).2)) ob := by
          cases ob with
          | none => exact ho1
          | some b => simp only [OutAt] at ho1 ⊢; rw [minus_out (by simp [(hob b rfl).2])]; exact ho1
        refine ⟨?_, ?_⟩
        · simp only [go_sem, reduceIte, Nat.reduceEqDiff, Nat.reduceAdd, Nat.reduceSub, Nat.reduceLT, Nat.reduceLeDiff, reduceCtorEq, Int.reduceToNat, Int.reduceLE, Int.reduceLT, Int.reduceEq, Int.reduceNeg, Int.reduceAdd, Int.reduceSub, Nat.reduceMul, minus_out hm3]
          exact apS_out (bytesE (S (lnSt ((B s).take k)).2)) (by simp) hlb.symm ho2 (by simp; omega) (by simp; omega) (fun _ _ => trivial)
        · refine apS_out (bytesE (S (lnSt ((B s).take k)).2)) (by simp) hlb.symm ho1 (by simp; omega) (by simp; omega) fun b' hb' => ?_
          have hb'2 : H b' = none ∧ b' ≠ c := by
            cases ob with
            | none => simp only [lnH, putB, delB, Heap.set, Heap.del] at hb'; grind
            | some b => have := hob b rfl; simp only [lnH, putB, delB, Heap.set, Heap.del] at hb'; grind
          have hcx : ((delB ((lnH H (lnSt ((B s).take k)) c ob).set b3 (.vec 1 [[.int .u8 (at8 s k)]])) ob).set b' (.vec 1 (bytesE (S (lnSt ((B s).take k)).2) ++ [[.int .u8 (at8 s k)]]))) c = some (.vec 1 (linesD (lnSt ((B s).take k)).1 ++ [[outG 1 (lnSt ((B s).take k)).2.length ob]])) := by
            cases ob with
            | none => simp only [lnH, putB, delB, Heap.set, Heap.del] at *; grind
            | some b => have := hob b rfl; simp only [lnH, putB, delB, Heap.set, Heap.del] at *; grind
          have hHle : (H.set b' (.vec 1 (bytesE (S (lnSt ((B s).take k)).2) ++ [[.int .u8 (at8 s k)]]))).Le ((delB ((lnH H (lnSt ((B s).take k)) c ob).set b3 (.vec 1 [[.int .u8 (at8 s k)]])) ob).set b' (.vec 1 (bytesE (S (lnSt ((B s).take k)).2) ++ [[.int .u8 (at8 s k)]]))) := by
            cases ob with
            | none => simp only [lnH, putB, delB] at *; exact (by simp only [Go.Av.Heap.Le, Go.Av.Heap.set, Go.Av.Heap.del] at * <;> grind)
            | some b => have := hob b rfl; simp only [lnH, putB, delB] at *; exact (by simp only [Go.Av.Heap.Le, Go.Av.Heap.set, Go.Av.Heap.del] at * <;> grind)
          generalize (delB ((lnH H (lnSt ((B s).take k)) c ob).set b3 (.vec 1 [[.int .u8 (at8 s k)]])) ob).set b' (.vec 1 (bytesE (S (lnSt ((B s).take k)).2) ++ [[.int .u8 (at8 s k)]])) = H3 at hcx hHle ⊢
          simp only [go_sem, reduceIte, Nat.reduceEqDiff, Nat.reduceAdd, Nat.reduceSub, Nat.reduceLT, Nat.reduceLeDiff, reduceCtorEq, Int.reduceToNat, Int.reduceLE, Int.reduceLT, Int.reduceEq, Int.reduceNeg, Int.reduceAdd, Int.reduceSub, Nat.reduceMul, hw, hcx, hget]
          have hE : bytesE (S ((lnSt ((B s).take k)).2 ++ [(B s)[k]'(by omega)])) = bytesE (S (lnSt ((B s).take k)).2) ++ [[.int .u8 (at8 s k)]] := by
            rw [bytesE_S', bytesE_S', List.map_append, at8_nat, hnth]; rfl
          refine ⟨⟨by omega, by omega⟩, by rw [linesD_len]; omega, ?_⟩
          refine nx_mk (k + 1, c, some b') ⟨by simp only []; omega, by simp only [hs10]; omega, by simp only [hs10, List.length_append, List.length_cons, List.length_nil]; omega, hc, by simp [hs10], fun b e => by simp only [Option.some.injEq] at e; subst e; exact hb'2⟩ (by simp only []; omega) (by simp only [go_sem, reduceIte, Nat.reduceEqDiff, Nat.reduceAdd, Nat.reduceSub, Nat.reduceLT, Nat.reduceLeDiff, reduceCtorEq, Int.reduceToNat, Int.reduceLE, Int.reduceLT, Int.reduceEq, Int.reduceNeg, Int.reduceAdd, Int.reduceSub, Nat.reduceMul, hs10]; rw [wrap64 (by omega) (by omega)]; simp) ?_
          simp only [hs10, lnH, putB, hE]
          rw [set_last _ _ _ _ (linesD_len _).symm]
          have e9 : outG 1 ((lnSt ((B s).take k)).2 ++ [(B s)[k]'(by omega)]).length (some b') = .vec b' 1 0 ((lnSt ((B s).take k)).2.length + 1) := by rw [List.length_append]; rfl
          rw [e9]
          have hbc := hb'2.2
          simp only [Heap.Le, Heap.set] at hHle ⊢
          intro k9 o9 h9
          by_cases hk9 : k9 = b'
          · subst hk9
            rw [if_pos rfl] at h9
            rw [if_neg hbc]
            exact hHle _ _ (by rw [if_pos rfl]; exact h9)
          · rw [if_neg hk9] at h9
            by_cases hkc : k9 = c
            · rw [if_pos hkc] at h9 ⊢; exact h9
            · rw [if_neg hkc] at h9 ⊢
              exact hHle _ _ (by rw [if_neg hk9]; exact h9)
    · have hke : k = s.size := by omega
      subst hke
      have hkd : decide ((s.size : Int) < s.size) = false := decide_eq_false (by omega)
      simp only [go_sem, reduceIte, Nat.reduceEqDiff, Nat.reduceAdd, Nat.reduceSub, Nat.reduceLT, Nat.reduceLeDiff, reduceCtorEq, Int.reduceToNat, Int.reduceLE, Int.reduceLT, Int.reduceEq, Int.reduceNeg, Int.reduceAdd, Int.reduceSub, Nat.reduceMul, hkd]
      have htl : (B s).take s.size = B s := List.take_of_length_le (by omega)
      simp only [htl] at hd1 hd2 hn0 hob ⊢
      have hla : lnAll (B s) = (lnSt (B s)).1 ++ [(lnSt (B s)).2] := rfl
      have hln : (lnAll (B s)).length = (lnSt (B s)).1.length + 1 := by rw [hla, List.length_append]; rfl
      have hTc : Tabs (H.set c (.vec 1 (linesD (lnAll (B s))))) := hT.set _ hc
      refine loop_w (fun j : Nat => [(1, .sl 1 (strsD signs)), (13, .vec c 1 0 (lnAll (B s)).length), (98, .sl 5 (tksD ts)), (99, .int .i64 ts.length), (100, .int .i64 j)]) (fun _ => H.set c (.vec 1 (linesD (lnAll (B s))))) (fun j => j ≤ ts.length) (fun j => ts.length - j) 0 (Nat.zero_le _) ?_ ?_
      · refine ln_freeze0 (x := lnSt (B s)) hc hn0 hob ?_
        simp only [go_sem, reduceIte, Nat.reduceEqDiff, Nat.reduceAdd, Nat.reduceSub, Nat.reduceLT, Nat.reduceLeDiff, reduceCtorEq, Int.reduceToNat, Int.reduceLE, Int.reduceLT, Int.reduceEq, Int.reduceNeg, Int.reduceAdd, Int.reduceSub, Nat.reduceMul, hln]
        rfl
      intro j hj
      by_cases hjl : j < ts.length
      · have hjd : decide ((j : Int) < ts.length) = true := decide_eq_true (by omega)
        have hat : (tksD ts).getD j [] = [.int .i64 ts[j].kind, .str (S ts[j].text), .int .i64 ts[j].n, .int .i64 ts[j].line, .int .i64 ts[j].col] := tksD_at ts j hjl
        simp only [go_sem, reduceIte, Nat.reduceEqDiff, Nat.reduceAdd, Nat.reduceSub, Nat.reduceLT, Nat.reduceLeDiff, reduceCtorEq, Int.reduceToNat, Int.reduceLE, Int.reduceLT, Int.reduceEq, Int.reduceNeg, Int.reduceAdd, Int.reduceSub, Nat.reduceMul, hjd, hat]
        refine ⟨⟨by omega, by omega⟩, fun b hb => ?_⟩
        by_cases h4 : ts[j].kind = 4
        · obtain ⟨pn, pre, rest, e1, e2, e3, e4, e5, e6, e7, e8, e9⟩ := sign_line (htoks _ (List.getElem_mem hjl)) h4
          have hcb : c ≠ b := fun e => by rw [e] at hb; simp [Heap.set] at hb
          have hB2 := hB
          have hpl : pre.length ≤ s.size := by omega
          have hrl : rest.length ≤ s.size := by omega
          have hw1 : IntKind.i64.wrap ((pn : Int) + 1 - 1) = pn := by rw [wrap64 (by omega) (by omega)]; omega
          have hw2 : IntKind.i64.wrap ((pre.length : Int) + 1 - 1) = pre.length := by rw [wrap64 (by omega) (by omega)]; omega
          have hgl : (linesD (lnAll (B s)))[pn]? = some [.sl 1 (bytesE (S (pre ++ rest)))] := by
            unfold linesD
            rw [List.getElem?_map, e3]
            show some [lineD (pre ++ rest)] = _
            unfold lineD
            rw [if_neg (fun e => e5 (List.append_eq_nil_iff.1 e).2)]
          have hbl : (bytesE (S (pre ++ rest))).length = pre.length + rest.length := by rw [bytesE_len, List.length_append]
          have hrp := List.length_pos_iff.2 e5
          have c1 : ¬ ((pn : Int) + 1 < 1) := by omega
          have c2 : ¬ (((lnAll (B s)).length : Int) < (pn : Int) + 1) := by omega
          have c3 : ¬ ((pre.length : Int) + 1 < 1) := by omega
          have c4 : ¬ (((pre.length + rest.length : Nat) : Int) < (pre.length : Int) + 1) := by omega
          simp only [go_sem, reduceIte, Nat.reduceEqDiff, Nat.reduceAdd, Nat.reduceSub, Nat.reduceLT, Nat.reduceLeDiff, reduceCtorEq, Int.reduceToNat, Int.reduceLE, Int.reduceLT, Int.reduceEq, Int.reduceNeg, Int.reduceAdd, Int.reduceSub, Nat.reduceMul, h4, e1, e4, hw1, hw2, hgl, hbl, heap_ne _ hcb, c1, c2, c3, c4]
          refine ⟨⟨by omega, by omega⟩, ⟨by omega, by omega⟩, ⟨by omega, by omega⟩, ?_⟩
          have hX : List.drop pre.length (List.take (pre.length + rest.length) (bytesE (S (pre ++ rest)))) = bytesE (S rest) := by
            rw [List.take_of_length_le (by rw [hbl]; exact Nat.le_refl _), bytesE_S', bytesE_S', List.map_append]
            have e : pre.length = (pre.map fun c => [D.int .u8 c.toNat]).length := by simp
            rw [e, List.drop_left]
          refine s_conv_bs _ _ _ (S rest) Tryd.bytes42 Tryd.base9 (by simp only [go_sem, reduceIte, Nat.reduceEqDiff, Nat.reduceAdd, Nat.reduceSub, Nat.reduceLT, Nat.reduceLeDiff, reduceCtorEq, Int.reduceToNat, Int.reduceLE, Int.reduceLT, Int.reduceEq, Int.reduceNeg, Int.reduceAdd, Int.reduceSub, Nat.reduceMul, hX]) (by intro z hz; simp only [go_sem, reduceIte, Nat.reduceEqDiff, Nat.reduceAdd, Nat.reduceSub, Nat.reduceLT, Nat.reduceLeDiff, reduceCtorEq, Int.reduceToNat, Int.reduceLE, Int.reduceLT, Int.reduceEq, Int.reduceNeg, Int.reduceAdd, Int.reduceSub, Nat.reduceMul] at hz) ?_
          simp only [go_sem, reduceIte, Nat.reduceEqDiff, Nat.reduceAdd, Nat.reduceSub, Nat.reduceLT, Nat.reduceLeDiff, reduceCtorEq, Int.reduceToNat, Int.reduceLE, Int.reduceLT, Int.reduceEq, Int.reduceNeg, Int.reduceAdd, Int.reduceSub, Nat.reduceMul]
          have htx : ts[j].text.length ≤ rest.length := (List.isPrefixOf_iff_prefix.1 e6).length_le
          have htt : rest.take ts[j].text.length = ts[j].text := (List.prefix_iff_eq_take.1 (List.isPrefixOf_iff_prefix.1 e6)).symm
          refine loop_a (fun m : Nat => [(1, .sl 1 (strsD signs)), (13, .vec c 1 0 (lnAll (B s)).length), (16, .box b 0), (17, .str (S rest)), (98, .sl 5 (tksD ts)), (99, .int .i64 ts.length), (100, .int .i64 j), (145, .sl 1 (strsD signs)), (146, .int .i64 signs.length), (147, .int .i64 m)])
            (fun _ => (H.set c (.vec 1 (linesD (lnAll (B s))))).set b (.box [.int .i64 4, .str (S ts[j].text), .int .i64 ts[j].n, .int .i64 ((pn : Int) + 1), .int .i64 ((pre.length : Int) + 1)])) (fun m => m ≤ signs.length) (fun m => signs.length - m) 0 (Nat.zero_le _) (by (try simp only [go_sem, reduceIte, Nat.reduceEqDiff, Nat.reduceAdd, Nat.reduceSub, Nat.reduceLT, Nat.reduceLeDiff, reduceCtorEq, Int.reduceToNat, Int.reduceLE, Int.reduceLT, Int.reduceEq, Int.reduceNeg, Int.reduceAdd, Int.reduceSub, Nat.reduceMul]) <;> (try simp (disch := omega) [wrap64]) <;> (try omega)) (Heap.Le.refl _) ?_
          intro m hm
          by_cases hml : m < signs.length
          · have hmd : decide ((m : Int) < signs.length) = true := decide_eq_true (by omega)
            have hsat := strsD_at signs m hml
            have hBm := B_len signs[m]
            have hne : ts[j].text.length < signs[m].size → signs[m].size ≤ rest.length → ¬ List.take signs[m].size rest = B signs[m] := fun q1 q2 q3 => by
              have hp : List.isPrefixOf (B signs[m]) rest = true := List.isPrefixOf_iff_prefix.2 (List.prefix_iff_eq_take.2 (by rw [hBm]; exact q3.symm))
              have := e9 _ (List.mem_map.2 ⟨signs[m], List.getElem_mem hml, rfl⟩) hp
              omega
            by_cases q1 : ts[j].text.length < signs[m].size
            · have q1' : (ts[j].text.length : Int) < signs[m].size := by omega
              by_cases q2 : signs[m].size ≤ rest.length
              · have q2' : (signs[m].size : Int) ≤ rest.length := by omega
                have q3 := hne q1 q2
                repeat' (first | with_reducible refine And.intro ?_ ?_ | intro _ | simp only [go_sem, reduceIte, Nat.reduceEqDiff, Nat.reduceAdd, Nat.reduceSub, Nat.reduceLT, Nat.reduceLeDiff, reduceCtorEq, Int.reduceToNat, Int.reduceLE, Int.reduceLT, Int.reduceEq, Int.reduceNeg, Int.reduceAdd, Int.reduceSub, Nat.reduceMul, hmd, hsat, q1', q2', q3] | simp (disch := omega) only [wrap64] | omega)
                exact nx_mk (m + 1) (by omega) (by omega) (by (try simp only [go_sem, reduceIte, Nat.reduceEqDiff, Nat.reduceAdd, Nat.reduceSub, Nat.reduceLT, Nat.reduceLeDiff, reduceCtorEq, Int.reduceToNat, Int.reduceLE, Int.reduceLT, Int.reduceEq, Int.reduceNeg, Int.reduceAdd, Int.reduceSub, Nat.reduceMul]) <;> (try simp (disch := omega) [wrap64]) <;> (try omega)) (Heap.Le.refl _)
              · have q2' : ¬ (signs[m].size : Int) ≤ rest.length := by omega
                repeat' (first | with_reducible refine And.intro ?_ ?_ | intro _ | simp only [go_sem, reduceIte, Nat.reduceEqDiff, Nat.reduceAdd, Nat.reduceSub, Nat.reduceLT, Nat.reduceLeDiff, reduceCtorEq, Int.reduceToNat, Int.reduceLE, Int.reduceLT, Int.reduceEq, Int.reduceNeg, Int.reduceAdd, Int.reduceSub, Nat.reduceMul, hmd, hsat, q1', q2'] | simp (disch := omega) only [wrap64] | omega)
                exact nx_mk (m + 1) (by omega) (by omega) (by (try simp only [go_sem, reduceIte, Nat.reduceEqDiff, Nat.reduceAdd, Nat.reduceSub, Nat.reduceLT, Nat.reduceLeDiff, reduceCtorEq, Int.reduceToNat, Int.reduceLE, Int.reduceLT, Int.reduceEq, Int.reduceNeg, Int.reduceAdd, Int.reduceSub, Nat.reduceMul]) <;> (try simp (disch := omega) [wrap64]) <;> (try omega)) (Heap.Le.refl _)
            · have q1' : ¬ (ts[j].text.length : Int) < signs[m].size := by omega
              repeat' (first | with_reducible refine And.intro ?_ ?_ | intro _ | simp only [go_sem, reduceIte, Nat.reduceEqDiff, Nat.reduceAdd, Nat.reduceSub, Nat.reduceLT, Nat.reduceLeDiff, reduceCtorEq, Int.reduceToNat, Int.reduceLE, Int.reduceLT, Int.reduceEq, Int.reduceNeg, Int.reduceAdd, Int.reduceSub, Nat.reduceMul, hmd, hsat, q1'] | simp (disch := omega) only [wrap64] | omega)
              exact nx_mk (m + 1) (by omega) (by omega) (by (try simp only [go_sem, reduceIte, Nat.reduceEqDiff, Nat.reduceAdd, Nat.reduceSub, Nat.reduceLT, Nat.reduceLeDiff, reduceCtorEq, Int.reduceToNat, Int.reduceLE, Int.reduceLT, Int.reduceEq, Int.reduceNeg, Int.reduceAdd, Int.reduceSub, Nat.reduceMul]) <;> (try simp (disch := omega) [wrap64]) <;> (try omega)) (Heap.Le.refl _)
          · have hme : m = signs.length := by omega
            subst hme
            have hmd : decide ((signs.length : Int) < signs.length) = false := decide_eq_false (by omega)
            have q4 : ¬ (rest.length : Int) < ts[j].text.length := by omega
            repeat' (first | with_reducible refine And.intro ?_ ?_ | intro _ | simp only [go_sem, reduceIte, Nat.reduceEqDiff, Nat.reduceAdd, Nat.reduceSub, Nat.reduceLT, Nat.reduceLeDiff, reduceCtorEq, Int.reduceToNat, Int.reduceLE, Int.reduceLT, Int.reduceEq, Int.reduceNeg, Int.reduceAdd, Int.reduceSub, Nat.reduceMul, hmd, q4, htt] | simp (disch := omega) only [wrap64] | omega)
            exact nx_mk (j + 1) (by omega) (by omega) (by (try simp only [go_sem, reduceIte, Nat.reduceEqDiff, Nat.reduceAdd, Nat.reduceSub, Nat.reduceLT, Nat.reduceLeDiff, reduceCtorEq, Int.reduceToNat, Int.reduceLE, Int.reduceLT, Int.reduceEq, Int.reduceNeg, Int.reduceAdd, Int.reduceSub, Nat.reduceMul]) <;> (try simp (disch := omega) [wrap64]) <;> (try omega)) (heap_le_set hb)
        · simp only [go_sem, reduceIte, Nat.reduceEqDiff, Nat.reduceAdd, Nat.reduceSub, Nat.reduceLT, Nat.reduceLeDiff, reduceCtorEq, Int.reduceToNat, Int.reduceLE, Int.reduceLT, Int.reduceEq, Int.reduceNeg, Int.reduceAdd, Int.reduceSub, Nat.reduceMul, h4]
          exact nx_mk (j + 1) (by omega) (by omega) (by (try simp only [go_sem, reduceIte, Nat.reduceEqDiff, Nat.reduceAdd, Nat.reduceSub, Nat.reduceLT, Nat.reduceLeDiff, reduceCtorEq, Int.reduceToNat, Int.reduceLE, Int.reduceLT, Int.reduceEq, Int.reduceNeg, Int.reduceAdd, Int.reduceSub, Nat.reduceMul]) <;> (try simp (disch := omega) [wrap64]) <;> (try omega)) (heap_le_set hb)
      · have hjd : decide ((j : Int) < ts.length) = false := decide_eq_false (by omega)
        simp only [go_sem, reduceIte, Nat.reduceEqDiff, Nat.reduceAdd, Nat.reduceSub, Nat.reduceLT, Nat.reduceLeDiff, reduceCtorEq, Int.reduceToNat, Int.reduceLE, Int.reduceLT, Int.reduceEq, Int.reduceNeg, Int.reduceAdd, Int.reduceSub, Nat.reduceMul, hjd]
        refine awake_a _ hTc ?_
        simp only [go_sem, reduceIte, Nat.reduceEqDiff, Nat.reduceAdd, Nat.reduceSub, Nat.reduceLT, Nat.reduceLeDiff, reduceCtorEq, Int.reduceToNat, Int.reduceLE, Int.reduceLT, Int.reduceEq, Int.reduceNeg, Int.reduceAdd, Int.reduceSub, Nat.reduceMul]
        exact Fin.less (heap_le_set hc) h
end Go.Proofs.YtlbojoghnapbfaaDoor
