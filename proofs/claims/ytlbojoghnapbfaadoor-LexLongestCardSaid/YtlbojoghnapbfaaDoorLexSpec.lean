/- What the chapter on tokens says, as plain functions of bytes. No program is in sight. -/
import Derived.Test.YtlbojoghnapbfaaDoorAvSimp
namespace Go.Lexs
open Go.Av

def digitI (c : Int) : Bool := decide (48 ≤ c) && decide (c ≤ 57)
def letterI (c : Int) : Bool := (decide (97 ≤ c) && decide (c ≤ 122)) || (decide (65 ≤ c) && decide (c ≤ 90))
def partI (c : Int) : Bool := letterI c || digitI c || decide (c = 95)
/-- May stand in a string. -/
def textI (c : Int) : Bool := decide (32 ≤ c) && decide (c ≤ 126) && decide (c ≠ 34) && decide (c ≠ 92)
/-- May stand in a sign. -/
def signI (c : Int) : Bool := decide (33 ≤ c) && decide (c ≤ 126) && !partI c && decide (c ≠ 34) && decide (c ≠ 39) && decide (c ≠ 92)
def blankI (c : Int) : Bool := decide (c = 32) || decide (c = 9) || decide (c = 10) || decide (c = 13)

theorem textI_iff (c : Int) : textI c = true ↔ 32 ≤ c ∧ c ≤ 126 ∧ c ≠ 34 ∧ c ≠ 92 := by simp [textI, and_assoc]
theorem textI_no {c : Int} (h : ¬ (32 ≤ c ∧ c ≤ 126 ∧ c ≠ 34 ∧ c ≠ 92)) : textI c = false := by rw [← Bool.not_eq_true, textI_iff]; exact h
theorem signI_iff (c : Int) : signI c = true ↔ 33 ≤ c ∧ c ≤ 126 ∧ partI c = false ∧ c ≠ 34 ∧ c ≠ 39 ∧ c ≠ 92 := by simp [signI, and_assoc]
theorem signI_no {c : Int} (h : ¬ (33 ≤ c ∧ c ≤ 126 ∧ partI c = false ∧ c ≠ 34 ∧ c ≠ 39 ∧ c ≠ 92)) : signI c = false := by rw [← Bool.not_eq_true, signI_iff]; exact h
theorem digitI_iff (c : Int) : digitI c = true ↔ 48 ≤ c ∧ c ≤ 57 := by simp [digitI]
theorem blankI_iff (c : Int) : blankI c = true ↔ c = 32 ∨ c = 9 ∨ c = 10 ∨ c = 13 := by simp [blankI, or_assoc]

/-- Of bytes. -/
def ofB (p : Int → Bool) (c : UInt8) : Bool := p (c.toNat : Int)

def isName (l : List UInt8) : Bool := decide (l ≠ []) && decide (l.length ≤ 40) && letterI (nth l 0) && l.all (ofB partI)
def isText (l : List UInt8) : Bool := l.all (ofB textI) && decide (l.length ≤ 200)
def isSign (l : List UInt8) : Bool := decide (l ≠ []) && decide (l.length ≤ 20) && l.all (ofB signI)

theorem isName_one (l : List UInt8) (hl : l ≠ []) : isName (l.take 1) = letterI (nth l 0) := by
  cases l with
  | nil => exact absurd rfl hl
  | cons c r =>
    simp only [isName, List.take_succ_cons, List.take_zero, List.all_cons, List.all_nil, Bool.and_true]
    have e : nth [c] 0 = nth (c :: r) 0 := rfl
    have e2 : ofB partI c = partI (nth (c :: r) 0) := rfl
    rw [e, e2]
    unfold partI
    cases letterI (nth (c :: r) 0) <;> simp
/-- 'all', up to a place. -/
theorem all_take_succ (p : Int → Bool) (l : List UInt8) (k : Nat) (hk : k < l.length) : (l.take (k + 1)).all (ofB p) = ((l.take k).all (ofB p) && p (nth l k)) := by
  rw [List.take_succ_eq_append_getElem hk, List.all_append]
  simp [hk, ofB, nth]
theorem all_false_of (p : Int → Bool) (l : List UInt8) (k : Nat) (hk : k < l.length) (h : p (nth l k) = false) : l.all (ofB p) = false := by
  rw [List.all_eq_false]
  exact ⟨l[k], List.getElem_mem hk, by simpa [hk, ofB, nth] using h⟩

theorem nth_drop (l : List UInt8) (i k : Nat) : nth (l.drop i) k = nth l (i + k) := by simp [nth, List.getD]
theorem drop_cons (l : List UInt8) (i : Nat) (h : i < l.length) : ∃ c, l.drop i = c :: l.drop (i + 1) ∧ (c.toNat : Int) = nth l i := ⟨l[i], List.drop_eq_getElem_cons h, by simp [nth, h]⟩

/-! ### Places -/
def adv (p : Int × Int) (c : UInt8) : Int × Int := if c.toNat = 10 then (p.1 + 1, 1) else (p.1, p.2 + 1)
/-- Line and column of the byte with a number. -/
def place (l : List UInt8) (i : Nat) : Int × Int := (l.take i).foldl adv (1, 1)
theorem place_zero (l : List UInt8) : place l 0 = (1, 1) := rfl
theorem place_succ (l : List UInt8) (i : Nat) (h : i < l.length) : place l (i + 1) = if nth l i = 10 then ((place l i).1 + 1, 1) else ((place l i).1, (place l i).2 + 1) := by
  unfold place
  rw [List.take_succ_eq_append_getElem h, List.foldl_append]
  simp only [List.foldl_cons, List.foldl_nil, adv]
  have hn : nth l i = (l[i].toNat : Int) := by simp [nth, h]
  by_cases h10 : (l[i]).toNat = 10
  · rw [if_pos h10, if_pos (by omega)]
  · rw [if_neg h10, if_neg (by omega)]
theorem place_le (l : List UInt8) : ∀ i, i ≤ l.length → 1 ≤ (place l i).1 ∧ (place l i).1 ≤ i + 1 ∧ 1 ≤ (place l i).2 ∧ (place l i).2 ≤ i + 1
  | 0, _ => by simp [place]
  | i + 1, h => by
    have ih := place_le l i (by omega)
    rw [place_succ l i (by omega)]
    split <;> simp <;> omega

/-! ### Blanks and comments -/
def lineLen : List UInt8 → Nat
  | [] => 0
  | c :: r => if c.toNat = 10 then 0 else lineLen r + 1
theorem lineLen_le : ∀ l : List UInt8, lineLen l ≤ l.length
  | [] => Nat.le_refl _
  | c :: r => by unfold lineLen; split <;> simp; exact lineLen_le r

def slashes (l : List UInt8) : Bool := List.isPrefixOf [47, 47] l
def skipN : Nat → List UInt8 → Nat
  | 0, _ => 0
  | _ + 1, [] => 0
  | n + 1, c :: r => if ofB blankI c then 1 + skipN n r else if slashes (c :: r) then lineLen (c :: r) + skipN n ((c :: r).drop (lineLen (c :: r))) else 0
def sk (l : List UInt8) : Nat := skipN l.length l

theorem lineLen_pos {c : UInt8} {r : List UInt8} (h : slashes (c :: r) = true) : 1 ≤ lineLen (c :: r) := by
  have : c = 47 := by
    cases r with
    | nil => simp [slashes, List.isPrefixOf] at h
    | cons d r => simp [slashes, List.isPrefixOf] at h; exact h.1.symm
  subst this
  unfold lineLen
  rw [if_neg (by decide)]
  omega

theorem skipN_more : ∀ (n m : Nat) (l : List UInt8), l.length ≤ n → l.length ≤ m → skipN n l = skipN m l := by
  intro n
  induction n with
  | zero => intro m l h _; cases l with
    | nil => cases m <;> rfl
    | cons c r => simp at h
  | succ n ih =>
    intro m l h1 h2
    cases l with
    | nil => cases m <;> rfl
    | cons c r =>
      cases m with
      | zero => simp at h2
      | succ m =>
        simp at h1 h2
        unfold skipN
        rw [ih m r h1 h2]
        split
        · rfl
        · split
          · rename_i hs
            have hp := lineLen_pos hs
            rw [ih m _ (by simp; omega) (by simp; omega)]
          · rfl

theorem sk_nil : sk [] = 0 := rfl
theorem sk_blank {c : UInt8} {r : List UInt8} (h : ofB blankI c = true) : sk (c :: r) = 1 + sk r := by
  unfold sk; simp only [List.length_cons]; rw [skipN, if_pos h]
theorem sk_line {c : UInt8} {r : List UInt8} (h : ofB blankI c = false) (hs : slashes (c :: r) = true) : sk (c :: r) = lineLen (c :: r) + sk ((c :: r).drop (lineLen (c :: r))) := by
  unfold sk; simp only [List.length_cons]; rw [skipN, if_neg (by simp [h]), if_pos hs]
  have hp := lineLen_pos hs
  rw [skipN_more r.length _ _ (by simp; omega) (Nat.le_refl _)]
theorem sk_stop {c : UInt8} {r : List UInt8} (h : ofB blankI c = false) (hs : slashes (c :: r) = false) : sk (c :: r) = 0 := by
  unfold sk; simp only [List.length_cons]; rw [skipN, if_neg (by simp [h]), if_neg (by simp [hs])]
theorem skipN_le : ∀ (n : Nat) (l : List UInt8), skipN n l ≤ l.length
  | 0, _ => Nat.zero_le _
  | _ + 1, [] => Nat.le_refl _
  | n + 1, c :: r => by
    unfold skipN
    split
    · have := skipN_le n r; simp; omega
    · split
      · have h1 := skipN_le n ((c :: r).drop (lineLen (c :: r)))
        have h2 := lineLen_le (c :: r)
        rw [List.length_drop] at h1
        omega
      · exact Nat.zero_le _
theorem sk_le (l : List UInt8) : sk l ≤ l.length := skipN_le _ _

/-- The first place from i on that is none of a blank or comment. -/
def nextAt (l : List UInt8) (i : Nat) : Nat := i + sk (l.drop i)
theorem nextAt_ge (l : List UInt8) (i : Nat) : i ≤ nextAt l i := Nat.le_add_right _ _
theorem nextAt_le (l : List UInt8) (i : Nat) (h : i ≤ l.length) : nextAt l i ≤ l.length := by
  have := sk_le (l.drop i)
  rw [List.length_drop] at this
  unfold nextAt; omega
theorem nextAt_end (l : List UInt8) (i : Nat) (h : l.length ≤ i) : nextAt l i = i := by
  unfold nextAt; rw [List.drop_eq_nil_of_le h]; rfl
theorem nextAt_blank (l : List UInt8) (i : Nat) (h : i < l.length) (hb : blankI (nth l i) = true) : nextAt l i = nextAt l (i + 1) := by
  obtain ⟨c, hc, hn⟩ := drop_cons l i h
  unfold nextAt
  rw [hc, sk_blank (by unfold ofB; rw [hn]; exact hb)]; omega
theorem nextAt_line (l : List UInt8) (i : Nat) (h : i < l.length) (hb : blankI (nth l i) = false) (hs : slashes (l.drop i) = true) : nextAt l i = nextAt l (i + lineLen (l.drop i)) := by
  obtain ⟨c, hc, hn⟩ := drop_cons l i h
  unfold nextAt
  rw [← List.drop_drop]
  rw [hc] at hs ⊢
  rw [sk_line (by unfold ofB; rw [hn]; exact hb) hs]; omega
theorem nextAt_stop (l : List UInt8) (i : Nat) (h : i < l.length) (hb : blankI (nth l i) = false) (hs : slashes (l.drop i) = false) : nextAt l i = i := by
  obtain ⟨c, hc, hn⟩ := drop_cons l i h
  unfold nextAt
  rw [hc] at hs ⊢
  rw [sk_stop (by unfold ofB; rw [hn]; exact hb) hs]; rfl

theorem lineLen_drop (l : List UInt8) (i : Nat) (h : i < l.length) : lineLen (l.drop i) = if nth l i = 10 then 0 else lineLen (l.drop (i + 1)) + 1 := by
  obtain ⟨c, hc, hn⟩ := drop_cons l i h
  rw [hc, lineLen]
  by_cases h10 : c.toNat = 10
  · rw [if_pos h10, if_pos (by omega)]
  · rw [if_neg h10, if_neg (by omega)]
theorem lineLen_end (l : List UInt8) (i : Nat) (h : l.length ≤ i) : lineLen (l.drop i) = 0 := by rw [List.drop_eq_nil_of_le h]; rfl

/-! ### A token -/
structure Tok where
  kind : Int
  text : List UInt8
  n : Int
  deriving DecidableEq

/-- How many bytes at the front are so. -/
def spanN (p : Int → Bool) : List UInt8 → Nat
  | [] => 0
  | c :: r => if ofB p c then spanN p r + 1 else 0
def decV : List UInt8 → Nat := List.foldl (fun n c => 10 * n + (c.toNat - 48)) 0
def bestN (signs : List (List UInt8)) (l : List UInt8) : Nat := signs.foldl (fun n s => if n < s.length ∧ List.isPrefixOf s l = true then s.length else n) 0
/-- Up to the next quotation mark. -/
def quoteN : List UInt8 → Nat
  | [] => 0
  | c :: r => if c.toNat = 34 then 0 else quoteN r + 1

def tokN (signs : List (List UInt8)) (l : List UInt8) : Option (Tok × Nat) :=
  if letterI (nth l 0) then (if spanN partI l ≤ 40 then some (⟨1, l.take (spanN partI l), 0⟩, spanN partI l) else none)
  else if digitI (nth l 0) then
    (if decV (l.take (spanN digitI l)) ≤ 2147483647 ∧ ¬ (spanN digitI l < l.length ∧ partI (nth l (spanN digitI l)) = true) then some (⟨2, [], decV (l.take (spanN digitI l))⟩, spanN digitI l) else none)
  else if nth l 0 = 34 then
    (if quoteN (l.drop 1) < (l.drop 1).length ∧ isText ((l.drop 1).take (quoteN (l.drop 1))) = true then some (⟨3, (l.drop 1).take (quoteN (l.drop 1)), 0⟩, quoteN (l.drop 1) + 2) else none)
  else if bestN signs l = 0 then none else some (⟨4, l.take (bestN signs l), 0⟩, bestN signs l)

/-! ### All of them -/
/-- The tokens, each with where it begins; or where none begins. -/
def cutN (signs : List (List UInt8)) (l : List UInt8) : Nat → Nat → List (Tok × Nat) → Except Nat (List (Tok × Nat))
  | 0, _, acc => .ok acc
  | f + 1, i, acc => if i < l.length then match tokN signs (l.drop i) with
    | none => .error i
    | some (t, k) => cutN signs l f (nextAt l (i + k)) (acc ++ [(t, i)])
    else .ok acc
def cut (signs : List (List UInt8)) (l : List UInt8) : Except Nat (List (Tok × Nat)) := cutN signs l (l.length + 1) (nextAt l 0) []

theorem cutN_end (signs : List (List UInt8)) (l : List UInt8) (f i : Nat) (acc : List (Tok × Nat)) (h : l.length ≤ i) : cutN signs l f i acc = .ok acc := by
  cases f with
  | zero => rfl
  | succ f => rw [cutN, if_neg (by omega)]
theorem cutN_bad (signs : List (List UInt8)) (l : List UInt8) (f i : Nat) (acc : List (Tok × Nat)) (h : i < l.length) (hf : l.length < i + f) (ht : tokN signs (l.drop i) = none) : cutN signs l f i acc = .error i := by
  cases f with
  | zero => omega
  | succ f => rw [cutN, if_pos h, ht]
theorem cutN_tok (signs : List (List UInt8)) (l : List UInt8) (f i : Nat) (acc : List (Tok × Nat)) (h : i < l.length) (hf : l.length < i + f) {t : Tok} {k : Nat} (ht : tokN signs (l.drop i) = some (t, k)) :
    cutN signs l f i acc = cutN signs l (f - 1) (nextAt l (i + k)) (acc ++ [(t, i)]) := by
  cases f with
  | zero => omega
  | succ f => rw [cutN, if_pos h, ht]; rfl

theorem spanN_le (p : Int → Bool) : ∀ l, spanN p l ≤ l.length
  | [] => Nat.le_refl _
  | c :: r => by unfold spanN; split <;> simp; exact spanN_le p r
theorem quoteN_le : ∀ l, quoteN l ≤ l.length
  | [] => Nat.le_refl _
  | c :: r => by unfold quoteN; split <;> simp; exact quoteN_le r
theorem spanN_pos (p : Int → Bool) {l : List UInt8} (hl : l ≠ []) (h : p (nth l 0) = true) : 1 ≤ spanN p l := by
  cases l with
  | nil => exact absurd rfl hl
  | cons c r =>
    unfold spanN
    rw [if_pos (by simpa [nth, ofB] using h)]; omega
theorem bestN_le (signs : List (List UInt8)) (l : List UInt8) : bestN signs l ≤ l.length := by
  unfold bestN
  have : ∀ (ss : List (List UInt8)) n, n ≤ l.length → ss.foldl (fun n s => if n < s.length ∧ List.isPrefixOf s l = true then s.length else n) n ≤ l.length := by
    intro ss
    induction ss with
    | nil => exact fun n h => h
    | cons s ss ih =>
      intro n h
      rw [List.foldl_cons]
      refine ih _ ?_
      by_cases hc : n < s.length ∧ List.isPrefixOf s l = true
      · rw [if_pos hc]; exact (List.isPrefixOf_iff_prefix.1 hc.2).length_le
      · rw [if_neg hc]; exact h
  exact this signs 0 (Nat.zero_le _)

theorem tokN_pos {signs : List (List UInt8)} {l : List UInt8} (hl : l ≠ []) {t : Tok} {k : Nat} (h : tokN signs l = some (t, k)) : 1 ≤ k ∧ k ≤ l.length := by
  have hl' := List.length_pos_iff.2 hl
  unfold tokN at h
  split at h
  · rename_i h1
    split at h
    · cases h
      refine ⟨spanN_pos _ hl (by simp [partI, h1]), spanN_le _ _⟩
    · cases h
  · split at h
    · rename_i h1
      split at h
      · cases h; exact ⟨spanN_pos _ hl h1, spanN_le _ _⟩
      · cases h
    · split at h
      · split at h
        · rename_i h2
          cases h
          have := h2.1
          rw [List.length_drop] at this
          omega
        · cases h
      · split at h
        · cases h
        · cases h
          exact ⟨by omega, bestN_le _ _⟩
end Go.Lexs
