/- Of the library's words to the chapter's: bytes that are looked for. No program is in sight. -/
import Derived.Test.YtlbojoghnapbfaaDoorLexSpec
import Derived.Lib.Bytealg
import Derived.Lib.Atoi
import Derived.Laws.RangeAny
import Derived.Laws.RangeString
set_option linter.unusedSimpArgs false
namespace Go.Lexs
open Go.Av

theorem idx_nonneg (l : List UInt8) (b : UInt8) : 0 ≤ Lib.indexByte l b ↔ b ∈ l := by
  induction l with
  | nil => simp [Lib.indexByte]
  | cons c r ih =>
    have hg := Lib.indexByte_ge r b
    unfold Lib.indexByte
    by_cases h : c = b
    · subst h; simp
    · have h' : ¬ b = c := fun e => h e.symm
      have h1 : (c == b) = false := by simpa using h
      rw [h1]
      simp only [Bool.false_eq_true, if_false, List.mem_cons, h', false_or]
      rw [← ih]
      by_cases h2 : Lib.indexByte r b = -1
      · simp [h2]
      · have h3 : (Lib.indexByte r b == -1) = false := by simpa using h2
        rw [h3]; simp only [Bool.false_eq_true, if_false]; omega

theorem idx_quote (l : List UInt8) : Lib.indexByte l 34 = if quoteN l < l.length then (quoteN l : Int) else -1 := by
  induction l with
  | nil => simp [Lib.indexByte, quoteN]
  | cons c r ih =>
    unfold Lib.indexByte quoteN
    by_cases h : c = 34
    · subst h; simp
    · have h1 : (c == 34) = false := by simpa using h
      have h2 : ¬ c.toNat = 34 := fun e => h (by apply UInt8.toNat_inj.1; simpa using e)
      rw [h1, if_neg h2, ih]
      simp only [Bool.false_eq_true, if_false, List.length_cons]
      by_cases h3 : quoteN r < r.length
      · have : ¬ ((quoteN r : Nat) : Int) = -1 := by omega
        simp [h3, this]
      · simp [h3]

theorem idx_line (l : List UInt8) : (if Lib.indexByte l 10 < 0 then (l.length : Int) else Lib.indexByte l 10) = lineLen l := by
  have key : Lib.indexByte l 10 = if lineLen l < l.length then (lineLen l : Int) else -1 := by
    induction l with
    | nil => simp [Lib.indexByte, lineLen]
    | cons c r ih =>
      unfold Lib.indexByte lineLen
      by_cases h : c = 10
      · subst h; simp
      · have h1 : (c == 10) = false := by simpa using h
        have h2 : ¬ c.toNat = 10 := fun e => h (by apply UInt8.toNat_inj.1; simpa using e)
        rw [h1, if_neg h2, ih]
        simp only [Bool.false_eq_true, if_false, List.length_cons]
        by_cases h3 : lineLen r < r.length
        · have : ¬ ((lineLen r : Nat) : Int) = -1 := by omega
          simp [h3, this]
        · simp [h3]
  have := lineLen_le l
  rw [key]
  by_cases h3 : lineLen l < l.length
  · rw [if_pos h3, if_neg (by omega)]
  · rw [if_neg h3, if_pos (by omega)]; omega

/-- A byte's number, back. -/
theorem byte_back (c : Int) (h0 : 0 ≤ c) (h1 : c ≤ 255) (b : UInt8) : c.toNat.toUInt8 = b ↔ c = (b.toNat : Int) := by
  have hb := b.toNat_lt
  have e : c.toNat.toUInt8.toNat = c.toNat := by simp; omega
  constructor
  · rintro rfl; rw [e]; omega
  · rintro rfl
    apply UInt8.toNat_inj.1
    simp

theorem idx_blank (c : Int) (h0 : 0 ≤ c) (h1 : c ≤ 255) : (0 ≤ Lib.indexByte [32, 9, 10, 13] c.toNat.toUInt8) ↔ blankI c = true := by
  rw [idx_nonneg]
  simp only [List.mem_cons, byte_back c h0 h1, List.not_mem_nil, or_false, blankI, Bool.or_eq_true, decide_eq_true_eq]
  simp only [show ((32 : UInt8).toNat : Int) = 32 from rfl, show ((9 : UInt8).toNat : Int) = 9 from rfl, show ((10 : UInt8).toNat : Int) = 10 from rfl, show ((13 : UInt8).toNat : Int) = 13 from rfl, or_assoc]
theorem idx_bad (c : Int) (h0 : 0 ≤ c) (h1 : c ≤ 255) : (0 ≤ Lib.indexByte [34, 39, 92] c.toNat.toUInt8) ↔ c = 34 ∨ c = 39 ∨ c = 92 := by
  rw [idx_nonneg]
  simp only [List.mem_cons, byte_back c h0 h1, List.not_mem_nil, or_false]
  simp only [show ((34 : UInt8).toNat : Int) = 34 from rfl, show ((39 : UInt8).toNat : Int) = 39 from rfl, show ((92 : UInt8).toNat : Int) = 92 from rfl]

/-! ### Runs -/
theorem spanN_end (p : Int → Bool) (l : List UInt8) (k : Nat) (h : l.length ≤ k) : spanN p (l.drop k) = 0 := by rw [List.drop_eq_nil_of_le h]; rfl
theorem spanN_drop (p : Int → Bool) (l : List UInt8) (k : Nat) (h : k < l.length) : spanN p (l.drop k) = if p (nth l k) then spanN p (l.drop (k + 1)) + 1 else 0 := by
  obtain ⟨c, hc, hn⟩ := drop_cons l k h
  rw [hc, spanN, ← hn]; rfl
theorem spanN_all (p : Int → Bool) : ∀ l : List UInt8, (l.take (spanN p l)).all (ofB p) = true
  | [] => rfl
  | c :: r => by
    unfold spanN
    split
    · rename_i h
      rw [List.take_succ_cons, List.all_cons, h, spanN_all p r]; rfl
    · rfl

/-! ### Signs -/
theorem bestN_step (ss : List (List UInt8)) (l : List UInt8) (k : Nat) (h : k < ss.length) : bestN (ss.take (k + 1)) l = if bestN (ss.take k) l < (ss[k]).length ∧ List.isPrefixOf ss[k] l = true then (ss[k]).length else bestN (ss.take k) l := by
  unfold bestN
  rw [List.take_succ_eq_append_getElem h, List.foldl_append]
  rfl
theorem bestN_open (ss : List (List UInt8)) (l : List UInt8) (hl : l ≠ []) : bestN (ss ++ [[39], [95]]) l = if bestN ss l = 0 ∧ (nth l 0 = 39 ∨ nth l 0 = 95) then 1 else bestN ss l := by
  unfold bestN
  rw [List.foldl_append]
  generalize ss.foldl (fun n s => if n < s.length ∧ List.isPrefixOf s l = true then s.length else n) 0 = n
  cases l with
  | nil => exact absurd rfl hl
  | cons c r =>
    simp only [List.foldl_cons, List.foldl_nil, List.isPrefixOf, List.length_cons, List.length_nil, Bool.and_true, beq_iff_eq, nth, List.getD_cons_zero]
    have e1 : ((39 : UInt8) = c) ↔ ((c.toNat : Int) = 39) := by
      constructor
      · rintro rfl; rfl
      · intro h; apply UInt8.toNat_inj.1; show 39 = c.toNat; omega
    have e2 : ((95 : UInt8) = c) ↔ ((c.toNat : Int) = 95) := by
      constructor
      · rintro rfl; rfl
      · intro h; apply UInt8.toNat_inj.1; show 95 = c.toNat; omega
    simp only [e1, e2]
    by_cases h0 : n = 0
    · subst h0
      by_cases h1 : (c.toNat : Int) = 39
      · simp [h1]
      · by_cases h2 : (c.toNat : Int) = 95 <;> simp [h1, h2]
    · have h3 : ¬ n < 0 + 1 := by omega
      simp [h0, h3]

/-! ### Numbers -/
theorem decFrom_all : ∀ (l : List UInt8) (acc : Nat), l.all (ofB digitI) = true → Lib.decFrom acc l = some (l.foldl (fun n c => 10 * n + (c.toNat - 48)) acc)
  | [], _, _ => rfl
  | c :: r, acc, h => by
    rw [List.all_cons, Bool.and_eq_true] at h
    have hc : 48 ≤ c.toNat ∧ c.toNat ≤ 57 := by
      have := h.1
      simp only [ofB, digitI, Bool.and_eq_true, decide_eq_true_eq] at this
      omega
    unfold Lib.decFrom Lib.digitVal
    rw [if_pos hc]
    simp only []
    rw [decFrom_all r _ h.2, List.foldl_cons, Nat.mul_comm]
theorem atoi_zero (l : List UInt8) (h : l.all (ofB digitI) = true) : Lib.atoi (48 :: l) = some (decV l : Int) := by
  unfold Lib.atoi
  simp only []
  rw [if_neg (by decide), if_neg (by decide)]
  unfold Lib.decNat
  rw [if_neg (by simp)]
  rw [decFrom_all (48 :: l) 0 (by rw [List.all_cons, h]; rfl)]
  rfl
theorem decV_trim : ∀ l : List UInt8, decV (l.dropWhile (· == 48)) = decV l
  | [] => rfl
  | c :: r => by
    rw [List.dropWhile_cons]
    split
    · rename_i h
      have : c = 48 := by simpa using h
      subst this
      rw [decV_trim r]; rfl
    · rfl
theorem foldl_ge : ∀ (r : List UInt8) (acc : Nat), acc * 10 ^ r.length ≤ r.foldl (fun n c => 10 * n + (c.toNat - 48)) acc
  | [], acc => by simp
  | c :: r, acc => by
    rw [List.foldl_cons, List.length_cons, Nat.pow_succ, Nat.mul_comm (10 ^ r.length) 10, ← Nat.mul_assoc]
    refine Nat.le_trans (Nat.mul_le_mul_right _ ?_) (foldl_ge r _)
    omega
theorem decV_big (l : List UInt8) (h : l.all (ofB digitI) = true) (hl : 10 < (l.dropWhile (· == 48)).length) : 2147483647 < decV l := by
  rw [← decV_trim l]
  have hall : (l.dropWhile (· == 48)).all (ofB digitI) = true := by
    rw [List.all_eq_true] at h ⊢
    exact fun x hx => h x ((List.dropWhile_sublist _).mem hx)
  cases hd : l.dropWhile (· == 48) with
  | nil => rw [hd] at hl; simp at hl
  | cons c r =>
    rw [hd] at hl hall
    have hc : c ≠ 48 := by
      have := List.head_dropWhile_not (· == (48 : UInt8)) (l := l) (by rw [hd]; simp)
      simp only [hd, List.head_cons] at this
      simpa using this
    rw [List.all_cons, Bool.and_eq_true] at hall
    have hc2 : 1 ≤ c.toNat - 48 := by
      have h1 := hall.1
      simp only [ofB, digitI, Bool.and_eq_true, decide_eq_true_eq] at h1
      have : c.toNat ≠ 48 := fun e => hc (UInt8.toNat_inj.1 e)
      omega
    unfold decV
    rw [List.foldl_cons]
    have h2 := foldl_ge r (10 * 0 + (c.toNat - 48))
    simp only [List.length_cons] at hl
    have h3 : 10 ^ 10 ≤ 10 ^ r.length := Nat.pow_le_pow_right (by omega) (by omega)
    have h4 : 10 ^ r.length ≤ (10 * 0 + (c.toNat - 48)) * 10 ^ r.length := Nat.le_mul_of_pos_left _ (by omega)
    omega

/-- A number that stays at 2 ^ 31. -/
theorem decV_snoc (l : List UInt8) (k : Nat) (h : k < l.length) (hd : digitI (nth l k) = true) : ((decV (l.take (k + 1)) : Nat) : Int) = 10 * (decV (l.take k) : Int) + (nth l k - 48) := by
  rw [List.take_succ_eq_append_getElem h]
  unfold decV
  rw [List.foldl_append]
  simp only [List.foldl_cons, List.foldl_nil]
  have hn : nth l k = (l[k].toNat : Int) := by simp [nth, h]
  rw [digitI_iff, hn] at hd
  rw [hn]
  omega
end Go.Lexs
