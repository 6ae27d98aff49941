/- Part of the proof: what the last text builds on. No condition stands here. -/
import Derived.Test.YtmohcdihdhggoaaGreatDoorProg
import Derived.Test.YtmohcdihdhggoaaGreatDoorRows
import Derived.Test.YtmohcdihdhggoaaGreatDoorK2
set_option linter.unusedSimpArgs false
set_option linter.unusedVariables false
section
namespace Go.Lexs
open Go.Av
def digitI (c : Int) : Bool := decide (48 ≤ c) && decide (c ≤ 57)
def letterI (c : Int) : Bool := (decide (97 ≤ c) && decide (c ≤ 122)) || (decide (65 ≤ c) && decide (c ≤ 90))
def partI (c : Int) : Bool := letterI c || digitI c || decide (c = 95)
def textI (c : Int) : Bool := decide (32 ≤ c) && decide (c ≤ 126) && decide (c ≠ 34) && decide (c ≠ 92)
def blankI (c : Int) : Bool := decide (c = 32) || decide (c = 9) || decide (c = 10) || decide (c = 13)
theorem textI_iff (c : Int) : textI c = true ↔ 32 ≤ c ∧ c ≤ 126 ∧ c ≠ 34 ∧ c ≠ 92 := by simp [textI, and_assoc]
theorem textI_no {c : Int} (h : ¬ (32 ≤ c ∧ c ≤ 126 ∧ c ≠ 34 ∧ c ≠ 92)) : textI c = false := by rw [← Bool.not_eq_true, textI_iff]; exact h
def ofB (p : Int → Bool) (c : UInt8) : Bool := p (c.toNat : Int)
def isName (l : List UInt8) : Bool := decide (l ≠ []) && decide (l.length ≤ 40) && letterI (nth l 0) && l.all (ofB partI)
def isText (l : List UInt8) : Bool := l.all (ofB textI) && decide (l.length ≤ 200)
theorem all_take_succ (p : Int → Bool) (l : List UInt8) (k : Nat) (hk : k < l.length) : (l.take (k + 1)).all (ofB p) = ((l.take k).all (ofB p) && p (nth l k)) := by
 rw [List.take_succ_eq_append_getElem hk, List.all_append]
 simp [hk, ofB, nth]
theorem all_false_of (p : Int → Bool) (l : List UInt8) (k : Nat) (hk : k < l.length) (h : p (nth l k) = false) : l.all (ofB p) = false := by
 rw [List.all_eq_false]
 exact ⟨l[k], List.getElem_mem hk, by simpa [hk, ofB, nth] using h⟩
def adv (p : Int × Int) (c : UInt8) : Int × Int := if c.toNat = 10 then (p.1 + 1, 1) else (p.1, p.2 + 1)
def place (l : List UInt8) (i : Nat) : Int × Int := (l.take i).foldl adv (1, 1)
def lineLen : List UInt8 → Nat
 | [] => 0
 | c :: r => if c.toNat = 10 then 0 else lineLen r + 1
def slashes (l : List UInt8) : Bool := List.isPrefixOf [47, 47] l
def skipN : Nat → List UInt8 → Nat
 | 0, _ => 0
 | _ + 1, [] => 0
 | n + 1, c :: r => if ofB blankI c then 1 + skipN n r else if slashes (c :: r) then lineLen (c :: r) + skipN n ((c :: r).drop (lineLen (c :: r))) else 0
def sk (l : List UInt8) : Nat := skipN l.length l
def nextAt (l : List UInt8) (i : Nat) : Nat := i + sk (l.drop i)
structure Tok where
 kind : Int
 text : List UInt8
 n : Int
 deriving DecidableEq
def spanN (p : Int → Bool) : List UInt8 → Nat
 | [] => 0
 | c :: r => if ofB p c then spanN p r + 1 else 0
def decV : List UInt8 → Nat := List.foldl (fun n c => 10 * n + (c.toNat - 48)) 0
def bestN (signs : List (List UInt8)) (l : List UInt8) : Nat := signs.foldl (fun n s => if n < s.length ∧ List.isPrefixOf s l = true then s.length else n) 0
def quoteN : List UInt8 → Nat
 | [] => 0
 | c :: r => if c.toNat = 34 then 0 else quoteN r + 1
def tokN (signs : List (List UInt8)) (l : List UInt8) : Option (Tok × Nat) :=
 if letterI (nth l 0) then (if spanN partI l ≤ 40 then some (⟨1, l.take (spanN partI l), 0⟩, spanN partI l) else none)
 else if digitI (nth l 0) then
  (if decV (l.take (spanN digitI l)) ≤ 2147483647 ∧ ¬ (spanN digitI l < l.length ∧ partI (nth l (spanN digitI l)) = true) then some (⟨2, [], decV (l.take (spanN digitI l))⟩, spanN digitI l) else none)
 else if nth l 0 = 34 then
  (if quoteN (l.drop 1) < (l.drop 1).length ∧ isText ((l.drop 1).take (quoteN (l.drop 1))) = true then some (⟨3, (l.drop 1).take (quoteN (l.drop 1)), 0⟩, quoteN (l.drop 1) + 2) else none)
 else if bestN signs l = 0 then none else some (⟨4, l.take (bestN signs l), 0⟩, bestN signs l)
def cutN (signs : List (List UInt8)) (l : List UInt8) : Nat → Nat → List (Tok × Nat) → Except Nat (List (Tok × Nat))
 | 0, _, acc => .ok acc
 | f + 1, i, acc => if i < l.length then match tokN signs (l.drop i) with
  | none => .error i
  | some (t, k) => cutN signs l f (nextAt l (i + k)) (acc ++ [(t, i)])
  else .ok acc
def cut (signs : List (List UInt8)) (l : List UInt8) : Except Nat (List (Tok × Nat)) := cutN signs l (l.length + 1) (nextAt l 0) []
end Go.Lexs
end
section
namespace Go.Lexs
open Go.Av
theorem at8_nth (s : ByteArray) (i : Int) : at8 s i = nth (B s) i.toNat := rfl
end Go.Lexs
end
section
namespace Go.Lexs
open Go.Av
def unframe (l : List UInt8) : List UInt8 := if 3 ≤ l.length ∧ nth l (l.length - 2) = 39 ∧ 49 ≤ nth l (l.length - 1) ∧ nth l (l.length - 1) ≤ 56 then l.take (l.length - 2) else l
def framing (l : List UInt8) : List UInt8 := if 3 ≤ l.length ∧ nth l (l.length - 2) = 39 ∧ 49 ≤ nth l (l.length - 1) ∧ nth l (l.length - 1) ≤ 56 then l.drop (l.length - 2) else []
def isOp (l : List UInt8) : Bool := isName (unframe l)
def isId (l : List UInt8) : Bool := isName l && decide (97 ≤ nth l 0) && decide (nth l 0 ≤ 122) && decide (l ≠ [116, 114, 117, 101]) && decide (l ≠ [102, 97, 108, 115, 101])
theorem unframe_le (l : List UInt8) : (unframe l).length ≤ l.length := by unfold unframe; split <;> simp
end Go.Lexs
end
section
namespace Go.Proofs.YtmohcdihdhggoaaGreatDoor
open Go Go.Av Go.Lexs
attribute [local irreducible] ACalls at8
theorem isLetter_a {Q} (c : Int) (H : Heap) (h : Q (.bool (letterI c)) H) : ACalls Tryz.prog 139 [.int .u8 c] H Q := by
 refine acalls_of_wp [] Tryz.mixed Tryz.func139 rfl (by kernel_rfl) (of_decide_eq_true (by kernel_rfl)) (by kernel_rfl) ?_
 simp only [go_sem,seval, Tryz.results139]
 repeat' (first | with_reducible refine And.intro ?_ ?_ | simp only [go_sem,seval] | simp (disch := omega) only [wrap64, cell_at] | simp (disch := first | omega | grind) only [heap_ne_, del_ne] | (intro hx_; try simp only [set_none] at hx_) | omega)
 all_goals exact Fin.same (by simpa [letterI, *] using h)
theorem isPart_a {Q} (c : Int) (H : Heap) (h : Q (.bool (partI c)) H) : ACalls Tryz.prog 140 [.int .u8 c] H Q := by
 refine acalls_of_wp [] Tryz.mixed Tryz.func140 rfl (by kernel_rfl) (of_decide_eq_true (by kernel_rfl)) (by kernel_rfl) ?_
 simp only [go_sem,seval, Tryz.results140]
 repeat' (first | with_reducible refine And.intro ?_ ?_ | simp only [go_sem,seval] | simp (disch := omega) only [wrap64, cell_at] | simp (disch := first | omega | grind) only [heap_ne_, del_ne] | (intro hx_; try simp only [set_none] at hx_) | with_reducible refine isLetter_a _ _ ?_ | omega)
 all_goals exact Fin.same (by simpa [partI, digitI, *] using h)
theorem isName_a {Q} (s : ByteArray) (H : Heap) (h : Q (.bool (isName (B s))) H) : ACalls Tryz.prog 119 [.str s] H Q := by
 refine acalls_of_wp [] Tryz.mixed Tryz.func119 rfl (by kernel_rfl) (of_decide_eq_true (by kernel_rfl)) (by kernel_rfl) ?_
 simp only [go_sem,seval, Tryz.results119]
 have hl := B_len s
 repeat' (first | with_reducible refine And.intro ?_ ?_ | simp only [go_sem,seval] | simp (disch := omega) only [wrap64, cell_at] | simp (disch := first | omega | grind) only [heap_ne_, del_ne] | (intro hx_; try simp only [set_none] at hx_) | with_reducible refine isLetter_a _ _ ?_ | omega)
 ·have := List.length_pos_iff.2 (by assumption : ¬ B s = []); omega
 ·have h2 := (by assumption : letterI (at8 s 0) = false)
  rw [at8_zero] at h2
  exact Fin.same (by simpa [isName, ofB, h2] using h)
 ·have h1 : ¬ B s = [] := by assumption
  have h2 : letterI (at8 s 0) = true := by assumption
  have h3 : ¬ (40 : Int) < s.size := by assumption
  refine loop_a (fun k : Nat => [(0, .str s), (18, .int .i64 s.size), (19, .int .i64 k)]) (fun _ => H) (fun k => k ≤ s.size ∧ ((B s).take k).all (ofB partI) = true) (fun k => s.size - k) 0 ⟨Nat.zero_le _, by simp⟩ (by (try simp only [go_sem,seval]) <;> (try simp (disch := omega) [wrap64]) <;> (try omega)) (Heap.Le.refl _) ?_
  rintro k ⟨hk, hall⟩
  simp only [go_sem,seval]
  repeat' (first | with_reducible refine And.intro ?_ ?_ | simp only [go_sem,seval] | simp (disch := omega) only [wrap64, cell_at] | simp (disch := first | omega | grind) only [heap_ne_, del_ne] | (intro hx_; try simp only [set_none] at hx_) | with_reducible refine isPart_a _ _ ?_ | omega)
  ·have h4 := (by assumption : partI (at8 s k) = false)
   rw [at8_nat] at h4
   exact Fin.same (by simpa [isName, all_false_of partI (B s) k (by omega) h4] using h)
  ·have h4 := (by assumption : partI (at8 s k) = true)
   rw [at8_nat] at h4
   exact nx_mk (k + 1) ⟨by omega, by rw [all_take_succ _ _ _ (by omega), hall]; exact h4⟩ (by omega) (by (try simp only [go_sem,seval]) <;> (try simp (disch := omega) [wrap64]) <;> (try omega)) (Heap.Le.refl _)
  ·rw [List.take_of_length_le (by omega)] at hall
   rw [at8_zero] at h2
   refine Fin.same ?_
   have h5 : s.size ≤ 40 := by omega
   simpa [isName, h1, h5, hall, ofB, h2] using h
 ·have h5 : ¬ s.size ≤ 40 := by omega
  exact Fin.same (by simpa [isName, h5] using h)
 ·exact Fin.same (by simpa [isName, *] using h)
theorem isString_a {Q} (s : ByteArray) (hs : s.size ≤ 4611686018427387904) (H : Heap) (h : Q (.bool (isText (B s))) H) : ACalls Tryz.prog 116 [.str s] H Q := by
 refine acalls_of_wp [] Tryz.mixed Tryz.func116 rfl (by kernel_rfl) (of_decide_eq_true (by kernel_rfl)) (by kernel_rfl) ?_
 simp only [go_sem,seval, Tryz.results116]
 have hl := B_len s
 intro b hb
 refine loop_a (fun k : Nat => [(0, .str s), (6, .box b 0)]) (fun k => H.set b (.iter s k)) (fun k => k ≤ s.size ∧ ((B s).take k).all (ofB textI) = true) (fun k => s.size - k) 0 ⟨Nat.zero_le _, by simp⟩ (by (try simp only [go_sem,seval]) <;> (try simp (disch := omega) [wrap64]) <;> (try omega)) (Heap.Le.refl _) ?_
 rintro k ⟨hk, hall⟩
 simp only [go_sem,seval]
 have bad : textI (nth (B s) k) = false → k < s.size → ∀ o, Av.Fin Q (.bool false) (H.set b o) := fun hf hlt o =>
  Fin.less (heap_le_set hb) (by have := all_false_of textI (B s) k (by omega) hf; simpa [isText, this] using h)
 refine ⟨fun hlt => ?_, fun hlt => ?_⟩
 ·have hb1 : ((s[k]'hlt).toNat : Int) = nth (B s) k := by
   unfold nth B
   rw [List.getD_eq_getElem?_getD, List.getElem?_eq_getElem (by simpa using hlt)]; rfl
  by_cases ha : (s[k]'hlt).toNat < 128
  ·rw [decode_ascii s k hlt ha, hb1]
   repeat' (first | with_reducible refine And.intro ?_ ?_ | simp only [go_sem,seval] | simp (disch := omega) only [wrap64, cell_at] | simp (disch := first | omega | grind) only [heap_ne_, del_ne] | (intro hx_; try simp only [set_none] at hx_) | omega)
   ·exact bad (textI_no (by omega)) hlt _
   ·refine nx_mk (k + 1) ⟨by omega, ?_⟩ (by omega) (by (try simp only [go_sem,seval]) <;> (try simp (disch := omega) [wrap64]) <;> (try omega)) (Heap.Le.refl _)
    rw [all_take_succ _ _ _ (by omega), hall, (textI_iff _).2 (by omega)]; rfl
   all_goals exact bad (textI_no (by omega)) hlt _
  ·have := decode_high s k hlt (by omega)
   repeat' (first | with_reducible refine And.intro ?_ ?_ | simp only [go_sem,seval] | simp (disch := omega) only [wrap64, cell_at] | simp (disch := first | omega | grind) only [heap_ne_, del_ne] | (intro hx_; try simp only [set_none] at hx_) | omega)
   exact bad (textI_no (by omega)) hlt _
 ·have hk2 : k = s.size := by omega
  rw [hk2, List.take_of_length_le (by omega)] at hall
  refine Fin.less (heap_le_set hb) ?_
  simp only [isText, hall, Bool.true_and, hl] at h
  have e : decide ((s.size : Int) ≤ 200) = decide (s.size ≤ 200) := decide_eq_decide.2 (by omega)
  rw [e]; exact h
theorem rLetter_a {Q} (c : Int) (H : Heap) (h : Q (.bool (letterI c)) H) : ACalls Tryz.prog 142 [.int .u8 c] H Q := by
 refine acalls_of_wp [] Tryz.mixed Tryz.func142 rfl (by kernel_rfl) (of_decide_eq_true (by kernel_rfl)) (by kernel_rfl) ?_
 simp only [go_sem,seval, Tryz.results142]
 repeat' (first | with_reducible refine And.intro ?_ ?_ | simp only [go_sem,seval] | simp (disch := omega) only [wrap64, cell_at] | simp (disch := first | omega | grind) only [heap_ne_, del_ne] | (intro hx_; try simp only [set_none] at hx_) | omega)
 all_goals exact Fin.same (by simpa [letterI, *] using h)
theorem rDigit_a {Q} (c : Int) (H : Heap) (h : Q (.bool (digitI c)) H) : ACalls Tryz.prog 143 [.int .u8 c] H Q := by
 refine acalls_of_wp [] Tryz.mixed Tryz.func143 rfl (by kernel_rfl) (of_decide_eq_true (by kernel_rfl)) (by kernel_rfl) ?_
 simp only [go_sem,seval, Tryz.results143]
 repeat' (first | with_reducible refine And.intro ?_ ?_ | simp only [go_sem,seval] | simp (disch := omega) only [wrap64, cell_at] | simp (disch := first | omega | grind) only [heap_ne_, del_ne] | (intro hx_; try simp only [set_none] at hx_) | omega)
 all_goals exact Fin.same (by simpa [digitI, *] using h)
theorem rIsText_a {Q} (s : ByteArray) (hs : s.size ≤ 4611686018427387904) (H : Heap) (h : Q (.bool (isText (B s))) H) : ACalls Tryz.prog 122 [.str s] H Q := by
 refine acalls_of_wp [] Tryz.mixed Tryz.func122 rfl (by kernel_rfl) (of_decide_eq_true (by kernel_rfl)) (by kernel_rfl) ?_
 simp only [go_sem,seval, Tryz.results122]
 have hl := B_len s
 refine loop_a (fun k : Nat => [(0, .str s), (5, .int .i64 s.size), (6, .int .i64 k)]) (fun _ => H) (fun k => k ≤ s.size ∧ ((B s).take k).all (ofB textI) = true) (fun k => s.size - k) 0 ⟨Nat.zero_le _, by simp⟩ (by (try simp only [go_sem,seval]) <;> (try simp (disch := omega) [wrap64]) <;> (try omega)) (Heap.Le.refl _) ?_
 rintro k ⟨hk, hall⟩
 simp only [go_sem,seval]
 have hr := nth_range (B s) k
 have bad : textI (nth (B s) k) = false → k < s.size → Av.Fin Q (.bool false) H := fun hf hlt =>
  Fin.same (by have := all_false_of textI (B s) k (by omega) hf; simpa [isText, this] using h)
 rw [at8_nat]
 repeat' (first | with_reducible refine And.intro ?_ ?_ | simp only [go_sem,seval] | simp (disch := omega) only [wrap64, cell_at] | simp (disch := first | omega | grind) only [heap_ne_, del_ne] | (intro hx_; try simp only [set_none] at hx_) | omega)
 ·exact bad (textI_no fun hh => by omega) (by omega)
 ·refine nx_mk (k + 1) ⟨by omega, ?_⟩ (by omega) (by (try simp only [go_sem,seval]) <;> (try simp (disch := omega) [wrap64]) <;> (try omega)) (Heap.Le.refl _)
  rw [all_take_succ _ _ _ (by omega), hall, (textI_iff _).2 (by omega)]; rfl
 ·exact bad (textI_no fun hh => by omega) (by omega)
 ·exact bad (textI_no fun hh => by omega) (by omega)
 ·exact bad (textI_no fun hh => by omega) (by omega)
 ·rw [List.take_of_length_le (by omega)] at hall
  refine Fin.same ?_
  simp only [isText, hall, Bool.true_and, hl] at h
  have e : decide ((s.size : Int) ≤ 200) = decide (s.size ≤ 200) := decide_eq_decide.2 (by omega)
  rw [e]; exact h
theorem rIsName_a {Q} (s : ByteArray) (hs : s.size ≤ 4611686018427387904) (H : Heap) (h : Q (.bool (isName (B s))) H) : ACalls Tryz.prog 125 [.str s] H Q := by
 refine acalls_of_wp [] Tryz.mixed Tryz.func125 rfl (by kernel_rfl) (of_decide_eq_true (by kernel_rfl)) (by kernel_rfl) ?_
 simp only [go_sem,seval, Tryz.results125]
 have hl := B_len s
 refine loop_a (fun k : Nat => [(0, .str s), (5, .int .i64 s.size), (6, .int .i64 k)]) (fun _ => H) (fun k => k ≤ s.size ∧ ((B s).take k).all (ofB partI) = true ∧ (0 < k → letterI (nth (B s) 0) = true)) (fun k => s.size - k) 0 ⟨Nat.zero_le _, by simp, by simp⟩ (by (try simp only [go_sem,seval]) <;> (try simp (disch := omega) [wrap64]) <;> (try omega)) (Heap.Le.refl _) ?_
 rintro k ⟨hk, hall, hfst⟩
 by_cases hlt : k < s.size
 ·have hkd : decide ((k : Int) < s.size) = true := decide_eq_true (by omega)
  have good : partI (at8 s k) = true → ((B s).take (k + 1)).all (ofB partI) = true := fun e => by rw [at8_nat] at e; rw [all_take_succ _ _ _ (by omega), hall, e]; rfl
  have bad : partI (at8 s k) = false → Av.Fin Q (.bool false) H := fun e => Fin.same (by
   rw [at8_nat] at e
   have := all_false_of partI (B s) k (by omega) e; simpa [isName, this] using h)
  have bad0 : k = 0 → letterI (at8 s k) = false → Av.Fin Q (.bool false) H := fun e e2 => Fin.same (by
   rw [at8_nat] at e2
   subst e; simpa [isName, e2] using h)
  simp only [go_sem,seval, hkd]
  refine ⟨⟨by omega, by omega⟩, ?_⟩
  cases h3 : letterI (at8 s k) with
  | true =>
   repeat' (first | with_reducible refine And.intro ?_ ?_ | simp only [go_sem,seval, h3] | simp (disch := omega) only [wrap64, cell_at] | simp (disch := first | omega | grind) only [heap_ne_, del_ne] | (intro hx_; try simp only [set_none] at hx_) | with_reducible refine rLetter_a _ _ ?_ | omega)
   exact nx_mk (k + 1) ⟨by omega, good (by simp [partI, h3]), fun _ => by by_cases h0 : k = 0; subst h0; rw [at8_nat] at h3; exact h3; exact hfst (by omega)⟩ (by omega) (by (try simp only [go_sem,seval]) <;> (try simp (disch := omega) [wrap64]) <;> (try omega)) (Heap.Le.refl _)
  | false =>
   by_cases h0 : k = 0
   ·have h0' : (k : Int) = 0 := by omega
    have h3' : letterI (at8 s 0) = false := by subst h0; exact h3
    repeat' (first | with_reducible refine And.intro ?_ ?_ | simp only [go_sem,seval, h3, h0', h3'] | simp (disch := omega) only [wrap64, cell_at] | simp (disch := first | omega | grind) only [heap_ne_, del_ne] | (intro hx_; try simp only [set_none] at hx_) | with_reducible refine rLetter_a _ _ ?_ | omega)
    all_goals exact bad0 h0 h3
   ·have h0' : ¬ (k : Int) = 0 := by omega
    cases h4 : digitI (at8 s k) with
    | true =>
     repeat' (first | with_reducible refine And.intro ?_ ?_ | simp only [go_sem,seval, h3, h4, h0'] | simp (disch := omega) only [wrap64, cell_at] | simp (disch := first | omega | grind) only [heap_ne_, del_ne] | (intro hx_; try simp only [set_none] at hx_) | with_reducible refine rLetter_a _ _ ?_ | with_reducible refine rDigit_a _ _ ?_ | omega)
     exact nx_mk (k + 1) ⟨by omega, good (by simp [partI, h4]), fun _ => hfst (by omega)⟩ (by omega) (by (try simp only [go_sem,seval]) <;> (try simp (disch := omega) [wrap64]) <;> (try omega)) (Heap.Le.refl _)
    | false =>
     repeat' (first | with_reducible refine And.intro ?_ ?_ | simp only [go_sem,seval, h3, h4, h0'] | simp (disch := omega) only [wrap64, cell_at] | simp (disch := first | omega | grind) only [heap_ne_, del_ne] | (intro hx_; try simp only [set_none] at hx_) | with_reducible refine rLetter_a _ _ ?_ | with_reducible refine rDigit_a _ _ ?_ | omega)
     all_goals first
      | exact nx_mk (k + 1) ⟨by omega, good (by simp [partI, *]), fun _ => hfst (by omega)⟩ (by omega) (by (try simp only [go_sem,seval]) <;> (try simp (disch := omega) [wrap64]) <;> (try omega)) (Heap.Le.refl _)
      | exact bad (by simp [partI, h3, h4, *])
 ·have hkd : decide ((k : Int) < s.size) = false := decide_eq_false (by omega)
  rw [List.take_of_length_le (by omega)] at hall
  simp only [go_sem,seval, hkd]
  by_cases h1 : 1 ≤ s.size
  ·have h1' : (1 : Int) ≤ s.size := by omega
   have hne : B s ≠ [] := fun e => by rw [e] at hl; simp at hl; omega
   have e : decide ((s.size : Int) ≤ 40) = decide (s.size ≤ 40) := decide_eq_decide.2 (by omega)
   have hf := hfst (by omega)
   repeat' (first | with_reducible refine And.intro ?_ ?_ | simp only [go_sem,seval, h1', e] | simp (disch := omega) only [wrap64, cell_at] | simp (disch := first | omega | grind) only [heap_ne_, del_ne] | (intro hx_; try simp only [set_none] at hx_) | omega)
   refine Fin.same ?_
   simpa [isName, hne, hl, hf, hall] using h
  ·have h1' : ¬ (1 : Int) ≤ s.size := by omega
   have hnil : B s = [] := List.eq_nil_of_length_eq_zero (by omega)
   repeat' (first | with_reducible refine And.intro ?_ ?_ | simp only [go_sem,seval, h1'] | simp (disch := omega) only [wrap64, cell_at] | simp (disch := first | omega | grind) only [heap_ne_, del_ne] | (intro hx_; try simp only [set_none] at hx_) | omega)
   refine Fin.same ?_
   simpa [isName, hnil] using h
theorem split_a {Q} (s : ByteArray) (hs : s.size ≤ 4611686018427387904) (H : Heap) (h : Q (.tuple [.str (S (unframe (B s))), .str (S (framing (B s)))]) H) : ACalls Tryz.prog 138 [.str s] H Q := by
 refine acalls_of_wp [] Tryz.mixed Tryz.func138 rfl (by kernel_rfl) (of_decide_eq_true (by kernel_rfl)) (by kernel_rfl) ?_
 simp only [go_sem,seval, Tryz.results138]
 have hl := B_len s
 have e2 : at8 s ((s.size : Int) - 2) = nth (B s) (s.size - 2) := by rw [at8_nth]; congr 1; omega
 have e1 : at8 s ((s.size : Int) - 2 + 1) = nth (B s) (s.size - 1) := by rw [at8_nth]; congr 1; omega
 have e3 : ((s.size : Int) - 2).toNat = s.size - 2 := by omega
 simp only [unframe, framing, B_len] at h
 repeat' (first | with_reducible refine And.intro ?_ ?_ | simp only [go_sem,seval, e1, e2, e3] | simp (disch := omega) only [wrap64, cell_at] | simp (disch := first | omega | grind) only [heap_ne_, del_ne] | (intro hx_; try simp only [set_none] at hx_) | omega)
 all_goals first
  | (rw [if_pos (by omega), if_pos (by omega)] at h; exact Fin.same h)
  | (rw [if_neg (by omega), if_neg (by omega), S_B] at h; exact Fin.same h)
theorem frame_a {Q} (s : ByteArray) (hs : s.size ≤ 4611686018427387904) (H : Heap) (h : Q (.tuple [.str (S (unframe (B s))), .str (S (framing (B s)))]) H) : ACalls Tryz.prog 141 [.str s] H Q := by
 refine acalls_of_wp [] Tryz.mixed Tryz.func141 rfl (by kernel_rfl) (of_decide_eq_true (by kernel_rfl)) (by kernel_rfl) ?_
 simp only [go_sem,seval, Tryz.results141]
 have hl := B_len s
 have e2 : at8 s ((s.size : Int) - 2) = nth (B s) (s.size - 2) := by rw [at8_nth]; congr 1; omega
 have e1 : at8 s ((s.size : Int) - 1) = nth (B s) (s.size - 1) := by rw [at8_nth]; congr 1; omega
 have e3 : ((s.size : Int) - 2).toNat = s.size - 2 := by omega
 simp only [unframe, framing, B_len] at h
 repeat' (first | with_reducible refine And.intro ?_ ?_ | simp only [go_sem,seval, e1, e2, e3] | simp (disch := omega) only [wrap64, cell_at] | simp (disch := first | omega | grind) only [heap_ne_, del_ne] | (intro hx_; try simp only [set_none] at hx_) | omega)
 all_goals first
  | (rw [if_pos (by omega), if_pos (by omega)] at h; exact Fin.same h)
  | (rw [if_neg (by omega), if_neg (by omega), S_B] at h; exact Fin.same h)
theorem isOp_a {Q} (s : ByteArray) (hs : s.size ≤ 4611686018427387904) (H : Heap) (h : Q (.bool (isOp (B s))) H) : ACalls Tryz.prog 118 [.str s] H Q := by
 refine acalls_of_wp [] Tryz.mixed Tryz.func118 rfl (by kernel_rfl) (of_decide_eq_true (by kernel_rfl)) (by kernel_rfl) ?_
 simp only [go_sem,seval, Tryz.results118]
 have hu := unframe_le (B s)
 have hl := B_len s
 repeat' (first | with_reducible refine And.intro ?_ ?_ | simp only [go_sem,seval] | simp (disch := omega) only [wrap64, cell_at] | simp (disch := first | omega | grind) only [heap_ne_, del_ne] | (intro hx_; try simp only [set_none] at hx_) | with_reducible apply split_a | with_reducible apply isName_a | omega)
 exact Fin.same h
theorem rIsOp_a {Q} (s : ByteArray) (hs : s.size ≤ 4611686018427387904) (H : Heap) (h : Q (.bool (isOp (B s))) H) : ACalls Tryz.prog 124 [.str s] H Q := by
 refine acalls_of_wp [] Tryz.mixed Tryz.func124 rfl (by kernel_rfl) (of_decide_eq_true (by kernel_rfl)) (by kernel_rfl) ?_
 simp only [go_sem,seval, Tryz.results124]
 have hu := unframe_le (B s)
 have hl := B_len s
 repeat' (first | with_reducible refine And.intro ?_ ?_ | simp only [go_sem,seval] | simp (disch := omega) only [wrap64, cell_at] | simp (disch := first | omega | grind) only [heap_ne_, del_ne] | (intro hx_; try simp only [set_none] at hx_) | with_reducible apply frame_a | with_reducible apply rIsName_a | omega)
 exact Fin.same h
theorem isInt_a {Q} (n : Int) (H : Heap) (h : Q (.bool (decide (-2147483647 ≤ n) && decide (n ≤ 2147483647))) H) : ACalls Tryz.prog 115 [.int .i64 n] H Q := by
 refine acalls_of_wp [] Tryz.mixed Tryz.func115 rfl (by kernel_rfl) (of_decide_eq_true (by kernel_rfl)) (by kernel_rfl) ?_
 simp only [go_sem,seval, Tryz.results115]
 repeat' (first | with_reducible refine And.intro ?_ ?_ | simp only [go_sem,seval] | simp (disch := omega) only [wrap64, cell_at] | simp (disch := first | omega | grind) only [heap_ne_, del_ne] | (intro hx_; try simp only [set_none] at hx_) | omega)
 all_goals exact Fin.same (by simpa [*] using h)
theorem isId_a {Q} (s : ByteArray) (H : Heap) (h : Q (.bool (isId (B s))) H) : ACalls Tryz.prog 117 [.str s] H Q := by
 refine acalls_of_wp [] Tryz.mixed Tryz.func117 rfl (by kernel_rfl) (of_decide_eq_true (by kernel_rfl)) (by kernel_rfl) ?_
 simp only [go_sem,seval, Tryz.results117]
 have hl := B_len s
 cases hn : isName (B s) with
 | false =>
  repeat' (first | with_reducible refine And.intro ?_ ?_ | simp only [go_sem,seval, hn] | simp (disch := omega) only [wrap64, cell_at] | simp (disch := first | omega | grind) only [heap_ne_, del_ne] | (intro hx_; try simp only [set_none] at hx_) | with_reducible apply isName_a | omega)
  exact Fin.same (by simpa [isId, hn] using h)
 | true =>
  have hz : 0 < s.size := by
   have : B s ≠ [] := fun e => by rw [e] at hn; cases hn
   have := List.length_pos_iff.2 this
   omega
  repeat' (first | with_reducible refine And.intro ?_ ?_ | simp only [go_sem,seval, hn, at8_zero] | simp (disch := omega) only [wrap64, cell_at] | simp (disch := first | omega | grind) only [heap_ne_, del_ne] | (intro hx_; try simp only [set_none] at hx_) | with_reducible apply isName_a | omega)
  all_goals exact Fin.same (by simpa [isId, *] using h)
theorem rIsId_a {Q} (s : ByteArray) (hs : s.size ≤ 4611686018427387904) (H : Heap) (h : Q (.bool (isId (B s))) H) : ACalls Tryz.prog 123 [.str s] H Q := by
 refine acalls_of_wp [] Tryz.mixed Tryz.func123 rfl (by kernel_rfl) (of_decide_eq_true (by kernel_rfl)) (by kernel_rfl) ?_
 simp only [go_sem,seval, Tryz.results123]
 have hl := B_len s
 cases hn : isName (B s) with
 | false =>
  repeat' (first | with_reducible refine And.intro ?_ ?_ | simp only [go_sem,seval, hn] | simp (disch := omega) only [wrap64, cell_at] | simp (disch := first | omega | grind) only [heap_ne_, del_ne] | (intro hx_; try simp only [set_none] at hx_) | with_reducible apply rIsName_a | omega)
  exact Fin.same (by simpa [isId, hn] using h)
 | true =>
  have hz : 0 < s.size := by
   have : B s ≠ [] := fun e => by rw [e] at hn; cases hn
   have := List.length_pos_iff.2 this
   omega
  repeat' (first | with_reducible refine And.intro ?_ ?_ | simp only [go_sem,seval, hn, at8_zero] | simp (disch := omega) only [wrap64, cell_at] | simp (disch := first | omega | grind) only [heap_ne_, del_ne] | (intro hx_; try simp only [set_none] at hx_) | with_reducible apply rIsName_a | omega)
  all_goals exact Fin.same (by simpa [isId, *] using h)
end Go.Proofs.YtmohcdihdhggoaaGreatDoor
end
section
namespace Go.Bis
open Go Go.Av Go.Lexs
inductive Tm where
 | mk (kind n : Int) (text sort : ByteArray) (kids rest : List Tm)
 deriving Inhabited
namespace Tm
def kind : Tm → Int | mk k _ _ _ _ _ => k
def n : Tm → Int | mk _ n _ _ _ _ => n
def text : Tm → ByteArray | mk _ _ x _ _ _ => x
def sort : Tm → ByteArray | mk _ _ _ s _ _ => s
def kids : Tm → List Tm | mk _ _ _ _ k _ => k
def rest : Tm → List Tm | mk _ _ _ _ _ r => r
end Tm
mutual
def tmC : Tm → List D
 | .mk k n x s ks rs => [.int .i64 k, .int .i64 n, .str x, .str s, .sl 6 (tmsC ks), .sl 6 (tmsC rs)]
def tmsC : List Tm → List (List D)
 | [] => []
 | t :: ts => tmC t :: tmsC ts
end
theorem tmsC_rw : ∀ l, tmsC l = Rw tmC l
 | [] => by rw [tmsC]; rfl
 | t :: ts => by rw [tmsC, tmsC_rw ts]; rfl
@[go_sem] theorem tmC_mk (k n : Int) (x s : ByteArray) (ks rs : List Tm) : tmC (.mk k n x s ks rs) = [.int .i64 k, .int .i64 n, .str x, .str s, .sl 6 (Rw tmC ks), .sl 6 (Rw tmC rs)] := by
 rw [tmC, tmsC_rw, tmsC_rw]
theorem tmC_eta (t : Tm) : tmC t = [.int .i64 t.kind, .int .i64 t.n, .str t.text, .str t.sort, .sl 6 (Rw tmC t.kids), .sl 6 (Rw tmC t.rest)] := by
 cases t; rw [tmC_mk]; rfl
@[go_sem] theorem tmC_len (t : Tm) : (tmC t).length = 6 := by rw [tmC_eta]; rfl
@[go_sem] theorem tmC_take (t : Tm) : (tmC t).take 6 = tmC t := by rw [tmC_eta]; rfl
theorem tmC_all (t : Tm) : (tmC t).all D.one = true := by rw [tmC_eta]; rfl
attribute [go_sem] tmC_all
@[go_sem] theorem tmC_0 (t : Tm) : (tmC t).head? = some (.int .i64 t.kind) := by rw [tmC_eta]; rfl
@[go_sem] theorem tmC_1 (t : Tm) : ((tmC t).drop 1).head? = some (.int .i64 t.n) := by rw [tmC_eta]; rfl
@[go_sem] theorem tmC_2 (t : Tm) : ((tmC t).drop 2).head? = some (.str t.text) := by rw [tmC_eta]; rfl
@[go_sem] theorem tmC_3 (t : Tm) : ((tmC t).drop 3).head? = some (.str t.sort) := by rw [tmC_eta]; rfl
@[go_sem] theorem tmC_4 (t : Tm) : ((tmC t).drop 4).head? = some (.sl 6 (Rw tmC t.kids)) := by rw [tmC_eta]; rfl
@[go_sem] theorem tmC_5 (t : Tm) : ((tmC t).drop 5).head? = some (.sl 6 (Rw tmC t.rest)) := by rw [tmC_eta]; rfl
@[go_sem] theorem tmC_put (a b c d e f : D) (t : Tm) : putAt [a, b, c, d, e, f] 0 (tmC t) = tmC t := by rw [tmC_eta]; rfl
inductive TmFit : Tm → Prop
 | mk (k n : Int) (x s : ByteArray) (ks rs : List Tm) (h1 : -9223372036854775808 ≤ k ∧ k ≤ 9223372036854775807) (h2 : -9223372036854775808 ≤ n ∧ n ≤ 9223372036854775807)
   (h3 : x.size ≤ 140737488351232) (h4 : s.size ≤ 140737488351232) (h5 : ks.length ≤ 1466015503658) (h6 : rs.length ≤ 1466015503658) (h7 : ∀ t ∈ ks, TmFit t) (h8 : ∀ t ∈ rs, TmFit t) : TmFit (.mk k n x s ks rs)
theorem TmFit.hk {t : Tm} (h : TmFit t) : -9223372036854775808 ≤ t.kind ∧ t.kind ≤ 9223372036854775807 := by cases h; assumption
theorem TmFit.hn {t : Tm} (h : TmFit t) : -9223372036854775808 ≤ t.n ∧ t.n ≤ 9223372036854775807 := by cases h; assumption
theorem TmFit.hx {t : Tm} (h : TmFit t) : t.text.size ≤ 140737488351232 := by cases h; assumption
theorem TmFit.hs {t : Tm} (h : TmFit t) : t.sort.size ≤ 140737488351232 := by cases h; assumption
theorem TmFit.hkl {t : Tm} (h : TmFit t) : t.kids.length ≤ 1466015503658 := by cases h; assumption
theorem TmFit.hrl {t : Tm} (h : TmFit t) : t.rest.length ≤ 1466015503658 := by cases h; assumption
theorem TmFit.kid {t : Tm} (h : TmFit t) : ∀ u ∈ t.kids, TmFit u := by cases h; assumption
theorem TmFit.res {t : Tm} (h : TmFit t) : ∀ u ∈ t.rest, TmFit u := by cases h; assumption
def zeroS (t : Tm) (n x s k r : Bool) : Bool := (n || decide (t.n = 0)) && (x || decide (B t.text = [])) && (s || decide (B t.sort = [])) && (k || decide (t.kids.length = 0)) && (r || decide (t.rest.length = 0))
def listB : List UInt8 := [76, 105, 115, 116]
def mapB : List UInt8 := [77, 97, 112]
def anyB : List UInt8 := [65, 110, 121]
def restS (t : Tm) (sort : List UInt8) : Bool := match t.rest with
 | [] => true
 | [r] => decide (r.kind = 6) && isName (B r.text) && decide (B r.sort = sort) && zeroS r false true true false false
 | _ => false
def isOpen (t : Tm) : Bool := decide (B t.text = [95]) || decide (B t.text = [36])
def nodeS (t : Tm) : Bool :=
 if t.kind = 1 then decide (-2147483647 ≤ t.n) && decide (t.n ≤ 2147483647) && zeroS t true false false false false
 else if t.kind = 2 then (decide (t.n = 0) || decide (t.n = 1)) && zeroS t true false false false false
 else if t.kind = 3 then isText (B t.text) && zeroS t false true false false false
 else if t.kind = 4 then isId (B t.text) && zeroS t false true false false false
 else if t.kind = 5 then isOp (B t.text) && decide ((t.kids.length : Int) ≤ 8) && zeroS t false true false true false
 else if t.kind = 6 then (if isOpen t = true then decide (B t.sort = anyB) && zeroS t false true true false false else isName (B t.text) && isName (B t.sort) && zeroS t false true true false false)
 else if t.kind = 7 then restS t listB && zeroS t false false false true true
 else if t.kind = 8 then restS t mapB && decide ((t.kids.length : Int).tmod 2 = 0) && zeroS t false false false true true
 else false
def leafS (t : Tm) : Bool := decide ((t.kids.length : Int) = 0) && decide ((t.rest.length : Int) = 0)
def cleanS (t : Tm) (n x s : Bool) : Bool := (n || decide (t.n = 0)) && (x || decide (B t.text = [])) && (s || decide (B t.sort = []))
def shapeS (t : Tm) : Bool :=
 if t.kind = 1 then leafS t && ((decide (-2147483647 ≤ t.n) && decide (t.n ≤ 2147483647)) || decide (t.n = 0) || decide (t.n = 1)) && cleanS t true false false
 else if t.kind = 2 then leafS t && (decide (t.n = 0) || decide (t.n = 1)) && cleanS t true false false
 else if t.kind = 3 then leafS t && isText (B t.text) && cleanS t false true false
 else if t.kind = 4 then leafS t && isId (B t.text) && cleanS t false true false
 else if t.kind = 5 then isOp (B t.text) && decide ((t.kids.length : Int) ≤ 8) && decide ((t.rest.length : Int) = 0) && cleanS t false true false
 else if t.kind = 6 then leafS t && (isName (B t.text) && isName (B t.sort) || isOpen t && decide (B t.sort = anyB)) && cleanS t false true true
 else if t.kind = 7 then restS t listB && cleanS t false false false
 else if t.kind = 8 then restS t mapB && decide ((t.kids.length : Int).tmod 2 = 0) && cleanS t false false false
 else false
theorem shapeS_node (t : Tm) : shapeS t = nodeS t := by
 unfold shapeS nodeS leafS cleanS zeroS isOpen
 have e1 : ∀ l : List Tm, decide ((l.length : Int) = 0) = decide (l.length = 0) := fun l => decide_eq_decide.2 (by omega)
 have n1 : isName [95] = false := by decide +kernel
 have n2 : isName [36] = false := by decide +kernel
 simp only [e1]
 split
 ·simp only [Bool.true_or, Bool.false_or, Bool.true_and]
  have : (decide (-2147483647 ≤ t.n) && decide (t.n ≤ 2147483647) || decide (t.n = 0) || decide (t.n = 1)) = (decide (-2147483647 ≤ t.n) && decide (t.n ≤ 2147483647)) := by
   rw [Bool.eq_iff_iff]; simp; omega
  rw [this]
  simp only [Bool.and_assoc, Bool.and_comm, Bool.and_left_comm]
 ·split
  ·simp only [Bool.true_or, Bool.false_or, Bool.true_and, Bool.and_assoc, Bool.and_comm, Bool.and_left_comm]
  ·split
   ·simp only [Bool.true_or, Bool.false_or, Bool.true_and, Bool.and_assoc, Bool.and_comm, Bool.and_left_comm]
   ·split
    ·simp only [Bool.true_or, Bool.false_or, Bool.true_and, Bool.and_assoc, Bool.and_comm, Bool.and_left_comm]
    ·split
     ·simp only [Bool.true_or, Bool.false_or, Bool.true_and, Bool.and_assoc, Bool.and_comm, Bool.and_left_comm]
     ·split
      ·by_cases h1 : B t.text = [95]
       ·simp [h1, n1, Bool.and_assoc, Bool.and_comm, Bool.and_left_comm]
       ·by_cases h2 : B t.text = [36]
        ·simp [h2, n2, Bool.and_assoc, Bool.and_comm, Bool.and_left_comm]
        ·simp [h1, h2, Bool.and_assoc, Bool.and_comm, Bool.and_left_comm]
      ·split
       ·simp [Bool.and_assoc]
       ·split
        ·simp [Bool.and_assoc]
        ·rfl
end Go.Bis
end
section
namespace Go.Proofs.YtmohcdihdhggoaaGreatDoor
section
open Go Go.Shelf Go.RowKit
set_option maxHeartbeats 4000000 in
set_option maxRecDepth 100000 in
theorem growT_w (n : Nat) (hn : 0 < n) (hb : n * 96 ≤ 140737488355328) (w : World) :
  Calls Tryz.prog 89 #[.slice none 0 0, .int .i64 n] w fun e w' => ∃ (cs : Array Value) (G : Nat), e = .returned (.slice (some ⟨w.heap.size, 0, none⟩) 0 G) ∧ w' = w.drew.alloc (.cells cs 41) ∧ cs.size = G * 6 ∧ n ≤ G := by
 obtain ⟨i, hi, hz, hs, hby⟩ : ∃ i, Tryz.prog.info? 41 = some i ∧ i.zero = some (Value.agg #[.int .i64 0, .int .i64 0, .string ⟨#[]⟩, .string ⟨#[]⟩, .slice none 0 0, .slice none 0 0]) ∧ i.size = 6 ∧ i.bytes = 96 := by
  have h : (Tryz.prog.info? 41).map (fun i => (i.zero, i.size, i.bytes)) = some (some (Value.agg #[.int .i64 0, .int .i64 0, .string ⟨#[]⟩, .string ⟨#[]⟩, .slice none 0 0, .slice none 0 0]), 6, 96) := by kernel_rfl
  obtain ⟨i, hi, e⟩ := Option.map_eq_some_iff.1 h
  simp only [Prod.mk.injEq] at e
  exact ⟨i, hi, e.1, e.2.1, e.2.2⟩
 have mixed : Tryz.prog.follows .mixedOrders = true := by kernel_rfl
 have t1 := Tryz.underlying22; have a1 := Tryz.isAgg22; have z1 := Tryz.sizeOf22; have v1 := Tryz.zeroValue22; have u1 := run_underlying t1
 have t3 := Tryz.underlying3; have a3 := Tryz.isAgg3; have z3 := Tryz.sizeOf3; have v3 := Tryz.zeroValue3; have u3 := run_underlying t3
 have t4 := Tryz.underlying4; have a4 := Tryz.isAgg4; have z4 := Tryz.sizeOf4; have v4 := Tryz.zeroValue4; have u4 := run_underlying t4
 have t6 := Tryz.underlying41; have a6 := Tryz.isAgg41; have z6 := Tryz.sizeOf41; have v6 := Tryz.zeroValue41; have u6 := run_underlying t6
 have h1 : ¬ ((n : Int) < 0) := by omega
 have h3 : RowKit.wrap64 ((n : Int) - 0) = (n : Int) := by unfold RowKit.wrap64; omega
 have h4 : (n : Int) > 0 := by omega
 have hrun := Lib.run_append_nil_zeros w 22 3 22 41 i _ .i64 .i64 t1 t3 hi hz n hn (by omega) (by omega) (by rw [hby]; omega)
 obtain ⟨G, hG⟩ : ∃ G, G = grownCap w n 0 41 := ⟨_, rfl⟩
 have hGn : n ≤ grownCap w n 0 41 := grownCap_ge w _ _ _
 have hG63 : G ≤ 9223372036854775807 := by
  have := grownCap_le_maxLen w n 0 41 (by unfold maxLen; omega)
  rw [← hG] at this
  unfold maxLen at this
  omega
 rw [← hG] at hrun hGn
 obtain ⟨cs, hcs⟩ : ∃ cs, cs = Builtin.zeroCells (Value.agg #[.int .i64 0, .int .i64 0, .string ⟨#[]⟩, .string ⟨#[]⟩, .slice none 0 0, .slice none 0 0]).cells n ++ Builtin.zeroCells (Value.agg #[.int .i64 0, .int .i64 0, .string ⟨#[]⟩, .string ⟨#[]⟩, .slice none 0 0, .slice none 0 0]).cells (G - n) := ⟨_, rfl⟩
 have hsz : cs.size = G * 6 := by
  rw [hcs, Array.size_append, size_zeroCells, size_zeroCells]
  show n * 6 + (G - n) * 6 = G * 6
  omega
 rw [← hcs] at hrun
 clear hG hcs
 go_enter Tryz.func89, Tryz.ntmps89
 go_wp2_with (at_builtin; refine Lib.wpList_append_run _ rfl _ _ _ _ rfl _ _ rfl rfl _ _ hrun ?_)
 all_goals (go_ret; exact ⟨cs, G, rfl, rfl, by first | exact hsz | simpa using hsz, hGn⟩)
end
section
open Go Go.Av Go.Bis
theorem grow0T_x {Q} (H : Heap) (h0 : Q .nilsl H) : ACalls Tryz.prog 89 [.nilsl, .int .i64 0] H Q := by
 refine acalls_of_wp [] Tryz.mixed Tryz.func89 rfl (by kernel_rfl) (of_decide_eq_true (by kernel_rfl)) (by kernel_rfl) ?_
 simp only [go_sem,seval, Tryz.results89]
 repeat' (first | with_reducible refine And.intro ?_ ?_ | simp only [go_sem,seval] | simp (disch := omega) only [wrap64, cell_at] | simp (disch := first | omega | grind) only [heap_ne_, del_ne] | (intro hx_; try simp only [set_none] at hx_) | omega)
 all_goals exact Fin.same h0
theorem growT_a {Q} (n : Nat) (hb : n * 96 ≤ 140737488355328) (H : Heap) (h0 : n = 0 → Q .nilsl H) (h : n ≠ 0 → ∀ b, H b = none → Q (.vec b 6 0 0) (H.set b (.vec 6 []))) : ACalls Tryz.prog 89 [.nilsl, .int .i64 n] H Q := by
 by_cases hn : n = 0
 ·subst hn
  exact grow0T_x H (h0 rfl)
 ·refine ⟨by kernel_rfl, fun w vs hl hr hs => ?_⟩
  obtain ⟨a, b, rfl, ha, hb'⟩ := args2 hl hr
  have ea : a = .slice none 0 0 := by cases ha; rfl
  rw [ea, hb'.int_inv]
  refine (growT_w n (by omega) hb w).mono ?_
  rintro e w' ⟨cs, G, rfl, rfl, hsz, hGn⟩
  have hs1 := hs.same (w' := w.drew) rfl (Ext.drewN H w 1)
  obtain ⟨d, H', k1, k2, k3, k4, k5⟩ := post_vec (w := w.drew) (K := Q) hs1 (sz := 6) (es := []) (vs := cs) 41 0 G (by omega) ⟨by simp, fun i e he => by simp at he, fun i e j d he => by simp at he, fun i e j d he => by simp at he⟩ (Nat.zero_le _) hsz (fun b hb => h hn b hb)
  exact ⟨_, rfl, d, H', k1, k2, (Ext.drewN H w 1).trans (From.refl _ _) k3, k4, k5⟩
theorem concatT_a {Q} (l m : List Tm) (hb : (l.length + m.length) * 96 ≤ 140737488355328) (hl0 : l ≠ []) (H : Heap) (h : Q (.sl 6 (Rw tmC (l ++ m))) H) : ACalls Tryz.prog 65 [.sl 1 [[.sl 6 (Rw tmC l)], [.sl 6 (Rw tmC m)]]] H Q := by
 refine acalls_of_wp [] Tryz.mixed Tryz.func65 rfl (by kernel_rfl) (of_decide_eq_true (by kernel_rfl)) (by kernel_rfl) ?_
 simp only [go_sem,seval, Tryz.results65]
 refine loop_c [0, 9, 10] (fun (p : Nat × Int) => [(11, .int .i64 p.1), (3, .int .i64 p.2)]) (fun (p : Nat × Int) => H) (fun (p : Nat × Int) => p.1 ≤ 2 ∧ (p.1 = 0 → p.2 = 0) ∧ (p.1 = 1 → p.2 = l.length) ∧ (p.1 = 2 → p.2 = (l.length : Int) + m.length)) (fun (p : Nat × Int) => 2 - p.1) ((0, 0)) (⟨by simp, by simp, by simp, by simp⟩) (by (try simp only [go_sem,seval]) <;> (try simp (disch := omega) [wrap64]) <;> (try omega)) (by first | with_reducible exact Heap.Le.refl _ | exact heap_set_le (by assumption) | exact Heap.Le.refl _ | exact heap_le_set (by assumption) | exact (by simp only [Go.Av.Heap.Le, Go.Av.Heap.set, Go.Av.Heap.del] at * <;> grind)) ?_
 rintro Ec rfl ⟨k, z⟩ ⟨q1, q2, q3, q4⟩
 simp only at q1 q2 q3 q4
 match k, q1, q2, q3, q4 with
 | 0, q1, q2, q3, q4 =>
  have hz := q2 rfl
  subst hz
  repeat' (first | with_reducible refine And.intro ?_ ?_ | simp only [go_sem,seval, List.getD_cons_zero] | simp (disch := omega) only [wrap64, cell_at] | simp (disch := first | omega | grind) only [heap_ne_, del_ne] | (intro hx_; try simp only [set_none] at hx_) | omega)
  exact nx_mk (1, (l.length : Int)) ⟨by simp, by simp, by simp, by simp⟩ (by simp) (by (try simp only [go_sem,seval]) <;> (try simp (disch := omega) [wrap64]) <;> (try omega)) (Heap.Le.refl _)
 | 1, q1, q2, q3, q4 =>
  have hz := q3 rfl
  subst hz
  repeat' (first | with_reducible refine And.intro ?_ ?_ | simp only [go_sem,seval, List.getD_cons_zero, List.getD_cons_succ] | simp (disch := omega) only [wrap64, cell_at] | simp (disch := first | omega | grind) only [heap_ne_, del_ne] | (intro hx_; try simp only [set_none] at hx_) | omega)
  exact nx_mk (2, (l.length : Int) + m.length) ⟨by simp, by simp, by simp, by simp⟩ (by simp) (by (try simp only [go_sem,seval]) <;> (try simp (disch := omega) [wrap64]) <;> (try omega)) (Heap.Le.refl _)
 | 2, q1, q2, q3, q4 =>
  have hz := q4 rfl
  subst hz
  have en : (l.length : Int) + m.length = ((l.length + m.length : Nat) : Int) := by omega
  have hne : l.length + m.length ≠ 0 := by have := List.length_pos_iff.2 hl0; omega
  repeat' (first | with_reducible refine And.intro ?_ ?_ | simp only [go_sem,seval, en] | simp (disch := omega) only [wrap64, cell_at] | simp (disch := first | omega | grind) only [heap_ne_, del_ne] | (intro hx_; try simp only [set_none] at hx_) | omega)
  refine growT_a _ hb H (fun e => absurd e hne) fun _ b hbn => ?_
  repeat' (first | with_reducible refine And.intro ?_ ?_ | simp only [go_sem,seval] | simp (disch := omega) only [wrap64, cell_at] | simp (disch := first | omega | grind) only [heap_ne_, del_ne] | (intro hx_; try simp only [set_none] at hx_) | omega)
  refine loop_c [25, 26] (fun (p : Nat × Nat × List Tm) => [(27, .int .i64 p.1), (6, .vec p.2.1 6 0 p.2.2.length)]) (fun (p : Nat × Nat × List Tm) => H.set p.2.1 (.vec 6 (Rw tmC p.2.2))) (fun (p : Nat × Nat × List Tm) => p.1 ≤ 2 ∧ H p.2.1 = none ∧ (p.1 = 0 → p.2.2 = []) ∧ (p.1 = 1 → p.2.2 = l) ∧ (p.1 = 2 → p.2.2 = l ++ m)) (fun (p : Nat × Nat × List Tm) => 2 - p.1) ((0, b, [])) (⟨by simp, hbn, by simp, by simp, by simp⟩) (by (try simp only [go_sem,seval]) <;> (try simp (disch := omega) [wrap64]) <;> (try omega)) (by first | with_reducible exact Heap.Le.refl _ | exact heap_set_le (by assumption) | exact Heap.Le.refl _ | exact heap_le_set (by assumption) | exact (by simp only [Go.Av.Heap.Le, Go.Av.Heap.set, Go.Av.Heap.del] at * <;> grind)) ?_
  rintro Ec rfl ⟨k, c, X⟩ ⟨q1, hc, q2, q3, q4⟩
  simp only at q1 hc q2 q3 q4
  match k, q1, q2, q3, q4 with
  | 0, q1, q2, q3, q4 =>
   have hz := q2 rfl
   subst hz
   repeat' (first | with_reducible refine And.intro ?_ ?_ | simp only [go_sem,seval, List.getD_cons_zero, set_del hc] | simp (disch := omega) only [wrap64, cell_at] | simp (disch := first | omega | grind) only [heap_ne_, del_ne] | (intro hx_; try simp only [set_none] at hx_) | omega)
   rename_i b6
   exact nx_mk (1, b6, l) ⟨by simp, hx_, by simp, by simp, by simp⟩ (by simp) (by (try simp only [go_sem,seval]) <;> (try simp (disch := omega) [wrap64]) <;> (try omega)) (Heap.Le.refl _)
  | 1, q1, q2, q3, q4 =>
   have hz := (q3 rfl).symm
   subst hz
   repeat' (first | with_reducible refine And.intro ?_ ?_ | simp only [go_sem,seval, List.getD_cons_zero, List.getD_cons_succ, set_del hc] | simp (disch := omega) only [wrap64, cell_at] | simp (disch := first | omega | grind) only [heap_ne_, del_ne] | (intro hx_; try simp only [set_none] at hx_) | omega)
   rename_i b6
   exact nx_mk (2, b6, l ++ m) ⟨by simp, hx_, by simp, by simp, by simp⟩ (by simp) (by (try simp only [go_sem,seval, List.length_append]) <;> (try simp (disch := omega) [wrap64]) <;> (try omega)) (by simp only []; rw [← Rw_app, List.take_of_length_le (by rw [Rw_len]; exact Nat.le_refl _)]; exact Heap.Le.refl _)
  | 2, q1, q2, q3, q4 =>
   have hz := q4 rfl
   subst hz
   repeat' (first | with_reducible refine And.intro ?_ ?_ | simp only [go_sem,seval] | simp (disch := omega) only [wrap64, cell_at] | simp (disch := first | omega | grind) only [heap_ne_, del_ne] | (intro hx_; try simp only [set_none] at hx_) | omega)
   exact Fin.out (ob := some c) (by rw [Rw_len, List.length_append]) (heap_same _ _) (Fin.less (by show H.Le ((H.set c _).del c); rw [set_del hc]; exact Heap.Le.refl _) h)
end
section
open Go Go.Shelf Go.RowKit
set_option maxHeartbeats 4000000 in
set_option maxRecDepth 100000 in
theorem growB_w (n : Nat) (hn : 0 < n) (hb : n * 1 ≤ 140737488355328) (w : World) :
  Calls Tryz.prog 90 #[.slice none 0 0, .int .i64 n] w fun e w' => ∃ (cs : Array Value) (G : Nat), e = .returned (.slice (some ⟨w.heap.size, 0, none⟩) 0 G) ∧ w' = w.drew.alloc (.cells cs 4) ∧ cs.size = G * 1 ∧ n ≤ G := by
 obtain ⟨i, hi, hz, hs, hby⟩ : ∃ i, Tryz.prog.info? 4 = some i ∧ i.zero = some (Value.bool false) ∧ i.size = 1 ∧ i.bytes = 1 := by
  have h : (Tryz.prog.info? 4).map (fun i => (i.zero, i.size, i.bytes)) = some (some (Value.bool false), 1, 1) := by kernel_rfl
  obtain ⟨i, hi, e⟩ := Option.map_eq_some_iff.1 h
  simp only [Prod.mk.injEq] at e
  exact ⟨i, hi, e.1, e.2.1, e.2.2⟩
 have mixed : Tryz.prog.follows .mixedOrders = true := by kernel_rfl
 have t1 := Tryz.underlying23; have a1 := Tryz.isAgg23; have z1 := Tryz.sizeOf23; have v1 := Tryz.zeroValue23; have u1 := run_underlying t1
 have t3 := Tryz.underlying3; have a3 := Tryz.isAgg3; have z3 := Tryz.sizeOf3; have v3 := Tryz.zeroValue3; have u3 := run_underlying t3
 have t4 := Tryz.underlying4; have a4 := Tryz.isAgg4; have z4 := Tryz.sizeOf4; have v4 := Tryz.zeroValue4; have u4 := run_underlying t4
 have t6 := Tryz.underlying4; have a6 := Tryz.isAgg4; have z6 := Tryz.sizeOf4; have v6 := Tryz.zeroValue4; have u6 := run_underlying t6
 have h1 : ¬ ((n : Int) < 0) := by omega
 have h3 : RowKit.wrap64 ((n : Int) - 0) = (n : Int) := by unfold RowKit.wrap64; omega
 have h4 : (n : Int) > 0 := by omega
 have hrun := Lib.run_append_nil_zeros w 23 3 23 4 i _ .i64 .i64 t1 t3 hi hz n hn (by omega) (by omega) (by rw [hby]; omega)
 obtain ⟨G, hG⟩ : ∃ G, G = grownCap w n 0 4 := ⟨_, rfl⟩
 have hGn : n ≤ grownCap w n 0 4 := grownCap_ge w _ _ _
 have hG63 : G ≤ 9223372036854775807 := by
  have := grownCap_le_maxLen w n 0 4 (by unfold maxLen; omega)
  rw [← hG] at this
  unfold maxLen at this
  omega
 rw [← hG] at hrun hGn
 obtain ⟨cs, hcs⟩ : ∃ cs, cs = Builtin.zeroCells (Value.bool false).cells n ++ Builtin.zeroCells (Value.bool false).cells (G - n) := ⟨_, rfl⟩
 have hsz : cs.size = G * 1 := by
  rw [hcs, Array.size_append, size_zeroCells, size_zeroCells]
  show n * 1 + (G - n) * 1 = G * 1
  omega
 rw [← hcs] at hrun
 clear hG hcs
 go_enter Tryz.func90, Tryz.ntmps90
 go_wp2_with (at_builtin; refine Lib.wpList_append_run _ rfl _ _ _ _ rfl _ _ rfl rfl _ _ hrun ?_)
 all_goals (go_ret; exact ⟨cs, G, rfl, rfl, by first | exact hsz | simpa using hsz, hGn⟩)
end
section
open Go Go.Av Go.Bis
theorem grow0B_x {Q} (H : Heap) (h0 : Q .nilsl H) : ACalls Tryz.prog 90 [.nilsl, .int .i64 0] H Q := by
 refine acalls_of_wp [] Tryz.mixed Tryz.func90 rfl (by kernel_rfl) (of_decide_eq_true (by kernel_rfl)) (by kernel_rfl) ?_
 simp only [go_sem,seval, Tryz.results90]
 repeat' (first | with_reducible refine And.intro ?_ ?_ | simp only [go_sem,seval] | simp (disch := omega) only [wrap64, cell_at] | simp (disch := first | omega | grind) only [heap_ne_, del_ne] | (intro hx_; try simp only [set_none] at hx_) | omega)
 all_goals exact Fin.same h0
theorem growB_a {Q} (n : Nat) (hb : n * 1 ≤ 140737488355328) (H : Heap) (h0 : n = 0 → Q .nilsl H) (h : n ≠ 0 → ∀ b, H b = none → Q (.vec b 1 0 0) (H.set b (.vec 1 []))) : ACalls Tryz.prog 90 [.nilsl, .int .i64 n] H Q := by
 by_cases hn : n = 0
 ·subst hn
  exact grow0B_x H (h0 rfl)
 ·refine ⟨by kernel_rfl, fun w vs hl hr hs => ?_⟩
  obtain ⟨a, b, rfl, ha, hb'⟩ := args2 hl hr
  have ea : a = .slice none 0 0 := by cases ha; rfl
  rw [ea, hb'.int_inv]
  refine (growB_w n (by omega) hb w).mono ?_
  rintro e w' ⟨cs, G, rfl, rfl, hsz, hGn⟩
  have hs1 := hs.same (w' := w.drew) rfl (Ext.drewN H w 1)
  obtain ⟨d, H', k1, k2, k3, k4, k5⟩ := post_vec (w := w.drew) (K := Q) hs1 (sz := 1) (es := []) (vs := cs) 4 0 G (by omega) ⟨by simp, fun i e he => by simp at he, fun i e j d he => by simp at he, fun i e j d he => by simp at he⟩ (Nat.zero_le _) hsz (fun b hb => h hn b hb)
  exact ⟨_, rfl, d, H', k1, k2, (Ext.drewN H w 1).trans (From.refl _ _) k3, k4, k5⟩
theorem concatB_a {Q} (l m : List Bool) (hb : (l.length + m.length) * 1 ≤ 140737488355328) (hl0 : l ≠ []) (H : Heap) (h : Q (.sl 1 (Rw boolC (l ++ m))) H) : ACalls Tryz.prog 66 [.sl 1 [[.sl 1 (Rw boolC l)], [.sl 1 (Rw boolC m)]]] H Q := by
 refine acalls_of_wp [] Tryz.mixed Tryz.func66 rfl (by kernel_rfl) (of_decide_eq_true (by kernel_rfl)) (by kernel_rfl) ?_
 simp only [go_sem,seval, Tryz.results66]
 refine loop_c [0, 9, 10] (fun (p : Nat × Int) => [(11, .int .i64 p.1), (3, .int .i64 p.2)]) (fun (p : Nat × Int) => H) (fun (p : Nat × Int) => p.1 ≤ 2 ∧ (p.1 = 0 → p.2 = 0) ∧ (p.1 = 1 → p.2 = l.length) ∧ (p.1 = 2 → p.2 = (l.length : Int) + m.length)) (fun (p : Nat × Int) => 2 - p.1) ((0, 0)) (⟨by simp, by simp, by simp, by simp⟩) (by (try simp only [go_sem,seval]) <;> (try simp (disch := omega) [wrap64]) <;> (try omega)) (by first | with_reducible exact Heap.Le.refl _ | exact heap_set_le (by assumption) | exact Heap.Le.refl _ | exact heap_le_set (by assumption) | exact (by simp only [Go.Av.Heap.Le, Go.Av.Heap.set, Go.Av.Heap.del] at * <;> grind)) ?_
 rintro Ec rfl ⟨k, z⟩ ⟨q1, q2, q3, q4⟩
 simp only at q1 q2 q3 q4
 match k, q1, q2, q3, q4 with
 | 0, q1, q2, q3, q4 =>
  have hz := q2 rfl
  subst hz
  repeat' (first | with_reducible refine And.intro ?_ ?_ | simp only [go_sem,seval, List.getD_cons_zero] | simp (disch := omega) only [wrap64, cell_at] | simp (disch := first | omega | grind) only [heap_ne_, del_ne] | (intro hx_; try simp only [set_none] at hx_) | omega)
  exact nx_mk (1, (l.length : Int)) ⟨by simp, by simp, by simp, by simp⟩ (by simp) (by (try simp only [go_sem,seval]) <;> (try simp (disch := omega) [wrap64]) <;> (try omega)) (Heap.Le.refl _)
 | 1, q1, q2, q3, q4 =>
  have hz := q3 rfl
  subst hz
  repeat' (first | with_reducible refine And.intro ?_ ?_ | simp only [go_sem,seval, List.getD_cons_zero, List.getD_cons_succ] | simp (disch := omega) only [wrap64, cell_at] | simp (disch := first | omega | grind) only [heap_ne_, del_ne] | (intro hx_; try simp only [set_none] at hx_) | omega)
  exact nx_mk (2, (l.length : Int) + m.length) ⟨by simp, by simp, by simp, by simp⟩ (by simp) (by (try simp only [go_sem,seval]) <;> (try simp (disch := omega) [wrap64]) <;> (try omega)) (Heap.Le.refl _)
 | 2, q1, q2, q3, q4 =>
  have hz := q4 rfl
  subst hz
  have en : (l.length : Int) + m.length = ((l.length + m.length : Nat) : Int) := by omega
  have hne : l.length + m.length ≠ 0 := by have := List.length_pos_iff.2 hl0; omega
  repeat' (first | with_reducible refine And.intro ?_ ?_ | simp only [go_sem,seval, en] | simp (disch := omega) only [wrap64, cell_at] | simp (disch := first | omega | grind) only [heap_ne_, del_ne] | (intro hx_; try simp only [set_none] at hx_) | omega)
  refine growB_a _ hb H (fun e => absurd e hne) fun _ b hbn => ?_
  repeat' (first | with_reducible refine And.intro ?_ ?_ | simp only [go_sem,seval] | simp (disch := omega) only [wrap64, cell_at] | simp (disch := first | omega | grind) only [heap_ne_, del_ne] | (intro hx_; try simp only [set_none] at hx_) | omega)
  refine loop_c [25, 26] (fun (p : Nat × Nat × List Bool) => [(27, .int .i64 p.1), (6, .vec p.2.1 1 0 p.2.2.length)]) (fun (p : Nat × Nat × List Bool) => H.set p.2.1 (.vec 1 (Rw boolC p.2.2))) (fun (p : Nat × Nat × List Bool) => p.1 ≤ 2 ∧ H p.2.1 = none ∧ (p.1 = 0 → p.2.2 = []) ∧ (p.1 = 1 → p.2.2 = l) ∧ (p.1 = 2 → p.2.2 = l ++ m)) (fun (p : Nat × Nat × List Bool) => 2 - p.1) ((0, b, [])) (⟨by simp, hbn, by simp, by simp, by simp⟩) (by (try simp only [go_sem,seval]) <;> (try simp (disch := omega) [wrap64]) <;> (try omega)) (by first | with_reducible exact Heap.Le.refl _ | exact heap_set_le (by assumption) | exact Heap.Le.refl _ | exact heap_le_set (by assumption) | exact (by simp only [Go.Av.Heap.Le, Go.Av.Heap.set, Go.Av.Heap.del] at * <;> grind)) ?_
  rintro Ec rfl ⟨k, c, X⟩ ⟨q1, hc, q2, q3, q4⟩
  simp only at q1 hc q2 q3 q4
  match k, q1, q2, q3, q4 with
  | 0, q1, q2, q3, q4 =>
   have hz := q2 rfl
   subst hz
   repeat' (first | with_reducible refine And.intro ?_ ?_ | simp only [go_sem,seval, List.getD_cons_zero, set_del hc] | simp (disch := omega) only [wrap64, cell_at] | simp (disch := first | omega | grind) only [heap_ne_, del_ne] | (intro hx_; try simp only [set_none] at hx_) | omega)
   rename_i b6
   exact nx_mk (1, b6, l) ⟨by simp, hx_, by simp, by simp, by simp⟩ (by simp) (by (try simp only [go_sem,seval]) <;> (try simp (disch := omega) [wrap64]) <;> (try omega)) (Heap.Le.refl _)
  | 1, q1, q2, q3, q4 =>
   have hz := (q3 rfl).symm
   subst hz
   repeat' (first | with_reducible refine And.intro ?_ ?_ | simp only [go_sem,seval, List.getD_cons_zero, List.getD_cons_succ, set_del hc] | simp (disch := omega) only [wrap64, cell_at] | simp (disch := first | omega | grind) only [heap_ne_, del_ne] | (intro hx_; try simp only [set_none] at hx_) | omega)
   rename_i b6
   exact nx_mk (2, b6, l ++ m) ⟨by simp, hx_, by simp, by simp, by simp⟩ (by simp) (by (try simp only [go_sem,seval, List.length_append]) <;> (try simp (disch := omega) [wrap64]) <;> (try omega)) (by simp only []; rw [← Rw_app, List.take_of_length_le (by rw [Rw_len]; exact Nat.le_refl _)]; exact Heap.Le.refl _)
  | 2, q1, q2, q3, q4 =>
   have hz := q4 rfl
   subst hz
   repeat' (first | with_reducible refine And.intro ?_ ?_ | simp only [go_sem,seval] | simp (disch := omega) only [wrap64, cell_at] | simp (disch := first | omega | grind) only [heap_ne_, del_ne] | (intro hx_; try simp only [set_none] at hx_) | omega)
   exact Fin.out (ob := some c) (by rw [Rw_len, List.length_append]) (heap_same _ _) (Fin.less (by show H.Le ((H.set c _).del c); rw [set_del hc]; exact Heap.Le.refl _) h)
end
end Go.Proofs.YtmohcdihdhggoaaGreatDoor
end
section
set_option maxRecDepth 20000
namespace Go.Bis
open Go Go.Av
def idxI {α : Type} (p : α → Bool) : List α → Int
 | [] => -1
 | a :: l => if p a = true then 0 else if idxI p l < 0 then -1 else idxI p l + 1
theorem idxI_ge {α : Type} (p : α → Bool) : ∀ l, -1 ≤ idxI p l
 | [] => by rw [idxI]; omega
 | a :: l => by have := idxI_ge p l; rw [idxI]; split; omega; split <;> omega
theorem idxI_any {α : Type} (p : α → Bool) : ∀ l, decide (0 ≤ idxI p l) = l.any p
 | [] => rfl
 | a :: l => by
  have := idxI_any p l
  rw [idxI, List.any_cons, ← this]
  split
  ·rename_i h; simp [h]
  ·rename_i h
   simp only [h, Bool.false_or]
   apply decide_eq_decide.2
   split <;> omega
theorem idxI_drop {α : Type} (p : α → Bool) (l : List α) (k : Nat) (h : k < l.length) : idxI p (l.drop k) = if p l[k] = true then 0 else if idxI p (l.drop (k + 1)) < 0 then -1 else idxI p (l.drop (k + 1)) + 1 := by
 rw [List.drop_eq_getElem_cons h, idxI]
def intsC (l : List Int) : List D := [.sl 1 (Rw intC l)]
def boolsC (l : List Bool) : List D := [.sl 1 (Rw boolC l)]
@[go_sem] theorem intsC_d (l : List Int) : intsC l = [.sl 1 (Rw intC l)] := rfl
@[go_sem] theorem boolsC_d (l : List Bool) : boolsC l = [.sl 1 (Rw boolC l)] := rfl
end Go.Bis
namespace Go.Proofs.YtmohcdihdhggoaaGreatDoor
open Go Go.Av Go.Bis
attribute [local irreducible] ACalls at8
theorem idxT_a {Q} (p : Tm → Bool) (l : List Tm) (hl : l.length ≤ 1000000000000000) (g : Nat) (first cap : List D) (H : Heap)
  (hf : ∀ a ∈ l, ∀ (Q : D → Heap → Prop), Q (.bool (p a)) H → ACalls Tryz.prog g (first ++ [.agg (tmC a)] ++ cap) H Q) (h : Q (.int .i64 (idxI p l)) H) :
  ACalls Tryz.prog 69 [.sl 6 (Rw tmC l), .fn (.func g) first cap] H Q := by
 refine acalls_of_wp [] Tryz.mixed Tryz.func69 rfl (by kernel_rfl) (of_decide_eq_true (by kernel_rfl)) (by kernel_rfl) ?_
 simp only [go_sem,seval, Tryz.results69]
 refine loop_c [0, 1, 7] (fun (k : Nat) => [(8, .int .i64 k)]) (fun (k : Nat) => H) (fun (k : Nat) => k ≤ l.length ∧ idxI p l = if idxI p (l.drop k) < 0 then -1 else idxI p (l.drop k) + k) (fun (k : Nat) => l.length - k) (0) (⟨Nat.zero_le _, by have := idxI_ge p l; rw [List.drop_zero]; split <;> omega⟩) (by (try simp only [go_sem,seval]) <;> (try simp (disch := omega) [wrap64]) <;> (try omega)) (by first | with_reducible exact Heap.Le.refl _ | exact heap_set_le (by assumption) | exact Heap.Le.refl _ | exact heap_le_set (by assumption) | exact (by simp only [Go.Av.Heap.Le, Go.Av.Heap.set, Go.Av.Heap.del] at * <;> grind)) ?_
 rintro Ec rfl k ⟨hk, hp⟩
 by_cases hlt : k < l.length
 ·have hkd : decide ((k : Int) < l.length) = true := decide_eq_true (by omega)
  rw [idxI_drop p l k hlt] at hp
  repeat' (first | with_reducible refine And.intro ?_ ?_ | simp only [go_sem,seval, hkd, Rw_at _ _ hlt] | simp (disch := omega) only [wrap64, cell_at, Rw_at] | simp (disch := first | omega | grind) only [heap_ne_, del_ne] | (intro hx_; try simp only [set_none] at hx_) | with_reducible refine hf l[k] (List.getElem_mem hlt) _ ?_ | omega)
  ·have h1 : p l[k] = true := by assumption
   rw [if_pos h1] at hp
   simp only [Int.zero_add, show ¬ ((0 : Int) < 0) by omega, if_false] at hp
   rw [hp] at h
   exact Fin.same h
  ·have h1 : ¬ p l[k] = true := by simp_all
   rw [if_neg h1] at hp
   exact nx_mk (k + 1) ⟨by omega, by rw [hp]; have := idxI_ge p (l.drop (k + 1)); split <;> split <;> omega⟩ (by omega) (by (try simp only [go_sem,seval]) <;> (try simp (disch := omega) [wrap64]) <;> (try omega)) (Heap.Le.refl _)
 ·have hkd : decide ((k : Int) < l.length) = false := decide_eq_false (by omega)
  rw [List.drop_eq_nil_of_le (by omega), idxI] at hp
  repeat' (first | with_reducible refine And.intro ?_ ?_ | simp only [go_sem,seval, hkd] | simp (disch := omega) only [wrap64, cell_at, Rw_at] | simp (disch := first | omega | grind) only [heap_ne_, del_ne] | (intro hx_; try simp only [set_none] at hx_) | omega)
  simp only [show ((-1 : Int) < 0) by omega, if_true] at hp
  rw [hp] at h
  exact Fin.same h
theorem hasT_a {Q} (p : Tm → Bool) (l : List Tm) (hl : l.length ≤ 1000000000000000) (g : Nat) (first cap : List D) (H : Heap)
  (hf : ∀ a ∈ l, ∀ (Q : D → Heap → Prop), Q (.bool (p a)) H → ACalls Tryz.prog g (first ++ [.agg (tmC a)] ++ cap) H Q) (h : Q (.bool (l.any p)) H) :
  ACalls Tryz.prog 38 [.sl 6 (Rw tmC l), .fn (.func g) first cap] H Q := by
 refine acalls_of_wp [] Tryz.mixed Tryz.func38 rfl (by kernel_rfl) (of_decide_eq_true (by kernel_rfl)) (by kernel_rfl) ?_
 simp only [go_sem,seval, Tryz.results38]
 rw [← idxI_any] at h
 repeat' (first | with_reducible refine And.intro ?_ ?_ | simp only [go_sem,seval] | simp (disch := omega) only [wrap64, cell_at] | simp (disch := first | omega | grind) only [heap_ne_, del_ne] | (intro hx_; try simp only [set_none] at hx_) | with_reducible refine idxT_a p l hl g first cap _ hf ?_ | omega)
 exact Fin.same h
theorem idxI_a {Q} (p : Int → Bool) (l : List Int) (hl : l.length ≤ 1000000000000000) (g : Nat) (first cap : List D) (H : Heap)
  (hf : ∀ a ∈ l, ∀ (Q : D → Heap → Prop), Q (.bool (p a)) H → ACalls Tryz.prog g (first ++ [.int .i64 a] ++ cap) H Q) (h : Q (.int .i64 (idxI p l)) H) :
  ACalls Tryz.prog 72 [.sl 1 (Rw intC l), .fn (.func g) first cap] H Q := by
 refine acalls_of_wp [] Tryz.mixed Tryz.func72 rfl (by kernel_rfl) (of_decide_eq_true (by kernel_rfl)) (by kernel_rfl) ?_
 simp only [go_sem,seval, Tryz.results72]
 refine loop_c [0, 1, 7] (fun (k : Nat) => [(8, .int .i64 k)]) (fun (k : Nat) => H) (fun (k : Nat) => k ≤ l.length ∧ idxI p l = if idxI p (l.drop k) < 0 then -1 else idxI p (l.drop k) + k) (fun (k : Nat) => l.length - k) (0) (⟨Nat.zero_le _, by have := idxI_ge p l; rw [List.drop_zero]; split <;> omega⟩) (by (try simp only [go_sem,seval]) <;> (try simp (disch := omega) [wrap64]) <;> (try omega)) (by first | with_reducible exact Heap.Le.refl _ | exact heap_set_le (by assumption) | exact Heap.Le.refl _ | exact heap_le_set (by assumption) | exact (by simp only [Go.Av.Heap.Le, Go.Av.Heap.set, Go.Av.Heap.del] at * <;> grind)) ?_
 rintro Ec rfl k ⟨hk, hp⟩
 by_cases hlt : k < l.length
 ·have hkd : decide ((k : Int) < l.length) = true := decide_eq_true (by omega)
  rw [idxI_drop p l k hlt] at hp
  repeat' (first | with_reducible refine And.intro ?_ ?_ | simp only [go_sem,seval, hkd, Rw_at _ _ hlt] | simp (disch := omega) only [wrap64, cell_at, Rw_at] | simp (disch := first | omega | grind) only [heap_ne_, del_ne] | (intro hx_; try simp only [set_none] at hx_) | with_reducible refine hf l[k] (List.getElem_mem hlt) _ ?_ | omega)
  ·have h1 : p l[k] = true := by assumption
   rw [if_pos h1] at hp
   simp only [Int.zero_add, show ¬ ((0 : Int) < 0) by omega, if_false] at hp
   rw [hp] at h
   exact Fin.same h
  ·have h1 : ¬ p l[k] = true := by simp_all
   rw [if_neg h1] at hp
   exact nx_mk (k + 1) ⟨by omega, by rw [hp]; have := idxI_ge p (l.drop (k + 1)); split <;> split <;> omega⟩ (by omega) (by (try simp only [go_sem,seval]) <;> (try simp (disch := omega) [wrap64]) <;> (try omega)) (Heap.Le.refl _)
 ·have hkd : decide ((k : Int) < l.length) = false := decide_eq_false (by omega)
  rw [List.drop_eq_nil_of_le (by omega), idxI] at hp
  repeat' (first | with_reducible refine And.intro ?_ ?_ | simp only [go_sem,seval, hkd] | simp (disch := omega) only [wrap64, cell_at, Rw_at] | simp (disch := first | omega | grind) only [heap_ne_, del_ne] | (intro hx_; try simp only [set_none] at hx_) | omega)
  simp only [show ((-1 : Int) < 0) by omega, if_true] at hp
  rw [hp] at h
  exact Fin.same h
theorem hasI_a {Q} (p : Int → Bool) (l : List Int) (hl : l.length ≤ 1000000000000000) (g : Nat) (first cap : List D) (H : Heap)
  (hf : ∀ a ∈ l, ∀ (Q : D → Heap → Prop), Q (.bool (p a)) H → ACalls Tryz.prog g (first ++ [.int .i64 a] ++ cap) H Q) (h : Q (.bool (l.any p)) H) :
  ACalls Tryz.prog 43 [.sl 1 (Rw intC l), .fn (.func g) first cap] H Q := by
 refine acalls_of_wp [] Tryz.mixed Tryz.func43 rfl (by kernel_rfl) (of_decide_eq_true (by kernel_rfl)) (by kernel_rfl) ?_
 simp only [go_sem,seval, Tryz.results43]
 rw [← idxI_any] at h
 repeat' (first | with_reducible refine And.intro ?_ ?_ | simp only [go_sem,seval] | simp (disch := omega) only [wrap64, cell_at] | simp (disch := first | omega | grind) only [heap_ne_, del_ne] | (intro hx_; try simp only [set_none] at hx_) | with_reducible refine idxI_a p l hl g first cap _ hf ?_ | omega)
 exact Fin.same h
theorem idxII_a {Q} (p : (List Int) → Bool) (l : List (List Int)) (hl : l.length ≤ 1000000000000000) (g : Nat) (first cap : List D) (H : Heap)
  (hf : ∀ a ∈ l, ∀ (Q : D → Heap → Prop), Q (.bool (p a)) H → ACalls Tryz.prog g (first ++ [.sl 1 (Rw intC a)] ++ cap) H Q) (h : Q (.int .i64 (idxI p l)) H) :
  ACalls Tryz.prog 71 [.sl 1 (Rw intsC l), .fn (.func g) first cap] H Q := by
 refine acalls_of_wp [] Tryz.mixed Tryz.func71 rfl (by kernel_rfl) (of_decide_eq_true (by kernel_rfl)) (by kernel_rfl) ?_
 simp only [go_sem,seval, Tryz.results71]
 refine loop_c [0, 1, 7] (fun (k : Nat) => [(8, .int .i64 k)]) (fun (k : Nat) => H) (fun (k : Nat) => k ≤ l.length ∧ idxI p l = if idxI p (l.drop k) < 0 then -1 else idxI p (l.drop k) + k) (fun (k : Nat) => l.length - k) (0) (⟨Nat.zero_le _, by have := idxI_ge p l; rw [List.drop_zero]; split <;> omega⟩) (by (try simp only [go_sem,seval]) <;> (try simp (disch := omega) [wrap64]) <;> (try omega)) (by first | with_reducible exact Heap.Le.refl _ | exact heap_set_le (by assumption) | exact Heap.Le.refl _ | exact heap_le_set (by assumption) | exact (by simp only [Go.Av.Heap.Le, Go.Av.Heap.set, Go.Av.Heap.del] at * <;> grind)) ?_
 rintro Ec rfl k ⟨hk, hp⟩
 by_cases hlt : k < l.length
 ·have hkd : decide ((k : Int) < l.length) = true := decide_eq_true (by omega)
  rw [idxI_drop p l k hlt] at hp
  repeat' (first | with_reducible refine And.intro ?_ ?_ | simp only [go_sem,seval, hkd, Rw_at _ _ hlt] | simp (disch := omega) only [wrap64, cell_at, Rw_at] | simp (disch := first | omega | grind) only [heap_ne_, del_ne] | (intro hx_; try simp only [set_none] at hx_) | with_reducible refine hf l[k] (List.getElem_mem hlt) _ ?_ | omega)
  ·have h1 : p l[k] = true := by assumption
   rw [if_pos h1] at hp
   simp only [Int.zero_add, show ¬ ((0 : Int) < 0) by omega, if_false] at hp
   rw [hp] at h
   exact Fin.same h
  ·have h1 : ¬ p l[k] = true := by simp_all
   rw [if_neg h1] at hp
   exact nx_mk (k + 1) ⟨by omega, by rw [hp]; have := idxI_ge p (l.drop (k + 1)); split <;> split <;> omega⟩ (by omega) (by (try simp only [go_sem,seval]) <;> (try simp (disch := omega) [wrap64]) <;> (try omega)) (Heap.Le.refl _)
 ·have hkd : decide ((k : Int) < l.length) = false := decide_eq_false (by omega)
  rw [List.drop_eq_nil_of_le (by omega), idxI] at hp
  repeat' (first | with_reducible refine And.intro ?_ ?_ | simp only [go_sem,seval, hkd] | simp (disch := omega) only [wrap64, cell_at, Rw_at] | simp (disch := first | omega | grind) only [heap_ne_, del_ne] | (intro hx_; try simp only [set_none] at hx_) | omega)
  simp only [show ((-1 : Int) < 0) by omega, if_true] at hp
  rw [hp] at h
  exact Fin.same h
theorem hasII_a {Q} (p : (List Int) → Bool) (l : List (List Int)) (hl : l.length ≤ 1000000000000000) (g : Nat) (first cap : List D) (H : Heap)
  (hf : ∀ a ∈ l, ∀ (Q : D → Heap → Prop), Q (.bool (p a)) H → ACalls Tryz.prog g (first ++ [.sl 1 (Rw intC a)] ++ cap) H Q) (h : Q (.bool (l.any p)) H) :
  ACalls Tryz.prog 41 [.sl 1 (Rw intsC l), .fn (.func g) first cap] H Q := by
 refine acalls_of_wp [] Tryz.mixed Tryz.func41 rfl (by kernel_rfl) (of_decide_eq_true (by kernel_rfl)) (by kernel_rfl) ?_
 simp only [go_sem,seval, Tryz.results41]
 rw [← idxI_any] at h
 repeat' (first | with_reducible refine And.intro ?_ ?_ | simp only [go_sem,seval] | simp (disch := omega) only [wrap64, cell_at] | simp (disch := first | omega | grind) only [heap_ne_, del_ne] | (intro hx_; try simp only [set_none] at hx_) | with_reducible refine idxII_a p l hl g first cap _ hf ?_ | omega)
 exact Fin.same h
theorem idxBB_a {Q} (p : (List Bool) → Bool) (l : List (List Bool)) (hl : l.length ≤ 1000000000000000) (g : Nat) (first cap : List D) (H : Heap)
  (hf : ∀ a ∈ l, ∀ (Q : D → Heap → Prop), Q (.bool (p a)) H → ACalls Tryz.prog g (first ++ [.sl 1 (Rw boolC a)] ++ cap) H Q) (h : Q (.int .i64 (idxI p l)) H) :
  ACalls Tryz.prog 97 [.sl 1 (Rw boolsC l), .fn (.func g) first cap] H Q := by
 refine acalls_of_wp [] Tryz.mixed Tryz.func97 rfl (by kernel_rfl) (of_decide_eq_true (by kernel_rfl)) (by kernel_rfl) ?_
 simp only [go_sem,seval, Tryz.results97]
 refine loop_c [0, 1, 7] (fun (k : Nat) => [(8, .int .i64 k)]) (fun (k : Nat) => H) (fun (k : Nat) => k ≤ l.length ∧ idxI p l = if idxI p (l.drop k) < 0 then -1 else idxI p (l.drop k) + k) (fun (k : Nat) => l.length - k) (0) (⟨Nat.zero_le _, by have := idxI_ge p l; rw [List.drop_zero]; split <;> omega⟩) (by (try simp only [go_sem,seval]) <;> (try simp (disch := omega) [wrap64]) <;> (try omega)) (by first | with_reducible exact Heap.Le.refl _ | exact heap_set_le (by assumption) | exact Heap.Le.refl _ | exact heap_le_set (by assumption) | exact (by simp only [Go.Av.Heap.Le, Go.Av.Heap.set, Go.Av.Heap.del] at * <;> grind)) ?_
 rintro Ec rfl k ⟨hk, hp⟩
 by_cases hlt : k < l.length
 ·have hkd : decide ((k : Int) < l.length) = true := decide_eq_true (by omega)
  rw [idxI_drop p l k hlt] at hp
  repeat' (first | with_reducible refine And.intro ?_ ?_ | simp only [go_sem,seval, hkd, Rw_at _ _ hlt] | simp (disch := omega) only [wrap64, cell_at, Rw_at] | simp (disch := first | omega | grind) only [heap_ne_, del_ne] | (intro hx_; try simp only [set_none] at hx_) | with_reducible refine hf l[k] (List.getElem_mem hlt) _ ?_ | omega)
  ·have h1 : p l[k] = true := by assumption
   rw [if_pos h1] at hp
   simp only [Int.zero_add, show ¬ ((0 : Int) < 0) by omega, if_false] at hp
   rw [hp] at h
   exact Fin.same h
  ·have h1 : ¬ p l[k] = true := by simp_all
   rw [if_neg h1] at hp
   exact nx_mk (k + 1) ⟨by omega, by rw [hp]; have := idxI_ge p (l.drop (k + 1)); split <;> split <;> omega⟩ (by omega) (by (try simp only [go_sem,seval]) <;> (try simp (disch := omega) [wrap64]) <;> (try omega)) (Heap.Le.refl _)
 ·have hkd : decide ((k : Int) < l.length) = false := decide_eq_false (by omega)
  rw [List.drop_eq_nil_of_le (by omega), idxI] at hp
  repeat' (first | with_reducible refine And.intro ?_ ?_ | simp only [go_sem,seval, hkd] | simp (disch := omega) only [wrap64, cell_at, Rw_at] | simp (disch := first | omega | grind) only [heap_ne_, del_ne] | (intro hx_; try simp only [set_none] at hx_) | omega)
  simp only [show ((-1 : Int) < 0) by omega, if_true] at hp
  rw [hp] at h
  exact Fin.same h
theorem hasBB_a {Q} (p : (List Bool) → Bool) (l : List (List Bool)) (hl : l.length ≤ 1000000000000000) (g : Nat) (first cap : List D) (H : Heap)
  (hf : ∀ a ∈ l, ∀ (Q : D → Heap → Prop), Q (.bool (p a)) H → ACalls Tryz.prog g (first ++ [.sl 1 (Rw boolC a)] ++ cap) H Q) (h : Q (.bool (l.any p)) H) :
  ACalls Tryz.prog 79 [.sl 1 (Rw boolsC l), .fn (.func g) first cap] H Q := by
 refine acalls_of_wp [] Tryz.mixed Tryz.func79 rfl (by kernel_rfl) (of_decide_eq_true (by kernel_rfl)) (by kernel_rfl) ?_
 simp only [go_sem,seval, Tryz.results79]
 rw [← idxI_any] at h
 repeat' (first | with_reducible refine And.intro ?_ ?_ | simp only [go_sem,seval] | simp (disch := omega) only [wrap64, cell_at] | simp (disch := first | omega | grind) only [heap_ne_, del_ne] | (intro hx_; try simp only [set_none] at hx_) | with_reducible refine idxBB_a p l hl g first cap _ hf ?_ | omega)
 exact Fin.same h
end Go.Proofs.YtmohcdihdhggoaaGreatDoor
end
section
set_option maxRecDepth 20000
namespace Go.Proofs.YtmohcdihdhggoaaGreatDoor
open Go Go.Av Go.Lexs Go.Bis
attribute [local irreducible] ACalls at8
theorem zero_a {Q} (t : Tm) (n x s k r : Bool) (H : Heap) (h : Q (.bool (zeroS t n x s k r)) H) : ACalls Tryz.prog 121 [.agg (tmC t), .bool n, .bool x, .bool s, .bool k, .bool r] H Q := by
 refine acalls_of_wp [] Tryz.mixed Tryz.func121 rfl (by kernel_rfl) (of_decide_eq_true (by kernel_rfl)) (by kernel_rfl) ?_
 simp only [go_sem,seval, Tryz.results121]
 simp only [zeroS] at h
 repeat' (first | with_reducible refine And.intro ?_ ?_ | simp only [go_sem,seval] | simp (disch := omega) only [wrap64, cell_at] | simp (disch := first | omega | grind) only [heap_ne_, del_ne] | (intro hx_; try simp only [set_none] at hx_) | omega)
 all_goals (refine Av.Fin.less (H' := H) (by first | with_reducible exact Heap.Le.refl _ | exact heap_le_set (by assumption) | exact (heap_le_set (by assumption)).trans (heap_le_set (by assumption)) | exact (heap_le_set (by assumption)).trans ((heap_le_set (by assumption)).trans (heap_le_set (by assumption))) | exact (by simp only [Go.Av.Heap.Le, Go.Av.Heap.set, Go.Av.Heap.del] at * <;> grind)) ?_; first | exact h | (simp_all; done) | simpa [*] using h)
theorem rest_a {Q} (t : Tm) (ht : TmFit t) (sort : ByteArray) (H : Heap) (h : Q (.bool (restS t (B sort))) H) : ACalls Tryz.prog 126 [.agg (tmC t), .str sort] H Q := by
 refine acalls_of_wp [] Tryz.mixed Tryz.func126 rfl (by kernel_rfl) (of_decide_eq_true (by kernel_rfl)) (by kernel_rfl) ?_
 simp only [go_sem,seval, Tryz.results126]
 unfold restS at h
 match hr : t.rest with
 | [] =>
  simp only [hr] at h
  repeat' (first | with_reducible refine And.intro ?_ ?_ | simp only [go_sem,seval, hr, List.length_nil] | simp (disch := omega) only [wrap64, cell_at, Rw_at] | simp (disch := first | omega | grind) only [heap_ne_, del_ne] | (intro hx_; try simp only [set_none] at hx_) | with_reducible apply rIsName_a | with_reducible apply zero_a | omega)
  (refine Av.Fin.less (H' := H) (by first | with_reducible exact Heap.Le.refl _ | exact heap_le_set (by assumption) | exact (heap_le_set (by assumption)).trans (heap_le_set (by assumption)) | exact (heap_le_set (by assumption)).trans ((heap_le_set (by assumption)).trans (heap_le_set (by assumption))) | exact (by simp only [Go.Av.Heap.Le, Go.Av.Heap.set, Go.Av.Heap.del] at * <;> grind)) ?_; first | exact h | (simp_all; done) | simpa [*] using h)
 | [r] =>
  simp only [hr] at h
  have hf := (ht.res r (by simp [hr])).hx
  repeat' (first | with_reducible refine And.intro ?_ ?_ | simp only [go_sem,seval, hr, List.length_cons, List.length_nil] | simp (disch := omega) only [wrap64, cell_at, Rw_at] | simp (disch := first | omega | grind) only [heap_ne_, del_ne] | (intro hx_; try simp only [set_none] at hx_) | with_reducible apply rIsName_a | with_reducible apply zero_a | omega)
  all_goals (refine Av.Fin.less (H' := H) (by first | with_reducible exact Heap.Le.refl _ | exact heap_le_set (by assumption) | exact (heap_le_set (by assumption)).trans (heap_le_set (by assumption)) | exact (heap_le_set (by assumption)).trans ((heap_le_set (by assumption)).trans (heap_le_set (by assumption))) | exact (by simp only [Go.Av.Heap.Le, Go.Av.Heap.set, Go.Av.Heap.del] at * <;> grind)) ?_; first | exact h | (simp_all; done) | simpa [*] using h)
 | r :: r' :: rs =>
  simp only [hr] at h
  have hl : ¬ ((rs.length + 1 + 1 : Nat) : Int) = 1 := by omega
  repeat' (first | with_reducible refine And.intro ?_ ?_ | simp only [go_sem,seval, hr, List.length_cons, hl] | simp (disch := omega) only [wrap64, cell_at, Rw_at] | simp (disch := first | omega | grind) only [heap_ne_, del_ne] | (intro hx_; try simp only [set_none] at hx_) | with_reducible apply rIsName_a | with_reducible apply zero_a | omega)
  all_goals (refine Av.Fin.less (H' := H) (by first | with_reducible exact Heap.Le.refl _ | exact heap_le_set (by assumption) | exact (heap_le_set (by assumption)).trans (heap_le_set (by assumption)) | exact (heap_le_set (by assumption)).trans ((heap_le_set (by assumption)).trans (heap_le_set (by assumption))) | exact (by simp only [Go.Av.Heap.Le, Go.Av.Heap.set, Go.Av.Heap.del] at * <;> grind)) ?_; first | exact h | (simp_all; done) | simpa [*] using h)
theorem node_a {Q} (t : Tm) (ht : TmFit t) (H : Heap) (h : Q (.bool (nodeS t)) H) : ACalls Tryz.prog 92 [.agg (tmC t)] H Q := by
 refine acalls_of_wp [] Tryz.mixed Tryz.func92 rfl (by kernel_rfl) (of_decide_eq_true (by kernel_rfl)) (by kernel_rfl) ?_
 simp only [go_sem,seval, Tryz.results92]
 have hx := ht.hx
 have hs := ht.hs
 unfold nodeS at h
 simp only [isOpen] at h
 repeat' (first | with_reducible refine And.intro ?_ ?_ | simp only [go_sem,seval] | simp (disch := omega) only [wrap64, cell_at] | simp (disch := first | omega | grind) only [heap_ne_, del_ne] | (intro hx_; try simp only [set_none] at hx_) | with_reducible refine rest_a _ ht _ _ ?_ | with_reducible apply zero_a | with_reducible apply rIsText_a | with_reducible apply rIsId_a | with_reducible apply rIsOp_a | with_reducible apply rIsName_a | with_reducible apply rest_a | omega)
 all_goals (refine Av.Fin.less (H' := H) (by first | with_reducible exact Heap.Le.refl _ | exact heap_le_set (by assumption) | exact (heap_le_set (by assumption)).trans (heap_le_set (by assumption)) | exact (heap_le_set (by assumption)).trans ((heap_le_set (by assumption)).trans (heap_le_set (by assumption))) | exact (by simp only [Go.Av.Heap.Le, Go.Av.Heap.set, Go.Av.Heap.del] at * <;> grind)) ?_; first | exact h | (simp_all [listB, mapB, anyB]; done) | simpa [*, listB, mapB, anyB] using h)
end Go.Proofs.YtmohcdihdhggoaaGreatDoor
end
section
set_option maxRecDepth 20000
namespace Go.Bis
open Go Go.Av Go.Lexs
mutual
def eqT : Tm → Tm → Bool
 | .mk k n x s ks rs, .mk k' n' x' s' ks' rs' => decide (k = k') && decide (n = n') && decide (B x = B x') && decide (B s = B s') && eqL ks ks' && eqL rs rs'
def eqL : List Tm → List Tm → Bool
 | [], [] => true
 | a :: l, b :: m => eqT a b && eqL l m
 | _, _ => false
end
theorem eqT_eq (a b : Tm) : eqT a b = (decide (a.kind = b.kind) && decide (a.n = b.n) && decide (B a.text = B b.text) && decide (B a.sort = B b.sort) && eqL a.kids b.kids && eqL a.rest b.rest) := by
 cases a; cases b; rw [eqT]; rfl
theorem eqL_len : ∀ (l m : List Tm), l.length ≠ m.length → eqL l m = false
 | [], [], h => absurd rfl h
 | [], _ :: _, _ => by simp [eqL]
 | _ :: _, [], _ => by simp [eqL]
 | a :: l, b :: m, h => by rw [eqL, eqL_len l m (by simpa using h), Bool.and_false]
mutual
theorem eqT_iff : ∀ (a b : Tm), eqT a b = true ↔ a = b
 | .mk k n x s ks rs, .mk k' n' x' s' ks' rs' => by
  rw [eqT]
  simp only [Bool.and_eq_true, decide_eq_true_eq, eqL_iff ks ks', eqL_iff rs rs', Tm.mk.injEq]
  constructor
  ·rintro ⟨⟨⟨⟨⟨h1, h2⟩, h3⟩, h4⟩, h5⟩, h6⟩; exact ⟨h1, h2, B_inj h3, B_inj h4, h5, h6⟩
  ·rintro ⟨h1, h2, h3, h4, h5, h6⟩; exact ⟨⟨⟨⟨⟨h1, h2⟩, by rw [h3]⟩, by rw [h4]⟩, h5⟩, h6⟩
theorem eqL_iff : ∀ (l m : List Tm), eqL l m = true ↔ l = m
 | [], [] => by simp [eqL]
 | [], _ :: _ => by simp [eqL]
 | _ :: _, [] => by simp [eqL]
 | a :: l, b :: m => by rw [eqL, Bool.and_eq_true, eqT_iff a b, eqL_iff l m, List.cons.injEq]
end
theorem eqL_drop (l m : List Tm) (k : Nat) (h1 : k < l.length) (h2 : k < m.length) : eqL (l.drop k) (m.drop k) = (eqT l[k] m[k] && eqL (l.drop (k + 1)) (m.drop (k + 1))) := by
 rw [List.drop_eq_getElem_cons h1, List.drop_eq_getElem_cons h2, eqL]
theorem kids_lt {t k : Tm} (h : k ∈ t.kids) : SizeOf.sizeOf k < SizeOf.sizeOf t := by
 cases t
 have := List.sizeOf_lt_of_mem h
 simp only [Tm.kids] at this h
 simp
 omega
theorem rest_lt {t k : Tm} (h : k ∈ t.rest) : SizeOf.sizeOf k < SizeOf.sizeOf t := by
 cases t
 have := List.sizeOf_lt_of_mem h
 simp only [Tm.rest] at this h
 simp
 omega
end Go.Bis
namespace Go.Proofs.YtmohcdihdhggoaaGreatDoor
open Go Go.Av Go.Lexs Go.Bis
attribute [local irreducible] ACalls at8
theorem sameList_w {Q} (l m : List Tm) (hl : l.length ≤ 1466015503658) (hm : m.length ≤ 1466015503658) (H : Heap)
  (hS : ∀ a ∈ l, ∀ (Q : D → Heap → Prop) (b : Tm) (H : Heap), b ∈ m → Q (.bool (eqT a b)) H → ACalls Tryz.prog 60 [.agg (tmC a), .agg (tmC b)] H Q) (h : Q (.bool (eqL l m)) H) :
  ACalls Tryz.prog 58 [.sl 6 (Rw tmC l), .sl 6 (Rw tmC m)] H Q := by
 refine acalls_of_wp [] Tryz.mixed Tryz.func58 rfl (by kernel_rfl) (of_decide_eq_true (by kernel_rfl)) (by kernel_rfl) ?_
 simp only [go_sem,seval, Tryz.results58]
 by_cases hn : l.length = m.length
 ·have hnd : (l.length : Int) = m.length := by omega
  repeat' (first | with_reducible refine And.intro ?_ ?_ | simp only [go_sem,seval, hnd] | simp (disch := omega) only [wrap64, cell_at, Rw_at] | simp (disch := first | omega | grind) only [heap_ne_, del_ne] | (intro hx_; try simp only [set_none] at hx_) | omega)
  refine loop_c [0, 1, 12] (fun (k : Nat) => [(13, .int .i64 k)]) (fun (k : Nat) => H) (fun (k : Nat) => k ≤ l.length ∧ eqL (l.drop k) (m.drop k) = eqL l m) (fun (k : Nat) => l.length - k) (0) (⟨Nat.zero_le _, by simp⟩) (by (try simp only [go_sem,seval]) <;> (try simp (disch := omega) [wrap64]) <;> (try omega)) (by first | with_reducible exact Heap.Le.refl _ | exact heap_set_le (by assumption) | exact Heap.Le.refl _ | exact heap_le_set (by assumption) | exact (by simp only [Go.Av.Heap.Le, Go.Av.Heap.set, Go.Av.Heap.del] at * <;> grind)) ?_
  rintro Ec rfl k ⟨hk, hp⟩
  rw [← hp] at h
  by_cases hlt : k < l.length
  ·have hlm : k < m.length := by omega
   rw [eqL_drop l m k hlt hlm] at h hp
   have hkd : decide ((k : Int) < l.length) = true := decide_eq_true (by omega)
   repeat' (first | with_reducible refine And.intro ?_ ?_ | simp only [go_sem,seval, hkd, Rw_at _ _ hlt, Rw_at _ _ hlm] | simp (disch := omega) only [wrap64, cell_at, Rw_at] | simp (disch := first | omega | grind) only [heap_ne_, del_ne] | (intro hx_; try simp only [set_none] at hx_) | with_reducible refine hS l[k] (List.getElem_mem hlt) _ m[k] _ (List.getElem_mem hlm) ?_ | omega)
   all_goals first
    | (refine Av.Fin.less (H' := H) (by first | with_reducible exact Heap.Le.refl _ | exact heap_le_set (by assumption) | exact (heap_le_set (by assumption)).trans (heap_le_set (by assumption)) | exact (heap_le_set (by assumption)).trans ((heap_le_set (by assumption)).trans (heap_le_set (by assumption))) | exact (by simp only [Go.Av.Heap.Le, Go.Av.Heap.set, Go.Av.Heap.del] at * <;> grind)) ?_; first | exact h | (simp_all; done) | simpa [*] using h)
    | exact nx_mk (k + 1) ⟨by omega, by simp_all⟩ (by omega) (by (try simp only [go_sem,seval]) <;> (try simp (disch := omega) [wrap64]) <;> (try omega)) (Heap.Le.refl _)
  ·have hkd : decide ((k : Int) < l.length) = false := decide_eq_false (by omega)
   rw [List.drop_eq_nil_of_le (by omega), List.drop_eq_nil_of_le (by omega), eqL] at h
   repeat' (first | with_reducible refine And.intro ?_ ?_ | simp only [go_sem,seval, hkd] | simp (disch := omega) only [wrap64, cell_at, Rw_at] | simp (disch := first | omega | grind) only [heap_ne_, del_ne] | (intro hx_; try simp only [set_none] at hx_) | omega)
   exact Fin.same h
 ·have hnd : ¬ (l.length : Int) = m.length := by omega
  rw [eqL_len l m hn] at h
  repeat' (first | with_reducible refine And.intro ?_ ?_ | simp only [go_sem,seval, hnd] | simp (disch := omega) only [wrap64, cell_at, Rw_at] | simp (disch := first | omega | grind) only [heap_ne_, del_ne] | (intro hx_; try simp only [set_none] at hx_) | omega)
  exact Fin.same h
theorem same_n (n : Nat) : ∀ {Q} (a b : Tm) (hn : SizeOf.sizeOf a ≤ n) (ha : TmFit a) (hb : TmFit b) (H : Heap) (h : Q (.bool (eqT a b)) H), ACalls Tryz.prog 60 [.agg (tmC a), .agg (tmC b)] H Q := by
 induction n with
 | zero => intro Q a b hn; cases a; simp at hn
 | succ n ih =>
 intro Q a b hn ha hb H h
 refine acalls_of_wp [] Tryz.mixed Tryz.func60 rfl (by kernel_rfl) (of_decide_eq_true (by kernel_rfl)) (by kernel_rfl) ?_
 simp only [go_sem,seval, Tryz.results60]
 rw [eqT_eq] at h
 repeat' (first | with_reducible refine And.intro ?_ ?_ | simp only [go_sem,seval] | simp (disch := omega) only [wrap64, cell_at] | simp (disch := first | omega | grind) only [heap_ne_, del_ne] | (intro hx_; try simp only [set_none] at hx_) | with_reducible refine sameList_w a.kids b.kids ha.hkl hb.hkl _ (fun x hx Q y H hy h => ih x y (by have := kids_lt hx; omega) (ha.kid x hx) (hb.kid y hy) H h) ?_ | with_reducible refine sameList_w a.rest b.rest ha.hrl hb.hrl _ (fun x hx Q y H hy h => ih x y (by have := rest_lt hx; omega) (ha.res x hx) (hb.res y hy) H h) ?_ | omega)
 all_goals (refine Av.Fin.less (H' := H) (by first | with_reducible exact Heap.Le.refl _ | exact heap_le_set (by assumption) | exact (heap_le_set (by assumption)).trans (heap_le_set (by assumption)) | exact (heap_le_set (by assumption)).trans ((heap_le_set (by assumption)).trans (heap_le_set (by assumption))) | exact (by simp only [Go.Av.Heap.Le, Go.Av.Heap.set, Go.Av.Heap.del] at * <;> grind)) ?_; first | exact h | (simp_all; done) | simpa [*] using h)
theorem rSame_a {Q} (a b : Tm) (ha : TmFit a) (hb : TmFit b) (H : Heap) (h : Q (.bool (eqT a b)) H) : ACalls Tryz.prog 60 [.agg (tmC a), .agg (tmC b)] H Q := same_n _ a b (Nat.le_refl _) ha hb H h
theorem rSameList_a {Q} (l m : List Tm) (hl : l.length ≤ 1466015503658) (hm : m.length ≤ 1466015503658) (fl : ∀ a ∈ l, TmFit a) (fm : ∀ a ∈ m, TmFit a) (H : Heap) (h : Q (.bool (eqL l m)) H) : ACalls Tryz.prog 58 [.sl 6 (Rw tmC l), .sl 6 (Rw tmC m)] H Q :=
 sameList_w l m hl hm H (fun a ha Q b H hb h => rSame_a a b (fl a ha) (fm b hb) H h) h
theorem equalF_w {Q} (l m : List Tm) (hl : l.length ≤ 1466015503658) (hm : m.length ≤ 1466015503658) (H : Heap)
  (hS : ∀ a ∈ l, ∀ (Q : D → Heap → Prop) (b : Tm) (H : Heap), b ∈ m → Q (.bool (eqT a b)) H → ACalls Tryz.prog 77 [.agg (tmC a), .agg (tmC b)] H Q) (h : Q (.bool (eqL l m)) H) :
  ACalls Tryz.prog 96 [.sl 6 (Rw tmC l), .sl 6 (Rw tmC m), .fn (.func 77) [] []] H Q := by
 refine acalls_of_wp [] Tryz.mixed Tryz.func96 rfl (by kernel_rfl) (of_decide_eq_true (by kernel_rfl)) (by kernel_rfl) ?_
 simp only [go_sem,seval, Tryz.results96]
 by_cases hn : l.length = m.length
 ·have hnd : (l.length : Int) = m.length := by omega
  repeat' (first | with_reducible refine And.intro ?_ ?_ | simp only [go_sem,seval, hnd] | simp (disch := omega) only [wrap64, cell_at, Rw_at] | simp (disch := first | omega | grind) only [heap_ne_, del_ne] | (intro hx_; try simp only [set_none] at hx_) | omega)
  refine loop_c [1, 2, 15, 16] (fun (k : Nat) => [(17, .int .i64 k)]) (fun (k : Nat) => H) (fun (k : Nat) => k ≤ l.length ∧ eqL (l.drop k) (m.drop k) = eqL l m) (fun (k : Nat) => l.length - k) (0) (⟨Nat.zero_le _, by simp⟩) (by (try simp only [go_sem,seval]) <;> (try simp (disch := omega) [wrap64]) <;> (try omega)) (by first | with_reducible exact Heap.Le.refl _ | exact heap_set_le (by assumption) | exact Heap.Le.refl _ | exact heap_le_set (by assumption) | exact (by simp only [Go.Av.Heap.Le, Go.Av.Heap.set, Go.Av.Heap.del] at * <;> grind)) ?_
  rintro Ec rfl k ⟨hk, hp⟩
  rw [← hp] at h
  by_cases hlt : k < l.length
  ·have hlm : k < m.length := by omega
   rw [eqL_drop l m k hlt hlm] at h hp
   have hkd : decide ((k : Int) < l.length) = true := decide_eq_true (by omega)
   repeat' (first | with_reducible refine And.intro ?_ ?_ | simp only [go_sem,seval, hkd, Rw_at _ _ hlt, Rw_at _ _ hlm] | simp (disch := omega) only [wrap64, cell_at, Rw_at] | simp (disch := first | omega | grind) only [heap_ne_, del_ne] | (intro hx_; try simp only [set_none] at hx_) | with_reducible refine hS l[k] (List.getElem_mem hlt) _ m[k] _ (List.getElem_mem hlm) ?_ | omega)
   all_goals first
    | (refine Av.Fin.less (H' := H) (by first | with_reducible exact Heap.Le.refl _ | exact heap_le_set (by assumption) | exact (heap_le_set (by assumption)).trans (heap_le_set (by assumption)) | exact (heap_le_set (by assumption)).trans ((heap_le_set (by assumption)).trans (heap_le_set (by assumption))) | exact (by simp only [Go.Av.Heap.Le, Go.Av.Heap.set, Go.Av.Heap.del] at * <;> grind)) ?_; first | exact h | (simp_all; done) | simpa [*] using h)
    | exact nx_mk (k + 1) ⟨by omega, by simp_all⟩ (by omega) (by (try simp only [go_sem,seval]) <;> (try simp (disch := omega) [wrap64]) <;> (try omega)) (by simp only [Go.Av.Heap.Le, Go.Av.Heap.set, Go.Av.Heap.del] at * <;> grind)
  ·have hkd : decide ((k : Int) < l.length) = false := decide_eq_false (by omega)
   rw [List.drop_eq_nil_of_le (by omega), List.drop_eq_nil_of_le (by omega), eqL] at h
   repeat' (first | with_reducible refine And.intro ?_ ?_ | simp only [go_sem,seval, hkd] | simp (disch := omega) only [wrap64, cell_at, Rw_at] | simp (disch := first | omega | grind) only [heap_ne_, del_ne] | (intro hx_; try simp only [set_none] at hx_) | omega)
   exact Fin.same h
 ·have hnd : ¬ (l.length : Int) = m.length := by omega
  rw [eqL_len l m hn] at h
  repeat' (first | with_reducible refine And.intro ?_ ?_ | simp only [go_sem,seval, hnd] | simp (disch := omega) only [wrap64, cell_at, Rw_at] | simp (disch := first | omega | grind) only [heap_ne_, del_ne] | (intro hx_; try simp only [set_none] at hx_) | omega)
  exact Fin.same h
theorem tsame_n (n : Nat) : ∀ {Q} (a b : Tm) (hn : SizeOf.sizeOf a ≤ n) (ha : TmFit a) (hb : TmFit b) (H : Heap) (h : Q (.bool (eqT a b)) H), ACalls Tryz.prog 77 [.agg (tmC a), .agg (tmC b)] H Q := by
 induction n with
 | zero => intro Q a b hn; cases a; simp at hn
 | succ n ih =>
 intro Q a b hn ha hb H h
 refine acalls_of_wp [] Tryz.mixed Tryz.func77 rfl (by kernel_rfl) (of_decide_eq_true (by kernel_rfl)) (by kernel_rfl) ?_
 simp only [go_sem,seval, Tryz.results77]
 rw [eqT_eq] at h
 repeat' (first | with_reducible refine And.intro ?_ ?_ | simp only [go_sem,seval] | simp (disch := omega) only [wrap64, cell_at] | simp (disch := first | omega | grind) only [heap_ne_, del_ne] | (intro hx_; try simp only [set_none] at hx_) | with_reducible refine equalF_w a.kids b.kids ha.hkl hb.hkl _ (fun x hx Q y H hy h => ih x y (by have := kids_lt hx; omega) (ha.kid x hx) (hb.kid y hy) H h) ?_ | with_reducible refine equalF_w a.rest b.rest ha.hrl hb.hrl _ (fun x hx Q y H hy h => ih x y (by have := rest_lt hx; omega) (ha.res x hx) (hb.res y hy) H h) ?_ | omega)
 all_goals (refine Av.Fin.less (H' := H) (by first | with_reducible exact Heap.Le.refl _ | exact heap_le_set (by assumption) | exact (heap_le_set (by assumption)).trans (heap_le_set (by assumption)) | exact (heap_le_set (by assumption)).trans ((heap_le_set (by assumption)).trans (heap_le_set (by assumption))) | exact (by simp only [Go.Av.Heap.Le, Go.Av.Heap.set, Go.Av.Heap.del] at * <;> grind)) ?_; first | exact h | (simp_all; done) | simpa [*] using h)
theorem same_a {Q} (a b : Tm) (ha : TmFit a) (hb : TmFit b) (H : Heap) (h : Q (.bool (eqT a b)) H) : ACalls Tryz.prog 77 [.agg (tmC a), .agg (tmC b)] H Q := tsame_n _ a b (Nat.le_refl _) ha hb H h
end Go.Proofs.YtmohcdihdhggoaaGreatDoor
end
section
set_option maxRecDepth 20000
namespace Go.Bis
open Go Go.Av Go.Lexs
mutual
def formedR : Tm → Int → Int → Bool × Int
 | .mk k n x s ks rs, deep, L => if L - (1 + rs.length) < 0 ∨ deep < 1 ∨ (0 < rs.length ∧ deep < 2) ∨ nodeS (.mk k n x s ks rs) = false then (false, L - (1 + rs.length)) else formedL ks (deep - 1) (L - (1 + rs.length))
def formedL : List Tm → Int → Int → Bool × Int
 | [], _, L => (true, L)
 | t :: ts, d, L => if (formedR t d L).1 = true then formedL ts d (formedR t d L).2 else (false, (formedR t d L).2)
end
theorem formedR_eq (t : Tm) (deep L : Int) : formedR t deep L = if L - (1 + t.rest.length) < 0 ∨ deep < 1 ∨ (0 < t.rest.length ∧ deep < 2) ∨ nodeS t = false then (false, L - (1 + t.rest.length)) else formedL t.kids (deep - 1) (L - (1 + t.rest.length)) := by
 cases t; rw [formedR]; rfl
theorem formedL_cons (t : Tm) (ts : List Tm) (d L : Int) : formedL (t :: ts) d L = if (formedR t d L).1 = true then formedL ts d (formedR t d L).2 else (false, (formedR t d L).2) := by rw [formedL]
mutual
theorem formedR_le : ∀ (t : Tm) (d L : Int), (formedR t d L).2 ≤ L ∧ ((formedR t d L).1 = true → 0 ≤ (formedR t d L).2)
 | .mk k n x s ks rs, d, L => by
  rw [formedR]
  split
  ·exact ⟨by simp; omega, by simp⟩
  ·rename_i h
   simp only [not_or] at h
   have := formedL_le ks (d - 1) (L - (1 + rs.length)) (by omega)
   exact ⟨by omega, this.2⟩
theorem formedL_le : ∀ (l : List Tm) (d L : Int), 0 ≤ L → (formedL l d L).2 ≤ L ∧ ((formedL l d L).1 = true → 0 ≤ (formedL l d L).2)
 | [], d, L, h => by rw [formedL]; exact ⟨Int.le_refl _, fun _ => h⟩
 | t :: ts, d, L, h => by
  rw [formedL]
  have h1 := formedR_le t d L
  split
  ·rename_i h2
   have := formedL_le ts d _ (h1.2 h2)
   exact ⟨by omega, this.2⟩
  ·exact ⟨h1.1, by simp⟩
end
def validT (t : Tm) : Bool := (formedR t 60 2000).1
end Go.Bis
namespace Go.Proofs.YtmohcdihdhggoaaGreatDoor
open Go Go.Av Go.Lexs Go.Bis
attribute [local irreducible] ACalls at8
theorem formed_n (n : Nat) : ∀ {Q} (t : Tm) (hn : SizeOf.sizeOf t ≤ n) (ht : TmFit t) (deep L : Int) (h0 : 0 ≤ L) (h1 : L ≤ 2000) (h2 : 0 ≤ deep) (h3 : deep ≤ 60) (b : Nat) (H : Heap) (hb : H b = some (.box [.int .i64 L])) (h : Q (.bool (formedR t deep L).1) (H.set b (.box [.int .i64 (formedR t deep L).2]))),
    ACalls Tryz.prog 73 [.agg (tmC t), .int .i64 deep, .box b 0] H Q := by
  induction n with
  | zero => intro Q t hn; cases t; simp at hn
  | succ n ih =>
  intro Q t hn ht deep L h0 h1 h2 h3 b H hb h
  refine acalls_of_wp [] Tryz.mixed Tryz.func73 rfl (by kernel_rfl) (of_decide_eq_true (by kernel_rfl)) (by kernel_rfl) ?_
  simp only [go_sem,seval, Tryz.results73]
  have hr := ht.hrl
  have hk := ht.hkl
  rw [formedR_eq] at h
  have hw : IntKind.i64.wrap (1 + (t.rest.length : Int)) = 1 + (t.rest.length : Int) := wrap64 (by omega) (by omega)
  have hw2 : IntKind.i64.wrap (L - (1 + (t.rest.length : Int))) = L - (1 + (t.rest.length : Int)) := wrap64 (by omega) (by omega)
  repeat' (first | with_reducible refine And.intro ?_ ?_ | simp only [go_sem,seval, hb, hw, hw2] | simp (disch := omega) only [wrap64, cell_at, Rw_at] | simp (disch := first | omega | grind) only [heap_ne_, del_ne] | (intro hx_; try simp only [set_none] at hx_) | with_reducible refine node_a _ ht _ ?_ | omega)
  all_goals first
    | (refine Av.Fin.less (H' := H.set b (.box [.int .i64 (L - (1 + (t.rest.length : Int)))])) (by first | with_reducible exact Heap.Le.refl _ | exact heap_le_set (by assumption) | exact (heap_le_set (by assumption)).trans (heap_le_set (by assumption)) | exact (heap_le_set (by assumption)).trans ((heap_le_set (by assumption)).trans (heap_le_set (by assumption))) | exact (by simp only [Go.Av.Heap.Le, Go.Av.Heap.set, Go.Av.Heap.del] at * <;> grind)) ?_; first | exact h | (simp_all; done) | simpa [*] using h)
    | (rw [if_neg (by simp_all; try omega)] at h
       refine loop_c [1, 2, 42, 43] (fun (p : Nat × Int) => [(44, .int .i64 p.1)]) (fun (p : Nat × Int) => H.set b (.box [.int .i64 p.2])) (fun (p : Nat × Int) => p.1 ≤ t.kids.length ∧ 0 ≤ p.2 ∧ p.2 ≤ 2000 ∧ formedL (t.kids.drop p.1) (deep - 1) p.2 = formedL t.kids (deep - 1) (L - (1 + (t.rest.length : Int)))) (fun (p : Nat × Int) => t.kids.length - p.1) ((0, L - (1 + (t.rest.length : Int)))) (⟨Nat.zero_le _, by simp; omega, by simp; omega, by simp⟩) (by (try simp only [go_sem,seval]) <;> (try simp (disch := omega) [wrap64]) <;> (try omega)) (by first | with_reducible exact Heap.Le.refl _ | exact heap_set_le (by assumption) | exact Heap.Le.refl _ | exact heap_le_set (by assumption) | exact (by simp only [Go.Av.Heap.Le, Go.Av.Heap.set, Go.Av.Heap.del] at * <;> grind)) ?_
       rintro Ec rfl ⟨k, M⟩ ⟨q1, q2, q3, q4⟩
       simp only at q1 q2 q3 q4
       rw [← q4] at h
       by_cases hlt : k < t.kids.length
       · rw [List.drop_eq_getElem_cons hlt, formedL_cons] at h q4
         have hkm : t.kids[k] ∈ t.kids := List.getElem_mem hlt
         have hle := formedR_le t.kids[k] (deep - 1) M
         have hkd : decide ((k : Int) < t.kids.length) = true := decide_eq_true (by omega)
         have hw3 : IntKind.i64.wrap (deep - 1) = deep - 1 := wrap64 (by omega) (by omega)
         repeat' (first | with_reducible refine And.intro ?_ ?_ | simp only [go_sem,seval, hkd, hb, hw3, Rw_at _ _ hlt] | simp (disch := omega) only [wrap64, cell_at, Rw_at] | simp (disch := first | omega | grind) only [heap_ne_, del_ne] | (intro hx_; try simp only [set_none] at hx_) | with_reducible refine ih t.kids[k] (by have := kids_lt hkm; omega) (ht.kid _ hkm) _ _ q2 q3 (by omega) (by omega) b _ (by rw [heap_ne_ _ (by grind)]; exact heap_same _ _) ?_ | omega)
         all_goals first
           | (refine Av.Fin.less (H' := H.set b (.box [.int .i64 (formedR t.kids[k] (deep - 1) M).2])) (by first | with_reducible exact Heap.Le.refl _ | exact heap_le_set (by assumption) | exact (heap_le_set (by assumption)).trans (heap_le_set (by assumption)) | exact (heap_le_set (by assumption)).trans ((heap_le_set (by assumption)).trans (heap_le_set (by assumption))) | exact (by simp only [Go.Av.Heap.Le, Go.Av.Heap.set, Go.Av.Heap.del] at * <;> grind)) ?_; first | exact h | (simp_all; done) | simpa [*] using h)
           | (have ht1 : (formedR t.kids[k] (deep - 1) M).1 = true := by assumption
              rw [if_pos ht1] at q4
              exact nx_mk (k + 1, (formedR t.kids[k] (deep - 1) M).2) ⟨by simp only []; omega, hle.2 ht1, by simp only []; omega, q4⟩ (by simp only []; omega) (by (try simp only [go_sem,seval]) <;> (try simp (disch := omega) [wrap64]) <;> (try omega)) (by simp only [Go.Av.Heap.Le, Go.Av.Heap.set, Go.Av.Heap.del] at * <;> grind))
       · have hkd : decide ((k : Int) < t.kids.length) = false := decide_eq_false (by omega)
         rw [List.drop_eq_nil_of_le (by omega), formedL] at h
         repeat' (first | with_reducible refine And.intro ?_ ?_ | simp only [go_sem,seval, hkd] | simp (disch := omega) only [wrap64, cell_at, Rw_at] | simp (disch := first | omega | grind) only [heap_ne_, del_ne] | (intro hx_; try simp only [set_none] at hx_) | omega)
         exact Fin.same h)
theorem formed_a {Q} (t : Tm) (ht : TmFit t) (deep L : Int) (h0 : 0 ≤ L) (h1 : L ≤ 2000) (h2 : 0 ≤ deep) (h3 : deep ≤ 60) (b : Nat) (H : Heap) (hb : H b = some (.box [.int .i64 L])) (h : Q (.bool (formedR t deep L).1) (H.set b (.box [.int .i64 (formedR t deep L).2]))) :
  ACalls Tryz.prog 73 [.agg (tmC t), .int .i64 deep, .box b 0] H Q := formed_n _ t (Nat.le_refl _) ht deep L h0 h1 h2 h3 b H hb h
theorem rValid_a {Q} (t : Tm) (ht : TmFit t) (H : Heap) (h : Q (.bool (validT t)) H) : ACalls Tryz.prog 45 [.agg (tmC t)] H Q := by
 refine acalls_of_wp [] Tryz.mixed Tryz.func45 rfl (by kernel_rfl) (of_decide_eq_true (by kernel_rfl)) (by kernel_rfl) ?_
 simp only [go_sem,seval, Tryz.results45]
 repeat' (first | with_reducible refine And.intro ?_ ?_ | simp only [go_sem,seval] | simp (disch := omega) only [wrap64, cell_at] | simp (disch := first | omega | grind) only [heap_ne_, del_ne] | (intro hx_; try simp only [set_none] at hx_) | with_reducible refine formed_a t ht 60 2000 (by omega) (by omega) (by omega) (by omega) _ _ (heap_same _ _) ?_ | omega)
 (refine Av.Fin.less (H' := H) (by first | with_reducible exact Heap.Le.refl _ | exact heap_le_set (by assumption) | exact (heap_le_set (by assumption)).trans (heap_le_set (by assumption)) | exact (heap_le_set (by assumption)).trans ((heap_le_set (by assumption)).trans (heap_le_set (by assumption))) | exact (by simp only [Go.Av.Heap.Le, Go.Av.Heap.set, Go.Av.Heap.del] at * <;> grind)) ?_; first | exact h | (simp_all; done) | simpa [*] using h)
end Go.Proofs.YtmohcdihdhggoaaGreatDoor
end
section
set_option maxRecDepth 20000
namespace Go.Proofs.YtmohcdihdhggoaaGreatDoor
open Go Go.Av Go.Lexs Go.Bis
attribute [local irreducible] ACalls at8
set_option maxHeartbeats 4000000 in
theorem shape_w {Q} (t : Tm) (ht : TmFit t) (H : Heap) (hR : t.kind = 7 ∨ t.kind = 8 → ∀ (Q : D → Heap → Prop) (sort : ByteArray) (H : Heap), isName (B sort) = true → Q (.bool (restS t (B sort))) H → ACalls Tryz.prog 120 [.agg (tmC t), .str sort] H Q) (h : Q (.bool (shapeS t)) H) :
  ACalls Tryz.prog 91 [.agg (tmC t)] H Q := by
 refine acalls_of_wp [(19, .rd true)] Tryz.mixed Tryz.func91 rfl (by kernel_rfl) (of_decide_eq_true (by kernel_rfl)) (by kernel_rfl) ?_
 simp only [go_sem,seval, Tryz.results91]
 have hx := ht.hx
 have hs := ht.hs
 unfold shapeS at h
 simp only [leafS, cleanS, isOpen] at h
 by_cases h6 : t.kind = 6
 ·simp only [h6, reduceIte, Int.reduceEq] at h
  intro b1 hb1 b3 hb3
  simp only [set_none] at hb3
  repeat' (first | with_reducible refine And.intro ?_ ?_ | simp only [go_sem,seval, h6] | simp (disch := omega) only [wrap64, cell_at] | simp (disch := first | omega | grind) only [heap_ne_, del_ne] | (intro hx_; try simp only [set_none] at hx_) | omega)
  all_goals refine race_mk [b1] (by intro k hk; simp at hk; subst hk; rw [heap_ne_ _ (by omega)]; simp [Heap.set]) ?_
  all_goals
   have hm3 : b3 ∉ [b1] := by simp; omega
   have hm1 : b1 ∈ [b1] := by simp
   have h13 : b1 ≠ b3 := by omega
   repeat' (first | with_reducible refine And.intro ?_ ?_ | simp only [go_sem,seval, minus_out hm3, heap_ne_ _ h13, hm1] | simp (disch := omega) only [wrap64, cell_at] | simp (disch := first | omega | grind) only [heap_ne_, del_ne] | (intro hx_; try simp only [set_none] at hx_) | with_reducible apply isInt_a | with_reducible apply isString_a | with_reducible apply isId_a | with_reducible apply isOp_a | with_reducible apply isName_a | omega)
  all_goals (refine Av.Fin.less (H' := H) (by first | with_reducible exact Heap.Le.refl _ | exact heap_le_set (by assumption) | exact (heap_le_set (by assumption)).trans (heap_le_set (by assumption)) | exact (heap_le_set (by assumption)).trans ((heap_le_set (by assumption)).trans (heap_le_set (by assumption))) | exact (by simp only [Go.Av.Heap.Le, Go.Av.Heap.set, Go.Av.Heap.del] at * <;> grind)) ?_; first | exact h | (simp_all [listB, mapB, anyB]; done) | simpa [*, listB, mapB, anyB] using h)
 ·repeat' (first | with_reducible refine And.intro ?_ ?_ | simp only [go_sem,seval, h6] | simp (disch := omega) only [wrap64, cell_at] | simp (disch := first | omega | grind) only [heap_ne_, del_ne] | (intro hx_; try simp only [set_none] at hx_) | with_reducible apply isInt_a | with_reducible apply isString_a | with_reducible apply isId_a | with_reducible apply isOp_a | with_reducible apply isName_a | omega)
  all_goals try refine hR (by omega) _ _ _ (by decide +kernel) ?_
  repeat' (first | with_reducible refine And.intro ?_ ?_ | simp only [go_sem,seval] | simp (disch := omega) only [wrap64, cell_at] | simp (disch := first | omega | grind) only [heap_ne_, del_ne] | (intro hx_; try simp only [set_none] at hx_) | with_reducible apply isInt_a | with_reducible apply isString_a | with_reducible apply isId_a | with_reducible apply isOp_a | with_reducible apply isName_a | omega)
  all_goals (refine Av.Fin.less (H' := H) (by first | with_reducible exact Heap.Le.refl _ | exact heap_le_set (by assumption) | exact (heap_le_set (by assumption)).trans (heap_le_set (by assumption)) | exact (heap_le_set (by assumption)).trans ((heap_le_set (by assumption)).trans (heap_le_set (by assumption))) | exact (by simp only [Go.Av.Heap.Le, Go.Av.Heap.set, Go.Av.Heap.del] at * <;> grind)) ?_; first | exact h | (simp_all [listB, mapB, anyB]; done) | simpa [*, listB, mapB, anyB] using h)
end Go.Proofs.YtmohcdihdhggoaaGreatDoor
end
section
set_option maxRecDepth 20000
namespace Go.Proofs.YtmohcdihdhggoaaGreatDoor
open Go Go.Av Go.Lexs Go.Bis
attribute [local irreducible] ACalls at8
theorem rest_one (r : Tm) (sort : List UInt8) (hs : isName sort = true) : (decide (r.kind = 6) && isName (B r.text) && decide (B r.sort = sort) && zeroS r false true true false false) = (decide (r.kind = 6) && shapeS r && isName (B r.text) && decide (B r.sort = sort)) := by
 have e1 : ∀ l : List Tm, decide ((l.length : Int) = 0) = decide (l.length = 0) := fun l => decide_eq_decide.2 (by omega)
 by_cases h1 : r.kind = 6
 ·by_cases h2 : isName (B r.text) = true
  ·by_cases h3 : B r.sort = sort
   ·subst h3
    simp [h1, h2, hs, shapeS, zeroS, leafS, cleanS, e1, Bool.and_assoc, Bool.and_comm, Bool.and_left_comm]
   ·simp [h3]
  ·simp [h2]
 ·simp [h1]
theorem isRest_a {Q} (t : Tm) (ht : TmFit t) (sort : ByteArray) (hso : isName (B sort) = true) (H : Heap) (h : Q (.bool (restS t (B sort))) H) : ACalls Tryz.prog 120 [.agg (tmC t), .str sort] H Q := by
 refine acalls_of_wp [] Tryz.mixed Tryz.func120 rfl (by kernel_rfl) (of_decide_eq_true (by kernel_rfl)) (by kernel_rfl) ?_
 simp only [go_sem,seval, Tryz.results120]
 unfold restS at h
 match hr : t.rest with
 | [] =>
  simp only [hr] at h
  repeat' (first | with_reducible refine And.intro ?_ ?_ | simp only [go_sem,seval, hr, List.length_nil] | simp (disch := omega) only [wrap64, cell_at, Rw_at] | simp (disch := first | omega | grind) only [heap_ne_, del_ne] | (intro hx_; try simp only [set_none] at hx_) | omega)
  (refine Av.Fin.less (H' := H) (by first | with_reducible exact Heap.Le.refl _ | exact heap_le_set (by assumption) | exact (heap_le_set (by assumption)).trans (heap_le_set (by assumption)) | exact (heap_le_set (by assumption)).trans ((heap_le_set (by assumption)).trans (heap_le_set (by assumption))) | exact (by simp only [Go.Av.Heap.Le, Go.Av.Heap.set, Go.Av.Heap.del] at * <;> grind)) ?_; first | exact h | (simp_all; done) | simpa [*] using h)
 | [r] =>
  simp only [hr] at h
  rw [rest_one r (B sort) hso] at h
  have hrf := ht.res r (by simp [hr])
  have hf := hrf.hx
  repeat' (first | with_reducible refine And.intro ?_ ?_ | simp only [go_sem,seval, hr, List.length_cons, List.length_nil] | simp (disch := omega) only [wrap64, cell_at, Rw_at] | simp (disch := first | omega | grind) only [heap_ne_, del_ne] | (intro hx_; try simp only [set_none] at hx_) | with_reducible refine isName_a _ _ ?_ | with_reducible refine shape_w r hrf _ (fun h => absurd h (by omega)) ?_ | omega)
  all_goals (refine Av.Fin.less (H' := H) (by first | with_reducible exact Heap.Le.refl _ | exact heap_le_set (by assumption) | exact (heap_le_set (by assumption)).trans (heap_le_set (by assumption)) | exact (heap_le_set (by assumption)).trans ((heap_le_set (by assumption)).trans (heap_le_set (by assumption))) | exact (by simp only [Go.Av.Heap.Le, Go.Av.Heap.set, Go.Av.Heap.del] at * <;> grind)) ?_; first | exact h | (simp_all; done) | simpa [*] using h)
 | r :: r' :: rs =>
  simp only [hr] at h
  have hl : ¬ ((rs.length + 1 + 1 : Nat) : Int) = 1 := by omega
  repeat' (first | with_reducible refine And.intro ?_ ?_ | simp only [go_sem,seval, hr, List.length_cons, hl] | simp (disch := omega) only [wrap64, cell_at, Rw_at] | simp (disch := first | omega | grind) only [heap_ne_, del_ne] | (intro hx_; try simp only [set_none] at hx_) | omega)
  all_goals (refine Av.Fin.less (H' := H) (by first | with_reducible exact Heap.Le.refl _ | exact heap_le_set (by assumption) | exact (heap_le_set (by assumption)).trans (heap_le_set (by assumption)) | exact (heap_le_set (by assumption)).trans ((heap_le_set (by assumption)).trans (heap_le_set (by assumption))) | exact (by simp only [Go.Av.Heap.Le, Go.Av.Heap.set, Go.Av.Heap.del] at * <;> grind)) ?_; first | exact h | (simp_all; done) | simpa [*] using h)
theorem shape_a {Q} (t : Tm) (ht : TmFit t) (H : Heap) (h : Q (.bool (nodeS t)) H) : ACalls Tryz.prog 91 [.agg (tmC t)] H Q :=
 shape_w t ht H (fun _ Q sort H hs h => isRest_a t ht sort hs H h) (by rw [shapeS_node]; exact h)
end Go.Proofs.YtmohcdihdhggoaaGreatDoor
end
section
set_option maxRecDepth 20000
namespace Go.Bis
open Go Go.Av Go.Lexs
def restR : Nat → Int → Int × Bool → Int × Bool
 | 0, _, m => m
 | n + 1, d, m => restR n d (m.1 + 1, m.2 && decide (d < 60) && decide (m.1 + 1 ≤ 2000))
mutual
def lookR : Tm → Int → Int → Int × Bool
 | .mk k n x s ks rs, d, m => if d ≤ 60 ∧ m + 1 ≤ 2000 ∧ nodeS (.mk k n x s ks rs) = true then (if (lookL ks (d + 1) (m + 1)).2 = true then restR rs.length d (lookL ks (d + 1) (m + 1)) else lookL ks (d + 1) (m + 1)) else (m + 1, false)
def lookL : List Tm → Int → Int → Int × Bool
 | [], _, m => (m, true)
 | t :: ts, d, m => if (lookR t d m).2 = true then lookL ts d (lookR t d m).1 else lookR t d m
end
theorem lookR_eq (t : Tm) (d m : Int) : lookR t d m = if d ≤ 60 ∧ m + 1 ≤ 2000 ∧ nodeS t = true then (if (lookL t.kids (d + 1) (m + 1)).2 = true then restR t.rest.length d (lookL t.kids (d + 1) (m + 1)) else lookL t.kids (d + 1) (m + 1)) else (m + 1, false) := by
 cases t; rw [lookR]; rfl
theorem lookL_cons (t : Tm) (ts : List Tm) (d m : Int) : lookL (t :: ts) d m = if (lookR t d m).2 = true then lookL ts d (lookR t d m).1 else lookR t d m := by rw [lookL]
theorem node_rest {t : Tm} (h : nodeS t = true) : t.rest.length ≤ 1 := by
 have key : ∀ s, restS t s = true → t.rest.length ≤ 1 := fun s hs => by
  unfold restS at hs
  split at hs
  ·rename_i e; rw [e]; simp
  ·rename_i e; rw [e]; simp
  ·cases hs
 have kz : ∀ a b c d, zeroS t a b c d false = true → t.rest.length ≤ 1 := fun a b c d hz => by
  unfold zeroS at hz
  simp at hz
  rw [hz.2]; simp
 unfold nodeS at h
 repeat' split at h
 all_goals first
  | (simp only [Bool.and_eq_true] at h; first | exact kz _ _ _ _ h.2 | exact key _ h.1 | exact key _ h.1.1)
  | cases h
mutual
def nodesT : Tm → Int
 | .mk k n x s ks rs => 1 + rs.length + nodesL ks
def nodesL : List Tm → Int
 | [] => 0
 | t :: ts => nodesT t + nodesL ts
end
mutual
def goodT : Tm → Int → Bool
 | .mk k n x s ks rs, d => decide (1 ≤ d) && (decide (rs.length = 0) || decide (2 ≤ d)) && nodeS (.mk k n x s ks rs) && goodL ks (d - 1)
def goodL : List Tm → Int → Bool
 | [], _ => true
 | t :: ts, d => goodT t d && goodL ts d
end
mutual
theorem nodesT_pos : ∀ t : Tm, 1 ≤ nodesT t
 | .mk k n x s ks rs => by rw [nodesT]; have := nodesL_pos ks; omega
theorem nodesL_pos : ∀ l : List Tm, 0 ≤ nodesL l
 | [] => by rw [nodesL]; omega
 | t :: ts => by rw [nodesL]; have := nodesT_pos t; have := nodesL_pos ts; omega
end
mutual
theorem formed_good : ∀ (t : Tm) (d L : Int), (formedR t d L).1 = (goodT t d && decide (nodesT t ≤ L)) ∧ ((formedR t d L).1 = true → (formedR t d L).2 = L - nodesT t)
 | .mk k n x s ks rs, d, L => by
  rw [formedR, goodT, nodesT]
  have hp := nodesL_pos ks
  split
  ·rename_i h
   refine ⟨?_, by simp⟩
   symm
   rw [Bool.eq_false_iff]
   intro hh
   simp only [Bool.and_eq_true, Bool.or_eq_true, decide_eq_true_eq] at hh
   obtain ⟨⟨⟨⟨h1, h2⟩, h3⟩, h4⟩, h5⟩ := hh
   rcases h with h | h | h | h
   ·omega
   ·omega
   ·omega
   ·rw [h3] at h; cases h
  ·rename_i h
   simp only [not_or, Bool.not_eq_false] at h
   obtain ⟨a1, a2, a3, a4⟩ := h
   obtain ⟨h1, h2⟩ := formedL_good ks (d - 1) (L - (1 + rs.length)) (by omega)
   refine ⟨?_, fun h => by rw [h2 h]; omega⟩
   rw [h1, a4]
   have e1 : decide (1 ≤ d) = true := decide_eq_true (by omega)
   have e2 : (decide (rs.length = 0) || decide (2 ≤ d)) = true := by simp only [Bool.or_eq_true, decide_eq_true_eq]; omega
   have e3 : decide (nodesL ks ≤ L - (1 + rs.length)) = decide (1 + ↑rs.length + nodesL ks ≤ L) := decide_eq_decide.2 (by omega)
   rw [e1, e2, e3]; simp
theorem formedL_good : ∀ (l : List Tm) (d L : Int), 0 ≤ L → (formedL l d L).1 = (goodL l d && decide (nodesL l ≤ L)) ∧ ((formedL l d L).1 = true → (formedL l d L).2 = L - nodesL l)
 | [], d, L, h => by rw [formedL, goodL, nodesL]; exact ⟨by simp; omega, fun _ => by omega⟩
 | t :: ts, d, L, h => by
  rw [formedL, goodL, nodesL]
  obtain ⟨h1, h2⟩ := formed_good t d L
  have hp := nodesL_pos ts
  split
  ·rename_i ht
   have h3 := h2 ht
   rw [ht] at h1
   have h1 := h1.symm
   simp only [Bool.and_eq_true, decide_eq_true_eq] at h1
   obtain ⟨h4, h5⟩ := formedL_good ts d (formedR t d L).2 (by omega)
   refine ⟨?_, fun h => by rw [h5 h]; omega⟩
   rw [h4, h1.1, h3]
   have : decide (nodesL ts ≤ L - nodesT t) = decide (nodesT t + nodesL ts ≤ L) := decide_eq_decide.2 (by omega)
   rw [this]; simp
  ·rename_i ht
   refine ⟨?_, by simp⟩
   symm
   rw [Bool.eq_false_iff]
   intro hh
   simp only [Bool.and_eq_true, decide_eq_true_eq] at hh
   apply ht
   rw [h1]
   simp only [Bool.and_eq_true, decide_eq_true_eq]
   exact ⟨hh.1.1, by omega⟩
end
mutual
theorem look_good : ∀ (t : Tm) (d m : Int), (lookR t d m).2 = (goodT t (61 - d) && decide (m + nodesT t ≤ 2000)) ∧ ((lookR t d m).2 = true → (lookR t d m).1 = m + nodesT t)
 | .mk k n x s ks rs, d, m => by
  rw [lookR, goodT, nodesT]
  have hp := nodesL_pos ks
  obtain ⟨h1, h2⟩ := lookL_good ks (d + 1) (m + 1)
  have e61 : 61 - (d + 1) = 61 - d - 1 := by omega
  rw [e61] at h1
  split
  ·rename_i h
   obtain ⟨a1, a2, a3⟩ := h
   have hr := node_rest a3
   simp only [Tm.rest] at hr
   have e1 : decide (1 ≤ 61 - d) = true := decide_eq_true (by omega)
   split
   ·rename_i hL
    have h3 := h2 hL
    rw [hL] at h1
    have h1 := h1.symm
    simp only [Bool.and_eq_true, decide_eq_true_eq] at h1
    match rs, hr with
    | [], _ =>
     simp only [List.length_nil, restR, hL]
     refine ⟨?_, fun _ => by rw [h3]; simp; omega⟩
     rw [a3, h1.1, e1]
     have : m + 1 + nodesL ks ≤ 2000 := by rcases h1.2 with h | h; exact h; rw [h, nodesL]; omega
     simp
     omega
    | [r], _ =>
     simp only [List.length_cons, List.length_nil, Nat.zero_add, restR, hL, Bool.true_and]
     rw [h3]
     refine ⟨?_, fun _ => by simp; omega⟩
     rw [a3, h1.1, e1]
     have e4 : decide (d < 60) = decide (2 ≤ 61 - d) := decide_eq_decide.2 (by omega)
     have e5 : decide (m + 1 + nodesL ks + 1 ≤ 2000) = decide (m + (1 + ((1 : Nat) : Int) + nodesL ks) ≤ 2000) := decide_eq_decide.2 (by omega)
     rw [e4, e5]
     simp
    | _ :: _ :: _, hr => simp at hr
   ·rename_i hL
    refine ⟨?_, fun h => absurd h hL⟩
    rw [Bool.eq_false_iff.2 hL]
    symm
    rw [Bool.eq_false_iff]
    intro hh
    simp only [Bool.and_eq_true, Bool.or_eq_true, decide_eq_true_eq] at hh
    obtain ⟨⟨⟨⟨g1, g2⟩, g3⟩, g4⟩, g5⟩ := hh
    apply hL
    rw [h1]
    simp only [Bool.and_eq_true, decide_eq_true_eq]
    exact ⟨g4, by omega⟩
  ·rename_i h
   refine ⟨?_, by simp⟩
   symm
   rw [Bool.eq_false_iff]
   intro hh
   simp only [Bool.and_eq_true, Bool.or_eq_true, decide_eq_true_eq] at hh
   obtain ⟨⟨⟨⟨g1, g2⟩, g3⟩, g4⟩, g5⟩ := hh
   exact h ⟨by omega, by omega, g3⟩
theorem lookL_good : ∀ (l : List Tm) (d m : Int), (lookL l d m).2 = (goodL l (61 - d) && decide (m + nodesL l ≤ 2000 ∨ l = [])) ∧ ((lookL l d m).2 = true → (lookL l d m).1 = m + nodesL l)
 | [], d, m => by rw [lookL, goodL, nodesL]; exact ⟨by simp, fun _ => by simp⟩
 | t :: ts, d, m => by
  rw [lookL, goodL, nodesL]
  obtain ⟨h1, h2⟩ := look_good t d m
  have hp := nodesL_pos ts
  split
  ·rename_i ht
   have h3 := h2 ht
   rw [ht] at h1
   have h1 := h1.symm
   simp only [Bool.and_eq_true, decide_eq_true_eq] at h1
   obtain ⟨h4, h5⟩ := lookL_good ts d (lookR t d m).1
   refine ⟨?_, fun h => by rw [h5 h]; omega⟩
   rw [h4, h1.1, h3]
   have : decide (m + nodesT t + nodesL ts ≤ 2000 ∨ ts = []) = decide (m + (nodesT t + nodesL ts) ≤ 2000 ∨ t :: ts = []) := by
    apply decide_eq_decide.2
    constructor
    ·rintro (h | rfl)
     ·exact .inl (by omega)
     ·rw [nodesL]; exact .inl (by omega)
    ·rintro (h | h)
     ·exact .inl (by omega)
     ·cases h
   rw [this]; simp
  ·rename_i ht
   refine ⟨?_, fun h => absurd h ht⟩
   rw [Bool.eq_false_iff.2 ht]
   symm
   rw [Bool.eq_false_iff]
   intro hh
   simp only [Bool.and_eq_true, decide_eq_true_eq] at hh
   apply ht
   rw [h1]
   simp only [Bool.and_eq_true, decide_eq_true_eq]
   refine ⟨hh.1.1, ?_⟩
   rcases hh.2 with h | h
   ·omega
   ·cases h
end
theorem look_valid (t : Tm) : (lookR t 1 0).2 = (formedR t 60 2000).1 := by
 rw [(look_good t 1 0).1, (formed_good t 60 2000).1]
 simp
end Go.Bis
namespace Go.Proofs.YtmohcdihdhggoaaGreatDoor
open Go Go.Av Go.Lexs Go.Bis
attribute [local irreducible] ACalls at8
theorem restR_step (n : Nat) (d : Int) (m : Int × Bool) : restR (n + 1) d m = restR n d (m.1 + 1, m.2 && decide (d < 60) && decide (m.1 + 1 ≤ 2000)) := rfl
theorem look_n (n : Nat) : ∀ {Q} (t : Tm) (hn : SizeOf.sizeOf t ≤ n) (ht : TmFit t) (deep m : Int) (h0 : 0 ≤ m) (h1 : m ≤ 2000) (h2 : 1 ≤ deep) (h3 : deep ≤ 61) (b : Nat) (H : Heap) (hb : H b = some (.box [.int .i64 m, .bool true])) (h : Q (.tuple []) (H.set b (.box [.int .i64 (lookR t deep m).1, .bool (lookR t deep m).2]))),
  ACalls Tryz.prog 70 [.box b 0, .agg (tmC t), .int .i64 deep] H Q := by
 induction n with
 | zero => intro Q t hn; cases t; simp at hn
 | succ n ih =>
 intro Q t hn ht deep m h0 h1 h2 h3 b H hb h
 refine acalls_of_wp [] Tryz.mixed Tryz.func70 rfl (by kernel_rfl) (of_decide_eq_true (by kernel_rfl)) (by kernel_rfl) ?_
 simp only [go_sem,seval, Tryz.results70]
 have hr := ht.hrl
 have hk := ht.hkl
 have hwm : IntKind.i64.wrap (m + 1) = m + 1 := wrap64 (by omega) (by omega)
 have hwd : IntKind.i64.wrap (deep + 1) = deep + 1 := wrap64 (by omega) (by omega)
 rw [lookR_eq] at h
 by_cases hc : deep ≤ 60 ∧ m + 1 ≤ 2000 ∧ nodeS t = true
 ·rw [if_pos hc] at h
  obtain ⟨c1, c2, c3⟩ := hc
  have hrest := node_rest c3
  have hwd2 : decide (deep ≤ 60) = true := decide_eq_true c1
  have hm2 : decide (m + 1 ≤ 2000) = true := decide_eq_true c2
  intro b4 hb4
  have hbb : b ≠ b4 := by rintro rfl; rw [hb] at hb4; cases hb4
  repeat' (first | with_reducible refine And.intro ?_ ?_ | simp only [go_sem,seval, hb, hwm, hwd2, hm2, c3] | simp (disch := omega) only [wrap64, cell_at, Rw_at] | simp (disch := first | omega | grind) only [heap_ne_, del_ne] | (intro hx_; try simp only [set_none] at hx_) | with_reducible refine shape_a _ ht _ ?_ | omega)
  refine loop_c [0, 2, 4, 43, 44] (fun (p : Nat × Int) => [(45, .int .i64 p.1)]) (fun (p : Nat × Int) => (H.set b4 (.box (tmC t))).set b (.box [.int .i64 p.2, .bool true])) (fun (p : Nat × Int) => p.1 ≤ t.kids.length ∧ 0 ≤ p.2 ∧ p.2 ≤ 2000 ∧ lookL (t.kids.drop p.1) (deep + 1) p.2 = lookL t.kids (deep + 1) (m + 1)) (fun (p : Nat × Int) => t.kids.length - p.1) ((0, m + 1)) (⟨Nat.zero_le _, by simp; omega, by simp; omega, by simp⟩) (by (try simp only [go_sem,seval]) <;> (try simp (disch := omega) [wrap64]) <;> (try omega)) (by first | with_reducible exact Heap.Le.refl _ | exact heap_set_le (by assumption) | exact Heap.Le.refl _ | exact heap_le_set (by assumption) | exact (by simp only [Go.Av.Heap.Le, Go.Av.Heap.set, Go.Av.Heap.del] at * <;> grind)) ?_
  rintro Ec rfl ⟨k, M⟩ ⟨q1, q2, q3, q4⟩
  simp only at q1 q2 q3 q4
  rw [← q4] at h
  by_cases hlt : k < t.kids.length
  ·rw [List.drop_eq_getElem_cons hlt, lookL_cons] at h q4
   have hkm : t.kids[k] ∈ t.kids := List.getElem_mem hlt
   have hg := look_good t.kids[k] (deep + 1) M
   have hpos := nodesT_pos t.kids[k]
   have hkd : decide ((k : Int) < t.kids.length) = true := decide_eq_true (by omega)
   repeat' (first | with_reducible refine And.intro ?_ ?_ | simp only [go_sem,seval, hkd, hb, hwd, Rw_at _ _ hlt] | simp (disch := omega) only [wrap64, cell_at, Rw_at] | simp (disch := first | omega | grind) only [heap_ne_, del_ne] | (intro hx_; try simp only [set_none] at hx_) | with_reducible refine ih t.kids[k] (by have := kids_lt hkm; omega) (ht.kid _ hkm) _ _ q2 q3 (by omega) (by omega) b _ (by rw [heap_ne_ _ (by grind)]; exact heap_same _ _) ?_ | omega)
   ·have hf : (lookR t.kids[k] (deep + 1) M).2 = false := by assumption
    simp only [hf, Bool.false_eq_true, if_false] at h
    exact Fin.less (by simp only [hf]; simp only [Go.Av.Heap.Le, Go.Av.Heap.set, Go.Av.Heap.del] at * <;> grind) h
   ·have ht1 : (lookR t.kids[k] (deep + 1) M).2 = true := by assumption
    have h5 := hg.2 ht1
    have h6 := hg.1
    rw [ht1] at h6
    have h6 := h6.symm
    simp only [Bool.and_eq_true, decide_eq_true_eq] at h6
    rw [if_pos ht1] at q4
    exact nx_mk (k + 1, (lookR t.kids[k] (deep + 1) M).1) ⟨by simp only []; omega, by simp only []; omega, by simp only []; omega, q4⟩ (by simp only []; omega) (by (try simp only [go_sem,seval]) <;> (try simp (disch := omega) [wrap64]) <;> (try omega)) (by simp only [ht1]; simp only [Go.Av.Heap.Le, Go.Av.Heap.set, Go.Av.Heap.del] at * <;> grind)
  ·have hkd : decide ((k : Int) < t.kids.length) = false := decide_eq_false (by omega)
   rw [List.drop_eq_nil_of_le (by omega), lookL] at h
   simp only [if_true] at h
   repeat' (first | with_reducible refine And.intro ?_ ?_ | simp only [go_sem,seval, hkd] | simp (disch := omega) only [wrap64, cell_at, Rw_at] | simp (disch := first | omega | grind) only [heap_ne_, del_ne] | (intro hx_; try simp only [set_none] at hx_) | omega)
   refine loop_c [0, 2, 62] (fun (p : Nat × Int × Bool) => [(63, .int .i64 p.1)]) (fun (p : Nat × Int × Bool) => H.set b (.box [.int .i64 p.2.1, .bool p.2.2])) (fun (p : Nat × Int × Bool) => p.1 ≤ t.rest.length ∧ 0 ≤ p.2.1 ∧ p.2.1 ≤ 2000 + p.1 ∧ restR (t.rest.length - p.1) deep p.2 = restR t.rest.length deep (M, true)) (fun (p : Nat × Int × Bool) => t.rest.length - p.1) ((0, M, true)) (⟨Nat.zero_le _, by simp; omega, by simp; omega, by simp⟩) (by (try simp only [go_sem,seval]) <;> (try simp (disch := omega) [wrap64]) <;> (try omega)) (by first | with_reducible exact Heap.Le.refl _ | exact heap_set_le (by assumption) | exact Heap.Le.refl _ | exact heap_le_set (by assumption) | exact (by simp only [Go.Av.Heap.Le, Go.Av.Heap.set, Go.Av.Heap.del] at * <;> grind)) ?_
   rintro Ec rfl ⟨j, N, ok⟩ ⟨r1, r2, r3, r4⟩
   simp only at r1 r2 r3 r4
   rw [← r4] at h
   have hwN : IntKind.i64.wrap (N + 1) = N + 1 := wrap64 (by omega) (by omega)
   by_cases hjt : j < t.rest.length
   ·have hjd : decide ((j : Int) < t.rest.length) = true := decide_eq_true (by omega)
    rw [show t.rest.length - j = (t.rest.length - (j + 1)) + 1 by omega, restR_step] at r4
    simp only at r4
    repeat' (first | with_reducible refine And.intro ?_ ?_ | simp only [go_sem,seval, hjd, hwN] | simp (disch := omega) only [wrap64, cell_at, Rw_at] | simp (disch := first | omega | grind) only [heap_ne_, del_ne] | (intro hx_; try simp only [set_none] at hx_) | omega)
    all_goals
     refine nx_mk (j + 1, N + 1, ok && decide (deep < 60) && decide (N + 1 ≤ 2000)) ⟨by simp only []; omega, by simp only []; omega, by simp only []; omega, r4⟩ (by simp only []; omega) (by (try simp only [go_sem,seval]) <;> (try simp (disch := omega) [wrap64]) <;> (try omega)) ?_
     refine heap_box_le ?_
     grind
   ·have hjd : decide ((j : Int) < t.rest.length) = false := decide_eq_false (by omega)
    rw [show t.rest.length - j = 0 by omega] at h
    repeat' (first | with_reducible refine And.intro ?_ ?_ | simp only [go_sem,seval, hjd] | simp (disch := omega) only [wrap64, cell_at, Rw_at] | simp (disch := first | omega | grind) only [heap_ne_, del_ne] | (intro hx_; try simp only [set_none] at hx_) | omega)
    exact Fin.same h
 ·rw [if_neg hc] at h
  repeat' (first | with_reducible refine And.intro ?_ ?_ | simp only [go_sem,seval, hb, hwm] | simp (disch := omega) only [wrap64, cell_at, Rw_at] | simp (disch := first | omega | grind) only [heap_ne_, del_ne] | (intro hx_; try simp only [set_none] at hx_) | with_reducible refine shape_a _ ht _ ?_ | omega)
  all_goals first
   | exact absurd ⟨by assumption, by assumption, by assumption⟩ hc
   | exact Fin.less (by simp only [*]; simp only [Go.Av.Heap.Le, Go.Av.Heap.set, Go.Av.Heap.del] at * <;> grind) h
theorem valid_a {Q} (t : Tm) (ht : TmFit t) (H : Heap) (h : Q (.bool (validT t)) H) : ACalls Tryz.prog 40 [.agg (tmC t)] H Q := by
 refine acalls_of_wp [] Tryz.mixed Tryz.func40 rfl (by kernel_rfl) (of_decide_eq_true (by kernel_rfl)) (by kernel_rfl) ?_
 simp only [go_sem,seval, Tryz.results40]
 repeat' (first | with_reducible refine And.intro ?_ ?_ | simp only [go_sem,seval] | simp (disch := omega) only [wrap64, cell_at] | simp (disch := first | omega | grind) only [heap_ne_, del_ne] | (intro hx_; try simp only [set_none] at hx_) | with_reducible refine look_n _ t (Nat.le_refl _) ht 1 0 (by omega) (by omega) (by omega) (by omega) _ _ (heap_same _ _) ?_ | omega)
 simp only [validT, ← look_valid] at h
 (refine Av.Fin.less (H' := H) (by first | with_reducible exact Heap.Le.refl _ | exact heap_le_set (by assumption) | exact (heap_le_set (by assumption)).trans (heap_le_set (by assumption)) | exact (heap_le_set (by assumption)).trans ((heap_le_set (by assumption)).trans (heap_le_set (by assumption))) | exact (by simp only [Go.Av.Heap.Le, Go.Av.Heap.set, Go.Av.Heap.del] at * <;> grind)) ?_; first | exact h | (simp_all; done) | simpa [*] using h)
end Go.Proofs.YtmohcdihdhggoaaGreatDoor
end
section
set_option maxRecDepth 20000
namespace Go.Bis
open Go Go.Av Go.Lexs
structure Sy where
 seen : List Tm
 final : List Bool
 next : List (List Int)
def syC (s : Sy) : List D := [.sl 6 (Rw tmC s.seen), .sl 1 (Rw boolC s.final), .sl 1 (Rw intsC s.next)]
@[go_sem] theorem syC_len (s : Sy) : (syC s).length = 3 := rfl
@[go_sem] theorem syC_take (s : Sy) : (syC s).take 3 = syC s := rfl
@[go_sem] theorem syC_all (s : Sy) : (syC s).all D.one = true := rfl
@[go_sem] theorem syC_0 (s : Sy) : (syC s).head? = some (.sl 6 (Rw tmC s.seen)) := rfl
@[go_sem] theorem syC_1 (s : Sy) : ((syC s).drop 1).head? = some (.sl 1 (Rw boolC s.final)) := rfl
@[go_sem] theorem syC_2 (s : Sy) : ((syC s).drop 2).head? = some (.sl 1 (Rw intsC s.next)) := rfl
@[go_sem] theorem syC_put (a b c : D) (s : Sy) : putAt [a, b, c] 0 (syC s) = syC s := rfl
structure SyFit (s : Sy) : Prop where
 sl : s.seen.length ≤ 1466015503658
 fl : s.final.length ≤ 140737488351232
 nl : s.next.length ≤ 5864062014639
 tm : ∀ t ∈ s.seen, TmFit t
 il : ∀ l ∈ s.next, l.length ≤ 17592186043904
def inR (n : Nat) (l : List Int) : Bool := l.all fun k => decide (0 ≤ k) && decide (k < (n : Int))
def validY (s : Sy) : Bool := decide (1 ≤ s.seen.length) && decide (s.seen.length ≤ 400) && decide (s.final.length = s.seen.length) && decide (s.next.length = s.seen.length) && s.seen.all validT && s.next.all (inR s.seen.length)
theorem inR_any (n : Nat) (l : List Int) : inR n l = !l.any fun k => decide (k < 0) || decide ((n : Int) ≤ k) := by
 induction l with
 | nil => rfl
 | cons a l ih =>
  unfold inR at ih ⊢
  rw [List.all_cons, ih, List.any_cons, Bool.not_or]
  congr 1
  rw [Bool.eq_iff_iff]; simp
theorem inR_all (n : Nat) (l : List (List Int)) : l.all (inR n) = !l.any fun x => x.any fun k => decide (k < 0) || decide ((n : Int) ≤ k) := by
 induction l with
 | nil => rfl
 | cons a l ih => rw [List.all_cons, ih, List.any_cons, Bool.not_or, inR_any]
theorem all_not (p : Tm → Bool) (l : List Tm) : l.all p = !l.any fun t => !p t := by
 induction l with
 | nil => rfl
 | cons a l ih => rw [List.all_cons, ih, List.any_cons, Bool.not_or, Bool.not_not]
end Go.Bis
namespace Go.Proofs.YtmohcdihdhggoaaGreatDoor
open Go Go.Av Go.Lexs Go.Bis
attribute [local irreducible] ACalls at8
theorem bv1_a {Q} (t : Tm) (ht : TmFit t) (H : Heap) (h : Q (.bool (!validT t)) H) : ACalls Tryz.prog 39 [.agg (tmC t)] H Q := by
 refine acalls_of_wp [] Tryz.mixed Tryz.func39 rfl (by kernel_rfl) (of_decide_eq_true (by kernel_rfl)) (by kernel_rfl) ?_
 simp only [go_sem,seval, Tryz.results39]
 repeat' (first | with_reducible refine And.intro ?_ ?_ | simp only [go_sem,seval] | simp (disch := omega) only [wrap64, cell_at] | simp (disch := first | omega | grind) only [heap_ne_, del_ne] | (intro hx_; try simp only [set_none] at hx_) | with_reducible refine valid_a t ht _ ?_ | omega)
 all_goals (refine Av.Fin.less (H' := H) (by first | with_reducible exact Heap.Le.refl _ | exact heap_le_set (by assumption) | exact (heap_le_set (by assumption)).trans (heap_le_set (by assumption)) | exact (heap_le_set (by assumption)).trans ((heap_le_set (by assumption)).trans (heap_le_set (by assumption))) | exact (by simp only [Go.Av.Heap.Le, Go.Av.Heap.set, Go.Av.Heap.del] at * <;> grind)) ?_; first | exact h | (simp_all; done) | simpa [*] using h)
theorem bv21_a {Q} (n : Nat) (k : Int) (b : Nat) (H : Heap) (hb : H b = some (.box [.int .i64 n])) (h : Q (.bool (decide (k < 0) || decide ((n : Int) ≤ k))) H) : ACalls Tryz.prog 44 [.int .i64 k, .box b 0] H Q := by
 refine acalls_of_wp [] Tryz.mixed Tryz.func44 rfl (by kernel_rfl) (of_decide_eq_true (by kernel_rfl)) (by kernel_rfl) ?_
 simp only [go_sem,seval, Tryz.results44]
 repeat' (first | with_reducible refine And.intro ?_ ?_ | simp only [go_sem,seval, hb] | simp (disch := omega) only [wrap64, cell_at] | simp (disch := first | omega | grind) only [heap_ne_, del_ne] | (intro hx_; try simp only [set_none] at hx_) | omega)
 all_goals (refine Av.Fin.less (H' := H) (by first | with_reducible exact Heap.Le.refl _ | exact heap_le_set (by assumption) | exact (heap_le_set (by assumption)).trans (heap_le_set (by assumption)) | exact (heap_le_set (by assumption)).trans ((heap_le_set (by assumption)).trans (heap_le_set (by assumption))) | exact (by simp only [Go.Av.Heap.Le, Go.Av.Heap.set, Go.Av.Heap.del] at * <;> grind)) ?_; first | exact h | (simp_all; done) | simpa [*] using h)
theorem bv2_a {Q} (n : Nat) (l : List Int) (hl : l.length ≤ 17592186043904) (b : Nat) (H : Heap) (hb : H b = some (.box [.int .i64 n])) (h : Q (.bool (l.any fun k => decide (k < 0) || decide ((n : Int) ≤ k))) H) : ACalls Tryz.prog 42 [.sl 1 (Rw intC l), .box b 0] H Q := by
 refine acalls_of_wp [] Tryz.mixed Tryz.func42 rfl (by kernel_rfl) (of_decide_eq_true (by kernel_rfl)) (by kernel_rfl) ?_
 simp only [go_sem,seval, Tryz.results42]
 have key : ∀ (Q : D → Heap → Prop), Q (.bool (l.any fun k => decide (k < 0) || decide ((n : Int) ≤ k))) H → ACalls Tryz.prog 43 [.sl 1 (Rw intC l), .fn (.func 44) [] [.box b 0]] H Q :=
  fun Q hq => hasI_a (fun k => decide (k < 0) || decide ((n : Int) ≤ k)) l (by omega) _ [] [.box b 0] _ (fun a ha Q hq => bv21_a n a b _ hb hq) hq
 repeat' (first | with_reducible refine And.intro ?_ ?_ | simp only [go_sem,seval] | simp (disch := omega) only [wrap64, cell_at] | simp (disch := first | omega | grind) only [heap_ne_, del_ne] | (intro hx_; try simp only [set_none] at hx_) | with_reducible refine key _ ?_ | omega)
 all_goals (refine Av.Fin.less (H' := H) (by first | with_reducible exact Heap.Le.refl _ | exact heap_le_set (by assumption) | exact (heap_le_set (by assumption)).trans (heap_le_set (by assumption)) | exact (heap_le_set (by assumption)).trans ((heap_le_set (by assumption)).trans (heap_le_set (by assumption))) | exact (by simp only [Go.Av.Heap.Le, Go.Av.Heap.set, Go.Av.Heap.del] at * <;> grind)) ?_; first | exact h | (simp_all; done) | simpa [*] using h)
theorem bvalid_a {Q} (s : Sy) (hs : SyFit s) (H : Heap) (h : Q (.bool (validY s)) H) : ACalls Tryz.prog 17 [.agg (syC s)] H Q := by
 refine acalls_of_wp [] Tryz.mixed Tryz.func17 rfl (by kernel_rfl) (of_decide_eq_true (by kernel_rfl)) (by kernel_rfl) ?_
 simp only [go_sem,seval, Tryz.results17]
 have h1 := hs.sl
 have h2 := hs.fl
 have h3 := hs.nl
 unfold validY at h
 rw [all_not, inR_all] at h
 have i1 : decide (1 ≤ s.seen.length) = !decide ((s.seen.length : Int) = 0) := by rw [← decide_not]; exact decide_eq_decide.2 (by omega)
 have i2 : decide (s.seen.length ≤ 400) = !decide ((400 : Int) < s.seen.length) := by rw [← decide_not]; exact decide_eq_decide.2 (by omega)
 have i3 : decide (s.final.length = s.seen.length) = decide ((s.final.length : Int) = s.seen.length) := decide_eq_decide.2 (by omega)
 have i4 : decide (s.next.length = s.seen.length) = decide ((s.next.length : Int) = s.seen.length) := decide_eq_decide.2 (by omega)
 rw [i1, i2, i3, i4] at h
 clear i1 i2 i3 i4
 have k1 : ∀ (H : Heap) (Q : D → Heap → Prop), Q (.bool (s.seen.any fun t => !validT t)) H → ACalls Tryz.prog 38 [.sl 6 (Rw tmC s.seen), .fn (.func 39) [] []] H Q :=
  fun H Q hq => hasT_a (fun t => !validT t) s.seen (by omega) _ [] [] _ (fun a ha Q hq => bv1_a a (hs.tm a ha) _ hq) hq
 have k2 : ∀ (b : Nat) (H : Heap) (Q : D → Heap → Prop), H b = some (.box [.int .i64 s.seen.length]) → Q (.bool (s.next.any fun l => l.any fun k => decide (k < 0) || decide ((s.seen.length : Int) ≤ k))) H → ACalls Tryz.prog 41 [.sl 1 (Rw intsC s.next), .fn (.func 42) [] [.box b 0]] H Q :=
  fun b H Q hb hq => hasII_a (fun l => l.any fun k => decide (k < 0) || decide ((s.seen.length : Int) ≤ k)) s.next (by omega) _ [] [.box b 0] _ (fun a ha Q hq => bv2_a _ a (hs.il a ha) b _ hb hq) hq
 intro b1 hb1
 repeat' (first | with_reducible refine And.intro ?_ ?_ | simp only [go_sem,seval] | simp (disch := omega) only [wrap64, cell_at] | simp (disch := first | omega | grind) only [heap_ne_, del_ne] | (intro hx_; try simp only [set_none] at hx_) | with_reducible refine k1 _ _ ?_ | with_reducible refine k2 _ _ _ (heap_same _ _) ?_ | omega)
 all_goals (refine Av.Fin.less (H' := H) (by first | with_reducible exact Heap.Le.refl _ | exact heap_le_set (by assumption) | exact (heap_le_set (by assumption)).trans (heap_le_set (by assumption)) | exact (heap_le_set (by assumption)).trans ((heap_le_set (by assumption)).trans (heap_le_set (by assumption))) | exact (by simp only [Go.Av.Heap.Le, Go.Av.Heap.set, Go.Av.Heap.del] at * <;> grind)) ?_; first | exact h | (simp_all; done) | simpa [*] using h)
theorem rvalid_a {Q} (s : Sy) (hs : SyFit s) (H : Heap) (h : Q (.bool (validY s)) H) : ACalls Tryz.prog 18 [.agg (syC s)] H Q := by
  refine acalls_of_wp [] Tryz.mixed Tryz.func18 rfl (by kernel_rfl) (of_decide_eq_true (by kernel_rfl)) (by kernel_rfl) ?_
  simp only [go_sem,seval, Tryz.results18]
  have h1 := hs.sl
  have h2 := hs.fl
  have h3 := hs.nl
  unfold validY at h
  intro b1 hb1
  by_cases hc : (1 ≤ s.seen.length ∧ s.seen.length ≤ 400) ∧ s.final.length = s.seen.length ∧ s.next.length = s.seen.length
  · obtain ⟨⟨c1, c2⟩, c3, c4⟩ := hc
    have d1 : ¬ (s.seen.length : Int) < 1 := by omega
    have d2 : ¬ (400 : Int) < s.seen.length := by omega
    have d3 : (s.final.length : Int) = s.seen.length := by omega
    have d4 : (s.next.length : Int) = s.seen.length := by omega
    simp only [c1, c2, c3, c4, decide_true, Bool.true_and] at h
    repeat' (first | with_reducible refine And.intro ?_ ?_ | simp only [go_sem,seval, d1, d2, d3, d4] | simp (disch := omega) only [wrap64, cell_at, Rw_at] | simp (disch := first | omega | grind) only [heap_ne_, del_ne] | (intro hx_; try simp only [set_none] at hx_) | omega)
    refine loop_c [1, 3, 32] (fun (k : Nat) => [(33, .int .i64 k)]) (fun (k : Nat) => H.set b1 (.box (syC s))) (fun (k : Nat) => k ≤ s.seen.length ∧ (s.seen.all validT && s.next.all (inR s.seen.length)) = ((s.seen.drop k).all validT && (s.next.drop k).all (inR s.seen.length))) (fun (k : Nat) => s.seen.length - k) (0) (⟨Nat.zero_le _, by simp⟩) (by (try simp only [go_sem,seval]) <;> (try simp (disch := omega) [wrap64]) <;> (try omega)) (by first | with_reducible exact Heap.Le.refl _ | exact heap_set_le (by assumption) | exact Heap.Le.refl _ | exact heap_le_set (by assumption) | exact (by simp only [Go.Av.Heap.Le, Go.Av.Heap.set, Go.Av.Heap.del] at * <;> grind)) ?_
    rintro Ec rfl k ⟨hk, hp⟩
    by_cases hlt : k < s.seen.length
    · have hkd : decide ((k : Int) < s.seen.length) = true := decide_eq_true (by omega)
      have hln : k < s.next.length := by omega
      rw [List.drop_eq_getElem_cons hlt, List.drop_eq_getElem_cons hln, List.all_cons, List.all_cons] at hp
      have hil := hs.il s.next[k] (List.getElem_mem hln)
      rw [hp] at h
      cases hv : validT s.seen[k] with
      | false =>
        repeat' (first | with_reducible refine And.intro ?_ ?_ | simp only [go_sem,seval, hkd, hv, Rw_at _ _ hlt] | simp (disch := omega) only [wrap64, cell_at, Rw_at] | simp (disch := first | omega | grind) only [heap_ne_, del_ne] | (intro hx_; try simp only [set_none] at hx_) | with_reducible refine rValid_a _ (hs.tm _ (List.getElem_mem hlt)) _ ?_ | omega)
        all_goals (refine Av.Fin.less (H' := H) (by first | with_reducible exact Heap.Le.refl _ | exact heap_le_set (by assumption) | exact (heap_le_set (by assumption)).trans (heap_le_set (by assumption)) | exact (heap_le_set (by assumption)).trans ((heap_le_set (by assumption)).trans (heap_le_set (by assumption))) | exact (by simp only [Go.Av.Heap.Le, Go.Av.Heap.set, Go.Av.Heap.del] at * <;> grind)) ?_; first | exact h | (simp_all [hv]; done) | simpa [*, hv] using h)
      | true =>
        repeat' (first | with_reducible refine And.intro ?_ ?_ | simp only [go_sem,seval, hkd, hv, Rw_at _ _ hlt, Rw_at _ _ hln] | simp (disch := omega) only [wrap64, cell_at, Rw_at] | simp (disch := first | omega | grind) only [heap_ne_, del_ne] | (intro hx_; try simp only [set_none] at hx_) | with_reducible refine rValid_a _ (hs.tm _ (List.getElem_mem hlt)) _ ?_ | omega)
        have hin : ∀ j (h : j < s.next[k].length), inR s.seen.length (s.next[k].drop j) = (!decide (s.next[k][j] < 0) && !decide ((s.seen.length : Int) ≤ s.next[k][j]) && inR s.seen.length (s.next[k].drop (j + 1))) := fun j h => by
          unfold inR
          rw [List.drop_eq_getElem_cons h, List.all_cons, ← decide_not, ← decide_not]
          congr 2
          · exact decide_eq_decide.2 (by omega)
          · exact decide_eq_decide.2 (by omega)
        rw [hv, Bool.true_and] at hp h
        refine loop_c [1, 3, 32, 33, 47, 48] (fun (j : Nat) => [(49, .int .i64 j)]) (fun (j : Nat) => H.set b1 (.box (syC s))) (fun (j : Nat) => j ≤ s.next[k].length ∧ inR s.seen.length s.next[k] = inR s.seen.length (s.next[k].drop j)) (fun (j : Nat) => s.next[k].length - j) (0) (⟨Nat.zero_le _, by simp⟩) (by (try simp only [go_sem,seval]) <;> (try simp (disch := omega) [wrap64]) <;> (try omega)) (by first | with_reducible exact Heap.Le.refl _ | exact heap_set_le (by assumption) | exact Heap.Le.refl _ | exact heap_le_set (by assumption) | exact (by simp only [Go.Av.Heap.Le, Go.Av.Heap.set, Go.Av.Heap.del] at * <;> grind)) ?_
        rintro Ec rfl j ⟨hj, hq⟩
        by_cases hjt : j < s.next[k].length
        · have hjd : decide ((j : Int) < s.next[k].length) = true := decide_eq_true (by omega)
          rw [hin j hjt] at hq
          repeat' (first | with_reducible refine And.intro ?_ ?_ | simp only [go_sem,seval, hjd, Rw_at _ _ hjt] | simp (disch := omega) only [wrap64, cell_at, Rw_at] | simp (disch := first | omega | grind) only [heap_ne_, del_ne] | (intro hx_; try simp only [set_none] at hx_) | omega)
          all_goals first
            | (rw [hq] at h; (refine Av.Fin.less (H' := H) (by first | with_reducible exact Heap.Le.refl _ | exact heap_le_set (by assumption) | exact (heap_le_set (by assumption)).trans (heap_le_set (by assumption)) | exact (heap_le_set (by assumption)).trans ((heap_le_set (by assumption)).trans (heap_le_set (by assumption))) | exact (by simp only [Go.Av.Heap.Le, Go.Av.Heap.set, Go.Av.Heap.del] at * <;> grind)) ?_; first | exact h | (simp_all; done) | simpa [*] using h))
            | (have hz : (!decide (s.next[k][j] < 0) && !decide ((s.seen.length : Int) ≤ s.next[k][j]) && inR s.seen.length (s.next[k].drop (j + 1))) = inR s.seen.length (s.next[k].drop (j + 1)) := by
                 rw [decide_eq_false (by assumption), decide_eq_false (by assumption)]; rfl
               rw [hz] at hq
               exact nx_mk (j + 1) ⟨by omega, hq⟩ (by omega) (by (try simp only [go_sem,seval]) <;> (try simp (disch := omega) [wrap64]) <;> (try omega)) (Heap.Le.refl _))
        · have hjd : decide ((j : Int) < s.next[k].length) = false := decide_eq_false (by omega)
          rw [List.drop_eq_nil_of_le (by omega)] at hq
          have hq1 : inR s.seen.length s.next[k] = true := by rw [hq]; rfl
          rw [hq1, Bool.true_and] at hp
          repeat' (first | with_reducible refine And.intro ?_ ?_ | simp only [go_sem,seval, hjd] | simp (disch := omega) only [wrap64, cell_at, Rw_at] | simp (disch := first | omega | grind) only [heap_ne_, del_ne] | (intro hx_; try simp only [set_none] at hx_) | omega)
          exact nx_mk (k + 1) ⟨by omega, hp⟩ (by omega) (by (try simp only [go_sem,seval]) <;> (try simp (disch := omega) [wrap64]) <;> (try omega)) (Heap.Le.refl _)
    · have hkd : decide ((k : Int) < s.seen.length) = false := decide_eq_false (by omega)
      rw [hp, List.drop_eq_nil_of_le (by omega), List.drop_eq_nil_of_le (by omega)] at h
      repeat' (first | with_reducible refine And.intro ?_ ?_ | simp only [go_sem,seval, hkd] | simp (disch := omega) only [wrap64, cell_at, Rw_at] | simp (disch := first | omega | grind) only [heap_ne_, del_ne] | (intro hx_; try simp only [set_none] at hx_) | omega)
      (refine Av.Fin.less (H' := H) (by first | with_reducible exact Heap.Le.refl _ | exact heap_le_set (by assumption) | exact (heap_le_set (by assumption)).trans (heap_le_set (by assumption)) | exact (heap_le_set (by assumption)).trans ((heap_le_set (by assumption)).trans (heap_le_set (by assumption))) | exact (by simp only [Go.Av.Heap.Le, Go.Av.Heap.set, Go.Av.Heap.del] at * <;> grind)) ?_; first | exact h | (simp_all; done) | simpa [*] using h)
  · repeat' (first | with_reducible refine And.intro ?_ ?_ | simp only [go_sem,seval] | simp (disch := omega) only [wrap64, cell_at, Rw_at] | simp (disch := first | omega | grind) only [heap_ne_, del_ne] | (intro hx_; try simp only [set_none] at hx_) | omega)
    all_goals first
      | (exfalso; omega)
      | (have : (decide (1 ≤ s.seen.length) && decide (s.seen.length ≤ 400) && decide (s.final.length = s.seen.length) && decide (s.next.length = s.seen.length)) = false := by
          rw [Bool.eq_false_iff]; intro hh; simp only [Bool.and_eq_true, decide_eq_true_eq] at hh; omega
         rw [this] at h
         (refine Av.Fin.less (H' := H) (by first | with_reducible exact Heap.Le.refl _ | exact heap_le_set (by assumption) | exact (heap_le_set (by assumption)).trans (heap_le_set (by assumption)) | exact (heap_le_set (by assumption)).trans ((heap_le_set (by assumption)).trans (heap_le_set (by assumption))) | exact (by simp only [Go.Av.Heap.Le, Go.Av.Heap.set, Go.Av.Heap.del] at * <;> grind)) ?_; first | exact h | (simp_all; done) | simpa [*] using h))
end Go.Proofs.YtmohcdihdhggoaaGreatDoor
end
section
namespace Go.Bis
inductive Rch (nx : Nat → List Nat) (i : Nat) : Nat → Prop
 | refl : Rch nx i i
 | step {k m : Nat} : Rch nx i k → m ∈ nx k → Rch nx i m
open Classical in
noncomputable def rowV (nx : Nat → List Nat) (n i : Nat) : List Bool := (List.range n).map fun k => decide (Rch nx i k)
open Classical in
noncomputable def rowL (nx : Nat → List Nat) (n i : Nat) : List Nat := (List.range n).filter fun k => decide (Rch nx i k)
theorem rowV_length (nx : Nat → List Nat) (n i : Nat) : (rowV nx n i).length = n := by simp [rowV]
def Snd (nx : Nat → List Nat) (i : Nat) (v : List Bool) : Prop := ∀ k : Nat, v[k]? = some true → Rch nx i k
theorem Snd.set {nx : Nat → List Nat} {i : Nat} {v : List Bool} (h : Snd nx i v) {k m : Nat} (hk : v[k]? = some true) (hm : m ∈ nx k) : Snd nx i (v.set m true) := by
 intro j hj
 by_cases e : m = j
 ·subst e; exact .step (h k hk) hm
 ·rw [List.getElem?_set_ne e] at hj; exact h j hj
theorem Snd.start {nx : Nat → List Nat} {i n : Nat} : Snd nx i ((List.replicate n false).set i true) := by
 intro j hj
 by_cases e : i = j
 ·subst e; exact .refl
 ·rw [List.getElem?_set_ne e] at hj
  have := List.getElem?_eq_some_iff.1 hj
  obtain ⟨h1, h2⟩ := this
  simp at h2
def ClAt (nx : Nat → List Nat) (v : List Bool) (k : Nat) : Prop := v[k]? = some true → ∀ m ∈ nx k, v[m]? = some true
open Classical in
theorem rowV_of {nx : Nat → List Nat} {n i : Nat} {v : List Bool} (hn : v.length = n) (hi : v[i]? = some true) (hs : Snd nx i v) (hc : ∀ k, ClAt nx v k) : v = rowV nx n i := by
 have key : ∀ k, Rch nx i k → v[k]? = some true := fun k h => by
  induction h with
  | refl => exact hi
  | step _ hm ih => exact hc _ ih _ hm
 refine List.ext_getElem (by rw [rowV_length, hn]) fun k h1 h2 => ?_
 have e : (rowV nx n i)[k]'h2 = @decide (Rch nx i k) (Classical.propDecidable _) := by simp [rowV]
 rw [e]
 by_cases h : Rch nx i k
 ·have := key k h
  rw [List.getElem?_eq_getElem h1] at this
  rw [decide_eq_true h]; exact Option.some.inj this
 ·rw [decide_eq_false h]
  cases hv : v[k] with
  | false => rfl
  | true => exact absurd (hs k (by rw [List.getElem?_eq_getElem h1, hv])) h
theorem mark_count {v : List Bool} {m : Nat} (h : v[m]? = some false) : (v.set m true).count false + 1 = v.count false := by
 obtain ⟨hm, hv⟩ := List.getElem?_eq_some_iff.1 h
 have hp : 0 < v.count false := List.count_pos_iff.2 (by rw [← hv]; exact List.getElem_mem hm)
 rw [List.count_set hm]
 simp [hv]; omega
theorem mark_keep {v : List Bool} {m k : Nat} (h : v[k]? = some true) : (v.set m true)[k]? = some true := by
 obtain ⟨hk, hv⟩ := List.getElem?_eq_some_iff.1 h
 rw [List.getElem?_set]
 split
 ·rename_i e; subst e; simp [hk]
 ·exact h
theorem mark_there {v : List Bool} {m : Nat} (h : m < v.length) : (v.set m true)[m]? = some true := by
 rw [List.getElem?_set_self h]
def Que (nx : Nat → List Nat) (v : List Bool) (q : List Nat) : Prop := ∀ k, v[k]? = some true → k ∈ q ∨ ∀ m ∈ nx k, v[m]? = some true
theorem rowV_of_que {nx : Nat → List Nat} {n i : Nat} {v : List Bool} (hn : v.length = n) (hi : v[i]? = some true) (hs : Snd nx i v) (hq : Que nx v []) : v = rowV nx n i :=
 rowV_of hn hi hs fun k hk => (hq k hk).resolve_left (by simp)
theorem filter_snoc {v : List Bool} {k : Nat} : (List.range (k + 1)).filter (fun j => v[j]? == some true) = (List.range k).filter (fun j => v[j]? == some true) ++ if v[k]? = some true then [k] else [] := by
 rw [List.range_succ, List.filter_append]
 by_cases h : v[k]? = some true <;> simp [h]
theorem rowL_of (nx : Nat → List Nat) (n i : Nat) : (List.range n).filter (fun j => (rowV nx n i)[j]? == some true) = rowL nx n i := by
 unfold rowL
 refine List.filter_congr fun k hk => ?_
 have hk := List.mem_range.1 hk
 rw [List.getElem?_eq_getElem (by rw [rowV_length]; exact hk)]
 simp [rowV]
theorem mem_rowL {nx : Nat → List Nat} {n i k : Nat} : k ∈ rowL nx n i ↔ k < n ∧ Rch nx i k := by simp [rowL]
def numE (e : Nat → Nat → Bool) : Nat → List Nat × Nat
 | 0 => ([], 0)
 | i + 1 => match (List.range i).find? (fun k => e i k) with
  | some k => ((numE e i).1 ++ [(numE e i).1.getD k 0], (numE e i).2)
  | none => ((numE e i).1 ++ [(numE e i).2], (numE e i).2 + 1)
theorem numE_length (e : Nat → Nat → Bool) : ∀ n, (numE e n).1.length = n
 | 0 => rfl
 | n + 1 => by
  unfold numE
  split <;> simp [numE_length e n]
theorem numE_congr {e e' : Nat → Nat → Bool} : ∀ {n}, (∀ i j, j < i → i < n → e i j = e' i j) → numE e n = numE e' n
 | 0, _ => rfl
 | n + 1, h => by
  have ih := numE_congr (n := n) (fun i j h1 h2 => h i j h1 (by omega))
  have hf : (List.range n).find? (fun k => e n k) = (List.range n).find? (fun k => e' n k) := by
   have : ∀ (l : List Nat), (∀ k ∈ l, k < n) → l.find? (fun k => e n k) = l.find? (fun k => e' n k) := by
    intro l
    induction l with
    | nil => intro _; rfl
    | cons a l ih =>
     intro hl
     simp only [List.find?_cons]
     rw [h n a (hl a (by simp)) (by omega), ih (fun k hk => hl k (by simp [hk]))]
   exact this _ (fun k hk => List.mem_range.1 hk)
  unfold numE
  rw [hf, ih]
theorem numE_le (e : Nat → Nat → Bool) : ∀ n, (numE e n).2 ≤ n
 | 0 => Nat.le_refl _
 | n + 1 => by
  have := numE_le e n
  unfold numE
  split <;> simp only <;> omega
theorem numE_lt (e : Nat → Nat → Bool) : ∀ n, ∀ c ∈ (numE e n).1, c < (numE e n).2
 | 0 => by simp [numE]
 | n + 1 => by
  have ih := numE_lt e n
  unfold numE
  split
  ·rename_i k hk
   intro c hc
   simp only [List.mem_append, List.mem_singleton] at hc
   rcases hc with hc | rfl
   ·exact ih c hc
   ·have hk' := List.mem_range.1 (List.mem_of_find?_eq_some hk)
    have hk2 : k < (numE e n).1.length := by rw [numE_length]; exact hk'
    rw [List.getD_eq_getElem?_getD, List.getElem?_eq_getElem hk2]
    exact ih _ (List.getElem_mem hk2)
  ·intro c hc
   simp only [List.mem_append, List.mem_singleton] at hc
   rcases hc with hc | rfl
   ·have := ih c hc; simp only; omega
   ·simp only; omega
structure Eqv (e : Nat → Nat → Bool) (n : Nat) : Prop where
 refl : ∀ i, i < n → e i i = true
 symm : ∀ i j, i < n → j < n → e i j = true → e j i = true
 trans : ∀ i j k, i < n → j < n → k < n → e i j = true → e j k = true → e i k = true
theorem Eqv.less {e : Nat → Nat → Bool} {n m : Nat} (h : Eqv e n) (hm : m ≤ n) : Eqv e m :=
 ⟨fun i hi => h.refl i (by omega), fun i j hi hj => h.symm i j (by omega) (by omega), fun i j k hi hj hk => h.trans i j k (by omega) (by omega) (by omega)⟩
theorem numE_iff {e : Nat → Nat → Bool} : ∀ {n}, Eqv e n → ∀ i j, i < n → j < n → ((numE e n).1.getD i 0 = (numE e n).1.getD j 0 ↔ e i j = true)
 | 0, _, i, j, hi, _ => absurd hi (by omega)
 | n + 1, h, i, j, hi, hj => by
  have ih := numE_iff (h.less (Nat.le_succ n))
  have hl := numE_length e n
  have old : ∀ x (k : Nat), k < n → ((numE e n).1 ++ [x]).getD k 0 = (numE e n).1.getD k 0 := fun x k hk => by
   simp only [List.getD_eq_getElem?_getD]; rw [List.getElem?_append_left (by omega)]
  have new : ∀ x, ((numE e n).1 ++ [x]).getD n 0 = x := fun x => by
   simp only [List.getD_eq_getElem?_getD]; rw [List.getElem?_append_right (by omega), hl]; simp
  -- the last one against another
  have last : ∀ k, k < n → ((numE e (n + 1)).1.getD n 0 = (numE e (n + 1)).1.getD k 0 ↔ e n k = true) := by
   intro k hk
   unfold numE
   split
   ·rename_i k' hf
    have hk' := List.mem_range.1 (List.mem_of_find?_eq_some hf)
    have he := List.find?_some hf
    simp only at he ⊢
    rw [new, old _ _ hk, ih k' k hk' hk]
    constructor
    ·intro g; exact h.trans n k' k (by omega) (by omega) (by omega) he g
    ·intro g; exact h.trans k' n k (by omega) (by omega) (by omega) (h.symm _ _ (by omega) (by omega) he) g
   ·rename_i hf
    simp only
    rw [new, old _ _ hk]
    have hlt : (numE e n).1.getD k 0 < (numE e n).2 := by
     have hk2 : k < (numE e n).1.length := by omega
     rw [List.getD_eq_getElem?_getD, List.getElem?_eq_getElem hk2]
     exact numE_lt e n _ (List.getElem_mem hk2)
    have hno := List.find?_eq_none.1 hf k (List.mem_range.2 hk)
    constructor
    ·intro g; omega
    ·intro g; exact absurd g hno
  have oldN : ∀ k, k < n → (numE e (n + 1)).1.getD k 0 = (numE e n).1.getD k 0 := fun k hk => by
   conv => lhs; unfold numE
   split <;> exact old _ _ hk
  by_cases h1 : i = n
  ·by_cases h2 : j = n
   ·subst h1; subst h2; simp [h.refl]
   ·subst h1; exact last j (by omega)
  ·by_cases h2 : j = n
   ·subst h2
    rw [eq_comm, last i (by omega)]
    exact ⟨h.symm _ _ (by omega) (by omega), h.symm _ _ (by omega) (by omega)⟩
   ·rw [oldN i (by omega), oldN j (by omega)]
    exact ih i j (by omega) (by omega)
theorem numE_finer {e f : Nat → Nat → Bool} : ∀ {n}, Eqv e n → (∀ i j, i < n → j < n → f i j = true → e i j = true) →
  (numE e n).2 ≤ (numE f n).2 ∧ ((numE f n).2 = (numE e n).2 → (numE f n).1 = (numE e n).1)
 | 0, _, _ => ⟨Nat.le_refl _, fun _ => rfl⟩
 | n + 1, he, hf => by
  obtain ⟨h1, h2⟩ := numE_finer (n := n) (he.less (Nat.le_succ n)) (fun i j hi hj => hf i j (by omega) (by omega))
  have hle := numE_le e n
  have up : ∀ k, (List.range n).find? (fun k => f n k) = some k → ∃ k', (List.range n).find? (fun k => e n k) = some k' := by
   intro k hk
   cases hc : (List.range n).find? (fun k => e n k) with
   | some k' => exact ⟨k', rfl⟩
   | none =>
    have hkn := List.mem_range.1 (List.mem_of_find?_eq_some hk)
    exact absurd (hf n k (by omega) (by omega) (List.find?_some hk)) (List.find?_eq_none.1 hc k (List.mem_range.2 hkn))
  cases hcf : (List.range n).find? (fun k => f n k) with
  | some k =>
   obtain ⟨k', hce⟩ := up k hcf
   have hk := List.mem_range.1 (List.mem_of_find?_eq_some hcf)
   have hk' := List.mem_range.1 (List.mem_of_find?_eq_some hce)
   have e1 : numE f (n + 1) = ((numE f n).1 ++ [(numE f n).1.getD k 0], (numE f n).2) := by rw [numE, hcf]
   have e2 : numE e (n + 1) = ((numE e n).1 ++ [(numE e n).1.getD k' 0], (numE e n).2) := by rw [numE, hce]
   rw [e1, e2]
   refine ⟨h1, fun g => ?_⟩
   have hs := h2 g
   simp only
   rw [hs]
   have hfe := hf n k (by omega) (by omega) (List.find?_some hcf)
   have hee : e n k' = true := List.find?_some hce
   have : (numE e n).1.getD k 0 = (numE e n).1.getD k' 0 :=
    (numE_iff (he.less (Nat.le_succ n)) k k' hk hk').2 (he.trans k n k' (by omega) (by omega) (by omega) (he.symm _ _ (by omega) (by omega) hfe) hee)
   rw [this]
  | none =>
   have e1 : numE f (n + 1) = ((numE f n).1 ++ [(numE f n).2], (numE f n).2 + 1) := by rw [numE, hcf]
   cases hce : (List.range n).find? (fun k => e n k) with
   | some k' =>
    have e2 : numE e (n + 1) = ((numE e n).1 ++ [(numE e n).1.getD k' 0], (numE e n).2) := by rw [numE, hce]
    rw [e1, e2]
    exact ⟨by simp only; omega, fun g => by simp only at g; omega⟩
   | none =>
    have e2 : numE e (n + 1) = ((numE e n).1 ++ [(numE e n).2], (numE e n).2 + 1) := by rw [numE, hce]
    rw [e1, e2]
    refine ⟨by simp only; omega, fun g => ?_⟩
    simp only at g ⊢
    have hg : (numE f n).2 = (numE e n).2 := by omega
    rw [h2 hg, hg]
theorem numE_all (e : Nat → Nat → Bool) : ∀ n c, c < (numE e n).2 → c ∈ (numE e n).1
 | 0, c, h => by simp [numE] at h
 | n + 1, c, h => by
  have ih := numE_all e n
  unfold numE at h ⊢
  split at h
  ·simp only at h ⊢; exact List.mem_append_left _ (ih c h)
  ·simp only at h ⊢
   by_cases hc : c < (numE e n).2
   ·exact List.mem_append_left _ (ih c hc)
   ·rw [show c = (numE e n).2 by omega]; simp
theorem numE_many {e f : Nat → Nat → Bool} {n m : Nat} (h : (numE e n).1 = (numE f m).1) : (numE e n).2 = (numE f m).2 := by
 rcases Nat.lt_trichotomy (numE e n).2 (numE f m).2 with g | g | g
 ·have := numE_all f m _ g
  rw [← h] at this
  exact absurd (numE_lt e n _ this) (Nat.lt_irrefl _)
 ·exact g
 ·have := numE_all e n _ g
  rw [h] at this
  exact absurd (numE_lt f m _ this) (Nat.lt_irrefl _)
section
variable (e0 : Nat → Nat → Bool) (R : List Nat → Nat → Nat → Bool) (n : Nat)
def itC : Nat → List Nat × Nat
 | 0 => numE e0 n
 | t + 1 => numE (R (itC t).1) n
structure Fine : Prop where
 e0 : Eqv e0 n
 eq : ∀ c : List Nat, Eqv (R c) n
 fine : ∀ (c : List Nat) i j, i < n → j < n → R c i j = true → c.getD i 0 = c.getD j 0
variable {e0 R n}
theorem itC_eqv (h : Fine e0 R n) : ∀ t, ∃ e, Eqv e n ∧ itC e0 R n t = numE e n
 | 0 => ⟨e0, h.e0, rfl⟩
 | t + 1 => ⟨_, h.eq _, rfl⟩
theorem itC_mono (h : Fine e0 R n) (t : Nat) : (itC e0 R n t).2 ≤ (itC e0 R n (t + 1)).2 ∧ ((itC e0 R n (t + 1)).2 = (itC e0 R n t).2 → (itC e0 R n (t + 1)).1 = (itC e0 R n t).1) := by
 obtain ⟨e, he, h1⟩ := itC_eqv h t
 have h2 : itC e0 R n (t + 1) = numE (R (itC e0 R n t).1) n := rfl
 rw [h2, h1]
 exact numE_finer he fun i j hi hj g => (numE_iff he i j hi hj).1 (h.fine _ i j hi hj g)
theorem itC_le (t : Nat) : (itC e0 R n t).2 ≤ n := by cases t <;> exact numE_le _ _
theorem itC_same (h : Fine e0 R n) (t : Nat) : (itC e0 R n (t + 1)).1 = (itC e0 R n t).1 ↔ (itC e0 R n (t + 1)).2 = (itC e0 R n t).2 := by
 refine ⟨fun g => ?_, (itC_mono h t).2⟩
 obtain ⟨e, he, h1⟩ := itC_eqv h t
 obtain ⟨f, hf, h2⟩ := itC_eqv h (t + 1)
 rw [h1, h2] at g ⊢
 exact numE_many g
theorem itC_stable {t : Nat} (h : (itC e0 R n (t + 1)).1 = (itC e0 R n t).1) : ∀ d, (itC e0 R n (t + d)).1 = (itC e0 R n t).1
 | 0 => rfl
 | d + 1 => by
  have ih := itC_stable h d
  have h1 : itC e0 R n (t + (d + 1)) = numE (R (itC e0 R n (t + d)).1) n := rfl
  have h2 : itC e0 R n (t + 1) = numE (R (itC e0 R n t).1) n := rfl
  rw [h1, ih, ← h2, h]
theorem itC_ends (h : Fine e0 R n) : ∃ u, u ≤ n ∧ (itC e0 R n (u + 1)).1 = (itC e0 R n u).1 := by
 refine Classical.byContradiction fun hno => ?_
 have key : ∀ u, u ≤ n + 1 → u ≤ (itC e0 R n u).2 := fun u => by
  induction u with
  | zero => intro _; exact Nat.zero_le _
  | succ u ih =>
   intro hu
   have h1 := ih (by omega)
   have h2 := (itC_mono h u).1
   have h3 : (itC e0 R n (u + 1)).2 ≠ (itC e0 R n u).2 := fun g => hno ⟨u, by omega, (itC_same h u).2 g⟩
   omega
 have h1 := key (n + 1) (Nat.le_refl _)
 have h2 := itC_le (e0 := e0) (R := R) (n := n) (n + 1)
 omega
def fixC (e0 : Nat → Nat → Bool) (R : List Nat → Nat → Nat → Bool) (n : Nat) : List Nat := (itC e0 R n n).1
theorem itC_fix (h : Fine e0 R n) {t : Nat} (ht : (itC e0 R n (t + 1)).1 = (itC e0 R n t).1) : (itC e0 R n t).1 = fixC e0 R n := by
 obtain ⟨u, hu, hs⟩ := itC_ends h
 have h1 : fixC e0 R n = (itC e0 R n u).1 := by
  have := itC_stable hs (n - u)
  rw [show u + (n - u) = n by omega] at this
  exact this
 rw [h1]
 rcases Nat.le_total t u with g | g
 ·have := itC_stable ht (u - t)
  rw [show t + (u - t) = u by omega] at this
  exact this.symm
 ·have := itC_stable hs (t - u)
  rw [show u + (t - u) = t by omega] at this
  exact this
end
end Go.Bis
end
section
set_option maxRecDepth 20000
namespace Go.Bis
open Go Go.Av Go.Lexs
def nxS (s : Sy) (k : Nat) : List Nat := (s.next.getD k []).map Int.toNat
structure SyOk (s : Sy) : Prop where
 n : s.seen.length ≤ 1000
 f : s.final.length = s.seen.length
 x : s.next.length = s.seen.length
 r : ∀ l ∈ s.next, ∀ k ∈ l, 0 ≤ k ∧ k < (s.seen.length : Int)
theorem validY_ok {s : Sy} (h : validY s = true) : SyOk s := by
 unfold validY inR at h
 simp only [Bool.and_eq_true, decide_eq_true_eq, List.all_eq_true] at h
 obtain ⟨⟨⟨⟨⟨_, h2⟩, h3⟩, h4⟩, _⟩, h6⟩ := h
 exact ⟨by omega, h3, h4, fun l hl k hk => by have := h6 l hl k hk; simpa using this⟩
theorem nxS_at {s : Sy} {k : Nat} (h : k < s.next.length) : nxS s k = s.next[k].map Int.toNat := by simp [nxS, h]
end Go.Bis
namespace Go.Proofs.YtmohcdihdhggoaaGreatDoor
open Go Go.Av Go.Lexs Go.Bis
attribute [local irreducible] ACalls at8
theorem rep_b (n : Nat) : List.replicate n [D.bool false] = Rw boolC (List.replicate n false) := Rw_rep _ _ _ rfl
theorem set_b (v : List Bool) (k : Nat) : (Rw boolC v).set k [D.bool true] = Rw boolC (v.set k true) := Rw_set _ _ _ _ rfl
end Go.Proofs.YtmohcdihdhggoaaGreatDoor
end
section
set_option maxRecDepth 20000
namespace Go.Proofs.YtmohcdihdhggoaaGreatDoor
open Go Go.Av Go.Lexs Go.Bis
attribute [local irreducible] ACalls at8
theorem drop_beq {α : Type} [DecidableEq α] {l m : List α} {k : Nat} (h1 : k < l.length) (h2 : k < m.length) : (decide (l.drop k = m.drop k)) = (decide (l[k] = m[k]) && decide (l.drop (k + 1) = m.drop (k + 1))) := by
 rw [List.drop_eq_getElem_cons h1, List.drop_eq_getElem_cons h2, ← Bool.decide_and]
 exact decide_eq_decide.2 (List.cons.injEq .. ▸ Iff.rfl)
theorem rInts_a {Q} (l m : List Int) (hl : l.length ≤ 17592186043904) (hm : m.length ≤ 17592186043904) (H : Heap) (h : Q (.bool (decide (l = m))) H) : ACalls Tryz.prog 16 [.sl 1 (Rw intC l), .sl 1 (Rw intC m)] H Q := by
 refine acalls_of_wp [] Tryz.mixed Tryz.func16 rfl (by kernel_rfl) (of_decide_eq_true (by kernel_rfl)) (by kernel_rfl) ?_
 simp only [go_sem,seval, Tryz.results16]
 by_cases hc : l.length = m.length
 ·have d1 : ((l.length : Int) = m.length) := by omega
  repeat' (first | with_reducible refine And.intro ?_ ?_ | simp only [go_sem,seval, d1] | simp (disch := omega) only [wrap64, cell_at, Rw_at] | simp (disch := first | omega | grind) only [heap_ne_, del_ne] | (intro hx_; try simp only [set_none] at hx_) | omega)
  refine loop_c [0, 1, 12] (fun (k : Nat) => [(13, .int .i64 k)]) (fun (k : Nat) => H) (fun (k : Nat) => k ≤ l.length ∧ decide (l = m) = decide (l.drop k = m.drop k)) (fun (k : Nat) => l.length - k) (0) (⟨Nat.zero_le _, rfl⟩) (by (try simp only [go_sem,seval]) <;> (try simp (disch := omega) [wrap64]) <;> (try omega)) (by first | with_reducible exact Heap.Le.refl _ | exact heap_set_le (by assumption) | exact Heap.Le.refl _ | exact heap_le_set (by assumption) | exact (by simp only [Go.Av.Heap.Le, Go.Av.Heap.set, Go.Av.Heap.del] at * <;> grind)) ?_
  rintro Ec rfl k ⟨hk, hp⟩
  by_cases hlt : k < l.length
  ·have hkd : decide ((k : Int) < l.length) = true := decide_eq_true (by omega)
   have hm2 : k < m.length := by omega
   rw [drop_beq hlt hm2] at hp
   rw [hp] at h
   have hm3 : (k : Int) < m.length := by omega
   by_cases he : l[k] = m[k]
   ·rw [decide_eq_true he, Bool.true_and] at h hp
    repeat' (first | with_reducible refine And.intro ?_ ?_ | simp only [go_sem,seval, hkd, hm3, Rw_at _ _ hlt, Rw_at _ _ hm2, decide_eq_true he, Bool.not_true] | simp (disch := omega) only [wrap64, cell_at, Rw_at] | simp (disch := first | omega | grind) only [heap_ne_, del_ne] | (intro hx_; try simp only [set_none] at hx_) | omega)
    exact nx_mk (k + 1) ⟨by omega, hp⟩ (by omega) (by (try simp only [go_sem,seval]) <;> (try simp (disch := omega) [wrap64]) <;> (try omega)) (Heap.Le.refl _)
   ·rw [decide_eq_false he, Bool.false_and] at h
    repeat' (first | with_reducible refine And.intro ?_ ?_ | simp only [go_sem,seval, hkd, hm3, Rw_at _ _ hlt, Rw_at _ _ hm2, decide_eq_false he, Bool.not_false] | simp (disch := omega) only [wrap64, cell_at, Rw_at] | simp (disch := first | omega | grind) only [heap_ne_, del_ne] | (intro hx_; try simp only [set_none] at hx_) | omega)
    all_goals (refine Av.Fin.less (H' := H) (by first | with_reducible exact Heap.Le.refl _ | exact heap_le_set (by assumption) | exact (heap_le_set (by assumption)).trans (heap_le_set (by assumption)) | exact (heap_le_set (by assumption)).trans ((heap_le_set (by assumption)).trans (heap_le_set (by assumption))) | exact (by simp only [Go.Av.Heap.Le, Go.Av.Heap.set, Go.Av.Heap.del] at * <;> grind)) ?_; first | exact h | (simp_all; done) | simpa [*] using h)
  ·have hkd : decide ((k : Int) < l.length) = false := decide_eq_false (by omega)
   rw [hp, List.drop_eq_nil_of_le (by omega), List.drop_eq_nil_of_le (by omega)] at h
   repeat' (first | with_reducible refine And.intro ?_ ?_ | simp only [go_sem,seval, hkd] | simp (disch := omega) only [wrap64, cell_at, Rw_at] | simp (disch := first | omega | grind) only [heap_ne_, del_ne] | (intro hx_; try simp only [set_none] at hx_) | omega)
   (refine Av.Fin.less (H' := H) (by first | with_reducible exact Heap.Le.refl _ | exact heap_le_set (by assumption) | exact (heap_le_set (by assumption)).trans (heap_le_set (by assumption)) | exact (heap_le_set (by assumption)).trans ((heap_le_set (by assumption)).trans (heap_le_set (by assumption))) | exact (by simp only [Go.Av.Heap.Le, Go.Av.Heap.set, Go.Av.Heap.del] at * <;> grind)) ?_; first | exact h | (simp_all; done) | simpa [*] using h)
 ·have d1 : ¬ ((l.length : Int) = m.length) := by omega
  rw [decide_eq_false (fun e => hc (by rw [e]))] at h
  repeat' (first | with_reducible refine And.intro ?_ ?_ | simp only [go_sem,seval, d1] | simp (disch := omega) only [wrap64, cell_at, Rw_at] | simp (disch := first | omega | grind) only [heap_ne_, del_ne] | (intro hx_; try simp only [set_none] at hx_) | omega)
  all_goals (refine Av.Fin.less (H' := H) (by first | with_reducible exact Heap.Le.refl _ | exact heap_le_set (by assumption) | exact (heap_le_set (by assumption)).trans (heap_le_set (by assumption)) | exact (heap_le_set (by assumption)).trans ((heap_le_set (by assumption)).trans (heap_le_set (by assumption))) | exact (by simp only [Go.Av.Heap.Le, Go.Av.Heap.set, Go.Av.Heap.del] at * <;> grind)) ?_; first | exact h | (simp_all; done) | simpa [*] using h)
end Go.Proofs.YtmohcdihdhggoaaGreatDoor
end
section
namespace Go.Bis
open Go Go.Av
def natC (k : Nat) : List D := [.int .i64 k]
def natsC (l : List Nat) : List D := [.sl 1 (Rw natC l)]
@[go_sem] theorem natC_d (k : Nat) : natC k = [.int .i64 k] := rfl
@[go_sem] theorem natsC_d (l : List Nat) : natsC l = [.sl 1 (Rw natC l)] := rfl
end Go.Bis
end
section
namespace Go.Av
theorem Fin.freezeA {Q : D → Heap → Prop} {cs cs' : List D} {H : Heap} {b sz : Nat} {es : List (List D)} (hb : H b = some (.vec sz es)) (hl : cs.length = cs'.length)
  (hz : ∀ (i : Nat) d d', cs[i]? = some d → cs'[i]? = some d' → Fz b sz es d d') (h : Fin Q (.agg cs') (H.del b)) : Fin Q (.agg cs) H := by
 unfold Fin at h ⊢
 obtain ⟨H1, d1, h1, h2⟩ := h
 refine ⟨H1, d1, Shift.trans (fun w v hr hs => ?_) h1, h2⟩
 refine ⟨?_, hs.less (Heap.del_le H b), fun k hn => (Heap.del_le H b).held hn⟩
 cases hr with
 | agg _ vs hlv ho hr =>
  have key : ∀ (i : Nat) d', cs'[i]? = some d' → ∃ d, cs[i]? = some d ∧ Fz b sz es d d' := fun i d' hd' => by
   have hi := (List.getElem?_eq_some_iff.1 hd').1
   have hi' : i < cs.length := by omega
   exact ⟨cs[i], List.getElem?_eq_getElem hi', hz i _ _ (List.getElem?_eq_getElem hi') hd'⟩
  refine .agg cs' vs (by omega) (fun i d' hd' => ?_) (fun i d' hd' => ?_)
  ·obtain ⟨d, hd, hf⟩ := key i d' hd'
   exact hf.one (ho i d hd)
  ·obtain ⟨d, hd, hf⟩ := key i d' hd'
   exact hf.R hs hb (hr i d hd)
theorem fz_rowO {H Hd : Heap} {E E' : Env} {c s : Nat} {d d' : D} {X : List (List D)} (hS : Av.Sub E' E) (hd : d = .nilsl) (hd' : ∃ z, d' = .sl z []) (hc : Hd c = some (.vec s (X ++ [[d]])))
  (hH : ∀ k o, k ≠ c → H k = some o → Hd k = some o) : Weak E' (H.set c (.vec s (X ++ [[d']]))) E Hd := by
 intro N w0 Hz a w hst
 have hs := hst.sat
 have hheld : ∀ k, Hd.held k = false → (H.set c (.vec s (X ++ [[d']]))).held k = false := fun k hk => by
  by_cases hkc : k = c
  ·subst hkc; rw [held_of hc] at hk; cases hk
  ·cases ho : (H.set c (.vec s (X ++ [[d']]))) k with
   | none => exact held_none ho
   | some o' =>
    have ho2 := ho
    unfold Heap.set at ho2
    rw [if_neg hkc] at ho2
    rw [held_of (hH k o' hkc ho2)] at hk
    rw [held_of ho]; exact hk
 have hR : ∀ {d : D} {v : Value}, R w Hd d v → R w (H.set c (.vec s (X ++ [[d']]))) d v := fun hr => hr.mono (Ext.refl _ _) fun k _ hk => hheld k hk
 refine ⟨hst.size, hst.defers, fun i => ?_, fun k o' ho => ?_, hst.ext, fun k hk hn => hheld k (hst.frm k hk hn)⟩
 ·have key : ∀ (L : Env), (∀ p ∈ L, E.get p.1 = p.2) → R w (H.set c (.vec s (X ++ [[d']]))) (L.get i) (a.eval (.tmp i)) := by
   intro L
   induction L with
   | nil => intro _; exact .undef _
   | cons p L ih =>
    intro hL
    obtain ⟨j, d⟩ := p
    simp only [Env.get]
    by_cases hj : j = i
    ·subst hj
     rw [if_pos rfl]
     have := hL (j, d) (by simp)
     simp only at this
     rw [← this]
     exact hR (hst.env j)
    ·rw [if_neg hj]; exact ih (fun p hp => hL p (by simp [hp]))
  exact key E' hS.all
 ·by_cases hkc : k = c
  ·subst hkc
   rw [heap_same] at ho
   cases ho
   have hok := hs k _ hc
   obtain ⟨c', T, lo, hi, k1, k2, k3, k4, k5, k6⟩ := hok
   obtain ⟨z, rfl⟩ := hd'
   subst hd
   have hsp : ∀ (i : Nat) x', (X ++ [[D.sl z []]])[i]? = some x' → (X ++ [[D.nilsl]])[i]? = some x' ∨ (x' = [D.sl z []] ∧ (X ++ [[D.nilsl]])[i]? = some [D.nilsl]) := fun i x' hx => by
    by_cases hi : i < X.length
    ·rw [List.getElem?_append_left hi] at hx ⊢; exact .inl hx
    ·rw [List.getElem?_append_right (by omega)] at hx ⊢
     by_cases h0 : i - X.length = 0
     ·rw [h0] at hx ⊢; cases hx; exact .inr ⟨rfl, rfl⟩
     ·obtain ⟨q, hq⟩ : ∃ q, i - X.length = q + 1 := ⟨_, (Nat.succ_pred h0).symm⟩
      rw [hq] at hx; cases hx
   refine ⟨c', T, lo, hi, k1, k2, k3, by simpa using k4, fun i x' hx' => ?_, fun i x' j d' hx' hd' => ?_⟩
   ·rcases hsp i x' hx' with h | ⟨rfl, h⟩
    ·exact k5 i _ h
    ·have := k5 i _ h; simpa using this
   ·rcases hsp i x' hx' with h | ⟨rfl, h⟩
    ·exact ⟨(k6 i _ j _ h hd').1, hR (k6 i _ j _ h hd').2⟩
    ·cases j with
     | zero =>
      cases hd'
      have := (k6 i _ 0 _ h rfl).2
      refine ⟨rfl, ?_⟩
      revert this
      generalize c'.getD (i * s + 0) undef = vv
      intro this
      cases this
      exact .sl0 _ _ _
     | succ j => cases hd'
  ·have ho2 := ho
   unfold Heap.set at ho2
   rw [if_neg hkc] at ho2
   exact (hs k _ (hH k o' hkc ho2)).mono (Ext.refl Hd w) (fun k _ hk => hheld k hk) rfl
theorem weak_rowO {H Hd : Heap} {E E' : Env} {c sz s n : Nat} {ob : Option Nat} {es X : List (List D)} (hS : Av.Sub E' E) (hn : n = es.length) (hc : Hd c = some (.vec s (X ++ [[outG sz n ob]]))) (h0 : ob = none → es = [])
  (hm : ∀ m, ob = some m → Hd m = some (.vec sz es) ∧ m ≠ c) (hH : ∀ k o, k ≠ c → H k = some o → (∀ m, ob = some m → k ≠ m) ∧ Hd k = some o) : Weak E' (H.set c (.vec s (X ++ [[.sl sz es]]))) E Hd := by
 cases ob with
 | none =>
  rw [h0 rfl]
  exact fz_rowO hS rfl ⟨sz, rfl⟩ hc fun k o hk ho => (hH k o hk ho).2
 | some m =>
  obtain ⟨h1, h2⟩ := hm m rfl
  exact weak_row hS hn hc h1 h2 fun k o hk ho => ⟨(hH k o hk ho).1 m rfl, (hH k o hk ho).2⟩
theorem pc1s {P : Program} {H0 : Heap} {KD : D → Heap → Prop} {bl : Bl} {g b : Nat} {al : List D} {c : D} {o : Obj} (h0 : H0 b = none) (hr : o.rw = true) (hn : b ∉ bl.l) (h : ∀ (H' : Heap) (Q : D → Heap → Prop), (∀ k cs, (H0.set b o) k = some (.ro cs) → H' k = some (.ro cs)) → H' b = some o → Q c (H'.del b) → ACalls P g al H' Q) (hk : KD c H0) : pcB P (.c c) bl g al [b] (H0.set b o) KD :=
 pc1 (heap_same _ _) hr hn h (by rw [set_del h0]; exact hk)
end Go.Av
end
section
set_option maxRecDepth 20000
namespace Go.Bis
open Go Go.Av Go.Lexs
def shiftL (n : Nat) (l : List Int) : List Int := l.map fun k => k + n
def unionS (a b : Sy) : Sy := ⟨a.seen ++ b.seen, a.final ++ b.final, a.next ++ b.next.map (shiftL a.seen.length)⟩
def uniR (a b : Sy) (i : Nat) : List (List Int) := a.next ++ (b.next.take i).map (shiftL a.seen.length)
theorem uniR_zero (a b : Sy) : uniR a b 0 = a.next := by simp [uniR]
theorem uniR_all (a b : Sy) {i : Nat} (h : b.next.length ≤ i) : uniR a b i = (unionS a b).next := by unfold uniR unionS; rw [List.take_of_length_le h]
theorem uniR_length (a b : Sy) {i : Nat} (h : i ≤ b.next.length) : (uniR a b i).length = a.next.length + i := by simp [uniR]; omega
theorem uniR_succ (a b : Sy) {i : Nat} (h : i < b.next.length) : uniR a b (i + 1) = uniR a b i ++ [shiftL a.seen.length b.next[i]] := by unfold uniR; rw [List.take_succ_eq_append_getElem h, List.map_append, List.append_assoc]; rfl
theorem shiftL_length (n : Nat) (l : List Int) : (shiftL n l).length = l.length := by simp [shiftL]
theorem union_ok {a b : Sy} (ha : SyOk a) (hb : SyOk b) (hn : a.seen.length + b.seen.length ≤ 1000) : SyOk (unionS a b) := by
 refine ⟨by simp [unionS]; omega, by simp [unionS, ha.f, hb.f], by simp [unionS, ha.x, hb.x], fun l hl k hk => ?_⟩
 simp only [unionS, List.mem_append, List.mem_map, List.length_append] at hl ⊢
 rcases hl with hl | ⟨m, hm, rfl⟩
 ·have := ha.r l hl k hk; omega
 ·simp only [shiftL, List.mem_map] at hk
  obtain ⟨x, hx, rfl⟩ := hk
  have := hb.r m hm x hx; omega
theorem union_fit {a b : Sy} (ha : SyFit a) (hb : SyFit b) (oa : SyOk a) (ob : SyOk b) : SyFit (unionS a b) := by
 have := oa.n; have := ob.n; have := oa.f; have := ob.f; have := oa.x; have := ob.x
 refine ⟨by simp [unionS]; omega, by simp [unionS]; omega, by simp [unionS]; omega, fun t ht => ?_, fun l hl => ?_⟩
 ·simp only [unionS, List.mem_append] at ht
  rcases ht with ht | ht
  ·exact ha.tm t ht
  ·exact hb.tm t ht
 ·simp only [unionS, List.mem_append, List.mem_map] at hl
  rcases hl with hl | ⟨m, hm, rfl⟩
  ·exact ha.il l hl
  ·simp only [shiftL, List.length_map]; exact hb.il m hm
end Go.Bis
namespace Go.Proofs.YtmohcdihdhggoaaGreatDoor
open Go Go.Av Go.Lexs Go.Bis
attribute [local irreducible] ACalls at8
theorem heap_comm (H : Heap) {a b : Nat} {o p : Av.Obj} (h : a ≠ b) : (H.set b p).set a o = (H.set a o).set b p := by
 funext k; simp only [Heap.set]; split <;> split <;> simp_all
theorem cloneII_a {Q} (l : List (List Int)) (hl0 : l ≠ []) (hl : l.length ≤ 5864062014639) (H : Heap) (h : ∀ b, H b = none → Q (.vec b 1 0 l.length) (H.set b (.vec 1 (Rw intsC l)))) : ACalls Tryz.prog 67 [.sl 1 (Rw intsC l)] H Q := by
 refine acalls_of_wp [] Tryz.mixed Tryz.func67 rfl (by kernel_rfl) (of_decide_eq_true (by kernel_rfl)) (by kernel_rfl) ?_
 simp only [go_sem,seval, Tryz.results67]
 have hne : Rw intsC l ≠ [] := by intro e; have := congrArg List.length e; rw [Rw_len] at this; exact hl0 (List.eq_nil_of_length_eq_zero this)
 have hq : ∀ (x : Nat), binD Tryz.prog .eql 24 (isConst (.tmp x) || isConst (.const (.slice none 0 0))) (.sl 1 (Rw intsC l)) .nilsl = some (.bool false) := fun x => b_eql_sl hne (by kernel_rfl)
 repeat' (first | with_reducible refine And.intro ?_ ?_ | simp only [go_sem,seval, hq] | simp (disch := omega) only [wrap64, cell_at] | simp (disch := first | omega | grind) only [heap_ne_, del_ne] | (intro hx_; try simp only [set_none] at hx_) | omega)
 rename_i b1 hb1 b2
 rw [set_del hb1] at hx_ ⊢
 exact Fin.same (h b2 hx_)
theorem cloneI_a {Q} (l : List Int) (hl0 : l ≠ []) (hl : l.length ≤ 5864062014639) (H : Heap) (h : Q (.sl 1 (Rw intC l)) H) : ACalls Tryz.prog 35 [.sl 1 (Rw intC l)] H Q := by
 refine acalls_of_wp [] Tryz.mixed Tryz.func35 rfl (by kernel_rfl) (of_decide_eq_true (by kernel_rfl)) (by kernel_rfl) ?_
 simp only [go_sem,seval, Tryz.results35]
 have hne : Rw intC l ≠ [] := by intro e; have := congrArg List.length e; rw [Rw_len] at this; exact hl0 (List.eq_nil_of_length_eq_zero this)
 have hq : ∀ (x : Nat), binD Tryz.prog .eql 29 (isConst (.tmp x) || isConst (.const (.slice none 0 0))) (.sl 1 (Rw intC l)) .nilsl = some (.bool false) := fun x => b_eql_sl hne (by kernel_rfl)
 repeat' (first | with_reducible refine And.intro ?_ ?_ | simp only [go_sem,seval, hq] | simp (disch := omega) only [wrap64, cell_at] | simp (disch := first | omega | grind) only [heap_ne_, del_ne] | (intro hx_; try simp only [set_none] at hx_) | omega)
 rename_i b1 hb1 b2
 rw [set_del hb1] at hx_ ⊢
 exact Fin.out (ob := some b2) (by rw [Rw_len]) (heap_same _ _) (Fin.less (by show H.Le ((H.set b2 _).del b2); rw [set_del hx_]; exact Heap.Le.refl _) h)
theorem equalI_a {Q} (l m : List Int) (hl : l.length ≤ 17592186043904) (hm : m.length ≤ 17592186043904) (H : Heap) (h : Q (.bool (decide (l = m))) H) : ACalls Tryz.prog 64 [.sl 1 (Rw intC l), .sl 1 (Rw intC m)] H Q := by
 refine acalls_of_wp [] Tryz.mixed Tryz.func64 rfl (by kernel_rfl) (of_decide_eq_true (by kernel_rfl)) (by kernel_rfl) ?_
 simp only [go_sem,seval, Tryz.results64]
 by_cases hc : l.length = m.length
 ·have d1 : ((l.length : Int) = m.length) := by omega
  repeat' (first | with_reducible refine And.intro ?_ ?_ | simp only [go_sem,seval, d1] | simp (disch := omega) only [wrap64, cell_at, Rw_at] | simp (disch := first | omega | grind) only [heap_ne_, del_ne] | (intro hx_; try simp only [set_none] at hx_) | omega)
  refine loop_c [0, 1, 12] (fun (k : Nat) => [(13, .int .i64 k)]) (fun (k : Nat) => H) (fun (k : Nat) => k ≤ l.length ∧ decide (l = m) = decide (l.drop k = m.drop k)) (fun (k : Nat) => l.length - k) (0) (⟨Nat.zero_le _, rfl⟩) (by (try simp only [go_sem,seval]) <;> (try simp (disch := omega) [wrap64]) <;> (try omega)) (by first | with_reducible exact Heap.Le.refl _ | exact heap_set_le (by assumption) | exact Heap.Le.refl _ | exact heap_le_set (by assumption) | exact (by simp only [Go.Av.Heap.Le, Go.Av.Heap.set, Go.Av.Heap.del] at * <;> grind)) ?_
  rintro Ec rfl k ⟨hk, hp⟩
  by_cases hlt : k < l.length
  ·have hkd : decide ((k : Int) < l.length) = true := decide_eq_true (by omega)
   have hm2 : k < m.length := by omega
   rw [drop_beq hlt hm2] at hp
   rw [hp] at h
   have hm3 : (k : Int) < m.length := by omega
   by_cases he : l[k] = m[k]
   ·rw [decide_eq_true he, Bool.true_and] at h hp
    repeat' (first | with_reducible refine And.intro ?_ ?_ | simp only [go_sem,seval, hkd, hm3, Rw_at _ _ hlt, Rw_at _ _ hm2, decide_eq_true he, Bool.not_true] | simp (disch := omega) only [wrap64, cell_at, Rw_at] | simp (disch := first | omega | grind) only [heap_ne_, del_ne] | (intro hx_; try simp only [set_none] at hx_) | omega)
    exact nx_mk (k + 1) ⟨by omega, hp⟩ (by omega) (by (try simp only [go_sem,seval]) <;> (try simp (disch := omega) [wrap64]) <;> (try omega)) (Heap.Le.refl _)
   ·rw [decide_eq_false he, Bool.false_and] at h
    repeat' (first | with_reducible refine And.intro ?_ ?_ | simp only [go_sem,seval, hkd, hm3, Rw_at _ _ hlt, Rw_at _ _ hm2, decide_eq_false he, Bool.not_false] | simp (disch := omega) only [wrap64, cell_at, Rw_at] | simp (disch := first | omega | grind) only [heap_ne_, del_ne] | (intro hx_; try simp only [set_none] at hx_) | omega)
    all_goals (refine Av.Fin.less (H' := H) (by first | with_reducible exact Heap.Le.refl _ | exact heap_le_set (by assumption) | exact (heap_le_set (by assumption)).trans (heap_le_set (by assumption)) | exact (heap_le_set (by assumption)).trans ((heap_le_set (by assumption)).trans (heap_le_set (by assumption))) | exact (by simp only [Go.Av.Heap.Le, Go.Av.Heap.set, Go.Av.Heap.del] at * <;> grind)) ?_; first | exact h | (simp_all; done) | simpa [*] using h)
  ·have hkd : decide ((k : Int) < l.length) = false := decide_eq_false (by omega)
   rw [hp, List.drop_eq_nil_of_le (by omega), List.drop_eq_nil_of_le (by omega)] at h
   repeat' (first | with_reducible refine And.intro ?_ ?_ | simp only [go_sem,seval, hkd] | simp (disch := omega) only [wrap64, cell_at, Rw_at] | simp (disch := first | omega | grind) only [heap_ne_, del_ne] | (intro hx_; try simp only [set_none] at hx_) | omega)
   (refine Av.Fin.less (H' := H) (by first | with_reducible exact Heap.Le.refl _ | exact heap_le_set (by assumption) | exact (heap_le_set (by assumption)).trans (heap_le_set (by assumption)) | exact (heap_le_set (by assumption)).trans ((heap_le_set (by assumption)).trans (heap_le_set (by assumption))) | exact (by simp only [Go.Av.Heap.Le, Go.Av.Heap.set, Go.Av.Heap.del] at * <;> grind)) ?_; first | exact h | (simp_all; done) | simpa [*] using h)
 ·have d1 : ¬ ((l.length : Int) = m.length) := by omega
  rw [decide_eq_false (fun e => hc (by rw [e]))] at h
  repeat' (first | with_reducible refine And.intro ?_ ?_ | simp only [go_sem,seval, d1] | simp (disch := omega) only [wrap64, cell_at, Rw_at] | simp (disch := first | omega | grind) only [heap_ne_, del_ne] | (intro hx_; try simp only [set_none] at hx_) | omega)
  all_goals (refine Av.Fin.less (H' := H) (by first | with_reducible exact Heap.Le.refl _ | exact heap_le_set (by assumption) | exact (heap_le_set (by assumption)).trans (heap_le_set (by assumption)) | exact (heap_le_set (by assumption)).trans ((heap_le_set (by assumption)).trans (heap_le_set (by assumption))) | exact (by simp only [Go.Av.Heap.Le, Go.Av.Heap.set, Go.Av.Heap.del] at * <;> grind)) ?_; first | exact h | (simp_all; done) | simpa [*] using h)
set_option maxHeartbeats 2000000 in
theorem union_a {Q} (a b : Sy) (ha : SyFit a) (hb : SyFit b) (oa : SyOk a) (oB : SyOk b) (hn : a.seen ≠ []) (H : Heap) (h : Q (.agg (syC (unionS a b))) H) : ACalls Tryz.prog 34 [.agg (syC a), .agg (syC b)] H Q := by
 refine acalls_of_wp [(1, .par)] Tryz.mixed Tryz.func34 rfl (by kernel_rfl) (of_decide_eq_true (by kernel_rfl)) (by kernel_rfl) ?_
 simp only [go_sem,seval, Tryz.results34]
 have na := oa.n; have nb := oB.n; have fa := oa.f; have fb := oB.f; have xa := oa.x; have xb := oB.x
 have hpos := List.length_pos_iff.2 hn
 have hfn : a.final ≠ [] := List.length_pos_iff.1 (by omega)
 have hxn : a.next ≠ [] := List.length_pos_iff.1 (by omega)
 intro b1 hb1
 repeat' (first | with_reducible refine And.intro ?_ ?_ | simp only [go_sem,seval] | simp (disch := omega) only [wrap64, cell_at, Rw_at] | simp (disch := first | omega | grind) only [heap_ne_, del_ne] | (intro hx_; try simp only [set_none] at hx_) | omega)
 rename_i b2 hf2 b4
 have hf4 := hx_
 clear hx_
 refine par_mk2 (fun i => if i = 5 then .c (.sl 6 (Rw tmC (a.seen ++ b.seen))) else if i = 11 then .c (.sl 1 (Rw boolC (a.final ++ b.final))) else .mk' (fun b' => .vec b' 1 0 a.next.length) (.vec 1 (Rw intsC a.next))) [b1, b2] ?_
 have m1 : b1 ∈ [b1, b2] := by simp
 have m2 : b2 ∈ [b1, b2] := by simp
 have hab : a.seen.length + b.seen.length ≤ 2000 := by omega
 repeat' (first | with_reducible refine And.intro ?_ ?_ | simp only [go_sem,seval, m1, m2] | simp (disch := omega) only [wrap64, cell_at, Rw_at] | simp (disch := first | omega | grind) only [heap_ne_, del_ne] | (intro hx_; try simp only [set_none] at hx_) | with_reducible refine pc1s (by first | (simp only [set_none]; assumption) | (simp only [set_none, List.mem_cons, List.not_mem_nil, or_false, not_or] at *; simp_all; done)) rfl (by first | (simp only [set_none]; assumption) | (simp only [set_none, List.mem_cons, List.not_mem_nil, or_false, not_or] at *; simp_all; done)) (fun H' Q hro ho hq => ACalls.vec1 ho rfl (concatT_a a.seen b.seen (by omega) (by assumption) _ hq)) ?_ | with_reducible refine pc1s (by first | (simp only [set_none]; assumption) | (simp only [set_none, List.mem_cons, List.not_mem_nil, or_false, not_or] at *; simp_all; done)) rfl (by first | (simp only [set_none]; assumption) | (simp only [set_none, List.mem_cons, List.not_mem_nil, or_false, not_or] at *; simp_all; done)) (fun H' Q hro ho hq => ACalls.vec1 ho rfl (concatB_a a.final b.final (by omega) (by assumption) _ hq)) ?_ | with_reducible refine pcm rfl (fun H' Q hro hq => cloneII_a a.next hxn (by omega) H' hq) ?_ | omega)
 rename_i c1 hc1 c2 hc2 c3 hc3 b5
 have hf5 := hx_
 clear hx_
 obtain ⟨q1, q2, q3, q4⟩ := hc3
 obtain ⟨r0, r1, r2, r3, r4⟩ := hf5
 generalize hBs : ((H.set b1 (.box (syC a))).set b2 (.box (syC b))).set b4 (.box [.nilsl, .nilsl, .nilsl]) = Bs
 have hf2' : b2 ≠ b1 ∧ H b2 = none := by simpa only [set_none] using hf2
 have hf4' : b4 ≠ b2 ∧ b4 ≠ b1 ∧ H b4 = none := by simpa only [set_none] using hf4
 have e1 : Bs b1 = some (.box (syC a)) := by rw [← hBs]; simp only [Heap.set]; grind
 have e2 : Bs b2 = some (.box (syC b)) := by rw [← hBs]; simp only [Heap.set]; grind
 have e3 : Bs c3 = none := by rw [← hBs]; simp only [Heap.set]; grind
 have e5 : Bs b5 = none := by rw [← hBs]; simp only [Heap.set]; grind
 have e4 : Bs b4 = some (.box [.nilsl, .nilsl, .nilsl]) := by rw [← hBs, heap_same]
 have hle : H.Le Bs := by rw [← hBs]; intro k o hk; simp only [Heap.set]; grind
 rw [show Av.Obj.vec 1 (Rw intsC a.next) = Av.Obj.vec 1 (Rw intsC (uniR a b 0)) by rw [uniR_zero]]
 refine loop_c [2, 4, 5, 28, 29] (fun (p : Nat × Nat) => [(30, .int .i64 p.1)]) (fun (p : Nat × Nat) => (Bs.set p.2 (.vec 1 (Rw intsC (uniR a b p.1)))).set b5 (.box [.sl 6 (Rw tmC (a.seen ++ b.seen)), .sl 1 (Rw boolC (a.final ++ b.final)), .vec p.2 1 0 (a.next.length + p.1)])) (fun (p : Nat × Nat) => p.1 ≤ b.next.length ∧ Bs p.2 = none ∧ p.2 ≠ b5) (fun (p : Nat × Nat) => b.next.length - p.1) ((0, c3)) (⟨Nat.zero_le _, e3, Ne.symm r0⟩) (by (try simp only [go_sem,seval]) <;> (try simp (disch := omega) [wrap64]) <;> (try omega)) (by first | with_reducible exact Heap.Le.refl _ | exact heap_set_le (by assumption) | exact Heap.Le.refl _ | exact heap_le_set (by assumption) | exact (by simp only [Go.Av.Heap.Le, Go.Av.Heap.set, Go.Av.Heap.del] at * <;> grind)) ?_
 rintro Ec rfl ⟨i, c⟩ ⟨hi, hc, hcb⟩
 simp only at hi hc hcb
 have hlu := uniR_length a b hi
 by_cases hlt : i < b.next.length
 ·have hkd : decide ((i : Int) < b.next.length) = true := decide_eq_true (by omega)
  have hil := hb.il b.next[i] (List.getElem_mem hlt)
  generalize hHc : (Bs.set c (.vec 1 (Rw intsC (uniR a b i)))).set b5 (.box [.sl 6 (Rw tmC (a.seen ++ b.seen)), .sl 1 (Rw boolC (a.final ++ b.final)), .vec c 1 0 (a.next.length + i)]) = Hc
  have g1 : Hc b1 = some (.box (syC a)) := by rw [← hHc]; simp only [Heap.set]; grind
  have g2 : Hc b2 = some (.box (syC b)) := by rw [← hHc]; simp only [Heap.set]; grind
  have g5 : Hc b5 = some (.box [.sl 6 (Rw tmC (a.seen ++ b.seen)), .sl 1 (Rw boolC (a.final ++ b.final)), .vec c 1 0 (a.next.length + i)]) := by rw [← hHc, heap_same]
  have gc : Hc c = some (.vec 1 (Rw intsC (uniR a b i))) := by rw [← hHc]; simp only [Heap.set]; grind
  repeat' (first | with_reducible refine And.intro ?_ ?_ | simp only [go_sem,seval, hkd, g2, Rw_at _ _ hlt] | simp (disch := omega) only [wrap64, cell_at, Rw_at] | simp (disch := first | omega | grind) only [heap_ne_, del_ne] | (intro hx_; try simp only [set_none] at hx_) | omega)
  have hsl := shiftL_length a.seen.length b.next[i]
  refine loop_c [2, 4, 5, 28, 29, 30, 34, 35] (fun (p : Nat × Option Nat) => [(36, .int .i64 p.1), (8, outG 1 p.1 p.2)]) (fun (p : Nat × Option Nat) => putB Hc 1 (Rw intC ((shiftL a.seen.length b.next[i]).take p.1)) p.2) (fun (p : Nat × Option Nat) => p.1 ≤ b.next[i].length ∧ (p.2 = none → p.1 = 0) ∧ ∀ b, p.2 = some b → Hc b = none) (fun (p : Nat × Option Nat) => b.next[i].length - p.1) ((0, none)) (⟨Nat.zero_le _, fun _ => rfl, fun b e => by cases e⟩) (by (try simp only [go_sem,seval]) <;> (try simp (disch := omega) [wrap64]) <;> (try omega)) (by first | with_reducible exact Heap.Le.refl _ | exact heap_set_le (by assumption) | exact Heap.Le.refl _ | exact heap_le_set (by assumption) | exact (by simp only [Go.Av.Heap.Le, Go.Av.Heap.set, Go.Av.Heap.del] at * <;> grind)) ?_
  rintro Ec2 rfl ⟨j, ob⟩ ⟨hj, h0, h1⟩
  simp only at hj h0 h1
  have hin := OutIn.mk (H := Hc) (sz := 1) (es := Rw intC ((shiftL a.seen.length b.next[i]).take j)) (ob := ob) (fun e => by rw [h0 e]; rfl) h1
  by_cases hjt : j < b.next[i].length
  ·have hjd : decide ((j : Int) < b.next[i].length) = true := decide_eq_true (by omega)
   have hbx := hin.get g1
   obtain ⟨z1, z2⟩ := oB.r _ (List.getElem_mem hlt) _ (List.getElem_mem hjt)
   repeat' (first | with_reducible refine And.intro ?_ ?_ | simp only [go_sem,seval, hjd, hbx, Rw_at _ _ hjt] | simp (disch := omega) only [wrap64, cell_at, Rw_at] | simp (disch := first | omega | grind) only [heap_ne_, del_ne] | (intro hx_; try simp only [set_none] at hx_) | omega)
   rename_i b6
   have hf6 := hx_
   clear hx_
   refine apS_q (by first | exact hin | exact OutIn.set (hin) (by first | assumption | (refine set_none.2 ?_; assumption) | (simp only [set_none]; assumption) | (simp only [set_none] at *; simp_all; done)) _ | exact OutIn.set (OutIn.set (hin) (by first | assumption | (refine set_none.2 ?_; assumption) | (simp only [set_none]; assumption) | (simp only [set_none] at *; simp_all; done)) _) (by first | assumption | (refine set_none.2 ?_; assumption) | (simp only [set_none]; assumption) | (simp only [set_none] at *; simp_all; done)) _ | exact OutIn.set (OutIn.set (OutIn.set (hin) (by first | assumption | (refine set_none.2 ?_; assumption) | (simp only [set_none]; assumption) | (simp only [set_none] at *; simp_all; done)) _) (by first | assumption | (refine set_none.2 ?_; assumption) | (simp only [set_none]; assumption) | (simp only [set_none] at *; simp_all; done)) _) (by first | assumption | (refine set_none.2 ?_; assumption) | (simp only [set_none]; assumption) | (simp only [set_none] at *; simp_all; done)) _ | exact OutIn.set (OutIn.set (OutIn.set (OutIn.set (hin) (by first | assumption | (refine set_none.2 ?_; assumption) | (simp only [set_none]; assumption) | (simp only [set_none] at *; simp_all; done)) _) (by first | assumption | (refine set_none.2 ?_; assumption) | (simp only [set_none]; assumption) | (simp only [set_none] at *; simp_all; done)) _) (by first | assumption | (refine set_none.2 ?_; assumption) | (simp only [set_none]; assumption) | (simp only [set_none] at *; simp_all; done)) _) (by first | assumption | (refine set_none.2 ?_; assumption) | (simp only [set_none]; assumption) | (simp only [set_none] at *; simp_all; done)) _ ) (by simp) (by first | rfl | (simp only [go_sem,seval, Rw_take_len]; done) | (simp only [go_sem,seval, Rw_take_len]; omega) | simp | (simp; omega)) (by simp only [List.length_cons, List.length_nil]; omega) (by simp only [List.length_cons, List.length_nil]; omega) fun b' hb' hb2 hle => ?_
   repeat' (first | with_reducible refine And.intro ?_ ?_ | simp only [go_sem,seval] | simp (disch := omega) only [wrap64, cell_at, Rw_at] | simp (disch := first | omega | grind) only [heap_ne_, del_ne] | (intro hx_; try simp only [set_none] at hx_) | omega)
   have hjs : j < (shiftL a.seen.length b.next[i]).length := by omega
   exact nx_mk (j + 1, some b') ⟨by simp only []; omega, (fun e => by cases e), fun b e => by cases e; exact hb'⟩ (by simp only []; omega) (by (try simp only [go_sem,seval]) <;> (try simp (disch := omega) [wrap64]) <;> (try omega)) (putB_le hle (by rw [Rw_take_succ _ _ hjs]; simp [shiftL, intC]))
  ·have hjd : decide ((j : Int) < b.next[i].length) = false := decide_eq_false (by omega)
   have hjl : j = (shiftL a.seen.length b.next[i]).length := by omega
   rw [List.take_of_length_le (by omega)] at hin ⊢
   have hone : (outG 1 j ob).one = true := by cases ob <;> rfl
   unfold D.one at hone
   repeat' (first | with_reducible refine And.intro ?_ ?_ | simp only [go_sem,seval, hjd, hin.get g5, hone] | simp (disch := omega) only [wrap64, cell_at, Rw_at] | simp (disch := first | omega | grind) only [heap_ne_, del_ne] | (intro hx_; try simp only [set_none] at hx_) | omega)
   rename_i b6
   have hf6 := hx_
   clear hx_
   generalize hHd : (putB Hc 1 (Rw intC (shiftL a.seen.length b.next[i])) ob).set b6 (.vec 1 [[outG 1 j ob]]) = Hd
   have d1 : ∀ k o, Bs k = some o → k ≠ b5 → Hd k = some o := fun k o h2 h3 => by
    rw [← hHd]
    cases ob with
    | none => simp only [putB, Heap.set, ← hHc] at hf6 ⊢; grind
    | some m => have := h1 m rfl; simp only [putB, Heap.set, ← hHc] at hf6 this ⊢; grind
   have d5 : Hd b5 = some (.box [.sl 6 (Rw tmC (a.seen ++ b.seen)), .sl 1 (Rw boolC (a.final ++ b.final)), .vec c 1 0 (a.next.length + i)]) := by
    rw [← hHd]
    cases ob with
    | none => simp only [putB, Heap.set, ← hHc] at hf6 ⊢; grind
    | some m => have := h1 m rfl; simp only [putB, Heap.set, ← hHc] at hf6 this ⊢; grind
   have dc : Hd c = some (.vec 1 (Rw intsC (uniR a b i))) := by
    rw [← hHd]
    cases ob with
    | none => simp only [putB, Heap.set, ← hHc] at hf6 ⊢; grind
    | some m => have := h1 m rfl; simp only [putB, Heap.set, ← hHc] at hf6 this ⊢; grind
   have dm : ∀ m, ob = some m → Hd m = some (.vec 1 (Rw intC (shiftL a.seen.length b.next[i]))) ∧ m ≠ c ∧ m ≠ b5 ∧ Bs m = none := fun m e => by
    subst e
    have := h1 m rfl
    rw [← hHd]
    simp only [putB, Heap.set, ← hHc] at hf6 this ⊢; grind
   have hcn : (Bs.set b5 (.box [.sl 6 (Rw tmC (a.seen ++ b.seen)), .sl 1 (Rw boolC (a.final ++ b.final)), .vec c 1 0 (a.next.length + i)])) c = none := by rw [heap_ne _ hcb]; exact hc
   have hKl : (Bs.set b5 (.box [.sl 6 (Rw tmC (a.seen ++ b.seen)), .sl 1 (Rw boolC (a.final ++ b.final)), .vec c 1 0 (a.next.length + i)])).Le Hd := fun k o hk => by
    by_cases hk5 : k = b5
    ·subst hk5; rw [heap_same] at hk; cases hk; exact d5
    ·rw [heap_ne _ hk5] at hk; exact d1 k o hk hk5
   have hinC : OutIn (Bs.set b5 (.box [.sl 6 (Rw tmC (a.seen ++ b.seen)), .sl 1 (Rw boolC (a.final ++ b.final)), .vec c 1 0 (a.next.length + i)])) 1 (Rw intsC (uniR a b i)) (some c) Hd := ⟨hKl, dc, fun b e => by cases e; exact hcn⟩
   rw [dc, apV_vec]
   refine ⟨rfl, by rw [Rw_len]; omega, by simp only [List.length_cons, List.length_nil]; omega, by simp only [List.length_cons, List.length_nil]; omega, fun b' hb2 => ?_⟩
   have hb' := hinC.new hb2
   rw [List.take_of_length_le (by rw [Rw_len]; omega)]
   have hb5' : b5 ≠ b' := fun e => by rw [← e, heap_same] at hb'; cases hb'
   have hbb : Bs b' = none := by rwa [heap_ne _ (Ne.symm hb5')] at hb'
   have hd5 : (((Hd.del c).set b' (.vec 1 (Rw intsC (uniR a b i) ++ [[outG 1 j ob]]))) b5) = some (.box [.sl 6 (Rw tmC (a.seen ++ b.seen)), .sl 1 (Rw boolC (a.final ++ b.final)), .vec c 1 0 (a.next.length + i)]) := by
    rw [heap_ne _ hb5']; show (Hd.del c) b5 = _; simp only [Heap.del]; rw [if_neg (Ne.symm hcb)]; exact d5
   repeat' (first | with_reducible refine And.intro ?_ ?_ | simp only [go_sem,seval, hd5] | simp (disch := omega) only [wrap64, cell_at, Rw_at] | simp (disch := first | omega | grind) only [heap_ne_, del_ne] | (intro hx_; try simp only [set_none] at hx_) | omega)
   have hr5 : Rw intsC (uniR a b (i + 1)) = Rw intsC (uniR a b i) ++ [[.sl 1 (Rw intC (shiftL a.seen.length b.next[i]))]] := by rw [uniR_succ a b hlt]; simp [Rw, intsC]
   refine nx_w (i + 1, b') ⟨by simp only []; omega, hbb, Ne.symm hb5'⟩ (by simp only []; omega) ?_
   simp only [hr5]
   rw [heap_comm _ hb5']
   have hmb : ∀ m, ob = some m → m ≠ b' := fun m e => by
    intro e2
    rw [← e2] at hb2
    obtain ⟨g1, g2, _⟩ := dm m e
    change (Hd.del c) m = none at hb2
    simp only [Heap.del] at hb2
    rw [if_neg g2, g1] at hb2
    cases hb2
   refine weak_rowO (n := j) (ob := ob) ?_ (by rw [Rw_len]; exact hjl) (by rw [heap_ne _ (Ne.symm hb5'), heap_same]) (fun e => by have := h0 e; rw [List.eq_nil_of_length_eq_zero (l := shiftL a.seen.length b.next[i]) (by omega)]; rfl) (fun m e => ?_) (fun k o hk ho => ?_)
   ·exact (by (try simp only [go_sem,seval]) <;> (try simp (disch := omega) [wrap64]) <;> (try omega))
   ·obtain ⟨g1, g2, g3, _⟩ := dm m e
    refine ⟨?_, hmb m e⟩
    rw [heap_ne _ g3, heap_ne _ (hmb m e)]
    show (Hd.del c) m = _
    simp only [Heap.del]; rw [if_neg g2]; exact g1
   ·refine ⟨fun m e e2 => ?_, ?_⟩
    ·obtain ⟨g1, g2, g3, g4⟩ := dm m e
     rw [e2, heap_ne _ g3, g4] at ho
     cases ho
    ·by_cases hk5 : k = b5
     ·subst hk5; rw [heap_same] at ho ⊢; exact ho
     ·rw [heap_ne _ hk5] at ho ⊢
      rw [heap_ne _ hk]
      show (Hd.del c) k = _
      have hkc : k ≠ c := fun e => by rw [e, hc] at ho; cases ho
      simp only [Heap.del]; rw [if_neg hkc]; exact d1 k o ho hk5
 ·have hkd : decide ((i : Int) < b.next.length) = false := decide_eq_false (by omega)
  repeat' (first | with_reducible refine And.intro ?_ ?_ | simp only [go_sem,seval, hkd, e4] | simp (disch := omega) only [wrap64, cell_at, Rw_at] | simp (disch := first | omega | grind) only [heap_ne_, del_ne] | (intro hx_; try simp only [set_none] at hx_) | omega)
  rw [uniR_all a b (by omega)] at hlu ⊢
  have h4c : b4 ≠ c := fun e => by rw [e, hc] at e4; cases e4
  have h45 : b4 ≠ b5 := fun e => by rw [e, e5] at e4; cases e4
  refine Fin.freezeA (cs' := syC (unionS a b)) (b := c) (by rw [heap_ne _ (Ne.symm h4c), heap_ne _ hcb, heap_same]) (by rfl) (fun q d d' h1 h2 => ?_) (Fin.less (fun k o hk => ?_) h)
  ·match q with
   | 0 => cases h1; cases h2; exact .same _
   | 1 => cases h1; cases h2; exact .same _
   | 2 =>
    cases h1; cases h2
    rw [show a.next.length + i = (Rw intsC (unionS a b).next).length by rw [Rw_len, hlu]]
    exact .all
   | q + 3 => cases h1
  ·have hk2 := hle k o hk
   have hkc : k ≠ c := fun e => by rw [e, hc] at hk2; cases hk2
   have hk5 : k ≠ b5 := fun e => by rw [e, e5] at hk2; cases hk2
   have hk4 : k ≠ b4 := fun e => by rw [e, hf4'.2.2] at hk; cases hk
   simp only [Heap.del]
   rw [if_neg hkc, heap_ne _ hk4, heap_ne _ hk5, heap_ne _ hkc]
   exact hk2
end Go.Proofs.YtmohcdihdhggoaaGreatDoor
end
section
namespace Go.Proofs
open Go.Shelf
def Tryz.lays121_ren : Go.Shelf.Ren := ⟨fun | 121 => 84 | 214 => 109 | n => n, fun | 4 => 4 | 9 => 9 | n => n, fun | n => n⟩
theorem Tryz.lays121 : Go.Proofs.Lays.n121 Tryz.prog Tryz.lays121_ren := {
 mixed := by kernel_rfl
 f121 := Tryz.func84.trans (congrArg some (by kernel_rfl))
 f214 := Tryz.func109.trans (congrArg some (by kernel_rfl))
 t4 := Tryz.underlying4
 a4 := Tryz.isAgg4
 z4 := Tryz.sizeOf4
 v4 := Tryz.zeroValue4
 t9 := Tryz.underlying9
 a9 := Tryz.isAgg9
 z9 := Tryz.sizeOf9
 v9 := Tryz.zeroValue9 }
open Go.RowKit in
theorem Tryz.strconv_FormatBool (b : Bool) (w : World) :
  Calls Tryz.prog 84 #[.bool b] w fun e w' => e = .returned (.string ⟨(Lib.formatBool b).toArray⟩) ∧ w' = w := Any.strconv_FormatBool Tryz.lays121 b w
def Tryz.lays177_ren : Go.Shelf.Ren := ⟨fun | 177 => 112 | 250 => 136 | 289 => 147 | 197 => 152 | 323 => 153 | 260 => 158 | 339 => 159 | 340 => 160 | 242 => 161 | 119 => 162 | 345 => 165 | 346 => 166 | 278 => 167 | n => n, fun | 9 => 9 | 5 => 5 | 4 => 4 | 3 => 3 | 37 => 54 | 21 => 21 | 105 => 180 | 46 => 117 | 119 => 189 | 0 => 0 | 139 => 192 | 138 => 191 | 49 => 193 | 234 => 194 | 131 => 89 | 51 => 140 | 236 => 196 | n => n, fun | 3 => 2 | 4 => 3 | 20 => 4 | 21 => 5 | 22 => 6 | 23 => 7 | 24 => 8 | n => n⟩
theorem Tryz.lays177 : Go.Proofs.Lays.n177 Tryz.prog Tryz.lays177_ren := {
 mixed := by kernel_rfl
 f119 := Tryz.func162.trans (congrArg some (by kernel_rfl))
 f177 := Tryz.func112.trans (congrArg some (by kernel_rfl))
 f197 := Tryz.func152.trans (congrArg some (by kernel_rfl))
 f242 := Tryz.func161.trans (congrArg some (by kernel_rfl))
 f250 := Tryz.func136.trans (congrArg some (by kernel_rfl))
 f260 := Tryz.func158.trans (congrArg some (by kernel_rfl))
 f278 := Tryz.func167.trans (congrArg some (by kernel_rfl))
 f289 := Tryz.func147.trans (congrArg some (by kernel_rfl))
 f323 := Tryz.func153.trans (congrArg some (by kernel_rfl))
 f339 := Tryz.func159.trans (congrArg some (by kernel_rfl))
 f340 := Tryz.func160.trans (congrArg some (by kernel_rfl))
 f345 := Tryz.func165.trans (congrArg some (by kernel_rfl))
 f346 := Tryz.func166.trans (congrArg some (by kernel_rfl))
 t0 := Tryz.underlying0
 a0 := Tryz.isAgg0
 z0 := Tryz.sizeOf0
 v0 := Tryz.zeroValue0
 t3 := Tryz.underlying3
 a3 := Tryz.isAgg3
 z3 := Tryz.sizeOf3
 v3 := Tryz.zeroValue3
 t4 := Tryz.underlying4
 a4 := Tryz.isAgg4
 z4 := Tryz.sizeOf4
 v4 := Tryz.zeroValue4
 t5 := Tryz.underlying5
 a5 := Tryz.isAgg5
 z5 := Tryz.sizeOf5
 v5 := Tryz.zeroValue5
 t9 := Tryz.underlying9
 a9 := Tryz.isAgg9
 z9 := Tryz.sizeOf9
 v9 := Tryz.zeroValue9
 t21 := Tryz.underlying21
 a21 := Tryz.isAgg21
 z21 := Tryz.sizeOf21
 v21 := Tryz.zeroValue21
 t37 := Tryz.underlying54
 a37 := Tryz.isAgg54
 z37 := Tryz.sizeOf54
 v37 := Tryz.zeroValue54
 t46 := Tryz.underlying117
 a46 := Tryz.isAgg117
 z46 := Tryz.sizeOf117
 v46 := Tryz.zeroValue117
 t49 := Tryz.underlying193
 a49 := Tryz.isAgg193
 z49 := Tryz.sizeOf193
 v49 := Tryz.zeroValue193
 t51 := Tryz.underlying140
 a51 := Tryz.isAgg140
 z51 := Tryz.sizeOf140
 v51 := Tryz.zeroValue140
 t105 := Tryz.underlying180
 a105 := Tryz.isAgg180
 z105 := Tryz.sizeOf180
 v105 := Tryz.zeroValue180
 t119 := Tryz.underlying189
 a119 := Tryz.isAgg189
 z119 := Tryz.sizeOf189
 t131 := Tryz.underlying89
 a131 := Tryz.isAgg89
 z131 := Tryz.sizeOf89
 v131 := Tryz.zeroValue89
 t138 := Tryz.underlying191
 a138 := Tryz.isAgg191
 z138 := Tryz.sizeOf191
 v138 := Tryz.zeroValue191
 t139 := Tryz.underlying192
 a139 := Tryz.isAgg192
 z139 := Tryz.sizeOf192
 v139 := Tryz.zeroValue192
 t234 := Tryz.underlying194
 a234 := Tryz.isAgg194
 z234 := Tryz.sizeOf194
 v234 := Tryz.zeroValue194
 t236 := Tryz.underlying196
 a236 := Tryz.isAgg196
 z236 := Tryz.sizeOf196
 v236 := Tryz.zeroValue196
 g3 := by kernel_rfl
 g4 := by kernel_rfl
 g20 := by kernel_rfl
 g21 := by kernel_rfl
 g22 := by kernel_rfl
 g23 := by kernel_rfl
 g24 := by kernel_rfl }
open Go.RowKit in
theorem Tryz.strconv_Quote (T : Lib.PrintTabs) (s : ByteArray) (w : World) (hlen : 10 * s.size + 12 ≤ 140737488355328) (hT : Lib.PrintTabsAt 4 5 6 7 T w) (hU : Lib.Utf8Tabs 2 3 w) :
  Calls Tryz.prog 112 #[.string s] w fun e w' => e = .returned (.string (strOfNums (Lib.quoteZ T s))) ∧ Below w.heap.size w w' := Any.strconv_Quote Tryz.lays177 (by kernel_rfl) T s w hlen hT hU
def Tryz.laysM171_ren : Go.Shelf.Ren := ⟨fun | 171 => 87 | 243 => 114 | 246 => 137 | 283 => 148 | 284 => 149 | 285 => 150 | 286 => 151 | 129 => 108 | 317 => 154 | 318 => 155 | 319 => 156 | 320 => 157 | 337 => 163 | 338 => 164 | n => n, fun | 3 => 3 | 9 => 9 | 2 => 2 | 4 => 4 | 171 => 176 | 0 => 0 | 53 => 142 | 37 => 54 | 5 => 5 | 173 => 178 | 212 => 185 | 51 => 140 | 20 => 20 | 213 => 186 | 46 => 117 | 232 => 198 | 233 => 199 | n => n, fun | 17 => 1 | 18 => 9 | 19 => 10 | n => n⟩
theorem Tryz.laysM171 : Go.Proofs.LaysM.n171 Tryz.prog Tryz.laysM171_ren := {
 mixed := by kernel_rfl
 f129 := Tryz.func108.trans (congrArg some (by kernel_rfl))
 f171 := Tryz.func87.trans (congrArg some (by kernel_rfl))
 f243 := Tryz.func114.trans (congrArg some (by kernel_rfl))
 f246 := Tryz.func137.trans (congrArg some (by kernel_rfl))
 f283 := Tryz.func148.trans (congrArg some (by kernel_rfl))
 f284 := Tryz.func149.trans (congrArg some (by kernel_rfl))
 f285 := Tryz.func150.trans (congrArg some (by kernel_rfl))
 f286 := Tryz.func151.trans (congrArg some (by kernel_rfl))
 f317 := Tryz.func154.trans (congrArg some (by kernel_rfl))
 f318 := Tryz.func155.trans (congrArg some (by kernel_rfl))
 f319 := Tryz.func156.trans (congrArg some (by kernel_rfl))
 f320 := Tryz.func157.trans (congrArg some (by kernel_rfl))
 f337 := Tryz.func163.trans (congrArg some (by kernel_rfl))
 f338 := Tryz.func164.trans (congrArg some (by kernel_rfl))
 t0 := Tryz.underlying0
 a0 := Tryz.isAgg0
 z0 := Tryz.sizeOf0
 v0 := Tryz.zeroValue0
 t2 := Tryz.underlying2
 a2 := Tryz.isAgg2
 z2 := Tryz.sizeOf2
 v2 := Tryz.zeroValue2
 t3 := Tryz.underlying3
 a3 := Tryz.isAgg3
 z3 := Tryz.sizeOf3
 v3 := Tryz.zeroValue3
 t4 := Tryz.underlying4
 a4 := Tryz.isAgg4
 z4 := Tryz.sizeOf4
 v4 := Tryz.zeroValue4
 t5 := Tryz.underlying5
 a5 := Tryz.isAgg5
 z5 := Tryz.sizeOf5
 v5 := Tryz.zeroValue5
 t9 := Tryz.underlying9
 a9 := Tryz.isAgg9
 z9 := Tryz.sizeOf9
 v9 := Tryz.zeroValue9
 t20 := Tryz.underlying20
 a20 := Tryz.isAgg20
 z20 := Tryz.sizeOf20
 v20 := Tryz.zeroValue20
 t37 := Tryz.underlying54
 a37 := Tryz.isAgg54
 z37 := Tryz.sizeOf54
 v37 := Tryz.zeroValue54
 t46 := Tryz.underlying117
 a46 := Tryz.isAgg117
 z46 := Tryz.sizeOf117
 v46 := Tryz.zeroValue117
 t51 := Tryz.underlying140
 a51 := Tryz.isAgg140
 z51 := Tryz.sizeOf140
 v51 := Tryz.zeroValue140
 t53 := Tryz.underlying142
 a53 := Tryz.isAgg142
 z53 := Tryz.sizeOf142
 v53 := Tryz.zeroValue142
 t171 := Tryz.underlying176
 a171 := Tryz.isAgg176
 z171 := Tryz.sizeOf176
 v171 := Tryz.zeroValue176
 t173 := Tryz.underlying178
 a173 := Tryz.isAgg178
 z173 := Tryz.sizeOf178
 v173 := Tryz.zeroValue178
 t212 := Tryz.underlying185
 a212 := Tryz.isAgg185
 z212 := Tryz.sizeOf185
 v212 := Tryz.zeroValue185
 t213 := Tryz.underlying186
 a213 := Tryz.isAgg186
 z213 := Tryz.sizeOf186
 t232 := Tryz.underlying198
 a232 := Tryz.isAgg198
 z232 := Tryz.sizeOf198
 v232 := Tryz.zeroValue198
 t233 := Tryz.underlying199
 a233 := Tryz.isAgg199
 z233 := Tryz.sizeOf199
 v233 := Tryz.zeroValue199
 g17 := by kernel_rfl
 g18 := by kernel_rfl
 g19 := by kernel_rfl
 i0 := by kernel_rfl
 i2 := by kernel_rfl
 i3 := by kernel_rfl
 i4 := by kernel_rfl
 i5 := by kernel_rfl
 i9 := by kernel_rfl
 i20 := by kernel_rfl
 i37 := by kernel_rfl
 i46 := by kernel_rfl
 i51 := by kernel_rfl
 i53 := by kernel_rfl
 i171 := by kernel_rfl
 i173 := by kernel_rfl
 i212 := by kernel_rfl
 i232 := by kernel_rfl
 i233 := by kernel_rfl
 m17 := by kernel_rfl
 m18 := by kernel_rfl
 m19 := by kernel_rfl }
open Go.RowKit Go.Sort Go.Lib in
theorem Tryz.strconv_Itoa (n : Int) (h0 : -9223372036854775808 ≤ n) (h1 : n ≤ 9223372036854775807) (w : World) (htab : Lib.TabIs Tryz.prog w "internal/strconv.uint64pow10" .u64 Lib.pow10Tab) :
  Calls Tryz.prog 87 #[.int .i64 n] w fun e w' => e = .returned (.string ⟨(Lib.itoa n).toArray⟩) ∧ ∃ k os, w' = grow (w.drewN k) os := Any.strconv_Itoa Tryz.laysM171 n h0 h1 w htab
def Tryz.lays189_ren : Go.Shelf.Ren := ⟨fun | 189 => 56 | 125 => 83 | 257 => 82 | 128 => 107 | 129 => 108 | 294 => 98 | 295 => 99 | 296 => 100 | 297 => 101 | 298 => 102 | 299 => 103 | 216 => 104 | 300 => 105 | 301 => 106 | 328 => 129 | 329 => 130 | 330 => 131 | 331 => 132 | 332 => 133 | 215 => 134 | 343 => 145 | n => n, fun | 28 => 29 | 3 => 3 | 46 => 117 | 0 => 0 | 51 => 140 | 53 => 142 | 4 => 4 | 183 => 133 | 182 => 132 | 131 => 89 | 5 => 5 | 9 => 9 | 218 => 158 | 222 => 108 | 228 => 170 | 229 => 171 | n => n, fun | n => n⟩
theorem Tryz.lays189 : Go.Proofs.Lays.n189 Tryz.prog Tryz.lays189_ren := {
 mixed := by kernel_rfl
 f125 := Tryz.func83.trans (congrArg some (by kernel_rfl))
 f128 := Tryz.func107.trans (congrArg some (by kernel_rfl))
 f129 := Tryz.func108.trans (congrArg some (by kernel_rfl))
 f189 := Tryz.func56.trans (congrArg some (by kernel_rfl))
 f215 := Tryz.func134.trans (congrArg some (by kernel_rfl))
 f216 := Tryz.func104.trans (congrArg some (by kernel_rfl))
 f257 := Tryz.func82.trans (congrArg some (by kernel_rfl))
 f294 := Tryz.func98.trans (congrArg some (by kernel_rfl))
 f295 := Tryz.func99.trans (congrArg some (by kernel_rfl))
 f296 := Tryz.func100.trans (congrArg some (by kernel_rfl))
 f297 := Tryz.func101.trans (congrArg some (by kernel_rfl))
 f298 := Tryz.func102.trans (congrArg some (by kernel_rfl))
 f299 := Tryz.func103.trans (congrArg some (by kernel_rfl))
 f300 := Tryz.func105.trans (congrArg some (by kernel_rfl))
 f301 := Tryz.func106.trans (congrArg some (by kernel_rfl))
 f328 := Tryz.func129.trans (congrArg some (by kernel_rfl))
 f329 := Tryz.func130.trans (congrArg some (by kernel_rfl))
 f330 := Tryz.func131.trans (congrArg some (by kernel_rfl))
 f331 := Tryz.func132.trans (congrArg some (by kernel_rfl))
 f332 := Tryz.func133.trans (congrArg some (by kernel_rfl))
 f343 := Tryz.func145.trans (congrArg some (by kernel_rfl))
 t0 := Tryz.underlying0
 a0 := Tryz.isAgg0
 z0 := Tryz.sizeOf0
 v0 := Tryz.zeroValue0
 t3 := Tryz.underlying3
 a3 := Tryz.isAgg3
 z3 := Tryz.sizeOf3
 v3 := Tryz.zeroValue3
 t4 := Tryz.underlying4
 a4 := Tryz.isAgg4
 z4 := Tryz.sizeOf4
 v4 := Tryz.zeroValue4
 t5 := Tryz.underlying5
 a5 := Tryz.isAgg5
 z5 := Tryz.sizeOf5
 v5 := Tryz.zeroValue5
 t9 := Tryz.underlying9
 a9 := Tryz.isAgg9
 z9 := Tryz.sizeOf9
 v9 := Tryz.zeroValue9
 t28 := Tryz.underlying29
 a28 := Tryz.isAgg29
 z28 := Tryz.sizeOf29
 v28 := Tryz.zeroValue29
 t46 := Tryz.underlying117
 a46 := Tryz.isAgg117
 z46 := Tryz.sizeOf117
 v46 := Tryz.zeroValue117
 t51 := Tryz.underlying140
 a51 := Tryz.isAgg140
 z51 := Tryz.sizeOf140
 v51 := Tryz.zeroValue140
 t53 := Tryz.underlying142
 a53 := Tryz.isAgg142
 z53 := Tryz.sizeOf142
 v53 := Tryz.zeroValue142
 t131 := Tryz.underlying89
 a131 := Tryz.isAgg89
 z131 := Tryz.sizeOf89
 v131 := Tryz.zeroValue89
 t182 := Tryz.underlying132
 a182 := Tryz.isAgg132
 z182 := Tryz.sizeOf132
 v182 := Tryz.zeroValue132
 t183 := Tryz.underlying133
 a183 := Tryz.isAgg133
 z183 := Tryz.sizeOf133
 v183 := Tryz.zeroValue133
 t218 := Tryz.underlying158
 a218 := Tryz.isAgg158
 z218 := Tryz.sizeOf158
 v218 := Tryz.zeroValue158
 t222 := Tryz.underlying108
 a222 := Tryz.isAgg108
 z222 := Tryz.sizeOf108
 v222 := Tryz.zeroValue108
 t228 := Tryz.underlying170
 a228 := Tryz.isAgg170
 z228 := Tryz.sizeOf170
 v228 := Tryz.zeroValue170
 t229 := Tryz.underlying171
 a229 := Tryz.isAgg171
 z229 := Tryz.sizeOf171
 v229 := Tryz.zeroValue171 }
open Go.Sort Go.RowKit in
theorem Tryz.slices_Sort_int (blk off cap : Nat) (zs : List Int) (w : World) (hH : Holds (Value.int .i64) w blk off zs.toArray) (hblk : blk < w.heap.size) (hsz : zs.length < 4611686018427387904) :
  Calls Tryz.prog 56 #[.slice (some ⟨blk, off, none⟩) zs.length cap] w fun e w' =>
   e = .returned (.tuple #[]) ∧ ∃ n os, w' = grow (putRow (Value.int .i64) (Sort.ahead w n) blk off (zs.mergeSort fun x y => decide (x ≤ y)).toArray) os := Any.slices_Sort_int Tryz.lays189 blk off cap zs w hH hblk hsz
def Tryz.laysNm220_ren : Go.Shelf.Ren := ⟨fun | 20 => 57 | n => n, fun | 22 => 29 | 3 => 3 | 4 => 4 | 0 => 0 | n => n, fun | n => n⟩
theorem Tryz.laysNm220 : Go.Proofs.Lays2.n20 Tryz.prog Tryz.laysNm220_ren := {
 mixed := by kernel_rfl
 f20 := Tryz.func57.trans (congrArg some (by kernel_rfl))
 t0 := Tryz.underlying0
 a0 := Tryz.isAgg0
 z0 := Tryz.sizeOf0
 v0 := Tryz.zeroValue0
 t3 := Tryz.underlying3
 a3 := Tryz.isAgg3
 z3 := Tryz.sizeOf3
 v3 := Tryz.zeroValue3
 t4 := Tryz.underlying4
 a4 := Tryz.isAgg4
 z4 := Tryz.sizeOf4
 v4 := Tryz.zeroValue4
 t22 := Tryz.underlying29
 a22 := Tryz.isAgg29
 z22 := Tryz.sizeOf29
 v22 := Tryz.zeroValue29
 i3 := by kernel_rfl }
open Go.RowKit Go.Lib Go.Sort in
theorem Tryz.slices_Compact_int_empty (a : Option Addr) (cap : Nat) (w : World) :
  Calls Tryz.prog 57 #[.slice a 0 cap] w fun e w' => e = .returned (.slice a 0 cap) ∧ w' = w := Any.slices_Compact_int_empty Tryz.laysNm220 a cap w
open Go.RowKit Go.Lib Go.Sort in
theorem Tryz.slices_Compact_int_cells (b off n c : Nat) (zs : List Int) (w : World) (hz : n ≤ zs.length) (hbig : n ≤ 9223372036854775807) (hcap : n ≤ c) (hc : ∀ j, j < zs.length → w.cell? ⟨b, off + j, none⟩ = some (.int .i64 (zs.getD j 0))) (hf : ∀ j, j < n → w.frozen? ⟨b, off + j, none⟩ = false) :
  Calls Tryz.prog 57 #[.slice (some ⟨b, off, none⟩) n c] w fun e w' => e = .returned (.slice (some ⟨b, off, none⟩) (Lib.compact (zs.take n)).length c) ∧ ∃ q, w' = (w.drewN q).setCells b off ((Lib.compact (zs.take n) ++ List.replicate (n - (Lib.compact (zs.take n)).length) 0).map (Value.int .i64)) := Any.slices_Compact_int_cells Tryz.laysNm220 b off n c zs w hz hbig hcap hc hf
open Go.RowKit Go.Sort in
theorem Tryz.slices_Sort_int_none (p : Option Addr) (cap : Nat) (w : World) :
  Calls Tryz.prog 56 #[.slice p 0 cap] w fun e w' => e = .returned (.tuple #[]) ∧ w' = w := Any.slices_Sort_int_none Tryz.lays189 p cap w
end Go.Proofs
end
section
namespace Go.Proofs.YtmohcdihdhggoaaGreatDoor
open Go Go.Shelf Go.RowKit
def ApW (w w' : World) (v v' : Value) (n m : Nat) : Prop :=
 (∃ g cap, v = .slice (some ⟨g, 0, none⟩) n cap ∧ v' = .slice (some ⟨g, 0, none⟩) (n + m) cap) ∨
 ((∀ k, k < w.heap.size → w'.heap[k]? = w.heap[k]?) ∧ ∀ k, v'.ownBlock = some k → w.heap.size ≤ k)
theorem append_where {P : Program} {w : World} (t u ty e : TypeId) (i : TypeInfo) (ht : P.underlying t = some (.slice e)) (hu : P.underlying u = some .string) (hi : P.info? e = some i) (hz : i.zero = some (.int .u8 0))
  (hsize : i.size = 1) (hby : i.bytes = 1) (v : Value) (n : Nat) (xs : List Value) (hown : w.ownsRow 0 e 1 v n xs) (s : ByteArray) (h63 : n + s.size ≤ maxLen) (hbytes : n + s.size ≤ 140737488355328)
  {v' : Value} {w' : World} (hr : (Builtin.append_ #[t, u] ty #[v, .string s]).run P w = .ok v' w') : ApW w w' v v' n s.size := by
 rcases hown.2 with ⟨rfl, rfl⟩ | ⟨g, cap, cur, rfl, hbg, hg, hnc, hcm, hcs, htake⟩
 ·have hx : xs = [] := List.eq_nil_of_length_eq_zero (by simpa using hown.1)
  subst hx
  obtain ⟨v2, w2, hr2, h2, h3, _⟩ := Lib.run_append_own_string (P := P) w w.heap.size t u ty e i ht hu hi hz hsize hby (.slice none 0 0) 0 [] (World.ownsRow_nil w _ e 1) s h63 hbytes (Nat.le_refl _)
  rw [hr] at hr2
  cases hr2
  refine .inr ⟨fun k hk => h3.block k hk (by simp [Value.ownBlock]), fun k hk => ?_⟩
  rcases h2.2 with ⟨rfl, _⟩ | ⟨g, cap, cur, rfl, hbg, _⟩
  ·simp [Value.ownBlock] at hk
  ·simp [Value.ownBlock] at hk; omega
 ·by_cases hroom : n + s.size ≤ cap
  ·have hcs' : cur.size = cap := by simpa using hcs
   have hr2 := Lib.run_append_room_string (P := P) w t u ty e i ht hu hi hsize g n cap cur hg s hroom (by omega)
   rw [hr] at hr2
   cases hr2
   exact .inl ⟨g, cap, rfl, rfl⟩
  ·have holds : ∀ j u, xs[j]? = some u → w.cell? ((⟨g, 0, none⟩ : Addr).add j) = some u := hown.cells (g := g) rfl
   have hxl : xs.length = n := by simpa using hown.1
   have hr2 := Lib.run_append_grow_string (P := P) w t u ty e i (.int .u8 0) ht hu hi hz ⟨g, 0, none⟩ n cap xs (by rw [hsize]; simpa using hxl) holds s (by omega) (by simp only [maxLen] at h63; omega) (by rw [hby]; exact growslice_fits (by omega) (by omega))
   rw [hr] at hr2
   cases hr2
   refine .inr ⟨fun k hk => heap_alloc_old w.drew _ (r := k) hk, fun k hk => ?_⟩
   simp [Value.ownBlock] at hk; omega
theorem wpList_append_where {P : Program} {w : World} {ops : Array Oper} {rest : List Oper} {o : Oper} {a : Act} {Q : Exit → Act → World → Prop} (hgd : o.guard = none) (sl x : Operand) (t u : TypeId)
  (ho : o.op = .call { callee := .builtin .append, args := #[sl, x], argTypes := #[t, u] })
  (e : TypeId) (i : TypeInfo) (ht : P.underlying t = some (.slice e)) (hu : P.underlying u = some .string) (hi : P.info? e = some i) (hz : i.zero = some (.int .u8 0))
  (hsize : i.size = 1) (hby : i.bytes = 1)
  (v : Value) (n : Nat) (xs : List Value) (hs : a.eval sl = v) (hown : w.ownsRow 0 e 1 v n xs) (s : ByteArray) (hx : a.eval x = .string s)
  (h63 : n + s.size ≤ maxLen) (hbytes : n + s.size ≤ 140737488355328)
  (h : ∀ v' w', w'.ownsRow 0 e 1 v' (n + s.size) (xs ++ Lib.strCells s) → w.grownBy w' v.ownBlock → (v' = .slice none 0 0 ↔ v = .slice none 0 0 ∧ s.size = 0) → ApW w w' v v' n s.size → wpList P ops Q rest (a.put o.dst v') w') : wpList P ops Q (o :: rest) a w := by
 refine wpList_plain hgd fun K hK => ?_
 obtain ⟨v', w', hr, h2, h3, h4⟩ := Lib.run_append_own_string (P := P) w 0 t u o.type e i ht hu hi hz hsize hby v n xs hown s h63 hbytes (Nat.zero_le _)
 have hwh := append_where t u o.type e i ht hu hi hz hsize hby v n xs hown s h63 hbytes hr
 unfold Oper.wp execOp
 simp only [ho, resolve, invoke, builtin, Sem.run_bind, Sem.run_pure, Result.andThen_ok, List.map_toArray, List.map_cons, List.map_nil, hs, hx, hr]
 exact hK _ _ (h v' w' h2 h3 h4 hwh)
theorem bld_size : (Tryz.prog.info? 145).map (·.size) = some 2 := by kernel_rfl
theorem bld_lies : liesAt Tryz.prog Tryz.prog.depth 145 (2 / Tryz.prog.cellsOf 145) 0 145 1 = true := by kernel_rfl
theorem byte_info : (Tryz.prog.info? 5).map (fun i => (i.zero, i.size, i.bytes)) = some (some (.int .u8 0), 1, 1) := by kernel_rfl
set_option maxHeartbeats 1000000 in
set_option maxRecDepth 100000 in
theorem copyCheck_used (b : Nat) (w : World) (h0 : w.cell? ⟨b, 0, none⟩ = some (.pointer (some ⟨b, 0, none⟩))) :
  Calls Tryz.prog 135 #[.pointer (some ⟨b, 0, none⟩)] w fun e w' => e = .returned (.tuple #[]) ∧ w' = w := by
 obtain ⟨j, hj, _⟩ := Option.map_eq_some_iff.1 bld_size
 have mixed : Tryz.prog.follows .mixedOrders = true := by kernel_rfl
 have t72 := Tryz.underlying145; have a72 := Tryz.isAgg145; have z72 := Tryz.sizeOf145; have v72 := Tryz.zeroValue145; have u72 := run_underlying t72
 have t70 := Tryz.underlying143; have a70 := Tryz.isAgg143; have z70 := Tryz.sizeOf143; have v70 := Tryz.zeroValue143; have u70 := run_underlying t70
 have t4 := Tryz.underlying4; have a4 := Tryz.isAgg4; have z4 := Tryz.sizeOf4; have v4 := Tryz.zeroValue4; have u4 := run_underlying t4
 have t164 := Tryz.underlying173; have a164 := Tryz.isAgg173; have z164 := Tryz.sizeOf173; have v164 := Tryz.zeroValue173; have u164 := run_underlying t164
 go_enter Tryz.func135, Tryz.ntmps135
 go_wp2
 rw [Lib.run_neq_ptr_same w _ t70 hj]
 go_wp2
 go_end0
 exact ⟨rfl, rfl⟩
set_option maxHeartbeats 1000000 in
set_option maxRecDepth 100000 in
theorem copyCheck_fresh (b : Nat) (w : World) (h0 : w.cell? ⟨b, 0, none⟩ = some (.pointer none)) (hsh : w.shape? b = some (145, 2)) (hfz : w.frozen? ⟨b, 0, none⟩ = false) :
  Calls Tryz.prog 135 #[.pointer (some ⟨b, 0, none⟩)] w fun e w' => e = .returned (.tuple #[]) ∧ w' = w.setCell ⟨b, 0, none⟩ (.pointer (some ⟨b, 0, none⟩)) := by
 obtain ⟨j, hj, hjs⟩ := Option.map_eq_some_iff.1 bld_size
 have mixed : Tryz.prog.follows .mixedOrders = true := by kernel_rfl
 have t72 := Tryz.underlying145; have a72 := Tryz.isAgg145; have z72 := Tryz.sizeOf145; have v72 := Tryz.zeroValue145; have u72 := run_underlying t72
 have t70 := Tryz.underlying143; have a70 := Tryz.isAgg143; have z70 := Tryz.sizeOf143; have v70 := Tryz.zeroValue143; have u70 := run_underlying t70
 have t4 := Tryz.underlying4; have a4 := Tryz.isAgg4; have z4 := Tryz.sizeOf4; have v4 := Tryz.zeroValue4; have u4 := run_underlying t4
 have t164 := Tryz.underlying173; have a164 := Tryz.isAgg173; have z164 := Tryz.sizeOf173; have v164 := Tryz.zeroValue173; have u164 := run_underlying t164
 go_enter Tryz.func135, Tryz.ntmps135
 go_wp2
 rw [Lib.run_to_unsafe w ⟨b, 0, none⟩ t70 t164 hj (by rw [hjs]; decide) hsh (Nat.zero_lt_succ 1)]
 simp only [Result.andThen]
 rw [Oper.upon_value]
 go_wp2
 rw [run_callFunc_extern Tryz.func146 (by kernel_rfl) (by kernel_rfl) (by kernel_rfl) (e := Extern.AbiNoEscape.same) (by kernel_rfl)]
 rw [Lib.run_noEscape]
 simp only [Result.andThen]
 rw [Oper.upon_value]
 go_wp2
 rw [Lib.run_from_unsafe w ⟨b, 0, none⟩ t164 t70 hj hsh bld_lies]
 simp only [Result.andThen]
 rw [Oper.upon_value]
 go_wp2
 go_end0
 exact ⟨rfl, rfl⟩
theorem frozen_fr {w : World} {b : Nat} {cs : Array Value} {T : TypeId} {fr : Nat × Nat} (hb : w.heap[b]? = some (.cells cs T fr)) (j : Nat) (hf : ¬ (fr.1 ≤ j ∧ j < fr.2)) : w.frozen? ⟨b, j, none⟩ = false := by
 obtain ⟨lo, hi⟩ := fr
 simp only [World.frozen?, hb]
 simpa using hf
theorem copyCheck_any (b : Nat) (p v : Value) (fr : Nat × Nat) (w : World) (hp : p = .pointer none ∨ p = .pointer (some ⟨b, 0, none⟩)) (hb : w.heap[b]? = some (.cells #[p, v] 145 fr)) (hf : ∀ j, j < 2 → ¬ (fr.1 ≤ j ∧ j < fr.2)) :
  Calls Tryz.prog 135 #[.pointer (some ⟨b, 0, none⟩)] w fun e w' => e = .returned (.tuple #[]) ∧ w'.heap[b]? = some (.cells #[.pointer (some ⟨b, 0, none⟩), v] 145 fr) ∧ w.grownBy w' (some b) ∧ w'.heap.size = w.heap.size := by
 have c0 : w.cell? ⟨b, 0, none⟩ = some p := by simp [World.cell?, hb]
 rcases hp with rfl | rfl
 ·refine (copyCheck_fresh b w c0 (by simp [World.shape?, hb]) (frozen_fr hb 0 (hf 0 (by omega)))).mono ?_
  rintro e w' ⟨rfl, rfl⟩
  refine ⟨rfl, ?_, ⟨rfl, rfl, rfl, by simp [World.setCell], fun k hk hne => ?_⟩, by simp [World.setCell]⟩
  ·rw [Lib.heap_setCell_same hb]; rfl
  ·exact Below.heap_setCell w _ _ k (fun e => hne (by rw [e]))
 ·refine (copyCheck_used b w c0).mono ?_
  rintro e w' ⟨rfl, rfl⟩
  exact ⟨rfl, hb, ⟨rfl, rfl, rfl, Nat.le_refl _, fun _ _ _ => rfl⟩, rfl⟩
set_option maxHeartbeats 2000000 in
set_option maxRecDepth 100000 in
theorem writeString_any (b : Nat) (p v : Value) (bs : List Value) (s : ByteArray) (fr : Nat × Nat) (w : World) (hp : p = .pointer none ∨ p = .pointer (some ⟨b, 0, none⟩)) (hb : w.heap[b]? = some (.cells #[p, v] 145 fr))
  (hf : ∀ j, j < 2 → ¬ (fr.1 ≤ j ∧ j < fr.2)) (hown : w.ownsRow 0 5 1 v bs.length bs) (hne : v.ownBlock ≠ some b) (hlen : bs.length + s.size ≤ 140737488355328) :
  Calls Tryz.prog 111 #[.pointer (some ⟨b, 0, none⟩), .string s] w fun e w' => e = .returned (.tuple #[.int .i64 s.size, .nilIface]) ∧ ∃ w1 w2 v', w1.heap[b]? = some (.cells #[.pointer (some ⟨b, 0, none⟩), v] 145 fr) ∧ w.grownBy w1 (some b) ∧ w1.heap.size = w.heap.size ∧
   w1.grownBy w2 v.ownBlock ∧ w2.ownsRow 0 5 1 v' (bs.length + s.size) (bs ++ Lib.strCells s) ∧ (v' = .slice none 0 0 ↔ v = .slice none 0 0 ∧ s = ByteArray.empty) ∧ ApW w1 w2 v v' bs.length s.size ∧ w2.heap[b]? = some (.cells #[.pointer (some ⟨b, 0, none⟩), v] 145 fr) ∧ w' = w2.setCell ⟨b, 1, none⟩ v' := by
 obtain ⟨i0, hi, hz0, hz1, hz2⟩ := info_parts byte_info
 have mixed : Tryz.prog.follows .mixedOrders = true := by kernel_rfl
 have t72 := Tryz.underlying145; have a72 := Tryz.isAgg145; have z72 := Tryz.sizeOf145; have v72 := Tryz.zeroValue145; have u72 := run_underlying t72
 have t70 := Tryz.underlying143; have a70 := Tryz.isAgg143; have z70 := Tryz.sizeOf143; have v70 := Tryz.zeroValue143; have u70 := run_underlying t70
 have t37 := Tryz.underlying54; have a37 := Tryz.isAgg54; have z37 := Tryz.sizeOf54; have v37 := Tryz.zeroValue54; have u37 := run_underlying t37
 have t3 := Tryz.underlying3; have a3 := Tryz.isAgg3; have z3 := Tryz.sizeOf3; have v3 := Tryz.zeroValue3; have u3 := run_underlying t3
 have t9 := Tryz.underlying9; have a9 := Tryz.isAgg9; have z9 := Tryz.sizeOf9; have v9 := Tryz.zeroValue9; have u9 := run_underlying t9
 have t4 := Tryz.underlying4; have a4 := Tryz.isAgg4; have z4 := Tryz.sizeOf4; have v4 := Tryz.zeroValue4; have u4 := run_underlying t4
 have t5 := Tryz.underlying5; have a5 := Tryz.isAgg5; have z5 := Tryz.sizeOf5; have v5 := Tryz.zeroValue5; have u5 := run_underlying t5
 have e240 : ∀ args w, (callFunc 135 args).run Tryz.prog w = .ok (.enter 135 args) w := enters_of Tryz.func135 (by kernel_rfl) rfl
 go_enter Tryz.func111, Tryz.ntmps111
 go_wp2_with (go_at_fn 135; refine (copyCheck_any b p v fr _ hp hb hf).mono ?_)
 rintro e w1 ⟨rfl, hbk, hg1, hsz1⟩
 have hown1 : w1.ownsRow 0 5 1 v bs.length bs := hown.kept hg1 (.inr hne)
 have c0 : w1.cell? ⟨b, 0, none⟩ = some (.pointer (some ⟨b, 0, none⟩)) := by simp [World.cell?, hbk]
 have c1 : w1.cell? ⟨b, 1, none⟩ = some v := by simp [World.cell?, hbk]
 go_wp2_with (at_builtin; refine wpList_append_where rfl _ _ 54 9 rfl 5 i0 t37 t9 hi hz0 hz1 hz2 _ _ _ rfl hown1 s rfl ?c3 ?c4 ?_)
 case c3 => unfold maxLen; omega
 case c4 => omega
 intro v' w2 hown' hgrow hnil hwh
 have hlt : b < w1.heap.size := by
  rcases Nat.lt_or_ge b w1.heap.size with h' | h'
  ·exact h'
  ·simp [Array.getElem?_eq_none h'] at hbk
 have hb2 : w2.heap[b]? = some (.cells #[.pointer (some ⟨b, 0, none⟩), v] 145 fr) := by
  rw [hgrow.block b hlt (fun e => hne e.symm)]
  exact hbk
 have d0 : w2.cell? ⟨b, 0, none⟩ = some (.pointer (some ⟨b, 0, none⟩)) := by simp [World.cell?, hb2]
 have d1 : w2.cell? ⟨b, 1, none⟩ = some v := by simp [World.cell?, hb2]
 have f1 : w2.frozen? ⟨b, 1, none⟩ = false := frozen_fr hb2 1 (hf 1 (by omega))
 have hvs : ∃ ao n' cap, v' = .slice ao n' cap := by
  rcases hown'.2 with ⟨hv, _⟩ | ⟨g, cap, cur, hv, _⟩
  ·exact ⟨_, _, _, hv⟩
  ·exact ⟨_, _, _, hv⟩
 have fin := (⟨w1, w2, v', hbk, hg1, hsz1, hgrow, hown', hnil, hwh, hb2, rfl⟩ : ∃ W1 W2 v'', W1.heap[b]? = some (.cells #[.pointer (some ⟨b, 0, none⟩), v] 145 fr) ∧ w.grownBy W1 (some b) ∧ W1.heap.size = w.heap.size ∧
   W1.grownBy W2 v.ownBlock ∧ W2.ownsRow 0 5 1 v'' (bs.length + s.size) (bs ++ Lib.strCells s) ∧ (v'' = .slice none 0 0 ↔ v = .slice none 0 0 ∧ s = ByteArray.empty) ∧ ApW W1 W2 v v'' bs.length s.size ∧ W2.heap[b]? = some (.cells #[.pointer (some ⟨b, 0, none⟩), v] 145 fr) ∧ w2.setCell ⟨b, 1, none⟩ v' = W2.setCell ⟨b, 1, none⟩ v'')
 clear hown' hnil hwh
 obtain ⟨ao, n', cap, rfl⟩ := hvs
 go_wp2
 go_ret2
 exact ⟨rfl, fin⟩
set_option maxHeartbeats 1000000 in
set_option maxRecDepth 100000 in
theorem bldString_any (b g cap : Nat) (p : Value) (cur : Array Value) (l : List UInt8) (fr : Nat × Nat) (w : World) (h0 : l ≠ []) (hbk : w.heap[b]? = some (.cells #[p, .slice (some ⟨g, 0, none⟩) l.length cap] 145 fr))
  (hg : w.heap[g]? = some (.cells cur 5 (0, 0))) (hnc : l.length ≤ cap) (hcm : cap ≤ maxLen) (hcs : cur.size = cap) (htake : cur.toList.take l.length = l.map fun x => Value.int .u8 x.toNat) :
  Calls Tryz.prog 113 #[.pointer (some ⟨b, 0, none⟩)] w fun e w' => e = .returned (.string ⟨l.toArray⟩) ∧ w' = w.drew.freeze ⟨g, 0, none⟩ l.length := by
 have hl0 : l.length ≠ 0 := by simpa using h0
 have c1 : w.drew.cell? ⟨b, 1, none⟩ = some (.slice (some ⟨g, 0, none⟩) l.length cap) := by
  have : w.drew.heap[b]? = some (.cells #[p, .slice (some ⟨g, 0, none⟩) l.length cap] 145 fr) := hbk
  simp [World.cell?, this]
 have hlen0 : 0 < l.length := by omega
 have hSD : (Builtin.unsafeSliceData_ #[54] 164 #[.slice (some ⟨g, 0, none⟩) l.length cap]).run Tryz.prog w.drew = .ok (.pointer (some ⟨g, 0, none⟩)) w.drew :=
  Lib.run_unsafeSliceData_row _ _ _ _ _ _ (by omega)
 have t127 := Tryz.underlying164; have a127 := Tryz.isAgg164; have z127 := Tryz.sizeOf164; have v127 := Tryz.zeroValue164; have u127 := run_underlying t127
 have hUS : (Builtin.unsafeString_ #[164, 3] 9 #[.pointer (some ⟨g, 0, none⟩), .int .i64 l.length]).run Tryz.prog w.drew = .ok (.string ⟨l.toArray⟩) (w.drew.freeze ⟨g, 0, none⟩ l.length) := by
  refine Lib.run_unsafeString_row w.drew 164 3 9 5 t127 (by kernel_rfl) g cur.size (by have hg' : w.drew.heap[g]? = some (.cells cur 5 (0, 0)) := hg; simp [World.shape?, hg']) l h0 (by omega) (by unfold maxLen at hcm; omega) ?_
  intro j x hx
  have hj := (List.getElem?_eq_some_iff.1 hx).1
  have hg' : w.drew.heap[g]? = some (.cells cur 5 (0, 0)) := hg
  have h1 : (cur.toList.take l.length)[j]? = some (Value.int .u8 x.toNat) := by rw [htake, List.getElem?_map, hx]; rfl
  rw [List.getElem?_take, if_pos hj] at h1
  have e1 : (⟨g, 0, none⟩ : Addr).add j = ⟨g, j, none⟩ := by unfold Addr.add; split <;> simp_all
  rw [e1, Lib.cell_of_heap hg']
  simpa using h1
 have mixed : Tryz.prog.follows .mixedOrders = true := by kernel_rfl
 have t72 := Tryz.underlying145; have a72 := Tryz.isAgg145; have z72 := Tryz.sizeOf145; have v72 := Tryz.zeroValue145; have u72 := run_underlying t72
 have t70 := Tryz.underlying143; have a70 := Tryz.isAgg143; have z70 := Tryz.sizeOf143; have v70 := Tryz.zeroValue143; have u70 := run_underlying t70
 have t37 := Tryz.underlying54; have a37 := Tryz.isAgg54; have z37 := Tryz.sizeOf54; have v37 := Tryz.zeroValue54; have u37 := run_underlying t37
 have t3 := Tryz.underlying3; have a3 := Tryz.isAgg3; have z3 := Tryz.sizeOf3; have v3 := Tryz.zeroValue3; have u3 := run_underlying t3
 have t9 := Tryz.underlying9; have a9 := Tryz.isAgg9; have z9 := Tryz.sizeOf9; have v9 := Tryz.zeroValue9; have u9 := run_underlying t9
 have t5 := Tryz.underlying5; have a5 := Tryz.isAgg5; have z5 := Tryz.sizeOf5; have v5 := Tryz.zeroValue5; have u5 := run_underlying t5
 go_enter Tryz.func113, Tryz.ntmps113
 go_wp2
 go_region_o
 all_goals (go_wp2; go_ret; exact ⟨rfl, rfl⟩)
end Go.Proofs.YtmohcdihdhggoaaGreatDoor
end
section
namespace Go.Proofs.YtmohcdihdhggoaaGreatDoor
open Go Go.Av Go.RowKit
def bldH (H : Heap) (b : Nat) : Option Nat → List UInt8 → Heap
 | none, _ => H.set b (.box [.nilp, .nilsl] (some 145))
 | some c, bs => (H.set b (.box [.box b 0, .vec c 1 0 bs.length] (some 145))).set c (.buf 5 bs)
structure BldOk (H : Heap) (b : Nat) (st : Option Nat) (bs : List UInt8) : Prop where
 hb : H b = none
 hn : st = none → bs = []
 hs : ∀ c, st = some c → c ≠ b ∧ H c = none ∧ bs ≠ []
theorem bldH_else {H : Heap} {b k : Nat} {st : Option Nat} {bs : List UInt8} (h1 : k ≠ b) (h2 : st ≠ some k) : bldH H b st bs k = H k := by
 cases st with
 | none => simp [bldH, Heap.set, h1]
 | some c =>
  have : k ≠ c := fun e => h2 (by rw [e])
  simp [bldH, Heap.set, h1, this]
theorem bldH_b {H : Heap} {b : Nat} {st : Option Nat} {bs : List UInt8} (h : BldOk H b st bs) : ∃ cs, bldH H b st bs b = some (.box cs (some 145)) := by
 cases st with
 | none => exact ⟨_, by simp [bldH, Heap.set]; rfl⟩
 | some c =>
  have hne : b ≠ c := Ne.symm (h.hs c rfl).1
  exact ⟨[.box b 0, .vec c 1 0 bs.length], by simp only [bldH, Heap.set, if_neg hne, if_true]⟩
theorem bldH_held {H : Heap} {b k : Nat} {st : Option Nat} {bs : List UInt8} (h : BldOk H b st bs) (hk : (bldH H b st bs).held k = false) : k ≠ b ∧ st ≠ some k := by
 constructor
 ·rintro rfl
  obtain ⟨cs, e⟩ := bldH_b h
  rw [held_of e] at hk; cases hk
 ·rintro rfl
  have e : bldH H b (some k) bs k = some (.buf 5 bs) := by simp [bldH, Heap.set]
  rw [held_of e] at hk; cases hk
theorem bld_inv {H : Heap} {b : Nat} {st : Option Nat} {bs : List UInt8} {w : World} (hs : Sat (bldH H b st bs) w) (h : BldOk H b st bs) :
  ∃ p v fr, w.heap[b]? = some (.cells #[p, v] 145 fr) ∧ (∀ j, j < 2 → ¬ (fr.1 ≤ j ∧ j < fr.2)) ∧ (p = .pointer none ∨ p = .pointer (some ⟨b, 0, none⟩)) ∧
   w.ownsRow 0 5 1 v bs.length (bs.map fun x => Value.int .u8 x.toNat) ∧ v.ownBlock = st := by
 have two : ∀ {cs : List D} {c : Array Value}, cs.length = 2 → RowR w (bldH H b st bs) cs c → ∃ x y, c = #[x, y] := fun {cs c} h2 hr => by
  have h3 := hr.len
  obtain ⟨l⟩ := c
  simp only [List.size_toArray] at h3
  match l, (by omega : l.length = 2) with
  | [x, y], _ => exact ⟨x, y, rfl⟩
 cases st with
 | none =>
  have e0 : bs = [] := h.hn rfl
  subst e0
  obtain ⟨c, T, lo, hi, h1, h2, h3, h4⟩ := box_inv (hs b (.box [.nilp, .nilsl] (some 145)) (by simp [bldH, Heap.set]))
  have hT := h4 _ rfl
  subst hT
  obtain ⟨x, y, rfl⟩ := two rfl h3
  have r0 := h3.rel 0 _ rfl
  have r1 := h3.rel 1 _ rfl
  simp at r0 r1
  cases r0; cases r1
  exact ⟨_, _, (lo, hi), h1, fun j hj => h2 j (by simpa using hj), .inl rfl, World.ownsRow_nil w 0 _ 1, rfl⟩
 | some c =>
  obtain ⟨hcb, hcn, hne⟩ := h.hs c rfl
  obtain ⟨ar, T, lo, hi, h1, h2, h3, h4⟩ := box_inv (hs b (.box [.box b 0, .vec c 1 0 bs.length] (some 145)) (by have hbc : b ≠ c := Ne.symm hcb; simp only [bldH, Heap.set, if_neg hbc, if_true]))
  have hT := h4 _ rfl
  subst hT
  obtain ⟨x, y, rfl⟩ := two rfl h3
  have r0 := h3.rel 0 _ rfl
  have r1 := h3.rel 1 _ rfl
  simp at r0 r1
  obtain ⟨cur, g1, g2, g3, g4⟩ := hs c (.buf 5 bs) (by simp [bldH, Heap.set])
  cases r0
  have hln : bs.length ≠ 0 := by simpa using hne
  generalize hn : bs.length = n at r1
  cases r1 with
  | vec0 => exact absurd hn hln
  | vec _ _ _ _ cap T m hb hs' hsz hcap =>
   have hsh : w.shape? c = some (5, cur.size) := by simp [World.shape?, g1]
   rw [hsh] at hb
   cases hb
   subst hn
   refine ⟨_, _, (lo, hi), h1, fun j hj => h2 j (by simpa using hj), .inr rfl, ⟨by simp, .inr ⟨c, cap, cur, by simp, Nat.zero_le _, g1, hcap, ?_, by omega, by simpa using g4⟩⟩, rfl⟩
   unfold maxLen; omega
set_option maxHeartbeats 1000000 in
theorem writeString_a {Q} (b : Nat) (st : Option Nat) (bs : List UInt8) (s : ByteArray) (H : Heap) (hok : BldOk H b st bs) (hs0 : s.size ≠ 0) (hlen : bs.length + s.size ≤ 140737488355328)
  (h : ∀ c', BldOk H b (some c') (bs ++ B s) → Q (.tuple [.int .i64 s.size, .nilif]) (bldH H b (some c') (bs ++ B s))) : ACalls Tryz.prog 111 [.box b 0, .str s] (bldH H b st bs) Q := by
 refine ⟨by kernel_rfl, fun w vs hl hr hs => ?_⟩
 obtain ⟨a, x, rfl, ha, hx⟩ := args2 hl hr
 rw [hx.str_inv]
 have ea : a = .pointer (some ⟨b, 0, none⟩) := by cases ha; rfl
 rw [ea]
 obtain ⟨p, v, fr, hbk, hf, hp, hown, hst⟩ := bld_inv hs hok
 have hne : v.ownBlock ≠ some b := by
  rw [hst]
  exact fun e => (hok.hs b e).1 rfl
 have hml : (bs.map fun x => Value.int .u8 x.toNat).length = bs.length := by simp
 refine (writeString_any b p v (bs.map fun x => Value.int .u8 x.toNat) s fr w hp hbk hf (by rw [hml]; exact hown) hne (by rw [hml]; exact hlen)).mono ?_
 rintro e w' ⟨rfl, w1, w2, v', k1, k2, k3, k4, k5, k6, k7, k8, rfl⟩
 rw [hml] at k5 k7
 have hbs : b < w.heap.size := (Array.getElem?_eq_some_iff.1 hbk).1
 have hse : s ≠ ByteArray.empty := by rintro rfl; exact hs0 rfl
 obtain ⟨g, cap', cur', rfl, _, hg, hnc, hcm, hcs, htk⟩ : ∃ g cap cur, v' = .slice (some ⟨g, 0, none⟩) (bs.length + s.size) cap ∧ 0 ≤ g ∧ w2.heap[g]? = some (.cells cur 5 (0, 0)) ∧ bs.length + s.size ≤ cap ∧ cap ≤ maxLen ∧ cur.size = cap * 1 ∧ cur.toList.take ((bs.length + s.size) * 1) = (bs.map fun x => Value.int .u8 x.toNat) ++ Lib.strCells s := by
  rcases k5.2 with ⟨hv, _⟩ | hv
  ·exact absurd (k6.1 hv).2 hse
  ·exact hv
 -- what is as_ it was
 have hold : ∀ k, k < w.heap.size → k ≠ b → st ≠ some k → (w2.setCell ⟨b, 1, none⟩ (.slice (some ⟨g, 0, none⟩) (bs.length + s.size) cap')).heap[k]? = w.heap[k]? := fun k hk hkb hks => by
  rw [Below.heap_setCell _ _ _ k hkb, k4.block k (by omega) (by rw [hst]; exact fun e => hks e.symm), k2.block k hk (fun e => hkb (Option.some.inj e))]
 have hgw : st = some g ∨ w.heap.size ≤ g := by
  rcases k7 with ⟨g', cap, e1, e2⟩ | ⟨_, e2⟩
  ·cases e2
   left
   rw [← hst, e1]; rfl
  ·right
   have := e2 g rfl
   omega
 have hgb : g ≠ b := by
  rintro rfl
  rcases hgw with e | e
  ·exact (hok.hs g e).1 rfl
  ·omega
 have hgH : H g = none := by
  rcases hgw with e | e
  ·exact (hok.hs g e).2.1
  ·have := hs.fresh e
   rw [bldH_else hgb (fun e' => by
    obtain ⟨x, hx⟩ : ∃ x, bldH H b st bs g = some x := ⟨_, by rw [e']; simp [bldH, Heap.set]; rfl⟩
    rw [this] at hx; cases hx)] at this
   exact this
 have hBs : B s = s.data.toList := rfl
 have hBl : (bs ++ B s).length = bs.length + s.size := by rw [List.length_append, B_len]
 have hok' : BldOk H b (some g) (bs ++ B s) := ⟨hok.hb, (fun e => by cases e), fun c e => by
  cases e
  exact ⟨hgb, hgH, fun e => by
   have h3 := congrArg List.length e
   rw [hBl, List.length_nil] at h3
   omega⟩⟩
 have hbk2 : (w2.setCell ⟨b, 1, none⟩ (.slice (some ⟨g, 0, none⟩) (bs.length + s.size) cap')).heap[b]? = some (.cells #[.pointer (some ⟨b, 0, none⟩), .slice (some ⟨g, 0, none⟩) (bs.length + s.size) cap'] 145 fr) := by
  rw [Lib.heap_setCell_same k8]; rfl
 have hgk2 : (w2.setCell ⟨b, 1, none⟩ (.slice (some ⟨g, 0, none⟩) (bs.length + s.size) cap')).heap[g]? = some (.cells cur' 5 (0, 0)) := by
  rw [Below.heap_setCell _ _ _ g hgb]; exact hg
 have hext : Ext (bldH H b st bs) w (w2.setCell ⟨b, 1, none⟩ (.slice (some ⟨g, 0, none⟩) (bs.length + s.size) cap')) := by
  refine ⟨k4.os.trans k2.os, k4.tape.trans k2.tape, k4.output.trans k2.output, by have := k4.size; have := k2.size; simp [World.setCell]; omega, fun k hk hn => hold k hk (bldH_held hok hn).1 (bldH_held hok hn).2, fun k hk => ?_⟩
  by_cases hkb : k = b
  ·subst hkb
   simp [World.shape?, hbk2, hbk]
  ·by_cases hks : st = some k
   ·
    obtain ⟨c, cap, cur, e1, _, e2, e3, e4, e5, e6⟩ : ∃ g cap cur, v = .slice (some ⟨g, 0, none⟩) bs.length cap ∧ 0 ≤ g ∧ w.heap[g]? = some (.cells cur 5 (0, 0)) ∧ bs.length ≤ cap ∧ cap ≤ maxLen ∧ cur.size = cap * 1 ∧ cur.toList.take (bs.length * 1) = bs.map fun x => Value.int .u8 x.toNat := by
     rcases hown.2 with ⟨hv, _⟩ | hv
     ·rw [hv, hks] at hst; cases hst
     ·exact hv
    have hck : c = k := by rw [e1, hks] at hst; simpa [Value.ownBlock] using hst
    subst hck
    rcases k7 with ⟨g', cap2, f1, f2⟩ | ⟨f1, f2⟩
    ·rw [e1] at f1
     cases f1; cases f2
     simp [World.shape?, hgk2, e2, hcs, e5]
    ·have h1 : (w2.setCell ⟨b, 1, none⟩ (.slice (some ⟨g, 0, none⟩) (bs.length + s.size) cap')).heap[c]? = w.heap[c]? := by
      rw [Below.heap_setCell _ _ _ c hkb, f1 c (by omega), k2.block c hk (fun e => hkb (Option.some.inj e))]
     unfold World.shape?
     rw [h1]
   ·unfold World.shape?
    rw [hold k hk hkb hks]
 have hfrom : From w (bldH H b st bs) (bldH H b (some g) (bs ++ B s)) := fun k hk hn => by
  obtain ⟨n1, n2⟩ := bldH_held hok hn
  have hkg : k ≠ g := by
   rintro rfl
   rcases hgw with e | e
   ·exact n2 e
   ·omega
  rw [held_ne (H := H) (bldH_else n1 (fun e => hkg (Option.some.inj e).symm))]
  rwa [held_ne (H := H) (bldH_else n1 n2)] at hn
 have htk' : cur'.toList.take (bs ++ B s).length = (bs ++ B s).map fun x => Value.int .u8 x.toNat := by
  rw [hBl]
  have : (bs.length + s.size) * 1 = bs.length + s.size := by omega
  rw [this] at htk
  rw [htk, List.map_append]; rfl
 have hsat : Sat (bldH H b (some g) (bs ++ B s)) (w2.setCell ⟨b, 1, none⟩ (.slice (some ⟨g, 0, none⟩) (bs.length + s.size) cap')) := by
  intro k o ho
  by_cases hkg : k = g
  ·subst hkg
   have : o = .buf 5 (bs ++ B s) := by
    have e : bldH H b (some k) (bs ++ B s) k = some (.buf 5 (bs ++ B s)) := by simp [bldH, Heap.set]
    rw [e] at ho; exact (Option.some.inj ho).symm
   subst this
   exact ⟨cur', hgk2, by rw [hBl]; omega, by unfold maxLen at hcm; omega, htk'⟩
  ·by_cases hkb : k = b
   ·subst hkb
    have : o = .box [.box k 0, .vec g 1 0 (bs ++ B s).length] (some 145) := by
     have e : bldH H k (some g) (bs ++ B s) k = some (.box [.box k 0, .vec g 1 0 (bs ++ B s).length] (some 145)) := by have hbg : k ≠ g := Ne.symm hgb; simp only [bldH, Heap.set, if_neg hbg, if_true]
     rw [e] at ho; exact (Option.some.inj ho).symm
    subst this
    obtain ⟨lo, hi⟩ := fr
    refine objOk_box (fun t e => by cases e; rfl) hbk2 (fun j hj => hf j (by simpa using hj)) ⟨rfl, fun i d hd => ?_, fun i d hd => ?_⟩
    ·match i, hd with
     | 0, hd => cases hd; rfl
     | 1, hd => cases hd; rfl
     | i + 2, hd => simp at hd
    ·match i, hd with
     | 0, hd => cases hd; exact .box k 0
     | 1, hd =>
      cases hd
      rw [hBl]
      have hv := R.vec (w := w2.setCell ⟨k, 1, none⟩ (.slice (some ⟨g, 0, none⟩) (bs.length + s.size) cap')) (H := bldH H k (some g) (bs ++ B s)) g 1 0 (bs.length + s.size) cap' 5 cur'.size (by simp [World.shape?, hgk2]) (by omega) (by omega) hnc
      simpa using hv
     | i + 2, hd => simp at hd
   ·have e1 : bldH H b (some g) (bs ++ B s) k = H k := bldH_else hkb (fun e => hkg (Option.some.inj e).symm)
    rw [e1] at ho
    have hks : st ≠ some k := fun e => by rw [(hok.hs k e).2.1] at ho; cases ho
    have e2 : bldH H b st bs k = H k := bldH_else hkb hks
    have ho' := hs k o (by rw [e2]; exact ho)
    exact ho'.mono hext hfrom (hold k (hs.lt (by rw [e2]; exact ho)) hkb hks)
 refine ⟨_, rfl, .tuple [.int .i64 s.size, .nilif], _, .tuple _ _ rfl (fun i d hd => ?_), hsat, hext, hfrom, h g hok'⟩
 match i, hd with
 | 0, hd => cases hd; exact .int _ _
 | 1, hd => cases hd; exact .nilif
 | i + 2, hd => simp at hd
theorem heap_freeze_else {w : World} {g n k : Nat} (h : k ≠ g) : (w.freeze ⟨g, 0, none⟩ n).heap[k]? = w.heap[k]? := by
 unfold World.freeze
 split
 ·rfl
 ·simp [Array.getElem?_modify, Ne.symm h]
theorem size_freeze (w : World) (a : Addr) (n : Nat) : (w.freeze a n).heap.size = w.heap.size := by
 unfold World.freeze; split
 ·rfl
 ·exact Array.size_modify
theorem shape_freeze (w : World) (a : Addr) (n k : Nat) : (w.freeze a n).shape? k = w.shape? k := by
 unfold World.freeze
 split
 ·rfl
 ·unfold World.shape?
  simp only [Array.getElem?_modify]
  by_cases h : a.block = k
  ·rw [if_pos h]
   cases hk : w.heap[k]? with
   | none => rfl
   | some o => cases o <;> rfl
  ·rw [if_neg h]
theorem bldString_a {Q} (b c : Nat) (bs : List UInt8) (H : Heap) (hok : BldOk H b (some c) bs) (h : Q (.str (S bs)) H) : ACalls Tryz.prog 113 [.box b 0] (bldH H b (some c) bs) Q := by
 refine ⟨by kernel_rfl, fun w vs hl hr hs => ?_⟩
 obtain ⟨a, rfl, ha⟩ := args1 hl hr
 have ea : a = .pointer (some ⟨b, 0, none⟩) := by cases ha; rfl
 rw [ea]
 obtain ⟨p, v, fr, hbk, hf, hp, hown, hst⟩ := bld_inv hs hok
 obtain ⟨hcb, hcn, hne⟩ := hok.hs c rfl
 obtain ⟨g, cap, cur, rfl, _, e2, e3, e4, e5, e6⟩ : ∃ g cap cur, v = .slice (some ⟨g, 0, none⟩) bs.length cap ∧ 0 ≤ g ∧ w.heap[g]? = some (.cells cur 5 (0, 0)) ∧ bs.length ≤ cap ∧ cap ≤ maxLen ∧ cur.size = cap * 1 ∧ cur.toList.take (bs.length * 1) = bs.map fun x => Value.int .u8 x.toNat := by
  rcases hown.2 with ⟨hv, _⟩ | hv
  ·rw [hv] at hst; cases hst
  ·exact hv
 have hgc : g = c := by simpa [Value.ownBlock] using hst
 subst hgc
 refine (bldString_any b g cap p cur bs fr w hne hbk e2 e3 e4 (by omega) (by simpa using e6)).mono ?_
 rintro e w' ⟨rfl, rfl⟩
 have hold : ∀ k, k ≠ g → (w.drew.freeze ⟨g, 0, none⟩ bs.length).heap[k]? = w.heap[k]? := fun k hk => by rw [heap_freeze_else hk]; rfl
 have hext : Ext (bldH H b (some g) bs) w (w.drew.freeze ⟨g, 0, none⟩ bs.length) := by
  refine ⟨by unfold World.freeze; split <;> rfl, by unfold World.freeze; split <;> rfl, by unfold World.freeze; split <;> rfl, by rw [size_freeze]; exact Nat.le_refl _, fun k hk hn => hold k (fun e => (bldH_held hok hn).2 (by rw [e])), fun k hk => ?_⟩
  rw [shape_freeze]; rfl
 have hle : H.Le (bldH H b (some g) bs) := fun k o ho => by
  rw [bldH_else (fun e => by rw [e, hok.hb] at ho; cases ho) (fun e => by rw [← Option.some.inj e, hcn] at ho; cases ho)]
  exact ho
 have hfrom : From w (bldH H b (some g) bs) H := fun k hk hn => hle.held hn
 refine ⟨_, rfl, .str (S bs), H, .str _, fun k o ho => ?_, hext, hfrom, h⟩
 have h1 := hle k o ho
 refine (hs k o h1).mono hext hfrom (hold k fun e => ?_)
 rw [e, hcn] at ho; cases ho
end Go.Proofs.YtmohcdihdhggoaaGreatDoor
end
section
namespace Go.Bis
open Go Go.Av Go.Lexs
def plainB (l : List UInt8) : Bool := l.all fun b => textI b.toNat
theorem esc_plain (T : Lib.PrintTabs) (b : UInt8) (h : textI b.toNat = true) : Lib.escRune T ((b.toNat : Nat) : Int) = [(b.toNat : Int)] := by
 obtain ⟨h1, h2, h3, h4⟩ := (textI_iff _).1 h
 unfold Lib.escRune
 rw [if_neg (by omega)]
 have hp : Lib.isPrintR T ((b.toNat : Nat) : Int) = true := by
  unfold Lib.isPrintR Lib.isPrintLatin
  rw [if_pos (by omega)]
  simp only [Bool.or_eq_true, Bool.and_eq_true, decide_eq_true_eq]
  exact .inl ⟨h1, h2⟩
 rw [if_pos hp]
 unfold Lib.encodeRuneZ
 rw [if_pos (by omega)]
theorem quoteFrom_plain (T : Lib.PrintTabs) : ∀ (f : Nat) (s : ByteArray), s.size ≤ f → plainB (B s) = true → Lib.quoteFrom T f s = (B s).map fun b => (b.toNat : Int)
 | 0, s, hs, _ => by
  have : B s = [] := List.eq_nil_of_length_eq_zero (by rw [B_len]; omega)
  rw [this]; rfl
 | f + 1, s, hs, hp => by
  unfold Lib.quoteFrom
  by_cases h0 : 0 < s.size
  ·rw [if_pos h0]
   cases hB : B s with
   | nil => have := B_len s; rw [hB] at this; simp at this; omega
   | cons b r =>
    rw [hB] at hp
    simp only [plainB, List.all_cons, Bool.and_eq_true] at hp
    obtain ⟨h1, h2, h3, h4⟩ := (textI_iff _).1 hp.1
    have hn : (s[0]'h0) = b := by
     have : (B s)[0]? = some b := by rw [hB]; rfl
     have h' : s.data.toList[0]? = some b := this
     rw [Array.getElem?_toList, Array.getElem?_eq_getElem h0] at h'
     exact Option.some.inj h'
    have hd := decode_ascii s 0 h0 (by rw [hn]; omega)
    rw [hn] at hd
    have hst : Lib.quoteStep T s = [(b.toNat : Int)] := by
     unfold Lib.quoteStep
     rw [hd]
     rw [if_neg (by simp; omega)]
     exact esc_plain T b hp.1
    have hx : B (s.extract 1 s.size) = r := by
     rw [extract_S, B_S, hB, ← B_len, hB]; simp
    have e1 : (s.extract 1 s.size).size ≤ f := by rw [← B_len, hx]; have := B_len s; rw [hB] at this; simp at this; omega
    rw [hst, hd]
    simp only
    rw [quoteFrom_plain T f _ e1 (by rw [hx]; exact hp.2), hx]
    rfl
  ·rw [if_neg h0]
   have : B s = [] := List.eq_nil_of_length_eq_zero (by rw [B_len]; omega)
   rw [this]; rfl
theorem quote_plain (T : Lib.PrintTabs) (s : ByteArray) (h : plainB (B s) = true) : strOfNums (Lib.quoteZ T s) = S (34 :: (B s ++ [34])) := by
 apply B_inj
 rw [B_S]
 show (strOfNums (Lib.quoteZ T s)).data.toList = _
 rw [strOfNums_data, Lib.quoteZ, quoteFrom_plain T s.size s (Nat.le_refl _) h]
 simp only [List.map_cons, List.map_append, List.map_map, List.map_nil]
 congr 2
 have : ∀ l : List UInt8, l.map ((fun n : Int => UInt8.ofNat n.toNat) ∘ fun b => ((b.toNat : Nat) : Int)) = l := by
  intro l
  induction l with
  | nil => rfl
  | cons a l ih => rw [List.map_cons, ih]; simp
 exact this _
end Go.Bis
end
section
namespace Go.Bis
def digB (b : UInt8) : Bool := decide (48 ≤ b.toNat) && decide (b.toNat ≤ 57)
def valB : List UInt8 → Nat := fun l => l.foldl (fun a b => a * 10 + (b.toNat - 48)) 0
theorem dig_all (u : Nat) : (Lib.decDigits u).all digB = true ∧ valB (Lib.decDigits u) = u ∧ Lib.decDigits u ≠ [] := by
 induction u using Nat.strongRecOn with
 | _ u ih =>
  unfold Lib.decDigits
  split
  ·rename_i h
   have e : (UInt8.ofNat (48 + u)).toNat = 48 + u := by simp [UInt8.toNat_ofNat']; omega
   refine ⟨by simp [digB, e]; omega, by simp only [valB, List.foldl_cons, List.foldl_nil, e]; omega, by simp⟩
  ·rename_i h
   obtain ⟨h1, h2, h3⟩ := ih (u / 10) (by omega)
   have e : (UInt8.ofNat (48 + u % 10)).toNat = 48 + u % 10 := by simp [UInt8.toNat_ofNat']; omega
   refine ⟨by rw [List.all_append, h1]; simp [digB, e]; omega, ?_, by simp⟩
   unfold valB at h2 ⊢
   rw [List.foldl_append, h2]
   simp [e]; omega
theorem dec_inj {u v : Nat} (h : Lib.decDigits u = Lib.decDigits v) : u = v := by rw [← (dig_all u).2.1, h, (dig_all v).2.1]
def numB (b : UInt8) : Bool := digB b || decide (b.toNat = 45)
theorem itoa_all (n : Int) : (Lib.itoa n).all numB = true := by
 have key : ∀ u, (Lib.decDigits u).all numB = true := fun u => by
  have := (dig_all u).1
  rw [List.all_eq_true] at this ⊢
  intro x hx; simp [numB, this x hx]
 unfold Lib.itoa
 split
 ·rw [List.all_cons, key]; rfl
 ·exact key _
theorem itoa_ne (n : Int) : Lib.itoa n ≠ [] := by
 unfold Lib.itoa
 split
 ·simp
 ·exact (dig_all _).2.2
theorem itoa_inj {m n : Int} (h : Lib.itoa m = Lib.itoa n) : m = n := by
 have key : ∀ u v, Lib.decDigits u = 45 :: v → False := fun u v e => by
  have := (dig_all u).1
  rw [e] at this
  simp [digB] at this
 unfold Lib.itoa at h
 split at h
 ·split at h
  ·have := dec_inj (List.cons.inj h).2; omega
  ·exact (key _ _ h.symm).elim
 ·split at h
  ·exact (key _ _ h).elim
  ·have := dec_inj h; omega
theorem part_at (c : UInt8) : ∀ (u v X Y : List UInt8), c ∉ u → c ∉ v → u ++ c :: X = v ++ c :: Y → u = v ∧ X = Y
 | [], [], X, Y, _, _, h => ⟨rfl, (List.cons.inj h).2⟩
 | [], b :: v, X, Y, _, hv, h => absurd (List.cons.inj h).1 (by intro e; apply hv; simp [e])
 | a :: u, [], X, Y, hu, _, h => absurd (List.cons.inj h).1 (by intro e; apply hu; simp [e])
 | a :: u, b :: v, X, Y, hu, hv, h => by
  obtain ⟨h1, h2⟩ := List.cons.inj h
  obtain ⟨h3, h4⟩ := part_at c u v X Y (fun g => hu (by simp [g])) (fun g => hv (by simp [g])) h2
  exact ⟨by rw [h1, h3], h4⟩
theorem num_no {c : UInt8} (hc : numB c = false) (n : Int) : c ∉ Lib.itoa n := fun h => by
 have := List.all_eq_true.1 (itoa_all n) c h
 rw [hc] at this; cases this
def rowB : List Int → List UInt8
 | [] => []
 | k :: l => 32 :: (Lib.itoa k ++ rowB l)
theorem rowB_snoc : ∀ (l : List Int) (k : Int), rowB (l ++ [k]) = rowB l ++ 32 :: Lib.itoa k
 | [], k => by simp [rowB]
 | a :: l, k => by simp [rowB, rowB_snoc l k]
theorem rowB_inj : ∀ (l m : List Int) (a b : Int), Lib.itoa a ++ rowB l = Lib.itoa b ++ rowB m → a = b ∧ l = m
 | [], [], a, b, h => by simp only [rowB, List.append_nil] at h; exact ⟨itoa_inj h, rfl⟩
 | [], k :: m, a, b, h => by
  simp only [rowB, List.append_nil] at h
  exact absurd (show (32 : UInt8) ∈ Lib.itoa a by rw [h]; simp) (num_no rfl a)
 | k :: l, [], a, b, h => by
  simp only [rowB, List.append_nil] at h
  exact absurd (show (32 : UInt8) ∈ Lib.itoa b by rw [← h]; simp) (num_no rfl b)
 | k :: l, k' :: m, a, b, h => by
  simp only [rowB] at h
  obtain ⟨h1, h2⟩ := part_at 32 _ _ _ _ (num_no rfl a) (num_no rfl b) h
  obtain ⟨h3, h4⟩ := rowB_inj l m k k' h2
  exact ⟨itoa_inj h1, by rw [h3, h4]⟩
end Go.Bis
end
section
namespace Go.Bis
theorem compactUpTo_sorted (zs : List Int) (hs : zs.Pairwise (· ≤ ·)) : ∀ m, m ≤ zs.length →
  (Go.Lib.compactUpTo zs.toArray m).Pairwise (· < ·) ∧ (∀ x, x ∈ Go.Lib.compactUpTo zs.toArray m ↔ x ∈ zs.take m) ∧ (∀ x ∈ Go.Lib.compactUpTo zs.toArray m, ∀ (h : 0 < m ∧ m ≤ zs.length), x ≤ zs[m - 1]) := by
 intro m
 induction m with
 | zero => intro _; simp [Go.Lib.compactUpTo]
 | succ m ih =>
  intro hm
  obtain ⟨h1, h2, h3⟩ := ih (by omega)
  have hlt : m < zs.length := by omega
  have hg : (zs.toArray)[m]! = zs[m] := by simp [getElem!_pos, hlt]
  rw [Go.Lib.compactUpTo_succ, hg]
  have htk : zs.take (m + 1) = zs.take m ++ [zs[m]] := List.take_succ_eq_append_getElem hlt
  have hle : ∀ x ∈ zs.take m, x ≤ zs[m] := by
   intro x hx
   obtain ⟨j, hj, rfl⟩ := List.mem_iff_getElem.1 hx
   simp only [List.length_take] at hj
   rw [List.getElem_take]
   exact List.pairwise_iff_getElem.1 hs j m (by omega) hlt (by omega)
  by_cases hk : Go.Lib.keeps zs.toArray m = true
  ·rw [if_pos hk]
   have hne : ∀ x ∈ zs.take m, x < zs[m] := by
    intro x hx
    have hm0 : m ≠ 0 := by rintro rfl; simp at hx
    have hd : zs[m] ≠ zs[m - 1] := by
     have := of_decide_eq_true (show decide (m = 0 ∨ (zs.toArray)[m]! ≠ (zs.toArray)[m - 1]!) = true from hk)
     have e : (zs.toArray)[m - 1]! = zs[m - 1] := by simp [getElem!_pos, show m - 1 < zs.length by omega]
     rw [hg, e] at this
     exact this.resolve_left hm0
    have hlm : zs[m - 1] ≤ zs[m] := List.pairwise_iff_getElem.1 hs (m - 1) m (by omega) hlt (by omega)
    have := h3 x ((h2 x).2 hx) ⟨by omega, by omega⟩
    omega
   refine ⟨List.pairwise_append.2 ⟨h1, by simp, fun a ha b hb => ?_⟩, fun x => ?_, fun x hx h => ?_⟩
   ·simp at hb; subst hb; exact hne a ((h2 a).1 ha)
   ·rw [htk, List.mem_append, List.mem_append, h2]
   ·simp only [Nat.add_sub_cancel]
    rcases List.mem_append.1 hx with hx | hx
    ·exact hle x ((h2 x).1 hx)
    ·simp at hx; subst hx; exact Int.le_refl _
  ·rw [if_neg hk, List.append_nil]
   have hd : m ≠ 0 ∧ zs[m] = zs[m - 1] := by
    have : ¬ (m = 0 ∨ (zs.toArray)[m]! ≠ (zs.toArray)[m - 1]!) := fun g => hk (decide_eq_true g)
    have hm0 : m ≠ 0 := fun e => this (.inl e)
    refine ⟨hm0, ?_⟩
    have e : (zs.toArray)[m - 1]! = zs[m - 1] := by simp [getElem!_pos, show m - 1 < zs.length by omega]
    rw [hg, e] at this
    exact Classical.byContradiction fun g => this (.inr g)
   refine ⟨h1, fun x => ?_, fun x hx h => ?_⟩
   ·rw [h2, htk, List.mem_append]
    refine ⟨.inl, fun g => ?_⟩
    rcases g with g | g
    ·exact g
    ·simp at g; subst g
     rw [hd.2]
     exact List.mem_iff_getElem.2 ⟨m - 1, by simp; omega, by rw [List.getElem_take]⟩
   ·simp only [Nat.add_sub_cancel]
    exact hle x ((h2 x).1 hx)
theorem compact_sorted (zs : List Int) (hs : zs.Pairwise (· ≤ ·)) : (Go.Lib.compact zs).Pairwise (· < ·) ∧ ∀ x, x ∈ Go.Lib.compact zs ↔ x ∈ zs := by
 have h := compactUpTo_sorted zs hs zs.length (Nat.le_refl _)
 exact ⟨h.1, fun x => by have := h.2.1 x; rwa [List.take_length] at this⟩
theorem strict_ext : ∀ {l m : List Int}, l.Pairwise (· < ·) → m.Pairwise (· < ·) → (∀ x, x ∈ l ↔ x ∈ m) → l = m
 | [], [], _, _, _ => rfl
 | [], b :: m, _, _, h => absurd ((h b).2 (by simp)) (by simp)
 | a :: l, [], _, _, h => absurd ((h a).1 (by simp)) (by simp)
 | a :: l, b :: m, hl, hm, h => by
  obtain ⟨l1, l2⟩ := List.pairwise_cons.1 hl
  obtain ⟨m1, m2⟩ := List.pairwise_cons.1 hm
  have hab : a = b := by
   have h1 := (h a).1 (by simp)
   have h2 := (h b).2 (by simp)
   simp only [List.mem_cons] at h1 h2
   rcases h1 with h1 | h1
   ·exact h1
   ·rcases h2 with h2 | h2
    ·exact h2.symm
    ·have := m1 a h1; have := l1 b h2; omega
  subst hab
  rw [strict_ext l2 m2 fun x => ?_]
  have hx := h x
  simp only [List.mem_cons] at hx
  constructor
  ·intro g
   rcases hx.1 (.inr g) with e | e
   ·subst e; exact absurd (l1 x g) (by omega)
   ·exact e
  ·intro g
   rcases hx.2 (.inr g) with e | e
   ·subst e; exact absurd (m1 x g) (by omega)
   ·exact e
def riseZ (l : List Int) : List Int := Go.Lib.compact (l.mergeSort fun x y => decide (x ≤ y))
theorem riseZ_strict (l : List Int) : (riseZ l).Pairwise (· < ·) ∧ ∀ x, x ∈ riseZ l ↔ x ∈ l := by
 have hp : (l.mergeSort fun x y => decide (x ≤ y)).Pairwise (· ≤ ·) := by
  have := List.pairwise_mergeSort (le := fun x y : Int => decide (x ≤ y)) (fun a b c h1 h2 => by simp at *; omega) (fun a b => by simp; omega) l
  exact this.imp fun h => by simpa using h
 obtain ⟨h1, h2⟩ := compact_sorted _ hp
 exact ⟨h1, fun x => by rw [riseZ, h2, List.mem_mergeSort]⟩
theorem riseZ_eq_iff (l m : List Int) : riseZ l = riseZ m ↔ ∀ x, x ∈ l ↔ x ∈ m := by
 constructor
 ·intro h x
  rw [← (riseZ_strict l).2 x, h, (riseZ_strict m).2 x]
 ·intro h
  exact strict_ext (riseZ_strict l).1 (riseZ_strict m).1 fun x => by rw [(riseZ_strict l).2, (riseZ_strict m).2, h]
theorem riseZ_length_le (l : List Int) : (riseZ l).length ≤ l.length := by
 have := List.length_mergeSort (le := fun x y : Int => decide (x ≤ y)) l
 unfold riseZ Go.Lib.compact Go.Lib.compactUpTo
 rw [List.length_map]
 refine Nat.le_trans (List.length_filter_le _ _) ?_
 simp
def seesB (c : List Nat) (n : Nat) (l : List Nat) : List Bool := (List.range n).map fun m => l.any fun k => c.getD k 0 == m
def relR (to : Nat → List Nat) (n : Nat) (c : List Nat) (i j : Nat) : Bool := (c.getD i 0 == c.getD j 0) && (seesB c n (to i) == seesB c n (to j))
theorem relR_eqv (to : Nat → List Nat) (n : Nat) (c : List Nat) (m : Nat) : Eqv (relR to n c) m := by
 refine ⟨fun i _ => by simp [relR], fun i j _ _ h => ?_, fun i j k _ _ _ h g => ?_⟩
 ·simp only [relR, Bool.and_eq_true, beq_iff_eq] at h ⊢
  exact ⟨h.1.symm, h.2.symm⟩
 ·simp only [relR, Bool.and_eq_true, beq_iff_eq] at h g ⊢
  exact ⟨h.1.trans g.1, h.2.trans g.2⟩
theorem relR_fine {e0 : Nat → Nat → Bool} {to : Nat → List Nat} {n : Nat} (h : Eqv e0 n) : Fine e0 (relR to n) n :=
 ⟨h, fun c => relR_eqv to n c n, fun c i j _ _ g => by simp only [relR, Bool.and_eq_true, beq_iff_eq] at g; exact g.1⟩
theorem seesB_at {c : List Nat} {n m : Nat} {l : List Nat} (h : m < n) : (seesB c n l)[m]? = some (l.any fun k => c.getD k 0 == m) := by simp [seesB, h]
theorem seesB_iff {c : List Nat} {n : Nat} {l l' : List Nat} (hc : ∀ k, k ∈ l ∨ k ∈ l' → c.getD k 0 < n) : seesB c n l = seesB c n l' ↔ ∀ m, (∃ k ∈ l, c.getD k 0 = m) ↔ ∃ k ∈ l', c.getD k 0 = m := by
 constructor
 ·intro h m
  by_cases hm : m < n
  ·have := (seesB_at (c := c) (l := l) hm).symm.trans ((congrArg (·[m]?) h).trans (seesB_at (c := c) (l := l') hm))
   have := Option.some.inj this
   rw [Bool.eq_iff_iff, List.any_eq_true, List.any_eq_true] at this
   simpa using this
  ·constructor
   ·rintro ⟨k, hk, rfl⟩; exact absurd (hc k (.inl hk)) hm
   ·rintro ⟨k, hk, rfl⟩; exact absurd (hc k (.inr hk)) hm
 ·intro h
  unfold seesB
  refine List.map_congr_left fun m hm => ?_
  rw [Bool.eq_iff_iff, List.any_eq_true, List.any_eq_true]
  simpa using h m
def clsZ (c : List Nat) (l : List Nat) : List Int := riseZ (l.map fun k => ((c.getD k 0 : Nat) : Int))
theorem clsZ_iff {c : List Nat} {n : Nat} {l l' : List Nat} (hc : ∀ k, k ∈ l ∨ k ∈ l' → c.getD k 0 < n) : clsZ c l = clsZ c l' ↔ seesB c n l = seesB c n l' := by
 rw [seesB_iff hc, clsZ, clsZ, riseZ_eq_iff]
 simp only [List.mem_map]
 constructor
 ·intro h m
  constructor
  ·rintro ⟨k, hk, rfl⟩
   obtain ⟨k', h1, h2⟩ := (h _).1 ⟨k, hk, rfl⟩
   exact ⟨k', h1, by omega⟩
  ·rintro ⟨k, hk, rfl⟩
   obtain ⟨k', h1, h2⟩ := (h _).2 ⟨k, hk, rfl⟩
   exact ⟨k', h1, by omega⟩
 ·intro h x
  constructor
  ·rintro ⟨k, hk, rfl⟩
   obtain ⟨k', h1, h2⟩ := (h _).1 ⟨k, hk, rfl⟩
   exact ⟨k', h1, by omega⟩
  ·rintro ⟨k, hk, rfl⟩
   obtain ⟨k', h1, h2⟩ := (h _).2 ⟨k, hk, rfl⟩
   exact ⟨k', h1, by omega⟩
def finB (c : List Nat) (to : Nat → List Nat) (i : Nat) : List UInt8 := Lib.itoa ((c.getD i 0 : Nat) : Int) ++ rowB (clsZ c (to i))
theorem finB_iff {c : List Nat} {n i j : Nat} {to : Nat → List Nat} (hc : ∀ k, k ∈ to i ∨ k ∈ to j → c.getD k 0 < n) : decide (finB c to i = finB c to j) = relR to n c i j := by
 rw [Bool.eq_iff_iff, decide_eq_true_eq]
 simp only [relR, Bool.and_eq_true, beq_iff_eq]
 rw [← clsZ_iff hc]
 constructor
 ·intro h
  obtain ⟨h1, h2⟩ := rowB_inj _ _ _ _ h
  exact ⟨by omega, h2⟩
 ·rintro ⟨h1, h2⟩
  unfold finB; rw [h1, h2]
end Go.Bis
end
section
namespace Go.Proofs.YtmohcdihdhggoaaGreatDoor
open Go Go.Av Go.RowKit Go.Bis
def tabR (k : IntKind) (l : List Nat) : List (List D) := l.map fun (n : Nat) => [D.int k n]
def accT : List D := (List.range 32).map fun i => D.int .u8 (if i % 2 = 0 then (Lib.accLo (i / 2) : Int) else (Lib.accHi (i / 2) : Int))
structure Tabs (H : Heap) : Prop where
 pow : H 1 = some (.ro (tabD .u64 Lib.pow10Tab))
 p16 : H 4 = some (.ro [.sl 1 (tabR .u16 Lib.goPrintTabs.p16)])
 n16 : H 5 = some (.ro [.sl 1 (tabR .u16 Lib.goPrintTabs.n16)])
 p32 : H 6 = some (.ro [.sl 1 (tabR .u32 Lib.goPrintTabs.p32)])
 n32 : H 7 = some (.ro [.sl 1 (tabR .u16 Lib.goPrintTabs.n32)])
 fst : H 2 = some (.ro (tabD .u8 Lib.firstTab))
 acc : H 3 = some (.ro accT)
theorem Tabs.le {H H' : Heap} (h : Tabs H) (hl : H.Le H') : Tabs H' := ⟨hl _ _ h.pow, hl _ _ h.p16, hl _ _ h.n16, hl _ _ h.p32, hl _ _ h.n32, hl _ _ h.fst, hl _ _ h.acc⟩
theorem Tabs.set {H : Heap} (h : Tabs H) {b : Nat} (o : Av.Obj) (hb : H b = none) : Tabs (H.set b o) := h.le (heap_le_set hb)
theorem tabSlice_of {w : World} {H : Heap} {g : Nat} {k : IntKind} {l : List Nat} (hs : Sat H w) (h : H g = some (.ro [.sl 1 (tabR k l)])) (h0 : l ≠ []) : Lib.TabSlice g k l w := by
 obtain ⟨c, T, fz, h1, h2, h3⟩ := hs g _ h
 have hr := (h3 0 _ rfl).2
 have hl : (tabR k l).length = l.length := by simp [tabR]
 have hc0 : c[0]? = some (c.getD 0 Go.undef) := by
  have : 0 < c.size := by simp at h2; omega
  simp [this]
 generalize c.getD 0 Go.undef = v at hr hc0
 generalize he : tabR k l = es at hr hl
 cases hr with
 | sl0 => exact absurd (List.eq_nil_of_length_eq_zero (by rw [← hl]; rfl)) h0
 | sl sz es b off cap u hb hn hlen hcap hc h1' hrr =>
  subst he
  refine ⟨b, off, cap, ?_, fun j hj => ?_⟩
  ·rw [← hl]; simp only [World.cell?, h1]; exact hc0
  ·have hj' : j < (tabR k l).length := by rw [hl]; exact hj
   have e1 := hc j 0 hj' (by omega)
   simp only [Nat.mul_one, Nat.add_zero] at e1
   rw [e1]
   have e2 := hrr j [.int k (l[j] : Nat)] 0 _ (by simp [tabR, hj]) rfl
   rw [e2.int_inv]
   simp [hj]
set_option maxRecDepth 100000 in
theorem printTabs_of {w : World} {H : Heap} (hs : Sat H w) (hT : Tabs H) : Lib.PrintTabsAt 4 5 6 7 Lib.goPrintTabs w :=
 ⟨tabSlice_of hs hT.p16 (by decide), tabSlice_of hs hT.n16 (by decide), tabSlice_of hs hT.p32 (by decide), tabSlice_of hs hT.n32 (by decide), by decide, by decide, by decide⟩
theorem utf8Tabs_of {w : World} {H : Heap} (hs : Sat H w) (hT : Tabs H) : Lib.Utf8Tabs 2 3 w := by
 constructor
 ·intro c hc
  obtain ⟨cs, T, fz, h1, h2, h3⟩ := hs _ _ hT.fst
  have hl : cs.size = 256 := by rw [h2]; simp [tabD, Lib.firstTab]
  have := (h3 c (.int .u8 (Lib.firstT c)) (by simp [tabD, Lib.firstTab, hc])).2.int_inv
  have e : cs[c]? = some (cs.getD c Go.undef) := by
   have : c < cs.size := by omega
   simp [this]
  simp only [World.cell?, h1]
  rw [this] at e
  exact e
 ·intro i hi
  obtain ⟨cs, T, fz, h1, h2, h3⟩ := hs _ _ hT.acc
  have hl : cs.size = 32 := by rw [h2]; rfl
  have key : ∀ j z, j < 32 → accT[j]? = some (.int .u8 z) → w.cell? ⟨3, j, none⟩ = some (.int .u8 z) := fun j z hj hz => by
   have h4 := (h3 j _ hz).2.int_inv
   have e : cs[j]? = some (cs.getD j Go.undef) := by
    have : j < cs.size := by omega
    simp [this]
   simp only [World.cell?, h1]
   rw [h4] at e
   exact e
  refine ⟨key (2 * i) _ (by omega) ?_, key (2 * i + 1) _ (by omega) ?_⟩
  ·simp [accT, show 2 * i < 32 by omega]
  ·simp only [accT, List.getElem?_map, List.getElem?_range (show 2 * i + 1 < 32 by omega), Option.map_some]
   rw [if_neg (by omega), show (2 * i + 1) / 2 = i by omega]
theorem itoa_a {Q} (n : Int) (h0 : -9223372036854775808 ≤ n) (h1 : n ≤ 9223372036854775807) (H : Heap) (hT : Tabs H) (h : Q (.str (S (Lib.itoa n))) H) : ACalls Tryz.prog 87 [.int .i64 n] H Q :=
 acalls_kit (by kernel_rfl) (fun w vs hl' hr hs => by
  obtain ⟨a, rfl, ha⟩ := args1 hl' hr
  rw [ha.int_inv]
  refine (Tryz.strconv_Itoa n h0 h1 w (tabIs_of (g := 1) (by kernel_rfl) hs hT.pow)).mono fun e w' ⟨he, k, os, hw⟩ => ?_
  subst hw
  exact ⟨_, he, below_grow _ _ _, .str _⟩) h
theorem formatBool_a {Q} (b : Bool) (H : Heap) (h : Q (.str (S (Lib.formatBool b))) H) : ACalls Tryz.prog 84 [.bool b] H Q :=
 acalls_kit (by kernel_rfl) (fun w vs hl' hr hs => by
  obtain ⟨a, rfl, ha⟩ := args1 hl' hr
  have ea : a = .bool b := by cases ha; rfl
  rw [ea]
  refine (Tryz.strconv_FormatBool b w).mono fun e w' ⟨he, hw⟩ => ?_
  subst hw
  exact ⟨_, he, Below.refl _ _, .str _⟩) h
theorem quote_a {Q} (s : ByteArray) (hs0 : s.size ≤ 1000000000000) (hp : plainB (B s) = true) (H : Heap) (hT : Tabs H) (h : Q (.str (S (34 :: (B s ++ [34])))) H) : ACalls Tryz.prog 112 [.str s] H Q :=
 acalls_kit (by kernel_rfl) (fun w vs hl' hr hs => by
  obtain ⟨a, rfl, ha⟩ := args1 hl' hr
  rw [ha.str_inv]
  refine (Tryz.strconv_Quote Lib.goPrintTabs s w (by omega) (printTabs_of hs hT) (utf8Tabs_of hs hT)).mono fun e w' ⟨he, hw⟩ => ?_
  rw [quote_plain _ s hp] at he
  exact ⟨_, he, hw, .str _⟩) h
theorem turn_ints {w w' : World} {H : Heap} {c : Nat} {es : List (List D)} {l' : List Int} {cur cur' : Array Value} {T lo hi : Nat} (hs : Sat H w) (hc : H c = some (.vec 1 es)) (h1 : w.heap[c]? = some (.cells cur T (lo, hi))) (hf : ∀ j, j < cur.size → ¬ (lo ≤ j ∧ j < hi))
  (h2 : w'.heap[c]? = some (.cells cur' T (lo, hi))) (hsz : cur'.size = cur.size) (hl' : l'.length ≤ cur'.size) (hv : ∀ j (h : j < l'.length), cur'[j]? = some (.int .i64 l'[j])) (hg : w.grownBy w' (some c)) :
  Sat (H.set c (.vec 1 (Rw intC l'))) w' ∧ Ext H w w' ∧ From w H (H.set c (.vec 1 (Rw intC l'))) := by
 have hheld : H.held c = true := held_of hc
 have hold : ∀ k, k < w.heap.size → k ≠ c → w'.heap[k]? = w.heap[k]? := fun k hk hkc => hg.block k hk (fun e => hkc (Option.some.inj e))
 have hext : Ext H w w' := ⟨hg.os, hg.tape, hg.output, hg.size, fun k hk hn => hold k hk (fun e => by rw [e, hheld] at hn; cases hn), fun k hk => by
  unfold World.shape?
  by_cases hkc : k = c
  ·subst hkc; rw [h1, h2]; simp [hsz]
  ·rw [hold k hk hkc]⟩
 have hfrom : From w H (H.set c (.vec 1 (Rw intC l'))) := From.set_owned hheld _
 refine ⟨hs.update hext hfrom hold ?_, hext, hfrom⟩
 refine ⟨cur', T, lo, hi, h2, fun j hj => hf j (by omega), by omega, by rw [Rw_len]; omega, fun i e he => ?_, fun i e j d he hd => ?_⟩
 ·simp only [Rw, List.getElem?_map, Option.map_eq_some_iff] at he
  obtain ⟨x, _, rfl⟩ := he; rfl
 ·simp only [Rw, List.getElem?_map, Option.map_eq_some_iff] at he
  obtain ⟨x, hx, rfl⟩ := he
  obtain ⟨hi', hx'⟩ := List.getElem?_eq_some_iff.1 hx
  cases j with
  | succ j => simp [intC] at hd
  | zero =>
   simp only [intC, List.getElem?_cons_zero, Option.some.injEq] at hd
   subst hd
   have := hv i hi'
   have e : cur'.getD (i * 1 + 0) Go.undef = .int .i64 x := by
    rw [Nat.mul_one, Nat.add_zero]
    rw [← hx', Array.getD_eq_getD_getElem?, this]; rfl
   rw [e]
   exact ⟨rfl, .int _ _⟩
theorem vec_ints {w : World} {H : Heap} {c : Nat} {l : List Int} (hs : Sat H w) (hc : H c = some (.vec 1 (Rw intC l))) : ∃ cur T lo hi, w.heap[c]? = some (.cells cur T (lo, hi)) ∧ (∀ j, j < cur.size → ¬ (lo ≤ j ∧ j < hi)) ∧ l.length ≤ cur.size ∧ ∀ j (h : j < l.length), cur[j]? = some (.int .i64 l[j]) := by
 obtain ⟨cur, T, lo, hi, h1, h2, h3, h4⟩ := vec_inv (hs c _ hc)
 have hle := h4.le
 rw [Rw_len, Nat.mul_one] at hle
 refine ⟨cur, T, lo, hi, h1, h2, hle, fun j hj => ?_⟩
 have := h4.rel j _ 0 _ (Rw_get (f := intC) l j hj) rfl
 simp only [Nat.mul_one, Nat.add_zero] at this
 have e := this.int_inv
 have hjs : j < cur.size := by omega
 simp [hjs] at e
 simp [hjs, e]
theorem vec_val {w : World} {H : Heap} {c n : Nat} {v : Value} (h : R w H (.vec c 1 0 n) v) (hn : n ≠ 0) : ∃ cap, v = .slice (some ⟨c, 0, none⟩) n cap ∧ n ≤ cap ∧ ∃ T, w.shape? c = some (T, cap) := by
 generalize hd : D.vec c 1 0 n = d at h
 cases h <;> cases hd
 ·rename_i cap T m hb hsz hm hcap
  exact ⟨cap, by simp, hcap, T, by rw [hb, hm]; simp⟩
 ·exact absurd rfl hn
theorem sort_a {Q} (c : Nat) (l : List Int) (hl : l ≠ []) (hb : l.length < 4611686018427387904) (H : Heap) (hc : H c = some (.vec 1 (Rw intC l))) (h : Q (.tuple []) (H.set c (.vec 1 (Rw intC (l.mergeSort fun x y => decide (x ≤ y)))))) :
  ACalls Tryz.prog 56 [.vec c 1 0 l.length] H Q := by
 refine ⟨by kernel_rfl, fun w vs hl' hr hs => ?_⟩
 obtain ⟨a, rfl, ha⟩ := args1 hl' hr
 obtain ⟨cap, rfl, hcap, T', hT'⟩ := vec_val ha (by simpa using hl)
 obtain ⟨cur, T, lo, hi, h1, h2, h3, h4⟩ := vec_ints hs hc
 have hcw : c < w.heap.size := (Array.getElem?_eq_some_iff.1 h1).1
 refine (Tryz.slices_Sort_int c 0 cap l w (fun j hj => ?_) hcw hb).mono fun e w' ⟨he, n, os, hw⟩ => ?_
 ·have hj' : j < l.length := by simpa using hj
  refine ⟨?_, frozen_at h1 (h2 _ (by omega))⟩
  rw [cell_at h1, Nat.zero_add, h4 j hj']
  simp [hj']
 ·subst hw
  have hms : (l.mergeSort fun x y => decide (x ≤ y)).length = l.length := List.length_mergeSort _
  have hcell := heap_sortedI (n := n) (os := os) (l.mergeSort fun x y => decide (x ≤ y)).toArray h1
  have htk := take_putCellsI cur (l.mergeSort fun x y => decide (x ≤ y)) (by omega)
  have hps : (Sort.putCells (Value.int .i64) 0 (l.mergeSort fun x y => decide (x ≤ y)).toArray cur).size = cur.size := by simp [Sort.putCells]
  obtain ⟨k1, k2, k3⟩ := turn_ints (l' := l.mergeSort fun x y => decide (x ≤ y)) hs hc h1 h2 hcell hps (by omega) (fun j hj => by
   have := congrArg (·[j]?) htk
   rw [List.getElem?_take_of_lt hj, Array.getElem?_toList] at this
   rw [this]
   simp [hj]) (grownBy_sortedI _)
  exact ⟨_, he, .tuple [], _, .tuple _ _ rfl (fun i d hd => by simp at hd), k1, k2, k3, h⟩
theorem sortNil_a {Q} (H : Heap) (h : Q (.tuple []) H) : ACalls Tryz.prog 56 [.nilsl] H Q :=
 acalls_kit (r := .tuple []) (by kernel_rfl) (fun w vs hl' hr hs => by
  obtain ⟨a, rfl, ha⟩ := args1 hl' hr
  have ea : a = .slice none 0 0 := by cases ha; rfl
  rw [ea]
  refine (Tryz.slices_Sort_int_none none 0 w).mono fun e w' ⟨he, hw⟩ => ?_
  subst hw
  exact ⟨_, he, Below.refl _ _, .tuple [] #[] rfl (fun i d hd => by simp at hd)⟩) h
theorem compact_a {Q} (c : Nat) (l : List Int) (hl : l ≠ []) (hb : l.length < 4611686018427387904) (H : Heap) (hc : H c = some (.vec 1 (Rw intC l))) (h : Q (.vec c 1 0 (Lib.compact l).length) (H.set c (.vec 1 (Rw intC (Lib.compact l))))) :
  ACalls Tryz.prog 57 [.vec c 1 0 l.length] H Q := by
 refine ⟨by kernel_rfl, fun w vs hl' hr hs => ?_⟩
 obtain ⟨a, rfl, ha⟩ := args1 hl' hr
 obtain ⟨cap, rfl, hcap, T', hT'⟩ := vec_val ha (by simpa using hl)
 obtain ⟨cur, T, lo, hi, h1, h2, h3, h4⟩ := vec_ints hs hc
 have hsh : w.shape? c = some (T, cur.size) := by simp [World.shape?, h1]
 refine (Tryz.slices_Compact_int_cells c 0 l.length cap l w (Nat.le_refl _) (by omega) hcap (fun j hj => ?_) (fun j hj => ?_)).mono fun e w' ⟨he, q, hw⟩ => ?_
 ·rw [cell_at h1, Nat.zero_add, h4 j hj]
  simp [hj]
 ·exact frozen_at h1 (h2 _ (by omega))
 ·subst hw
  rw [List.take_length] at he
  have hcl : (Lib.compact l).length ≤ l.length := by
   unfold Lib.compact Lib.compactUpTo
   rw [List.length_map]
   refine Nat.le_trans (List.length_filter_le _ _) (by simp)
  obtain ⟨us, hus⟩ : ∃ us, us = (Lib.compact (l.take l.length) ++ List.replicate (l.length - (Lib.compact (l.take l.length)).length) 0).map (Value.int .i64) := ⟨_, rfl⟩
  have hlen : us.length = l.length := by rw [hus, List.take_length]; simp; omega
  have hget : ∀ j (h : j < (Lib.compact l).length), us[j]? = some (.int .i64 (Lib.compact l)[j]) := fun j hj => by
   rw [hus, List.take_length, List.getElem?_map, List.getElem?_append_left hj, List.getElem?_eq_getElem hj]; rfl
  rw [← hus]
  clear hus
  have h1' : (w.drewN q).heap[c]? = some (.cells cur T (lo, hi)) := h1
  obtain ⟨k1, k2, k3, k4, k5, k6⟩ := setCells_spec c T (lo, hi) us 0 (w.drewN q) cur h1'
  have hps : (putV cur 0 us).size = cur.size := putV_size us cur 0
  have hgr : w.grownBy ((w.drewN q).setCells c 0 us) (some c) := ⟨k4, k5, k6, Nat.le_of_eq k3.symm, fun k _ hne => k2 k (fun e => hne (by rw [e]))⟩
  obtain ⟨m1, m2, m3⟩ := turn_ints (l' := Lib.compact l) hs hc h1 h2 k1 hps (by omega) (fun j hj => by
   rw [putV_get, if_pos ⟨Nat.zero_le _, by omega, by omega⟩, Nat.sub_zero]
   exact hget j hj) hgr
  have hsz : cur.size = (0 + cap) * 1 := by
   rw [hsh] at hT'; cases hT'; simp
  have hsh2 : ((w.drewN q).setCells c 0 us).shape? c = some (T, cur.size) := by
   unfold World.shape?; rw [k1]; simp only [hps]
  have hv := R.vec (w := (w.drewN q).setCells c 0 us) (H := H.set c (.vec 1 (Rw intC (Lib.compact l)))) c 1 0 (Lib.compact l).length cap T cur.size hsh2 hsz (by omega) (by omega)
  rw [Nat.zero_mul] at hv
  exact ⟨_, he, .vec c 1 0 (Lib.compact l).length, _, hv, m1, m2, m3, h⟩
theorem compactNil_a {Q} (H : Heap) (h : Q .nilsl H) : ACalls Tryz.prog 57 [.nilsl] H Q :=
 acalls_kit (r := .nilsl) (by kernel_rfl) (fun w vs hl' hr hs => by
  obtain ⟨a, rfl, ha⟩ := args1 hl' hr
  have ea : a = .slice none 0 0 := by cases ha; rfl
  rw [ea]
  refine (Tryz.slices_Compact_int_empty none 0 w).mono fun e w' ⟨he, hw⟩ => ?_
  subst hw
  exact ⟨_, he, Below.refl _ _, .nilsl⟩) h
end Go.Proofs.YtmohcdihdhggoaaGreatDoor
end
section
namespace Go.Bis
open Go Go.Av Go.Lexs
def quoB (l : List UInt8) : List UInt8 := 34 :: (l ++ [34])
mutual
def serT : Tm → List UInt8
 | .mk k n x s ks rs => Lib.itoa k ++ 32 :: (Lib.itoa n ++ 32 :: (quoB (B x) ++ (quoB (B s) ++ 40 :: (serL ks ++ 124 :: (serL rs ++ [41])))))
def serL : List Tm → List UInt8
 | [] => []
 | t :: ts => serT t ++ serL ts
end
theorem serT_eq (t : Tm) : serT t = Lib.itoa t.kind ++ 32 :: (Lib.itoa t.n ++ 32 :: (quoB (B t.text) ++ (quoB (B t.sort) ++ 40 :: (serL t.kids ++ 124 :: (serL t.rest ++ [41]))))) := by
 cases t; rw [serT]; rfl
mutual
def noQ : Tm → Bool
 | .mk k n x s ks rs => !(B x).contains 34 && !(B s).contains 34 && noQL ks && noQL rs
def noQL : List Tm → Bool
 | [] => true
 | t :: ts => noQ t && noQL ts
end
theorem serT_head (t : Tm) (X : List UInt8) : ∃ b r, serT t ++ X = b :: r ∧ numB b = true := by
 cases t with
 | mk k n x s ks rs =>
  rw [serT]
  have h1 := itoa_ne k
  have h2 := itoa_all k
  cases h : Lib.itoa k with
  | nil => exact absurd h h1
  | cons b r =>
   rw [h, List.all_cons, Bool.and_eq_true] at h2
   exact ⟨b, _, rfl, h2.1⟩
theorem quoB_part {u v X Y : List UInt8} (hu : u.contains 34 = false) (hv : v.contains 34 = false) (h : quoB u ++ X = quoB v ++ Y) : u = v ∧ X = Y := by
 unfold quoB at h
 simp only [List.cons_append, List.append_assoc, List.nil_append, List.cons.injEq, true_and] at h
 exact part_at 34 u v X Y (by simpa using hu) (by simpa using hv) h
mutual
theorem serT_inj : ∀ (t u : Tm) (X Y : List UInt8), noQ t = true → noQ u = true → serT t ++ X = serT u ++ Y → t = u ∧ X = Y
 | .mk k n x s ks rs, .mk k' n' x' s' ks' rs', X, Y, ht, hu, h => by
  rw [noQ] at ht hu
  simp only [Bool.and_eq_true, Bool.not_eq_true'] at ht hu
  obtain ⟨⟨⟨t1, t2⟩, t3⟩, t4⟩ := ht
  obtain ⟨⟨⟨u1, u2⟩, u3⟩, u4⟩ := hu
  rw [serT, serT] at h
  simp only [List.append_assoc, List.cons_append, List.nil_append] at h
  obtain ⟨e1, h⟩ := part_at 32 _ _ _ _ (num_no rfl k) (num_no rfl k') h
  obtain ⟨e2, h⟩ := part_at 32 _ _ _ _ (num_no rfl n) (num_no rfl n') h
  obtain ⟨e3, h⟩ := quoB_part t1 u1 h
  obtain ⟨e4, h⟩ := quoB_part t2 u2 h
  obtain ⟨e5, h⟩ := serL_inj ks ks' 124 _ _ (by decide) t3 u3 (List.cons.inj h).2
  obtain ⟨e6, h⟩ := serL_inj rs rs' 41 _ _ (by decide) t4 u4 h
  exact ⟨by rw [itoa_inj e1, itoa_inj e2, B_inj e3, B_inj e4, e5, e6], h⟩
theorem serL_inj : ∀ (l m : List Tm) (c : UInt8) (X Y : List UInt8), numB c = false → noQL l = true → noQL m = true → serL l ++ c :: X = serL m ++ c :: Y → l = m ∧ X = Y
 | [], [], c, X, Y, _, _, _, h => ⟨rfl, by rw [serL] at h; exact (List.cons.inj h).2⟩
 | [], u :: m, c, X, Y, hc, _, _, h => by
  rw [serL, serL, List.append_assoc] at h
  obtain ⟨b, r, e, hb⟩ := serT_head u (serL m ++ c :: Y)
  rw [e] at h
  have := (List.cons.inj h).1
  rw [this, hb] at hc; cases hc
 | t :: l, [], c, X, Y, hc, _, _, h => by
  rw [serL, serL, List.append_assoc] at h
  obtain ⟨b, r, e, hb⟩ := serT_head t (serL l ++ c :: X)
  rw [e] at h
  have := (List.cons.inj h).1
  rw [← this, hb] at hc; cases hc
 | t :: l, u :: m, c, X, Y, hc, hl, hm, h => by
  rw [noQL, Bool.and_eq_true] at hl hm
  rw [serL, serL, List.append_assoc, List.append_assoc] at h
  obtain ⟨e1, h⟩ := serT_inj t u _ _ hl.1 hm.1 h
  obtain ⟨e2, h⟩ := serL_inj l m c X Y hc hl.2 hm.2 h
  exact ⟨by rw [e1, e2], h⟩
end
def seenB (f : Bool) (t : Tm) : List UInt8 := (if f = true then [116, 114, 117, 101] else [102, 97, 108, 115, 101]) ++ serT t
theorem seenB_iff (f g : Bool) (t u : Tm) (ht : noQ t = true) (hu : noQ u = true) : seenB f t = seenB g u ↔ f = g ∧ t = u := by
 constructor
 ·intro h
  unfold seenB at h
  have key : f = g := by
   cases f <;> cases g <;> simp at h ⊢
  subst key
  have h := List.append_cancel_left h
  have := serT_inj t u [] [] ht hu (by simpa using h)
  exact ⟨rfl, this.1⟩
 ·rintro ⟨rfl, rfl⟩; rfl
end Go.Bis
end
