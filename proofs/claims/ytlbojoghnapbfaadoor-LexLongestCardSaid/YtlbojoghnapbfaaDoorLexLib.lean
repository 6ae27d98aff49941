/- What the library's functions do that the lexers call: off the shelf, as calls on abstract values. -/
import Derived.Test.YtlbojoghnapbfaaDoorTypes
import Derived.Test.YtlbojoghnapbfaaDoorShelf
import Derived.Test.YtlbojoghnapbfaaDoorAvLib
set_option linter.unusedSimpArgs false
set_option linter.unusedVariables false
namespace Go.Proofs.YtlbojoghnapbfaaDoor
open Go Go.Av Go.RowKit

theorem indexByte_a {Q} (s : ByteArray) (c : Int) (H : Heap) (h : Q (.int .i64 (Lib.indexByte (B s) c.toNat.toUInt8)) H) : ACalls Tryd.prog 42 [.str s, .int .u8 c] H Q :=
  acalls_kit (by kernel_rfl) (fun w vs hl hr hs => by
    obtain ⟨a, b, rfl, ha, hb⟩ := args2 hl hr
    rw [ha.str_inv, hb.int_inv]
    refine (Tryd.strings_IndexByte s c w).mono fun e w' ⟨he, hw⟩ => ?_
    subst hw
    exact ⟨_, he, Below.refl _ _, .int _ _⟩) h

theorem hasPrefix_a {Q} (s p : ByteArray) (H : Heap) (h : Q (.bool ((B p).isPrefixOf (B s))) H) : ACalls Tryd.prog 54 [.str s, .str p] H Q :=
  acalls_kit (by kernel_rfl) (fun w vs hl hr hs => by
    obtain ⟨a, b, rfl, ha, hb⟩ := args2 hl hr
    rw [ha.str_inv, hb.str_inv]
    refine (Tryd.strings_HasPrefix s p w).mono fun e w' ⟨he, hw⟩ => ?_
    subst hw
    exact ⟨_, he, Below.refl _ _, .bool _⟩) h

theorem trimLeft_a {Q} (s : ByteArray) (c : UInt8) (hc : c.toNat < 128) (H : Heap) (h : Q (.str (S ((B s).dropWhile (· == c)))) H) : ACalls Tryd.prog 65 [.str s, .str ⟨#[c]⟩] H Q :=
  acalls_kit (by kernel_rfl) (fun w vs hl hr hs => by
    obtain ⟨a, b, rfl, ha, hb⟩ := args2 hl hr
    rw [ha.str_inv, hb.str_inv]
    refine (Tryd.strings_TrimLeft_one s c hc w).mono fun e w' ⟨he, hw⟩ => ?_
    subst hw
    exact ⟨_, he, Below.refl _ _, .str _⟩) h

theorem atoi_a {Q} (s : ByteArray) (n : Int) (hl : s.size ≤ 18) (hn : Lib.atoi (B s) = some n) (H : Heap) (h : Q (.tuple [.int .i64 n, .nilif]) H) : ACalls Tryd.prog 66 [.str s] H Q :=
  acalls_kit (by kernel_rfl) (fun w vs hl' hr hs => by
    obtain ⟨a, rfl, ha⟩ := args1 hl' hr
    rw [ha.str_inv]
    refine (Tryd.strconv_Atoi s n hl hn w).mono fun e w' ⟨he, t, hw⟩ => ?_
    subst hw
    refine ⟨_, he, below_bytes _ _ _, .tuple _ _ rfl fun i d hd => ?_⟩
    match i, hd with
    | 0, hd => simp at hd; subst hd; exact .int _ _
    | 1, hd => simp at hd; subst hd; exact .nilif
    | i + 2, hd => simp at hd) h

theorem itoa_small_a {Q} (i : Nat) (hi : i < 100) (H : Heap) (h : Q (.str (S (Lib.decDigits i))) H) : ACalls Tryd.prog 33 [.int .i64 i] H Q :=
  acalls_kit (by kernel_rfl) (fun w vs hl' hr hs => by
    obtain ⟨a, rfl, ha⟩ := args1 hl' hr
    rw [ha.int_inv]
    refine (Tryd.strconv_Itoa_small i hi w).mono fun e w' ⟨he, hw⟩ => ?_
    subst hw
    exact ⟨_, he, Below.refl _ _, .str _⟩) h

/-- The tables of the library. -/
structure Tabs (H : Heap) : Prop where
  pow : H 3 = some (.ro (tabD .u64 Lib.pow10Tab))
  space : H 0 = some (.ro (tabD .u8 Lib.asciiSpaceTab))

theorem Tabs.set {H : Heap} (h : Tabs H) {b : Nat} (o : Av.Obj) (hb : H b = none) : Tabs (H.set b o) := by
  refine ⟨?_, ?_⟩
  · rw [heap_ne o (by intro e; rw [← e, h.pow] at hb; cases hb)]; exact h.pow
  · rw [heap_ne o (by intro e; rw [← e, h.space] at hb; cases hb)]; exact h.space

theorem itoa_a {Q} (n : Int) (h0 : -9223372036854775808 ≤ n) (h1 : n ≤ 9223372036854775807) (H : Heap) (hT : Tabs H) (h : Q (.str (S (Lib.itoa n))) H) : ACalls Tryd.prog 33 [.int .i64 n] H Q :=
  acalls_kit (by kernel_rfl) (fun w vs hl' hr hs => by
    obtain ⟨a, rfl, ha⟩ := args1 hl' hr
    rw [ha.int_inv]
    refine (Tryd.strconv_Itoa n h0 h1 w (tabIs_of (g := 3) (by kernel_rfl) hs hT.pow)).mono fun e w' ⟨he, k, os, hw⟩ => ?_
    subst hw
    exact ⟨_, he, below_grow _ _ _, .str _⟩) h

/-- Rows of strings. -/
def strsD (xs : List ByteArray) : List (List D) := xs.map fun s => [D.str s]
@[go_sem] theorem strsD_len (xs : List ByteArray) : (strsD xs).length = xs.length := by simp [strsD]
theorem strsD_at (xs : List ByteArray) (k : Nat) (h : k < xs.length) : (strsD xs).getD k [] = [D.str xs[k]] := by simp [strsD, h]

theorem join_a {Q} (xs : List ByteArray) (sep : ByteArray) (H : Heap) (hN : xs.length ≤ 140737488355328) (hlen : (Lib.join (xs.map B) (B sep)).length ≤ 140737488355328) (h : Q (.str (S (Lib.join (xs.map B) (B sep)))) H) :
    ACalls Tryd.prog 20 [.sl 1 (strsD xs), .str sep] H Q :=
  acalls_kit (by kernel_rfl) (fun w vs hl' hr hs => by
    obtain ⟨a, b, rfl, ha, hb⟩ := args2 hl' hr
    rw [hb.str_inv]
    generalize he : strsD xs = es at ha
    cases ha with
    | sl0 sz a cap =>
      have hx : xs = [] := by simpa [strsD] using he
      subst hx
      refine (Tryd.strings_Join_none a cap sep w).mono fun e w' ⟨he, hw⟩ => ?_
      subst hw
      exact ⟨_, he, Below.refl _ _, .str _⟩
    | sl sz es b off cap u hbk hn hlen' hcap hc h1 hrr =>
      subst he
      have hlen2 : (strsD xs).length = xs.length := by simp [strsD]
      rw [hlen2] at hcap ⊢
      refine (Tryd.strings_Join b off cap xs sep w (fun j x hj => ?_) hbk hN hcap hlen).mono fun e w' ⟨he, hw⟩ => ⟨_, he, hw, .str _⟩
      have hjl := (List.getElem?_eq_some_iff.1 hj).1
      have e1 := hc j 0 (by rw [hlen2]; exact hjl) (by omega)
      simp only [Nat.mul_one, Nat.add_zero] at e1
      rw [e1]
      have := hrr j [.str x] 0 (.str x) (by simp [strsD, hj]) rfl
      rw [this.str_inv]) h

theorem fields_a {Q} (s : ByteArray) (H : Heap) (hT : Tabs H) (hs : s.size < 4294967281) (hascii : ∀ (j : Nat) b, (B s)[j]? = some b → b.toNat < 128) (h : Q (.sl 1 (strsD ((Lib.fields (B s)).map S))) H) :
    ACalls Tryd.prog 46 [.str s] H Q :=
  acalls_kit (by kernel_rfl) (fun w vs hl' hr hsat => by
    obtain ⟨a, rfl, ha⟩ := args1 hl' hr
    rw [ha.str_inv]
    refine (Tryd.strings_Fields s w hs hascii (tabIs_of (g := 0) (by kernel_rfl) hsat hT.space)).mono fun e w' ⟨he, hw⟩ => ?_
    subst hw
    refine ⟨_, he, (Below.refl _ _).alloc (Nat.le_refl _) _, ?_⟩
    have hb : (w.alloc (.cells ((Lib.fields s.data.toList).map fun l => Value.string ⟨l.toArray⟩).toArray 9)).heap[w.heap.size]? = some (.cells ((Lib.fields s.data.toList).map fun l => Value.string ⟨l.toArray⟩).toArray 9) := heap_alloc_new _ _
    have hR := R.sl (w := w.alloc (.cells ((Lib.fields s.data.toList).map fun l => Value.string ⟨l.toArray⟩).toArray 9)) (H := H) 1 (strsD ((Lib.fields (B s)).map S)) w.heap.size 0 (Lib.fields s.data.toList).length
      (fun i _ => Value.string ⟨((Lib.fields (B s)).getD i []).toArray⟩) (by simp) (held_none (hsat.fresh (Nat.le_refl _))) (fun i e he => ?_) (by simp [strsD, B]) (fun i j hi hj => ?_) (fun i e j d he hd => ?_) (fun i e j d he hd => ?_)
    · have : (strsD ((Lib.fields (B s)).map S)).length = (Lib.fields s.data.toList).length := by simp [strsD, B]
      rwa [this] at hR
    · simp only [strsD, List.getElem?_map, Option.map_eq_some_iff] at he
      obtain ⟨x, _, rfl⟩ := he; rfl
    · have hj0 : j = 0 := by omega
      subst hj0
      rw [cell_at hb]
      have hi' : i < (Lib.fields (B s)).length := by simpa [strsD] using hi
      have hi2 : i < (Lib.fields s.data.toList).length := hi'
      simp only [Nat.zero_add, Nat.mul_one, Nat.add_zero, List.getElem?_toArray, List.getElem?_map, List.getElem?_eq_getElem hi2, Option.map_some]
      rw [List.getD_eq_getElem?_getD, List.getElem?_eq_getElem hi']
      rfl
    · simp only [strsD, List.getElem?_map, Option.map_eq_some_iff] at he
      obtain ⟨x, _, rfl⟩ := he
      cases j with
      | zero => simp at hd; subst hd; rfl
      | succ j => simp at hd
    · simp only [strsD, List.map_map, List.getElem?_map, Option.map_eq_some_iff] at he
      obtain ⟨x, hx, rfl⟩ := he
      cases j with
      | zero =>
        simp at hd; subst hd
        rw [List.getD_eq_getElem?_getD, hx]
        exact .str _
      | succ j => simp at hd) h
end Go.Proofs.YtlbojoghnapbfaaDoor
