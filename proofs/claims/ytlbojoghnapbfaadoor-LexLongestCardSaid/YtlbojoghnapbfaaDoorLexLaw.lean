/- Plain laws of tokens: what is written so is cut so. No program is in sight. -/
import Derived.Test.YtlbojoghnapbfaaDoorLexText
set_option linter.unusedSimpArgs false
set_option linter.unusedVariables false
namespace Go.Lexs
open Go.Av

theorem letter_part' {c : Int} (h : letterI c = true) : partI c = true := by simp [partI, h]
def tokT (t : Tk) : Tok := ⟨t.kind, t.text, t.n⟩
/-- A token that can be cut again. -/
structure Cuts (signs : List (List UInt8)) (t : Tk) : Prop where
  tok : isTok t = true
  sign : t.kind = 4 → isSign t.text = true ∧ t.text ∈ signs ∧ List.isPrefixOf [47, 47] t.text = false
/-- What stands behind a token: nothing, or a blank. -/
def Stop (r : List UInt8) : Prop := r = [] ∨ ∃ c l, r = c :: l ∧ ofB blankI c = true

theorem blank_cases {c : UInt8} (h : ofB blankI c = true) : c = 32 ∨ c = 9 ∨ c = 10 ∨ c = 13 := by
  have := (blankI_iff _).1 h
  rcases this with h | h | h | h
  · exact .inl (UInt8.toNat.inj (by simpa using Int.ofNat.inj h))
  · exact .inr (.inl (UInt8.toNat.inj (by simpa using Int.ofNat.inj h)))
  · exact .inr (.inr (.inl (UInt8.toNat.inj (by simpa using Int.ofNat.inj h))))
  · exact .inr (.inr (.inr (UInt8.toNat.inj (by simpa using Int.ofNat.inj h))))
theorem blank_part {c : UInt8} (h : ofB blankI c = true) : ofB partI c = false ∧ ofB digitI c = false ∧ ofB signI c = false ∧ c ≠ 47 := by
  rcases blank_cases h with rfl | rfl | rfl | rfl <;> decide

theorem spanN_app (p : Int → Bool) : ∀ (a r : List UInt8), a.all (ofB p) = true → (∀ c l, r = c :: l → ofB p c = false) → spanN p (a ++ r) = a.length
  | [], r, _, hr => by
    cases r with
    | nil => rfl
    | cons c l => rw [List.nil_append, spanN, hr c l rfl]; rfl
  | c :: a, r, ha, hr => by
    rw [List.all_cons, Bool.and_eq_true] at ha
    rw [List.cons_append, spanN, if_pos ha.1, spanN_app p a r ha.2 hr]; rfl
theorem stop_not {r : List UInt8} (h : Stop r) {c : UInt8} {l : List UInt8} (e : r = c :: l) : ofB partI c = false ∧ ofB digitI c = false ∧ ofB signI c = false ∧ c ≠ 47 := by
  rcases h with h | ⟨d, m, h, hb⟩
  · rw [h] at e; cases e
  · rw [h] at e; cases e; exact blank_part hb

theorem quoteN_app : ∀ (a r : List UInt8), a.all (ofB textI) = true → quoteN (a ++ 34 :: r) = a.length
  | [], r, _ => rfl
  | c :: a, r, h => by
    rw [List.all_cons, Bool.and_eq_true] at h
    have hc : ¬ c.toNat = 34 := fun e => by
      have := (textI_iff _).1 h.1
      omega
    rw [List.cons_append, quoteN, if_neg hc, quoteN_app a r h.2]; rfl

theorem decV_app (l : List UInt8) (c : UInt8) : decV (l ++ [c]) = 10 * decV l + (c.toNat - 48) := by
  unfold decV
  rw [List.foldl_append]
  rfl
theorem dec_digits (u : Nat) : (Lib.decDigits u).all (ofB digitI) = true ∧ decV (Lib.decDigits u) = u := by
  induction u using Nat.strongRecOn with
  | _ u ih =>
    unfold Lib.decDigits
    have one : ∀ d, d < 10 → ofB digitI (UInt8.ofNat (48 + d)) = true ∧ (UInt8.ofNat (48 + d)).toNat - 48 = d := by decide
    split
    · rename_i h
      exact ⟨by simp only [List.all_cons, List.all_nil, Bool.and_true]; exact (one u h).1, by have := (one u h).2; simpa [decV] using this⟩
    · rename_i h
      obtain ⟨h1, h2⟩ := ih (u / 10) (by omega)
      have := one (u % 10) (by omega)
      refine ⟨by rw [List.all_append, h1]; simp only [List.all_cons, List.all_nil, Bool.and_true, Bool.true_and]; exact this.1, ?_⟩
      rw [decV_app, h2, this.2]; omega
theorem dec_ne (u : Nat) : Lib.decDigits u ≠ [] := by
  unfold Lib.decDigits
  split <;> simp

theorem bestN_fold_ge (l : List UInt8) : ∀ (ss : List (List UInt8)) (n : Nat), n ≤ ss.foldl (fun n s => if n < s.length ∧ List.isPrefixOf s l = true then s.length else n) n
  | [], n => Nat.le_refl _
  | s :: ss, n => by
    rw [List.foldl_cons]
    refine Nat.le_trans ?_ (bestN_fold_ge l ss _)
    split <;> omega
theorem bestN_fold_mem (l : List UInt8) : ∀ (ss : List (List UInt8)) (n : Nat) (s : List UInt8), s ∈ ss → List.isPrefixOf s l = true → s.length ≤ ss.foldl (fun n s => if n < s.length ∧ List.isPrefixOf s l = true then s.length else n) n
  | u :: ss, n, s, hm, hp => by
    rw [List.foldl_cons]
    rcases List.mem_cons.1 hm with rfl | hm
    · refine Nat.le_trans ?_ (bestN_fold_ge l ss _)
      split
      · exact Nat.le_refl _
      · rename_i h; by_cases hlt : n < s.length
        · exact absurd ⟨hlt, hp⟩ h
        · omega
    · exact bestN_fold_mem l ss _ s hm hp
theorem bestN_fold_is (l : List UInt8) : ∀ (ss : List (List UInt8)) (n : Nat), ss.foldl (fun n s => if n < s.length ∧ List.isPrefixOf s l = true then s.length else n) n = n ∨
    ∃ s ∈ ss, List.isPrefixOf s l = true ∧ s.length = ss.foldl (fun n s => if n < s.length ∧ List.isPrefixOf s l = true then s.length else n) n
  | [], n => .inl rfl
  | u :: ss, n => by
    rw [List.foldl_cons]
    by_cases hc : n < u.length ∧ List.isPrefixOf u l = true
    · rw [if_pos hc]
      rcases bestN_fold_is l ss u.length with h | ⟨s, hs, hp, he⟩
      · exact .inr ⟨u, by simp, hc.2, h.symm⟩
      · exact .inr ⟨s, by simp [hs], hp, he⟩
    · rw [if_neg hc]
      rcases bestN_fold_is l ss n with h | ⟨s, hs, hp, he⟩
      · exact .inl h
      · exact .inr ⟨s, by simp [hs], hp, he⟩
theorem bestN_mem {ss : List (List UInt8)} {l : List UInt8} (h : bestN ss l ≠ 0) : ∃ s ∈ ss, List.isPrefixOf s l = true ∧ s.length = bestN ss l := by
  rcases bestN_fold_is l ss 0 with e | h'
  · exact absurd e h
  · exact h'
theorem bestN_eq {ss : List (List UInt8)} {l x : List UInt8} (hx : x ∈ ss) (hp : List.isPrefixOf x l = true) (hm : ∀ s ∈ ss, List.isPrefixOf s l = true → s.length ≤ x.length) : bestN ss l = x.length := by
  have h1 : x.length ≤ bestN ss l := bestN_fold_mem l ss 0 x hx hp
  rcases bestN_fold_is l ss 0 with e | ⟨s, hs, hps, he⟩
  · have e' : bestN ss l = 0 := e
    omega
  · have e' : s.length = bestN ss l := he
    have := hm s hs hps
    omega

theorem prefix_app (a r : List UInt8) : List.isPrefixOf a (a ++ r) = true := List.isPrefixOf_iff_prefix.2 (List.prefix_append a r)
theorem sign_short {x r s : List UInt8} (hr : Stop r) (hs : isSign s = true) (hp : List.isPrefixOf s (x ++ r) = true) : s.length ≤ x.length := by
  by_cases hle : s.length ≤ x.length
  · exact hle
  · exfalso
    have hp' := List.isPrefixOf_iff_prefix.1 hp
    have e := List.prefix_iff_eq_take.1 hp'
    have hlen := hp'.length_le
    rw [List.length_append] at hlen
    cases r with
    | nil => simp at hlen; omega
    | cons c l =>
      have hc : s[x.length]? = some c := by
        rw [e, List.getElem?_take_of_lt (by omega), List.getElem?_append_right (Nat.le_refl _)]
        simp
      have hmem := List.mem_of_getElem? hc
      simp only [isSign, Bool.and_eq_true, List.all_eq_true] at hs
      have h1 := hs.2 c hmem
      rw [(stop_not hr rfl).2.2.1] at h1
      cases h1

theorem tokN_shown (signs : List (List UInt8)) (hs : ∀ s ∈ signs, isSign s = true) (t : Tk) (h : Cuts signs t) (r : List UInt8) (hr : Stop r) : tokN signs (shown t ++ r) = some (tokT t, (shown t).length) := by
  obtain ⟨ht, hsg⟩ := h
  unfold isTok at ht
  split at ht
  · rename_i hk
    simp only [isName, Bool.and_eq_true, decide_eq_true_eq] at ht
    obtain ⟨⟨⟨⟨hne, hl40⟩, hL⟩, hall⟩, hn⟩ := ht
    have e : shown t = t.text := by unfold shown; rw [if_neg (by omega), if_neg (by omega)]
    rw [e]
    have hspan := spanN_app partI t.text r hall (fun c l hcl => (stop_not hr hcl).1)
    have h0 : nth (t.text ++ r) 0 = nth t.text 0 := by
      cases htx : t.text with
      | nil => exact absurd htx hne
      | cons c l => rfl
    unfold tokN
    rw [h0, if_pos hL, hspan, if_pos hl40, List.take_left]
    unfold tokT
    rw [hk, hn]
  split at ht
  · rename_i hk1 hk
    simp only [Bool.and_eq_true, decide_eq_true_eq] at ht
    obtain ⟨⟨htx, hn0⟩, hn⟩ := ht
    have e : shown t = Lib.decDigits t.n.toNat := by
      unfold shown Lib.itoa
      rw [if_pos hk, if_neg (by omega)]
    rw [e]
    obtain ⟨hall, hval⟩ := dec_digits t.n.toNat
    have hne := dec_ne t.n.toNat
    generalize Lib.decDigits t.n.toNat = ds at hall hval hne
    have hspan := spanN_app digitI ds r hall (fun c l hcl => (stop_not hr hcl).2.1)
    cases hds : ds with
    | nil => exact absurd hds hne
    | cons d ds' =>
      rw [← hds]
      have hd : digitI (nth (ds ++ r) 0) = true := by
        rw [hds] at hall ⊢
        rw [List.all_cons, Bool.and_eq_true] at hall
        exact hall.1
      have hL : letterI (nth (ds ++ r) 0) = false := by
        have := (digitI_iff _).1 hd
        simp [letterI]; omega
      have hend : ¬ (ds.length < (ds ++ r).length ∧ partI (nth (ds ++ r) ds.length) = true) := by
        rintro ⟨h1, h2⟩
        rw [List.length_append] at h1
        cases r with
        | nil => simp at h1
        | cons c l =>
          have e2 : nth (ds ++ c :: l) ds.length = (c.toNat : Int) := by simp [nth]
          rw [e2] at h2
          have h3 := (stop_not hr rfl).1
          have h4 : ofB partI c = true := h2
          rw [h3] at h4; cases h4
      unfold tokN
      rw [if_neg (by simp [hL]), if_pos hd, hspan, List.take_left, hval, if_pos ⟨by omega, hend⟩]
      unfold tokT
      rw [hk, htx]
      congr 3
      omega
  split at ht
  · rename_i hk1 hk2 hk
    simp only [isText, Bool.and_eq_true, decide_eq_true_eq] at ht
    obtain ⟨⟨hall, hl200⟩, hn⟩ := ht
    have e : shown t = [34] ++ t.text ++ [34] := by unfold shown; rw [if_neg (by omega), if_pos hk]
    rw [e]
    have e1 : [34] ++ t.text ++ [34] ++ r = 34 :: (t.text ++ 34 :: r) := by simp
    rw [e1]
    have hq := quoteN_app t.text r hall
    have hd : (34 :: (t.text ++ 34 :: r)).drop 1 = t.text ++ 34 :: r := rfl
    have h0 : nth (34 :: (t.text ++ 34 :: r)) 0 = 34 := rfl
    unfold tokN
    rw [h0, if_neg (by decide), if_neg (by decide), if_pos rfl, hd, hq, List.take_left, if_pos ⟨by simp, by simp [isText, hall, hl200]⟩]
    unfold tokT
    rw [hk, hn]
    simp
  split at ht
  · rename_i hk1 hk2 hk3 hk
    obtain ⟨h1, h2, h3⟩ := hsg hk
    have hn : t.n = 0 := by
      rw [Bool.and_eq_true, decide_eq_true_eq] at ht; exact ht.2
    have e : shown t = t.text := by unfold shown; rw [if_neg hk2, if_neg hk3]
    rw [e]
    have hb := bestN_eq h2 (prefix_app t.text r) (fun s hm hp => sign_short hr (hs s hm) hp)
    simp only [isSign, Bool.and_eq_true, decide_eq_true_eq, List.all_eq_true] at h1
    have hne := h1.1.1
    cases htx : t.text with
    | nil => exact absurd htx hne
    | cons c l =>
      have hc : ofB signI c = true := h1.2 c (by rw [htx]; simp)
      have hsi := (signI_iff _).1 hc
      rw [← htx]
      have h0 : nth (t.text ++ r) 0 = (c.toNat : Int) := by rw [htx]; rfl
      have hp := hsi.2.2.1
      unfold partI at hp
      simp only [Bool.or_eq_false_iff] at hp
      have hlen : t.text.length ≠ 0 := by rw [htx]; simp
      unfold tokN
      rw [h0, if_neg (by simp [hp.1.1]), if_neg (by simp [hp.1.2]), if_neg (by omega), hb, if_neg hlen, List.take_left]
      unfold tokT
      rw [hk, hn]
  · cases ht

theorem sk_shown (signs : List (List UInt8)) (t : Tk) (h : Cuts signs t) (r : List UInt8) (hr : Stop r) : shown t ≠ [] ∧ sk (shown t ++ r) = 0 := by
  obtain ⟨ht, hsg⟩ := h
  have go : ∀ (c : UInt8) (l : List UInt8), shown t = c :: l → ofB blankI c = false → slashes (c :: (l ++ r)) = false → shown t ≠ [] ∧ sk (shown t ++ r) = 0 := by
    intro c l e h1 h2
    rw [e]
    exact ⟨by simp, sk_stop h1 h2⟩
  have sl : ∀ (c : UInt8) (l : List UInt8), c ≠ 47 → slashes (c :: l) = false := by
    intro c l hc
    cases l with
    | nil => simp [slashes, List.isPrefixOf]
    | cons d l => simp [slashes, List.isPrefixOf, Ne.symm hc]
  unfold isTok at ht
  split at ht
  · rename_i hk
    simp only [isName, Bool.and_eq_true, decide_eq_true_eq] at ht
    obtain ⟨⟨⟨⟨hne, hl40⟩, hL⟩, hall⟩, hn⟩ := ht
    have e : shown t = t.text := by unfold shown; rw [if_neg (by omega), if_neg (by omega)]
    cases htx : t.text with
    | nil => exact absurd htx hne
    | cons c l =>
      rw [htx] at hL e
      have hc : letterI (c.toNat : Int) = true := hL
      simp [letterI] at hc
      refine go c l e ?_ (sl c _ (by rintro rfl; simp at hc))
      simp [ofB, blankI]; omega
  split at ht
  · rename_i hk1 hk
    simp only [Bool.and_eq_true, decide_eq_true_eq] at ht
    obtain ⟨⟨htx, hn0⟩, hn⟩ := ht
    have e : shown t = Lib.decDigits t.n.toNat := by
      unfold shown Lib.itoa
      rw [if_pos hk, if_neg (by omega)]
    obtain ⟨hall, hval⟩ := dec_digits t.n.toNat
    have hne := dec_ne t.n.toNat
    cases hds : Lib.decDigits t.n.toNat with
    | nil => exact absurd hds hne
    | cons c l =>
      rw [hds] at e hall
      rw [List.all_cons, Bool.and_eq_true] at hall
      have hc := (digitI_iff _).1 hall.1
      refine go c l e ?_ (sl c _ (by rintro rfl; simp at hc))
      simp [ofB, blankI]; omega
  split at ht
  · rename_i hk1 hk2 hk
    have e : shown t = 34 :: (t.text ++ [34]) := by unfold shown; rw [if_neg (by omega), if_pos hk]; rfl
    exact go 34 _ e (by decide) (sl 34 _ (by decide))
  split at ht
  · rename_i hk1 hk2 hk3 hk
    obtain ⟨h1, h2, h3⟩ := hsg hk
    have e : shown t = t.text := by unfold shown; rw [if_neg hk2, if_neg hk3]
    simp only [isSign, Bool.and_eq_true, decide_eq_true_eq, List.all_eq_true] at h1
    cases htx : t.text with
    | nil => exact absurd htx h1.1.1
    | cons c l =>
      have hc : ofB signI c = true := h1.2 c (by rw [htx]; simp)
      have hsi := (signI_iff _).1 hc
      rw [htx] at e h3
      refine go c l e (by simp [ofB, blankI]; omega) ?_
      cases l with
      | cons d l => simpa [slashes, List.isPrefixOf] using h3
      | nil =>
        cases r with
        | nil => simp [slashes, List.isPrefixOf]
        | cons d l =>
          have := (stop_not hr rfl).2.2.2
          simp [slashes, List.isPrefixOf, Ne.symm this]
  · cases ht

/-- What may stand between tokens. -/
structure SepOk (sep : List UInt8) : Prop where
  blank : ∃ c l, sep = c :: l ∧ ofB blankI c = true
  skips : ∀ r, sk r = 0 → sk (sep ++ r) = sep.length
theorem SepOk.stop {sep : List UInt8} (h : SepOk sep) (r : List UInt8) : Stop (sep ++ r) := by
  obtain ⟨c, l, e, hb⟩ := h.blank
  exact .inr ⟨c, l ++ r, by rw [e]; rfl, hb⟩
/-- Tokens one behind the other. -/
def Chain : List Tk → List UInt8 → Prop
  | [], W => W = []
  | t :: l, W => ∃ sep W', W = shown t ++ (sep ++ W') ∧ (sep = [] ∧ W' = [] ∨ SepOk sep) ∧ Chain l W'
theorem chain_sk {signs : List (List UInt8)} {l : List Tk} {W : List UInt8} (h : Chain l W) (hl : ∀ t ∈ l, Cuts signs t) : sk W = 0 := by
  cases l with
  | nil => rw [show W = [] from h]; rfl
  | cons t l =>
    obtain ⟨sep, W', rfl, hs, _⟩ := h
    refine (sk_shown signs t (hl t (by simp)) _ ?_).2
    rcases hs with ⟨rfl, rfl⟩ | hs
    · exact .inl rfl
    · exact hs.stop _

theorem cutN_words (signs : List (List UInt8)) (hs : ∀ s ∈ signs, isSign s = true) (L : List UInt8) : ∀ (l : List Tk) (W : List UInt8) (i f : Nat) (acc : List (Tok × Nat)), L.drop i = W → Chain l W → (∀ t ∈ l, Cuts signs t) → L.length < i + f → i ≤ L.length →
    ∃ ts, cutN signs L f i acc = .ok (acc ++ ts) ∧ ts.map (·.1) = l.map tokT
  | [], W, i, f, acc, hW, hc, _, _, _ => by
    rw [show W = [] from hc] at hW
    have : L.length ≤ i := by
      have := congrArg List.length hW
      simp at this; omega
    exact ⟨[], by rw [cutN_end _ _ _ _ _ this, List.append_nil], rfl⟩
  | t :: l, W, i, f, acc, hW, hc, hl, hf, hi => by
    obtain ⟨sep, W', rfl, hsep, hc'⟩ := hc
    have hct := hl t (by simp)
    have hl' : ∀ u ∈ l, Cuts signs u := fun u hu => hl u (by simp [hu])
    have hstop : Stop (sep ++ W') := by
      rcases hsep with ⟨rfl, rfl⟩ | hs
      · exact .inl rfl
      · exact hs.stop _
    have htok := tokN_shown signs hs t hct _ hstop
    obtain ⟨hne, _⟩ := sk_shown signs t hct _ hstop
    have hpos := List.length_pos_iff.2 hne
    have hlen := congrArg List.length hW
    rw [List.length_drop, List.length_append, List.length_append] at hlen
    rw [← hW] at htok
    rw [cutN_tok signs L f i acc (by omega) hf htok]
    have hdrop : L.drop (i + (shown t).length) = sep ++ W' := by
      rw [← List.drop_drop, hW, List.drop_left]
    have hnext : nextAt L (i + (shown t).length) = i + (shown t).length + sep.length := by
      unfold nextAt
      rw [hdrop]
      rcases hsep with ⟨rfl, rfl⟩ | hs'
      · rfl
      · rw [hs'.skips W' (chain_sk hc' hl')]
    have hdrop2 : L.drop (i + (shown t).length + sep.length) = W' := by
      rw [← List.drop_drop, hdrop, List.drop_left]
    obtain ⟨ts, h1, h2⟩ := cutN_words signs hs L l W' (i + (shown t).length + sep.length) (f - 1) (acc ++ [(tokT t, i)]) hdrop2 hc' hl' (by omega) (by omega)
    exact ⟨(tokT t, i) :: ts, by rw [hnext, h1]; simp, by simp [h2]⟩

theorem cut_words (signs : List (List UInt8)) (hs : ∀ s ∈ signs, isSign s = true) (pre : List UInt8) (hp : pre = [] ∨ SepOk pre) (l : List Tk) (W : List UInt8) (hc : Chain l W) (hl : ∀ t ∈ l, Cuts signs t) :
    ∃ ts, cut signs (pre ++ W) = .ok ts ∧ ts.map (·.1) = l.map tokT := by
  unfold cut
  have hn : nextAt (pre ++ W) 0 = pre.length := by
    unfold nextAt
    rw [List.drop_zero, Nat.zero_add]
    rcases hp with rfl | hp
    · exact chain_sk hc hl
    · exact hp.skips W (chain_sk hc hl)
  rw [hn]
  have := cutN_words signs hs (pre ++ W) l W pre.length ((pre ++ W).length + 1) [] List.drop_left hc hl (by omega) (by simp)
  simpa using this

theorem sameT_words (L : List UInt8) : ∀ (l : List Tk) (ts : List (Tok × Nat)), ts.map (·.1) = l.map tokT → sameT l (ts.map fun x => ⟨x.1.kind, x.1.text, x.1.n, (place L x.2).1, (place L x.2).2⟩) = true
  | [], ts, h => by
    have : ts = [] := by simpa using h
    subst this; rfl
  | t :: l, ts, h => by
    cases ts with
    | nil => simp at h
    | cons x ts =>
      simp only [List.map_cons, List.cons.injEq] at h
      rw [List.map_cons, sameT, sameT_words L l ts h.2, Bool.and_true, h.1]
      simp [alike, tokT]

theorem chain_joined : ∀ l : List Tk, Chain l (Lib.join (l.map shown) [32])
  | [] => rfl
  | [t] => ⟨[], [], by simp [Lib.join], .inl ⟨rfl, rfl⟩, rfl⟩
  | t :: u :: l => by
    refine ⟨[32], Lib.join ((u :: l).map shown) [32], ?_, .inr ⟨⟨32, [], rfl, by decide⟩, fun r hr => ?_⟩, chain_joined (u :: l)⟩
    · simp [Lib.join, List.intercalate_cons_cons]
    · rw [List.singleton_append, sk_blank (by decide), hr]; rfl
/-- Each token, and what stands behind it. -/
def laid (sep : List UInt8) (l : List Tk) : List UInt8 := (l.map fun t => shown t ++ sep).flatten
theorem chain_laid (sep : List UInt8) (h : SepOk sep) : ∀ l : List Tk, Chain l (laid sep l)
  | [] => rfl
  | t :: l => ⟨sep, laid sep l, by simp [laid], .inr h, chain_laid sep h l⟩

/-! ### Tokens that were cut can be cut again -/
theorem sk_sk : ∀ (n : Nat) (l : List UInt8), l.length ≤ n → sk (l.drop (sk l)) = 0
  | 0, l, h => by rw [List.eq_nil_of_length_eq_zero (Nat.le_zero.1 h)]; rfl
  | n + 1, [], _ => rfl
  | n + 1, c :: r, h => by
    cases hb : ofB blankI c with
    | true => rw [sk_blank hb, Nat.add_comm, List.drop_succ_cons]; exact sk_sk n r (by simpa using h)
    | false =>
      cases hs : slashes (c :: r) with
      | true =>
        rw [sk_line hb hs, ← List.drop_drop]
        refine sk_sk n _ ?_
        have := lineLen_pos hs
        rw [List.length_drop]
        simp only [List.length_cons] at h ⊢
        omega
      | false => rw [sk_stop hb hs]; exact sk_stop hb hs
theorem sk_next (L : List UInt8) (i : Nat) : sk (L.drop (nextAt L i)) = 0 := by
  unfold nextAt
  rw [← List.drop_drop]
  exact sk_sk _ _ (Nat.le_refl _)
theorem noslash {l : List UInt8} (h : sk l = 0) : slashes l = false := by
  cases l with
  | nil => rfl
  | cons c r =>
    cases hb : ofB blankI c with
    | true => rw [sk_blank hb] at h; omega
    | false =>
      cases hs : slashes (c :: r) with
      | true =>
        rw [sk_line hb hs] at h
        have := lineLen_pos hs
        omega
      | false => rfl

theorem tokN_cuts {signs : List (List UInt8)} (hs : ∀ s ∈ signs, isSign s = true) {l : List UInt8} (hl : l ≠ []) (h0 : sk l = 0) {x : Tok} {k : Nat} (h : tokN signs l = some (x, k)) (ln cl : Int) : Cuts signs ⟨x.kind, x.text, x.n, ln, cl⟩ := by
  unfold tokN at h
  split at h
  · rename_i hL
    split at h
    · rename_i h40
      cases h
      refine ⟨?_, fun e => by cases e⟩
      have h1 := spanN_pos partI hl (letter_part' hL)
      have h2 := spanN_le partI l
      have hlen : (l.take (spanN partI l)).length = spanN partI l := by rw [List.length_take]; omega
      have hn0 : nth (l.take (spanN partI l)) 0 = nth l 0 := by
        cases hsp : spanN partI l with
        | zero => omega
        | succ m => cases l with
          | nil => exact absurd rfl hl
          | cons c r => rfl
      have hne : l.take (spanN partI l) ≠ [] := fun e => by rw [e] at hlen; simp at hlen; omega
      simp only [isTok, if_true, isName]
      rw [hn0, hL, spanN_all, hlen]
      simp [hne, h40]
    · cases h
  · split at h
    · split at h
      · rename_i hd hh
        cases h
        refine ⟨?_, fun e => by cases e⟩
        simp only [isTok]
        simp
        omega
      · cases h
    · split at h
      · split at h
        · rename_i hh
          cases h
          refine ⟨?_, fun e => by cases e⟩
          have := hh.2
          simp only [isTok]
          simp only [show ¬ (3 : Int) = 1 by decide, show ¬ (3 : Int) = 2 by decide, if_false, if_true, this]
          rfl
        · cases h
      · split at h
        · cases h
        · rename_i hb
          cases h
          obtain ⟨s, hm, hp, he⟩ := bestN_mem hb
          have e : l.take (bestN signs l) = s := by rw [← he]; exact (List.prefix_iff_eq_take.1 (List.isPrefixOf_iff_prefix.1 hp)).symm
          rw [e]
          refine ⟨?_, fun _ => ⟨hs s hm, hm, ?_⟩⟩
          · simp only [isTok]
            simp [hs s hm]
          · cases hpp : List.isPrefixOf [47, 47] s with
            | false => rfl
            | true =>
              have h1 := List.isPrefixOf_iff_prefix.1 hpp
              have h2 := List.isPrefixOf_iff_prefix.1 hp
              have : slashes l = true := List.isPrefixOf_iff_prefix.2 (h1.trans h2)
              rw [noslash h0] at this; cases this

theorem cutN_cuts {signs : List (List UInt8)} (hs : ∀ s ∈ signs, isSign s = true) (L : List UInt8) : ∀ (f i : Nat) (acc ts : List (Tok × Nat)), sk (L.drop i) = 0 → (∀ x ∈ acc, ∀ ln cl, Cuts signs ⟨x.1.kind, x.1.text, x.1.n, ln, cl⟩) → cutN signs L f i acc = .ok ts →
    ∀ x ∈ ts, ∀ ln cl, Cuts signs ⟨x.1.kind, x.1.text, x.1.n, ln, cl⟩
  | 0, i, acc, ts, _, ha, h => by rw [cutN] at h; cases h; exact ha
  | f + 1, i, acc, ts, h0, ha, h => by
    rw [cutN] at h
    split at h
    · rename_i hi
      split at h
      · cases h
      · rename_i x k ht
        refine cutN_cuts hs L f _ _ ts (sk_next L _) (fun y hy => ?_) h
        rcases List.mem_append.1 hy with hy | hy
        · exact ha y hy
        · simp at hy
          subst hy
          exact fun ln cl => tokN_cuts hs (fun e => by have := congrArg List.length e; simp at this; omega) h0 ht ln cl
    · cases h; exact ha
theorem cut_cuts {signs : List (List UInt8)} (hs : ∀ s ∈ signs, isSign s = true) {L : List UInt8} {ts : List (Tok × Nat)} (h : cut signs L = .ok ts) : ∀ x ∈ ts, ∀ ln cl, Cuts signs ⟨x.1.kind, x.1.text, x.1.n, ln, cl⟩ :=
  cutN_cuts hs L _ _ [] ts (sk_next L 0) (fun x hx => by cases hx) h
end Go.Lexs
