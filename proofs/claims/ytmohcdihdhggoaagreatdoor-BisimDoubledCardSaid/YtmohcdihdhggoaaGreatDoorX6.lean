/- BisimDoubled, proved: for every input the law returns true, and the arguments read as before; the listed tables hold what the program's text lays (the card). No other condition than the row's own. -/
import Derived.Test.YtmohcdihdhggoaaGreatDoorProg
import Derived.Test.YtmohcdihdhggoaaGreatDoorRows
import Derived.Test.YtmohcdihdhggoaaGreatDoorCards
import Derived.Test.YtmohcdihdhggoaaGreatDoorTie
import Derived.Test.YtmohcdihdhggoaaGreatDoorX5
set_option linter.unusedSimpArgs false
set_option linter.unusedVariables false
section
set_option maxRecDepth 20000
namespace Go.Av
theorem p_apM {P : Program} {c : CR} {bl : Bl} {ev : Operand → D} {H0 : Heap} {KD : D → Heap → Prop} {s x : Operand} {t t' : Nat} (e by_ : Nat) {sz n m bx k : Nat} {es xs : List (List D)}
  (hT : elemT P t = some (e, sz, by_)) (hz : 0 < sz) (h1 : apT (baseT P t')) (h2 : apZ (zeroD P e) sz) (hs : ev s = .vec k sz 0 n) (hx : ev x = .vec bx sz 0 m) (hx0 : H0 bx = none) (hm : m = xs.length)
  (hk : H0 k = some (.vec sz es)) (hn : n = es.length) (hmay : mayT bl k) (hxb : bx ∉ bl.l)
  (h3 : (n + xs.length) * by_ ≤ 140737488355328) (h4 : n + xs.length ≤ 9223372036854775807)
  (h : ∀ b' H', Apd H0 sz (some k) (es ++ xs) b' H' → KD (.vec b' sz 0 (n + xs.length)) H') : pOp P c bl ev (H0.set bx (.vec sz xs)) KD (.call ⟨.builtin .append, #[s, x], #[t, t']⟩) := by
 have hkb : k ≠ bx := by rintro rfl; rw [hx0] at hk; cases hk
 have hel : elemsD (H0.set bx (.vec sz xs)) sz (ev x) = some xs := by rw [hx]; unfold elemsD; simp [heap_same, hm]
 have ho : outB bl.l [bx] = [bx] := by rw [outB_out bx [] hxb, outB_nil]
 refine p_append_mk ?_
 rw [hT, paK_some]
 refine ⟨hz, h1, h2, ?_⟩
 rw [hel, paX_some, hs, hx]
 show paS _ bl [bx] sz by_ xs _ KD
 rw [paS_vec, heap_ne _ hkb, hk, paV_vec]
 refine ⟨rfl, rfl, rfl, by omega, h3, h4, hmay, xOk_one bx _ (heap_same _ _) rfl (.inl hxb), fun b' hb' => ?_⟩
 rw [ho] at hb'
 rw [ho, List.take_of_length_le (by omega)]
 refine h b' _ ⟨heap_same _ _, fun q o hq hqo => ?_, ?_⟩
 ·have hqk : q ≠ k := fun e => hqo (by rw [e])
  have hqx : q ≠ bx := by rintro rfl; rw [hx0] at hq; cases hq
  have hqb : q ≠ b' := by
   rintro rfl
   rcases hb' with hb' | hb'
   ·rw [heap_ne _ hqx, hq] at hb'; cases hb'
   ·simp only [List.mem_cons, List.not_mem_nil, or_false] at hb'
    rcases hb' with hb' | hb'
    ·exact hqk hb'
    ·exact hqx hb'
  rw [heap_ne _ hqb]
  simp only [Heap.minus, List.mem_cons, List.not_mem_nil, or_false, hqk, hqx, or_self, if_false]
  rw [heap_ne _ hqx]; exact hq
 ·rcases hb' with hb' | hb'
  ·by_cases e : b' = bx
   ·rw [e]; exact .inl hx0
   ·rw [heap_ne _ e] at hb'; exact .inl hb'
  ·simp only [List.mem_cons, List.not_mem_nil, or_false] at hb'
   rcases hb' with rfl | rfl
   ·exact .inr rfl
   ·exact .inl hx0
theorem p_apR {P : Program} {c : CR} {bl : Bl} {ev : Operand → D} {H0 : Heap} {KD : D → Heap → Prop} {s x : Operand} {t t' : Nat} (e by_ : Nat) {sz m bz bi : Nat} {xs : List (List D)}
  (hT : elemT P t = some (e, sz, by_)) (hz : 0 < sz) (h1 : apT (baseT P t')) (h2 : apZ (zeroD P e) sz) (hs : ev s = .vec bz sz 0 0) (hx : ev x = .vec bi sz 0 m) (hz0 : H0 bz = none) (hi : H0 bi = some (.vec sz xs)) (hm : m = xs.length)
  (hib : bi ∈ bl.l) (hino : bi ∉ bl.no) (hzb : bz ∉ bl.l) (h3 : xs.length * by_ ≤ 140737488355328) (h4 : xs.length ≤ 9223372036854775807)
  (h : ∀ b', H0 b' = none → KD (.vec b' sz 0 m) (H0.set b' (.vec sz xs))) : pOp P c bl ev (H0.set bz (.vec sz [])) KD (.call ⟨.builtin .append, #[s, x], #[t, t']⟩) := by
 have hne : bi ≠ bz := by rintro rfl; rw [hz0] at hi; cases hi
 have hel : elemsD (H0.set bz (.vec sz [])) sz (ev x) = some xs := by rw [hx]; unfold elemsD; simp [heap_ne _ hne, hi, hm]
 have ho : outB bl.l [bi] = [] := by rw [outB_in bi [] hib, outB_nil]
 refine p_append_mk ?_
 rw [hT, paK_some]
 refine ⟨hz, h1, h2, ?_⟩
 rw [hel, paX_some, hs, hx]
 show paS _ bl [bi] sz by_ xs _ KD
 rw [paS_vec, heap_same, paV_vec]
 refine ⟨rfl, rfl, rfl, Nat.zero_le _, by rw [Nat.zero_add]; exact h3, by rw [Nat.zero_add]; exact h4, .inl hzb, xOk_one bi (.vec sz xs) (by rw [heap_ne _ hne]; exact hi) rfl (.inr hino), fun b' hb' => ?_⟩
 rw [ho] at hb'
 rw [ho, Nat.zero_add, minus_cons, minus_nil, set_del hz0, ← hm]
 refine h b' ?_
 rcases hb' with hb' | hb'
 ·exact (heap_le_set hz0).none hb'
 ·simp at hb'; rw [hb']; exact hz0
theorem ACalls.freezeA2 {P : Program} {f v sz : Nat} {es : List (List D)} {a : D} {cs cs' : List D} {H : Heap} {Q : D → Heap → Prop} (hb : H v = some (.vec sz es)) (hl : cs.length = cs'.length)
  (hz : ∀ (i : Nat) d d', cs[i]? = some d → cs'[i]? = some d' → Fz v sz es d d') {H' : Heap} (hle : H'.Le (H.del v)) (h : ACalls P f [a, .agg cs'] H' Q) : ACalls P f [a, .agg cs] H Q := by
 have hle2 : H'.Le H := fun q o hq => Heap.del_le H v q o (hle q o hq)
 refine ACalls.shift (fun w vs h1 h2 hs => ?_) h
 refine ⟨h1, fun i d hd => ?_, hs.less hle2, fun k hn => hle2.held hn⟩
 match i with
 | 0 => cases hd; exact (h2 0 _ rfl).less hle2
 | 1 =>
  cases hd
  have hr1 := h2 1 (.agg cs) rfl
  revert hr1
  generalize vs.getD 1 undef = v1
  intro hr1
  cases hr1 with
  | agg _ us hlv ho hr =>
   have key : ∀ (i : Nat) d', cs'[i]? = some d' → ∃ d, cs[i]? = some d ∧ Fz v sz es d d' := fun i d' hd' => by
    have hi := (List.getElem?_eq_some_iff.1 hd').1
    have hi' : i < cs.length := by omega
    exact ⟨cs[i], List.getElem?_eq_getElem hi', hz i _ _ (List.getElem?_eq_getElem hi') hd'⟩
   refine .agg cs' us (by omega) (fun i d' hd' => ?_) (fun i d' hd' => ?_)
   ·obtain ⟨d, hd, hf⟩ := key i d' hd'
    exact hf.one (ho i d hd)
   ·obtain ⟨d, hd, hf⟩ := key i d' hd'
    exact (hf.R hs hb (hr i d hd)).less hle
 | i + 2 => cases hd
end Go.Av
namespace Go.Bis
open Go Go.Av Go.Lexs
def u8C (n : Int) : List D := [.int .u8 n]
theorem bool_ne_int {l : List Bool} {m : List Int} (h : 0 < l.length) : Rw boolC l ≠ Rw intC m := by
 cases l with
 | nil => simp at h
 | cons b l =>
  cases m with
  | nil => simp [Rw]
  | cons x m => simp [Rw, boolC, intC]
theorem bool_ne_rr {l : List Bool} {m : List Rr} (h : 0 < l.length) : Rw boolC l ≠ Rw rrC m := by
 cases l with
 | nil => simp at h
 | cons b l =>
  cases m with
  | nil => simp [Rw]
  | cons r m =>
   intro e
   have h1 : boolC b = rrC r := (List.cons.inj e).1
   unfold rrC boolC at h1
   split at h1
   ·cases h1
   ·cases hob : r.ob <;> rw [hob] at h1 <;> cases h1
theorem RrAt.same {Bs H H' : Heap} {c : Nat} {L : List Rr} (h : RrAt Bs H c L) (hc : Bs c = none) (hk : ∀ q es, H q = some (.vec 1 es) → H' q = some (.vec 1 es)) : RrAt Bs H' c L :=
 h.keep (fun q o _ hq he => by obtain ⟨es, rfl⟩ := he; exact hk q es hq) hc
theorem RrAt.keepF {Bs H H' : Heap} {c f : Nat} {L : List Rr} {fl : List Bool} (h : RrAt Bs H c L) (hf : H f = some (.vec 1 (Rw boolC fl))) (hfl : 0 < fl.length) (hk : ∀ q o, H q = some o → q ≠ f → H' q = some o) : RrAt Bs H' c L := by
 have ne1 : ∀ q es, H q = some (.vec 1 es) → es ≠ Rw boolC fl → q ≠ f := fun q es hq hne e => by rw [e, hf] at hq; injection hq with hq; injection hq with _ hq; exact hne hq.symm
 refine ⟨hk c _ h.row (ne1 c _ h.row (fun e => bool_ne_rr hfl e.symm)), fun k hl hfz => ?_, h.inj, h.new⟩
 have hb := h.blk k hl hfz
 cases ho : L[k].ob with
 | none => rw [ho] at hb; exact hb
 | some b => rw [ho] at hb; exact hk b _ hb (ne1 b _ hb (fun e => bool_ne_int hfl e.symm))
theorem RrAt.push {Bs H H' : Heap} {c c' b : Nat} {L : List Rr} {l : List Int} (h : RrAt Bs H c L) (hrow : H' c' = some (.vec 1 (Rw rrC L ++ [[.vec b 1 0 l.length]]))) (hb : H' b = some (.vec 1 (Rw intC l))) (hn : H b = none) (hbs : Bs b = none)
  (hc' : H c' = none ∨ c' = c) (hbc : b ≠ c') (hkeep : ∀ q o, q ≠ c → H q = some o → H' q = some o) : RrAt Bs H' c' (L ++ [⟨false, some b, l⟩]) := by
 have get : ∀ (j : Nat) (hj : j < (L ++ [(⟨false, some b, l⟩ : Rr)]).length), (∃ hj' : j < L.length, (L ++ [(⟨false, some b, l⟩ : Rr)])[j] = L[j]) ∨ (j = L.length ∧ (L ++ [(⟨false, some b, l⟩ : Rr)])[j] = ⟨false, some b, l⟩) := fun j hj => by
  by_cases e : j < L.length
  ·exact .inl ⟨e, List.getElem_append_left e⟩
  ·simp only [List.length_append, List.length_singleton] at hj
   have e2 : j = L.length := by omega
   subst e2
   exact .inr ⟨rfl, by simp⟩
 have old : ∀ (j : Nat) (hj : j < L.length) (q : Nat), L[j].fz = false → L[j].ob = some q → H q = some (.vec 1 (Rw intC L[j].l)) ∧ q ≠ b := fun j hj q hf ho => by
  have h1 := h.blk j hj hf
  rw [ho] at h1
  have h2 : H q = some (.vec 1 (Rw intC L[j].l)) := h1
  exact ⟨h2, by rintro rfl; rw [hn] at h2; cases h2⟩
 refine ⟨by rw [hrow]; congr 2; simp [Rw, rrC, outG], fun j hj hf => ?_, fun i j hi hj q fi fj bi bj => ?_, fun j hj q fj bj => ?_⟩
 ·rcases get j hj with ⟨hj', e⟩ | ⟨hj', e⟩
  ·rw [e] at hf ⊢
   cases ho : L[j].ob with
   | none =>
    have h1 := h.blk j hj' hf
    rw [ho] at h1; exact h1
   | some q =>
    exact hkeep q _ (h.new j hj' q hf ho).2 (old j hj' q hf ho).1
  ·rw [e]; exact hb
 ·rcases get i hi with ⟨hi', ei⟩ | ⟨hi', ei⟩ <;> rcases get j hj with ⟨hj', ej⟩ | ⟨hj', ej⟩
  ·rw [ei] at fi bi; rw [ej] at fj bj; exact h.inj i j hi' hj' q fi fj bi bj
  ·rw [ei] at fi bi; rw [ej] at bj; cases bj; exact absurd rfl (old i hi' _ fi bi).2
  ·rw [ei] at bi; rw [ej] at fj bj; cases bi; exact absurd rfl (old j hj' _ fj bj).2
  ·omega
 ·rcases get j hj with ⟨hj', e⟩ | ⟨hj', e⟩
  ·rw [e] at fj bj
   refine ⟨(h.new j hj' q fj bj).1, ?_⟩
   rcases hc' with g | g
   ·rintro rfl; rw [(old j hj' q fj bj).1] at g; cases g
   ·rw [g]; exact (h.new j hj' q fj bj).2
  ·rw [e] at bj; cases bj; exact ⟨hbs, hbc⟩
structure DbS (x : Sy) (Bs : Heap) (b5 : Nat) (y : Sy) (o : Nat → Nat) (L : List Rr) (cT cF cN : Nat) (Hs : Heap) : Prop where
 db : DbO x y o
 box : Hs b5 = some (.box [.vec cT 6 0 y.seen.length, .vec cF 1 0 y.final.length, .vec cN 1 0 y.next.length])
 tT : Hs cT = some (.vec 6 (Rw tmC y.seen))
 tF : Hs cF = some (.vec 1 (Rw boolC y.final))
 rr : RrAt Bs Hs cN L
 row : L.map (·.l) = y.next
 op : ∀ (k : Nat) (h : k < L.length), L[k].fz = false ∧ ∃ b, L[k].ob = some b
 keep : ∀ q o, Bs q = some o → Hs q = some o
 nT : Bs cT = none
 nF : Bs cF = none
 nN : Bs cN = none
 n5 : Bs b5 = none
theorem DbS.len {x : Sy} {Bs : Heap} {b5 : Nat} {y : Sy} {o : Nat → Nat} {L : List Rr} {cT cF cN : Nat} {Hs : Heap} (h : DbS x Bs b5 y o L cT cF cN Hs) : L.length = y.next.length := by rw [← h.row, List.length_map]
theorem DbS.at {x : Sy} {Bs : Heap} {b5 : Nat} {y : Sy} {o : Nat → Nat} {L : List Rr} {cT cF cN : Nat} {Hs : Heap} (h : DbS x Bs b5 y o L cT cF cN Hs) {k : Nat} (hk : k < L.length) (hn : k < y.next.length) : L[k].l = y.next[k] := by
 have := h.row
 simp only [← this, List.getElem_map]
theorem DbS.add {x : Sy} {Bs : Heap} {b5 : Nat} {y : Sy} {o : Nat → Nat} {L : List Rr} {cT cF cN : Nat} {Hs H1 : Heap} (h : DbS x Bs b5 y o L cT cF cN Hs) {k i n b b' : Nat} (hk : k < L.length) (hob : L[k].ob = some b) (hin : (i : Int) ∈ L[k].l) (hn : n < y.seen.length) (ho : o n = o i) (hfl : 0 < y.final.length)
  (hA : Apd Hs 1 (some b) (Rw intC (L[k].l ++ [(n : Int)])) b' H1) :
  DbS x Bs b5 ⟨y.seen, y.final, y.next.set k (L[k].l ++ [(n : Int)])⟩ o (L.set k ⟨false, some b', L[k].l ++ [(n : Int)]⟩) cT cF cN (H1.set cN (.vec 1 ((Rw rrC L).set k [.vec b' 1 0 (L[k].l.length + 1)]))) := by
 obtain ⟨a1, a2, a3⟩ := hA
 have hfz := (h.op k hk).1
 obtain ⟨nb, nbc⟩ := h.rr.new k hk b hfz hob
 have hblk := h.rr.blk k hk hfz
 rw [hob] at hblk
 have hblk : Hs b = some (.vec 1 (Rw intC L[k].l)) := hblk
 have hkn : k < y.next.length := by rw [← h.len]; exact hk
 have hat := h.at hk hkn
 have keepB : ∀ q o, Hs q = some o → q ≠ b → H1 q = some o := fun q o hq hne => a2 q o hq (fun e => hne (Option.some.inj e).symm)
 have bN : b' ≠ cN := by
  rcases a3 with g | g
  ·rintro rfl; rw [h.rr.row] at g; cases g
  ·rw [← Option.some.inj g]; exact nbc
 have bZ : Bs b' = none := by
  rcases a3 with g | g
  ·cases hb : Bs b' with
   | none => rfl
   | some o => rw [h.keep _ _ hb] at g; cases g
  ·rw [← Option.some.inj g]; exact nb
 have ne5 : b5 ≠ cN := by intro e; have := h.box; rw [e, h.rr.row] at this; cases this
 have neT : cT ≠ cN := by intro e; have := h.tT; rw [e, h.rr.row] at this; injection this with this; injection this with this; omega
 have neF : cF ≠ cN := by intro e; have := h.tF; rw [e, h.rr.row] at this; injection this with this; injection this with _ this; exact bool_ne_rr hfl this.symm
 have ne5b : b5 ≠ b := by intro e; have := h.box; rw [e, hblk] at this; cases this
 have neTb : cT ≠ b := by intro e; have := h.tT; rw [e, hblk] at this; injection this with this; injection this with this; omega
 have neFb : cF ≠ b := by intro e; have := h.tF; rw [e, hblk] at this; injection this with this; injection this with _ this; exact bool_ne_int hfl this.symm
 refine ⟨?_, ?_, ?_, ?_, ?_, ?_, fun j hj => ?_, fun q o hq => ?_, h.nT, h.nF, h.nN, h.n5⟩
 ·have := h.db.add hkn (by rw [← hat]; exact hin) hn ho
  rw [← hat] at this; exact this
 ·rw [heap_ne _ ne5, List.length_set]; exact keepB _ _ h.box ne5b
 ·rw [heap_ne _ neT]; exact keepB _ _ h.tT neTb
 ·rw [heap_ne _ neF]; exact keepB _ _ h.tF neFb
 ·refine h.rr.turn hk hfz ?_ ?_ (fun q hq => ?_) (fun q o h1 h2 h3 h4 => ?_)
  ·rw [heap_same]; simp [outG]
  ·show Heap.set _ cN _ b' = _
   rw [heap_ne _ bN]; exact a1
  ·cases hq
   refine ⟨?_, bZ, bN⟩
   rcases a3 with g | g
   ·exact .inl g
   ·exact .inr (by rw [hob]; exact g)
  ·rw [heap_ne _ h2]
   exact keepB q o h3 (fun e => h4 (by rw [hob, e]))
 ·rw [List.map_set, h.row]
 ·by_cases e : k = j
  ·subst e; rw [List.getElem_set_self]; exact ⟨rfl, _, rfl⟩
  ·rw [List.getElem_set_ne e]; exact h.op j (by simpa using hj)
 ·have hqN : q ≠ cN := fun e => by rw [e, h.nN] at hq; cases hq
  rw [heap_ne _ hqN]
  exact keepB q o (h.keep q o hq) (fun e => by rw [e, nb] at hq; cases hq)
theorem DbS.copy {x : Sy} {Bs : Heap} {b5 : Nat} {y : Sy} {o : Nat → Nat} {L : List Rr} {cT cF cN : Nat} {Hs Ha Hb Hc Hd : Heap} (h : DbS x Bs b5 y o L cT cF cN Hs) {i cT' cF' cN' b : Nat} {cs : List D} (hi : i < y.seen.length) (hf : i < y.final.length) (hn : i < y.next.length) (hL : i < L.length)
  (hA1 : Apd Hs 6 (some cT) (Rw tmC y.seen ++ [tmC y.seen[i]]) cT' Ha) (hA2 : Apd Ha 1 (some cF) (Rw boolC y.final ++ [boolC y.final[i]]) cF' Hb)
  (hC : ∀ q o, Hb q = some o → q ≠ b5 → Hc q = some o) (hC5 : Hc b5 = some (.box cs)) (hb : Hc b = none)
  (hA3 : Apd (Hc.set b (.vec 1 (Rw intC L[i].l))) 1 (some cN) (Rw rrC L ++ [[.vec b 1 0 L[i].l.length]]) cN' Hd) :
  DbS x Bs b5 ⟨y.seen ++ [y.seen[i]], y.final ++ [y.final[i]], y.next ++ [y.next[i]]⟩ (fun e => if e = y.seen.length then o i else o e) (L ++ [⟨false, some b, L[i].l⟩]) cT' cF' cN'
   (Hd.set b5 (.box [.vec cT' 6 0 (y.seen.length + 1), .vec cF' 1 0 (y.final.length + 1), .vec cN' 1 0 (y.next.length + 1)])) := by
 obtain ⟨p1, p2, p3⟩ := hA1
 obtain ⟨q1, q2, q3⟩ := hA2
 obtain ⟨r1, r2, r3⟩ := hA3
 have hfl : 0 < y.final.length := by omega
 have k1 : ∀ q o, Hs q = some o → q ≠ cT → Ha q = some o := fun q o hq hne => p2 q o hq (fun e => hne (Option.some.inj e).symm)
 have k2 : ∀ q o, Ha q = some o → q ≠ cF → Hb q = some o := fun q o hq hne => q2 q o hq (fun e => hne (Option.some.inj e).symm)
 have k3 : ∀ q o, Hc q = some o → q ≠ cN → Hd q = some o := fun q o hq hne => r2 q o (by rw [heap_ne _ (fun e => by rw [e, hb] at hq; cases hq)]; exact hq) (fun e => hne (Option.some.inj e).symm)
 have box := h.box
 have tT := h.tT
 have tF := h.tF
 have tN := h.rr.row
 have n5T : b5 ≠ cT := by intro e; rw [e, tT] at box; cases box
 have n5F : b5 ≠ cF := by intro e; rw [e, tF] at box; cases box
 have n5N : b5 ≠ cN := by intro e; rw [e, tN] at box; cases box
 have nFT : cF ≠ cT := by intro e; rw [e, tT] at tF; injection tF with g; injection g with g; omega
 have nNT : cN ≠ cT := by intro e; rw [e, tT] at tN; injection tN with g; injection g with g; omega
 have nNF : cN ≠ cF := by intro e; rw [e, tF] at tN; injection tN with g; injection g with _ g; exact bool_ne_rr hfl g
 have a5 := k1 _ _ box n5T
 have aF := k1 _ _ tF nFT
 have aN := k1 _ _ tN nNT
 have b_5 := k2 _ _ a5 n5F
 have b_N := k2 _ _ aN nNF
 have c_N := hC _ _ b_N n5N.symm
 have hbN : b ≠ cN := by rintro rfl; rw [hb] at c_N; cases c_N
 have kA : ∀ q o, Bs q = some o → Ha q = some o := fun q o hq => k1 q o (h.keep q o hq) (fun e => by rw [e, h.nT] at hq; cases hq)
 have kB : ∀ q o, Bs q = some o → Hb q = some o := fun q o hq => k2 q o (kA q o hq) (fun e => by rw [e, h.nF] at hq; cases hq)
 have kC : ∀ q o, Bs q = some o → Hc q = some o := fun q o hq => hC q o (kB q o hq) (fun e => by rw [e, h.n5] at hq; cases hq)
 have kD : ∀ q o, Bs q = some o → Hd q = some o := fun q o hq => k3 q o (kC q o hq) (fun e => by rw [e, h.nN] at hq; cases hq)
 have non : ∀ {H : Heap} {q : Nat}, (∀ q o, Bs q = some o → H q = some o) → H q = none → Bs q = none := fun {H q} hk hq => by
  cases hb : Bs q with
  | none => rfl
  | some o => rw [hk q o hb] at hq; cases hq
 have d_5 := k3 _ _ hC5 n5N
 have newT : Bs cT' = none := by
  rcases p3 with g | g
  ·exact non h.keep g
  ·rw [← Option.some.inj g]; exact h.nT
 have newF : Bs cF' = none := by
  rcases q3 with g | g
  ·exact non kA g
  ·rw [← Option.some.inj g]; exact h.nF
 have r3' : (Hc cN' = none ∨ cN' = cN) ∧ b ≠ cN' := by
  rcases r3 with g | g
  ·have hne : cN' ≠ b := by rintro rfl; rw [heap_same] at g; cases g
   rw [heap_ne _ hne] at g
   exact ⟨.inl g, hne.symm⟩
  ·have e := Option.some.inj g
   subst e
   exact ⟨.inr rfl, hbN⟩
 have newN : Bs cN' = none := by
  rcases r3'.1 with g | g
  ·exact non kC g
  ·rw [g]; exact h.nN
 -- the rows
 have rA : RrAt Bs Ha cN L := h.rr.same h.nN (fun q es hq => k1 q _ hq (fun e => by rw [e, tT] at hq; injection hq with g; injection g with g; omega))
 have rB : RrAt Bs Hb cN L := rA.keepF aF hfl k2
 have rC : RrAt Bs Hc cN L := rB.same h.nN (fun q es hq => hC q _ hq (fun e => by rw [e, b_5] at hq; cases hq))
 have rD : RrAt Bs Hd cN' (L ++ [⟨false, some b, L[i].l⟩]) := rC.push r1 (r2 b _ (heap_same _ _) (fun e => hbN (Option.some.inj e).symm)) hb (non kC hb) r3'.1 r3'.2 (fun q o hne hq => k3 q o hq hne)
 -- what the others look like
 have tT1 : Hb cT' = some (.vec 6 (Rw tmC y.seen ++ [tmC y.seen[i]])) := k2 _ _ p1 (fun e => by rw [e, aF] at p1; injection p1 with g; injection g with g; omega)
 have tT2 := hC _ _ tT1 (fun e => by rw [e, b_5] at tT1; cases tT1)
 have tT3 := k3 _ _ tT2 (fun e => by rw [e, c_N] at tT2; injection tT2 with g; injection g with g; omega)
 have tF2 := hC _ _ q1 (fun e => by rw [e, b_5] at q1; cases q1)
 have eF : Rw boolC y.final ++ [boolC y.final[i]] = Rw boolC (y.final ++ [y.final[i]]) := by simp [Rw]
 have tF3 := k3 _ _ tF2 (fun e => by
  rw [e, c_N] at tF2; injection tF2 with g; injection g with _ g
  rw [eF] at g
  exact bool_ne_rr (by simp) g.symm)
 refine ⟨h.db.copy hi hf hn, by rw [heap_same]; simp, ?_, ?_, ?_, ?_, fun j hj => ?_, fun q o hq => ?_, newT, newF, newN, h.n5⟩
 ·rw [heap_ne _ (fun e => by rw [e, d_5] at tT3; cases tT3), tT3]; simp [Rw]
 ·rw [heap_ne _ (fun e => by rw [e, d_5] at tF3; cases tF3), tF3]; simp [Rw]
 ·exact rD.same newN (fun q es hq => by rw [heap_ne _ (fun e => by rw [e, d_5] at hq; cases hq)]; exact hq)
 ·rw [List.map_append, h.row]; simp only [List.map_cons, List.map_nil]; rw [h.at hL hn]
 ·by_cases e : j < L.length
  ·rw [List.getElem_append_left e]; exact h.op j e
  ·simp only [List.length_append, List.length_singleton] at hj
   have e2 : j = L.length := by omega
   subst e2
   simp
 ·rw [heap_ne _ (fun e => by rw [e, h.n5] at hq; cases hq)]; exact kD q o hq
structure DbZ (x : Sy) (Bs : Heap) (b5 cT cF k : Nat) (L : List Rr) (oN : Option Nat) (Hs : Heap) : Prop where
 kl : k ≤ x.next.length
 box : Hs b5 = some (.box [.vec cT 6 0 x.seen.length, .vec cF 1 0 x.final.length, outG 1 k oN])
 tT : Hs cT = some (.vec 6 (Rw tmC x.seen))
 tF : Hs cF = some (.vec 1 (Rw boolC x.final))
 out : OutAt Hs 1 (Rw rrC L) oN
 rr : ∀ c, oN = some c → Bs c = none ∧ RrAt Bs Hs c L
 row : L.map (·.l) = x.next.take k
 op : ∀ (k : Nat) (h : k < L.length), L[k].fz = false ∧ ∃ b, L[k].ob = some b
 keep : ∀ q o, Bs q = some o → Hs q = some o
theorem DbZ.len {x : Sy} {Bs : Heap} {b5 cT cF k : Nat} {L : List Rr} {oN : Option Nat} {Hs : Heap} (h : DbZ x Bs b5 cT cF k L oN Hs) : L.length = k := by
 have := congrArg List.length h.row
 rw [List.length_map, List.length_take] at this
 have := h.kl; omega
theorem DbZ.next {x : Sy} {Bs : Heap} {b5 cT cF k : Nat} {L : List Rr} {oN : Option Nat} {Hs Hd : Heap} (h : DbZ x Bs b5 cT cF k L oN Hs) {b c' : Nat} (hk : k < x.next.length) (hfl : 0 < x.final.length) (n5 : Bs b5 = none) (hb : Hs b = none)
  (hA : Apd (Hs.set b (.vec 1 (Rw intC x.next[k]))) 1 oN (Rw rrC L ++ [[.vec b 1 0 x.next[k].length]]) c' Hd) :
  DbZ x Bs b5 cT cF (k + 1) (L ++ [⟨false, some b, x.next[k]⟩]) (some c') (Hd.set b5 (.box [.vec cT 6 0 x.seen.length, .vec cF 1 0 x.final.length, .vec c' 1 0 (k + 1)])) := by
 obtain ⟨r1, r2, r3⟩ := hA
 have k3 : ∀ q o, Hs q = some o → oN ≠ some q → Hd q = some o := fun q o hq hne => r2 q o (by rw [heap_ne _ (fun e => by rw [e, hb] at hq; cases hq)]; exact hq) hne
 have ne : ∀ q o, Hs q = some o → (∀ es, o ≠ .vec 1 es) → oN ≠ some q := fun q o hq hne => outAt_ne h.out hq hne
 have d5 := k3 _ _ h.box (ne _ _ h.box (by simp))
 have dT := k3 _ _ h.tT (ne _ _ h.tT (by simp))
 have dF := k3 _ _ h.tF (fun e => by
  have := (h.rr cF e).2.row
  rw [h.tF] at this; injection this with g; injection g with _ g
  exact bool_ne_rr hfl g)
 have non : Bs b = none := by
  cases hh : Bs b with
  | none => rfl
  | some o => rw [h.keep b o hh] at hb; cases hb
 have kD : ∀ q o, Bs q = some o → Hd q = some o := fun q o hq => k3 q o (h.keep q o hq) (fun e => by rw [(h.rr q e).1] at hq; cases hq)
 have hbo : oN ≠ some b := fun e => by have := (h.rr b e).2.row; rw [hb] at this; cases this
 have db := r2 b _ (heap_same _ _) hbo
 have newc : Bs c' = none ∧ b ≠ c' := by
  rcases r3 with g | g
  ·have hne : c' ≠ b := by rintro rfl; rw [heap_same] at g; cases g
   rw [heap_ne _ hne] at g
   refine ⟨?_, hne.symm⟩
   cases hh : Bs c' with
   | none => rfl
   | some o => rw [h.keep c' o hh] at g; cases g
  ·exact ⟨(h.rr c' g).1, fun e => hbo (by rw [e]; exact g)⟩
 have rD : RrAt Bs Hd c' (L ++ [⟨false, some b, x.next[k]⟩]) := by
  cases hoN : oN with
  | none =>
   have hL : L = [] := by
    have h1 := h.out
    rw [hoN] at h1
    have h2 : Rw rrC L = [] := h1
    have h3 := congrArg List.length h2
    rw [Rw_len] at h3
    exact List.eq_nil_of_length_eq_zero h3
   subst hL
   refine ⟨by rw [r1]; simp [Rw, rrC, outG], fun j hj _ => ?_, fun i j hi hj _ _ _ _ _ => ?_, fun j hj q _ e => ?_⟩
   ·simp only [List.nil_append, List.length_singleton] at hj
    have : j = 0 := by omega
    subst this
    exact db
   ·simp only [List.nil_append, List.length_singleton] at hi hj; omega
   ·simp only [List.nil_append, List.length_singleton] at hj
    have : j = 0 := by omega
    subst this
    simp at e
    subst e
    exact ⟨non, newc.2⟩
  | some c =>
   obtain ⟨g1, g2⟩ := h.rr c hoN
   refine g2.push r1 db hb non ?_ newc.2 (fun q o hne hq => k3 q o hq (by rw [hoN]; exact fun e => hne (Option.some.inj e).symm))
   rcases r3 with g | g
   ·have hne : c' ≠ b := newc.2.symm
    rw [heap_ne _ hne] at g
    exact .inl g
   ·rw [hoN] at g; exact .inr (Option.some.inj g).symm
 have same5 : ∀ q es, Hd q = some (.vec 1 es) → (Hd.set b5 (.box [.vec cT 6 0 x.seen.length, .vec cF 1 0 x.final.length, .vec c' 1 0 (k + 1)])) q = some (.vec 1 es) := fun q es hq => by rw [heap_ne _ (fun e => by rw [e, d5] at hq; cases hq)]; exact hq
 refine ⟨hk, by rw [heap_same]; rfl, ?_, ?_, ?_, fun c e => ?_, ?_, fun j hj => ?_, fun q o hq => ?_⟩
 ·rw [heap_ne _ (fun e => by rw [e, d5] at dT; cases dT)]; exact dT
 ·exact same5 _ _ dF
 ·have := same5 _ _ rD.row; exact this
 ·cases e; exact ⟨newc.1, rD.same newc.1 same5⟩
 ·rw [List.map_append, h.row, List.take_succ_eq_append_getElem hk]; rfl
 ·by_cases e : j < L.length
  ·rw [List.getElem_append_left e]; exact h.op j e
  ·simp only [List.length_append, List.length_singleton] at hj
   have e2 : j = L.length := by omega
   subst e2
   simp
 ·rw [heap_ne _ (fun e => by rw [e, n5] at hq; cases hq)]; exact kD q o hq
theorem DbZ.done {x : Sy} {Bs : Heap} {b5 cT cF k : Nat} {L : List Rr} {oN : Option Nat} {Hs : Heap} (h : DbZ x Bs b5 cT cF k L oN Hs) (hx : SyOk x) (hk : k = x.next.length) (h0 : 0 < x.next.length) (nT : Bs cT = none) (nF : Bs cF = none) (n5 : Bs b5 = none) :
  ∃ cN, oN = some cN ∧ DbS x Bs b5 x id L cT cF cN Hs := by
 have hl := h.len
 cases hoN : oN with
 | none =>
  have h1 := h.out
  rw [hoN] at h1
  have h2 : Rw rrC L = [] := h1
  have h3 := congrArg List.length h2
  rw [Rw_len, List.length_nil] at h3
  omega
 | some cN =>
  obtain ⟨g1, g2⟩ := h.rr cN hoN
  refine ⟨cN, rfl, DbO.refl hx, ?_, h.tT, h.tF, g2, ?_, h.op, h.keep, nT, nF, g1, n5⟩
  ·have := h.box
   rw [hoN, hk] at this; exact this
  ·rw [h.row, hk, List.take_length]
theorem ACalls.freezeRows {P : Program} {f : Nat} {args : List D} {Q : D → Heap → Prop} {Bs : Heap} {c : Nat} (hc : Bs c = none) : ∀ (m : Nat) (L : List Rr) (H : Heap), RrAt Bs H c L → (∀ (k : Nat) (h : k < L.length), (L[k].fz = true ∧ k + m < L.length) ∨ (L[k].fz = false ∧ L.length ≤ k + m ∧ ∃ b, L[k].ob = some b)) →
  (∀ (L' : List Rr) (H' : Heap), RrAt Bs H' c L' → L'.map (·.l) = L.map (·.l) → (∀ (k : Nat) (h : k < L'.length), L'[k].fz = true) → (∀ q o, H q = some o → q ≠ c → (∀ (k : Nat) (h : k < L.length), L[k].ob ≠ some q) → H' q = some o) → ACalls P f args H' Q) → ACalls P f args H Q
 | 0, L, H, h, hz, hq => by
  refine hq L H h rfl (fun k hk => ?_) (fun q o hq _ _ => hq)
  rcases hz k hk with g | g
  ·exact g.1
  ·omega
 | m + 1, L, H, h, hz, hq => by
  by_cases hj : L.length ≤ m
  ·refine ACalls.freezeRows hc m L H h (fun k hk => ?_) hq
   rcases hz k hk with g | g
   ·omega
   ·exact .inr ⟨g.1, by omega, g.2.2⟩
  ·have hk : L.length - (m + 1) < L.length := by omega
   generalize hje : L.length - (m + 1) = j at hk
   rcases hz j hk with g | ⟨hf, _, b, hob⟩
   ·omega
   have hblk := h.blk j hk hf
   rw [hob] at hblk
   have hblk : H b = some (.vec 1 (Rw intC L[j].l)) := hblk
   have hbc := (h.new j hk b hf hob).2
   have hjR : j < (Rw rrC L).length := by rw [Rw_len]; exact hk
   have hrow : ((H.del b).set c (.vec 1 ((Rw rrC L).set j [.sl 1 (Rw intC L[j].l)]))) c = some (.vec 1 ((Rw rrC L).set j [.sl 1 (Rw intC L[j].l)])) := heap_same _ _
   refine ACalls.freezeO (H' := (H.del b).set c (.vec 1 ((Rw rrC L).set j [.sl 1 (Rw intC L[j].l)]))) hblk (fun k o' ho => ?_) ?_
   ·by_cases hkc : k = c
    ·subst hkc
     rw [heap_same] at ho
     cases ho
     refine ⟨hbc.symm, _, h.row, .vec _ _ _ (by simp) fun i y y' hy hy' => ?_⟩
     rcases set_get hy' with ⟨h1, h2⟩ | ⟨h1, h2, h3⟩
     ·rw [hy] at h2; cases h2
      exact ⟨rfl, fun i d d' h3 h4 => by rw [h3] at h4; cases h4; exact .same _⟩
     ·subst h1; subst h2
      have hy2 : y = [.vec b 1 0 L[i].l.length] := by
       have : (Rw rrC L)[i]? = some (rrC L[i]) := by simp [Rw, hk]
       rw [this] at hy
       cases hy
       rw [rrC_o hf, hob]; rfl
      subst hy2
      refine ⟨rfl, fun q d d' h3 h4 => ?_⟩
      cases q with
      | zero =>
       cases h3; cases h4
       have : L[i].l.length = (Rw intC L[i].l).length := by rw [Rw_len]
       rw [this]; exact .all
      | succ q => cases h3
    ·rw [heap_ne _ hkc] at ho
     by_cases hkb : k = b
     ·subst hkb; simp [Heap.del] at ho
     ·rw [del_ne hkb] at ho
      exact ⟨hkb, o', ho, .same _⟩
   ·have hF := h.freeze (H' := (H.del b).set c (.vec 1 ((Rw rrC L).set j [.sl 1 (Rw intC L[j].l)]))) hk hf hrow (fun q o h1 h2 h3 h4 => by rw [heap_ne _ h2, del_ne (fun e => h4 (by rw [hob, e]))]; exact h3)
    refine ACalls.freezeRows hc m _ _ hF (fun k hk' => ?_) (fun L' H' h1 h2 h3 h4 => hq L' H' h1 (by rw [h2, List.map_set]; exact (by simp only []; rw [show (L.map (·.l)) = L.map (·.l) from rfl]; exact List.ext_getElem (by simp) (fun i a1 a2 => by
     by_cases e : j = i
     ·subst e; simp
     ·rw [List.getElem_set_ne e]))) h3 (fun q o a1 a2 a3 => h4 q o (by rw [heap_ne _ a2, del_ne (fun e => a3 j hk (by rw [hob, e]))]; exact a1) a2 (fun k hk' => ?_)))
    ·simp only [List.length_set] at hk' ⊢
     by_cases e : j = k
     ·subst e; rw [List.getElem_set_self]; exact .inl ⟨rfl, by omega⟩
     ·rw [List.getElem_set_ne e]
      rcases hz k hk' with g | g
      ·exact .inl ⟨g.1, by omega⟩
      ·exact .inr ⟨g.1, by omega, g.2.2⟩
    ·simp only [List.length_set] at hk'
     by_cases e : j = k
     ·subst e; rw [List.getElem_set_self]; simp
     ·rw [List.getElem_set_ne e]; exact a3 k hk'
theorem rr_fz : ∀ {L : List Rr}, (∀ (k : Nat) (h : k < L.length), L[k].fz = true) → Rw rrC L = Rw intsC (L.map (·.l))
 | [], _ => rfl
 | r :: L, h => by
  have h0 := h 0 (by simp)
  have := rr_fz (L := L) (fun k hk => h (k + 1) (by simpa using hk))
  simp only [Rw, List.map_cons] at this ⊢
  rw [this]
  congr 1
  simp only [List.getElem_cons_zero] at h0
  unfold rrC intsC
  rw [if_pos h0]
theorem DbS.hand {P : Program} {f : Nat} {a : D} {Q : D → Heap → Prop} {x : Sy} {Bs : Heap} {b5 : Nat} {y : Sy} {o : Nat → Nat} {L : List Rr} {cT cF cN : Nat} {Hs : Heap} (h : DbS x Bs b5 y o L cT cF cN Hs) (hfl : 0 < y.final.length) (hq : ACalls P f [a, .agg (syC y)] Bs Q) :
  ACalls P f [a, .agg [.vec cT 6 0 y.seen.length, .vec cF 1 0 y.final.length, .vec cN 1 0 y.next.length]] Hs Q := by
 refine ACalls.freezeRows h.nN L.length L Hs h.rr (fun k hk => .inr ⟨(h.op k hk).1, by omega, (h.op k hk).2⟩) fun L' H' h1 h2 h3 h4 => ?_
 have hblk : ∀ (k : Nat) (hk : k < L.length) (q : Nat), L[k].ob = some q → Hs q = some (.vec 1 (Rw intC L[k].l)) ∧ Bs q = none := fun k hk q e => by
  have g1 := h.rr.blk k hk (h.op k hk).1
  rw [e] at g1
  exact ⟨g1, (h.rr.new k hk q (h.op k hk).1 e).1⟩
 have tT := h4 cT _ h.tT (by intro e; have := h.tT; rw [e, h.rr.row] at this; injection this with this; injection this with this; omega) (fun k hk e => by have := (hblk k hk _ e).1; rw [h.tT] at this; injection this with this; injection this with this; omega)
 have tF := h4 cF _ h.tF (by intro e; have := h.tF; rw [e, h.rr.row] at this; injection this with this; injection this with _ this; exact bool_ne_rr hfl this.symm) (fun k hk e => by have := (hblk k hk _ e).1; rw [h.tF] at this; injection this with this; injection this with _ this; exact bool_ne_int hfl this)
 have kB : ∀ q o, Bs q = some o → H' q = some o := fun q o hq => h4 q o (h.keep q o hq) (fun e => by rw [e, h.nN] at hq; cases hq) (fun k hk e => by rw [(hblk k hk q e).2] at hq; cases hq)
 have tN := h1.row
 rw [rr_fz h3, h2, h.row] at tN
 have nFT : cF ≠ cT := by intro e; rw [e, tT] at tF; injection tF with g; injection g with g; omega
 have nNT : cN ≠ cT := by intro e; rw [e, tT] at tN; injection tN with g; injection g with g; omega
 have nNF : cN ≠ cF := by
  intro e; have := h.tF; rw [← e, h.rr.row] at this; injection this with this; injection this with _ this; exact bool_ne_rr hfl this.symm
 have lN : y.next.length = (Rw intsC y.next).length := by rw [Rw_len]
 have lF : y.final.length = (Rw boolC y.final).length := by rw [Rw_len]
 have lT : y.seen.length = (Rw tmC y.seen).length := by rw [Rw_len]
 refine ACalls.freezeA2 (cs' := [.vec cT 6 0 y.seen.length, .vec cF 1 0 y.final.length, .sl 1 (Rw intsC y.next)]) tN rfl (fun i d d' e1 e2 => ?_) (H' := H'.del cN) (Heap.Le.refl _) ?_
 ·match i with
  | 0 => cases e1; cases e2; exact .same _
  | 1 => cases e1; cases e2; exact .same _
  | 2 => cases e1; cases e2; rw [lN]; exact .all
  | i + 3 => cases e1
 refine ACalls.freezeA2 (cs' := [.vec cT 6 0 y.seen.length, .sl 1 (Rw boolC y.final), .sl 1 (Rw intsC y.next)]) (v := cF) (by rw [del_ne nNF.symm]; exact tF) rfl (fun i d d' e1 e2 => ?_) (H' := (H'.del cN).del cF) (Heap.Le.refl _) ?_
 ·match i with
  | 0 => cases e1; cases e2; exact .same _
  | 1 => cases e1; cases e2; rw [lF]; exact .all
  | 2 => cases e1; cases e2; exact .same _
  | i + 3 => cases e1
 refine ACalls.freezeA2 (cs' := syC y) (v := cT) (by rw [del_ne nFT.symm, del_ne nNT.symm]; exact tT) rfl (fun i d d' e1 e2 => ?_) (H' := Bs) (fun q o hq => ?_) hq
 ·match i with
  | 0 => cases e1; cases e2; rw [lT]; exact .all
  | 1 => cases e1; cases e2; exact .same _
  | 2 => cases e1; cases e2; exact .same _
  | i + 3 => cases e1
 ·rw [del_ne (fun e => by rw [e, h.nT] at hq; cases hq), del_ne (fun e => by rw [e, h.nF] at hq; cases hq), del_ne (fun e => by rw [e, h.nN] at hq; cases hq)]
  exact kB q o hq
end Go.Bis
end
section
set_option maxRecDepth 20000
namespace Go.Proofs.YtmohcdihdhggoaaGreatDoor
open Go Go.Av Go.Lexs Go.Bis
attribute [local irreducible] ACalls at8
theorem raceK_gen {P : Program} {gs : List (Option Nat)} {ops : List Oper} {K : Env → Heap → Prop} {E : Env} {H : Heap} {r : Option Rc} (h : ∀ K', K' = K → raceK P gs ops K' E H r) : raceK P gs ops K E H r := h K rfl
section
variable {P : Program} {Z : List (Nat × Rc)} {Q : AX → Env → Heap → Prop} {E : Env} {H : Heap} {K : Env → Heap → Prop}
theorem p_normalK : normalK Q E H = Q .normal E H := propext ⟨fun h => h, fun h => h⟩
theorem p_seqK_normal (b : Code) : seqK P Z b Q .normal E H = wp P Z b Q E H := propext ⟨fun h => h, fun h => h⟩
theorem p_seqK_exit (b : Code) (i : Nat) : seqK P Z b Q (.exit i) E H = Q (.exit i) E H := propext ⟨fun h => h, fun h => h⟩
theorem p_blockK_exit_at (i : Nat) : blockK i Q (.exit i) E H = Q .normal E H := by
 have e : blockK i Q (.exit i) E H = if i = i then Q .normal E H else Q (.exit i) E H := rfl
 rw [e, if_pos rfl]
theorem p_blockK_exit_ne (i j : Nat) (h : j ≠ i) : blockK i Q (.exit j) E H = Q (.exit j) E H := by
 have e : blockK i Q (.exit j) E H = if j = i then Q .normal E H else Q (.exit j) E H := rfl
 rw [e, if_neg h]
theorem p_blockK_normal (i : Nat) : blockK i Q .normal E H = Q .normal E H := propext ⟨fun h => h, fun h => h⟩
theorem p_loopK_exit (j : Nat) : loopK Q K (.exit j) E H = Q (.exit j) E H := propext ⟨fun h => h, fun h => h⟩
theorem p_exit (id : Nat) : wp P Z (.exit id) Q E H = Q (.exit id) E H := propext ⟨fun h => h, fun h => h⟩
end
set_option maxHeartbeats 8000000 in
theorem lawDoubled_a {Q} (x : Sy) (ws : List Int) (fx : SyFit x) (hws : ∀ z ∈ ws, 0 ≤ z ∧ z ≤ 255) (H : Heap) (hT : Tabs H) (h : Q (.bool true) H) : ACalls Tryz.prog 8 [.agg (syC x), .sl 1 (Rw u8C ws)] H Q := by
 refine acalls_of_wp [(1, .rg), (3, .par), (7, .par), (14, .par), (15, .par), (23, .par)] Tryz.mixed Tryz.func8 rfl (by kernel_rfl) (of_decide_eq_true (by kernel_rfl)) (by kernel_rfl) ?_
 simp only [go_sem,seval, Tryz.results8]
 intro b2 hb2
 have e2 : (H.set b2 (.box (syC x))) b2 = some (.box (syC x)) := heap_same _ _
 have hle : H.Le (H.set b2 (.box (syC x))) := heap_le_set hb2
 have hTB : Tabs (H.set b2 (.box (syC x))) := hT.le hle
 generalize H.set b2 (.box (syC x)) = Bs at e2 hle hTB ⊢
 have m2 : b2 ∈ [b2] := by simp
 refine rg_mk [b2] (fun k hk => by simp at hk; rw [hk, e2]; simp) ?_
 repeat' (first | with_reducible refine And.intro ?_ ?_ | simp only [go_sem,seval, e2, m2] | simp (disch := omega) only [wrap64, cell_at, Rw_at, oneB_at, p_blockK_exit_at] | simp (disch := first | omega | grind) only [heap_ne_, del_ne] | (intro hx_; try simp only [set_none] at hx_) | omega)
 rename_i u
 have hu := hx_
 clear hx_
 have nu : u ∉ [b2] := by intro hk; simp at hk; rw [hk, e2] at hu; cases hu
 refine callF1 (heap_same _ _) rfl nu ?_
 refine ACalls.vec1 (es := Rw syC [x]) (by rw [oneB_at, heap_same]; rfl) rfl ?_
 refine fewT_a [x] (by simp) (fun y hy => by simp only [List.mem_cons, List.not_mem_nil, or_false] at hy; rw [hy]; exact fx) _ (fun bb hfw => ⟨rfl, ?_⟩)
 rw [set_del hu]
 cases bb with
 | false =>
  repeat' (first | with_reducible refine And.intro ?_ ?_ | simp only [go_sem,seval, e2, m2] | simp (disch := omega) only [wrap64, cell_at, Rw_at, oneB_at, p_blockK_exit_at] | simp (disch := first | omega | grind) only [heap_ne_, del_ne] | (intro hx_; try simp only [set_none] at hx_) | with_reducible refine awake_a _ hTB ?_ | omega)
  exact Fin.less hle h
 | true =>
  have hfw := hfw rfl
  by_cases hd : ¬ ((100 : Int) < x.seen.length) ∧ validY x = true ∧ ¬ ((40 : Int) < ws.length)
  case neg =>
   cases vx : validY x with
   | false =>
    repeat' (first | with_reducible refine And.intro ?_ ?_ | simp only [go_sem,seval, e2, m2, vx] | simp (disch := omega) only [wrap64, cell_at, Rw_at, oneB_at, p_blockK_exit_at] | simp (disch := first | omega | grind) only [heap_ne_, del_ne] | (intro hx_; try simp only [set_none] at hx_) | with_reducible refine callF0 rfl (fun Q hq => rvalid_a x fx _ hq) ?_ | with_reducible refine awake_a _ hTB ?_ | omega)
    all_goals first | rfl | exact Fin.less hle h
   | true =>
    repeat' (first | with_reducible refine And.intro ?_ ?_ | simp only [go_sem,seval, e2, m2, vx] | simp (disch := omega) only [wrap64, cell_at, Rw_at, oneB_at, p_blockK_exit_at] | simp (disch := first | omega | grind) only [heap_ne_, del_ne] | (intro hx_; try simp only [set_none] at hx_) | with_reducible refine callF0 rfl (fun Q hq => rvalid_a x fx _ hq) ?_ | with_reducible refine awake_a _ hTB ?_ | omega)
    all_goals first | rfl | exact Fin.less hle h | skip
    all_goals exact (hd ⟨by assumption, by first | exact vx | rfl, by assumption⟩).elim
  case pos =>
  obtain ⟨hd1, vx, hd2⟩ := hd
  have hw := hfw (fun y hy => by simp only [List.mem_cons, List.not_mem_nil, or_false] at hy; rw [hy]; exact vx) x (by simp)
  have ho := validY_ok vx
  have hn := validY_n vx
  have hfl := ho.f
  have hxl := ho.x
  repeat' (first | with_reducible refine And.intro ?_ ?_ | simp only [go_sem,seval, e2, m2, vx, hd1, hd2, decide_false] | simp (disch := omega) only [wrap64, cell_at, Rw_at, oneB_at, p_blockK_exit_at] | simp (disch := first | omega | grind) only [heap_ne_, del_ne] | (intro hx_; try simp only [set_none] at hx_) | with_reducible refine callF0 rfl (fun Q hq => rvalid_a x fx _ hq) ?_ | omega)
  all_goals try rfl
  refine par_mk2 (fun i => .c .undef) [b2] ?_
  repeat' (first | with_reducible refine And.intro ?_ ?_ | simp only [go_sem,seval, e2, m2] | simp (disch := omega) only [wrap64, cell_at, Rw_at, oneB_at, p_blockK_exit_at] | simp (disch := first | omega | grind) only [heap_ne_, del_ne] | (intro hx_; try simp only [set_none] at hx_) | omega)
  rename_i z1
  have hz1 := hx_
  clear hx_
  refine p_app_one 41 96 (Rw tmC x.seen) rfl (by simp only [go_sem,seval, List.length_append, List.length_nil, Rw_len, Nat.zero_add]) (by decide) (by simp only [go_sem,seval, List.length_append, List.length_nil, Rw_len, Nat.zero_add]) (by simp only [go_sem,seval, List.length_append, List.length_nil, Rw_len, Nat.zero_add]) (by simp only [go_sem,seval, List.length_append, List.length_nil, Rw_len, Nat.zero_add]) (by simp only [go_sem,seval, List.length_append, List.length_nil, Rw_len, Nat.zero_add]) (by simp only [go_sem,seval, List.length_append, List.length_nil, Rw_len, Nat.zero_add]) (by first | exact hz1 | (simp only [set_none]; exact hz1)) ((fun hk => by simp only [List.mem_cons, List.not_mem_nil, or_false] at hk; rw [hk, e2] at hz1; cases hz1)) (by simp only [List.length_nil, List.length_append, Rw_len]; omega) (by simp only [List.length_nil, List.length_append, Rw_len]; omega) ?_
  intro cT hcT
  try simp only [set_none] at hcT
  repeat' (first | with_reducible refine And.intro ?_ ?_ | simp only [go_sem,seval, e2, m2] | simp (disch := omega) only [wrap64, cell_at, Rw_at, oneB_at, p_blockK_exit_at] | simp (disch := first | omega | grind) only [heap_ne_, del_ne] | (intro hx_; try simp only [set_none] at hx_) | omega)
  rename_i z2
  have hz2 := hx_
  clear hx_
  refine p_app_one 4 1 (Rw boolC x.final) rfl (by simp only [go_sem,seval, List.length_append, List.length_nil, Rw_len, Nat.zero_add]) (by decide) (by simp only [go_sem,seval, List.length_append, List.length_nil, Rw_len, Nat.zero_add]) (by simp only [go_sem,seval, List.length_append, List.length_nil, Rw_len, Nat.zero_add]) (by simp only [go_sem,seval, List.length_append, List.length_nil, Rw_len, Nat.zero_add]) (by simp only [go_sem,seval, List.length_append, List.length_nil, Rw_len, Nat.zero_add]) (by simp only [go_sem,seval, List.length_append, List.length_nil, Rw_len, Nat.zero_add]) (by first | exact hz2 | (simp only [set_none]; exact hz2)) ((fun hk => by simp only [List.mem_cons, List.not_mem_nil, or_false] at hk; rw [hk, e2] at hz2; cases hz2.2)) (by simp only [List.length_nil, List.length_append, Rw_len]; omega) (by simp only [List.length_nil, List.length_append, Rw_len]; omega) ?_
  intro cF hcF
  try simp only [set_none] at hcF
  repeat' (first | with_reducible refine And.intro ?_ ?_ | simp only [go_sem,seval, e2, m2] | simp (disch := omega) only [wrap64, cell_at, Rw_at, oneB_at, p_blockK_exit_at] | simp (disch := first | omega | grind) only [heap_ne_, del_ne] | (intro hx_; try simp only [set_none] at hx_) | omega)
  rename_i b5
  have h5 := hx_
  clear hx_
  have nT : Bs cT = none := hcT
  have nF : Bs cF = none := hcF.2
  have n5 : Bs b5 = none := h5.2.2
  have hZ0 : DbZ x Bs b5 cT cF 0 [] none (((Bs.set cT (.vec 6 (Rw tmC x.seen))).set cF (.vec 1 (Rw boolC x.final))).set b5 (.box [.vec cT 6 0 x.seen.length, .vec cF 1 0 x.final.length, .nilsl])) := by
   refine ⟨Nat.zero_le _, heap_same _ _, ?_, ?_, rfl, fun c e => (by cases e), rfl, fun k hk => (by simp at hk), fun q o hq => ?_⟩
   ·rw [heap_ne _ h5.2.1.symm, heap_ne _ hcF.1.symm, heap_same]
   ·rw [heap_ne _ h5.1.symm, heap_same]
   ·rw [heap_ne _ (fun e => by rw [e, n5] at hq; cases hq), heap_ne _ (fun e => by rw [e, nF] at hq; cases hq), heap_ne _ (fun e => by rw [e, nT] at hq; cases hq)]; exact hq
  generalize ((Bs.set cT (.vec 6 (Rw tmC x.seen))).set cF (.vec 1 (Rw boolC x.final))).set b5 (.box [.vec cT 6 0 x.seen.length, .vec cF 1 0 x.final.length, .nilsl]) = H0 at hZ0 ⊢
  clear hz1 hz2 hcT hcF h5
  refine loop_c [1, 2, 5, 48, 49] (fun (p : Nat × List Rr × Option Nat × Heap) => [(50, .int .i64 p.1)]) (fun (p : Nat × List Rr × Option Nat × Heap) => p.2.2.2) (fun (p : Nat × List Rr × Option Nat × Heap) => DbZ x Bs b5 cT cF p.1 p.2.1 p.2.2.1 p.2.2.2) (fun (p : Nat × List Rr × Option Nat × Heap) => x.next.length - p.1) ((0, [], none, H0)) (hZ0) (by (try simp only [go_sem,seval]) <;> (try simp (disch := omega) [wrap64]) <;> (try omega)) (by first | with_reducible exact Heap.Le.refl _ | exact heap_set_le (by assumption) | exact Heap.Le.refl _ | exact heap_le_set (by assumption) | exact (by simp only [Go.Av.Heap.Le, Go.Av.Heap.set, Go.Av.Heap.del] at * <;> grind)) ?_
  rintro Ec0 rfl ⟨k, L, oN, Hk⟩ hZ
  simp only at hZ
  have q5 := hZ.box
  have q2 := hZ.keep _ _ e2
  have hkl := hZ.kl
  by_cases hkt : k < x.next.length
  ·have hkd : decide ((k : Int) < x.next.length) = true := decide_eq_true (by omega)
   have hrl := hw _ (List.getElem_mem hkt)
   have hL := hZ.len
   have hintc : intsC x.next[k] = [.sl 1 (Rw intC x.next[k])] := rfl
   repeat' (first | with_reducible refine And.intro ?_ ?_ | simp only [go_sem,seval, hkd, q5, Rw_at _ _ hkt, Rw_get _ _ hkt] | simp (disch := omega) only [wrap64, cell_at, Rw_at, oneB_at, p_blockK_exit_at] | simp (disch := first | omega | grind) only [heap_ne_, del_ne] | (intro hx_; try simp only [set_none] at hx_) | omega)
   refine par_mk2 (fun i => .c .undef) [b5] ?_
   have m5 : b5 ∈ [b5] := by simp
   repeat' (first | with_reducible refine And.intro ?_ ?_ | simp only [go_sem,seval, q5, m5, hintc] | simp (disch := omega) only [wrap64, cell_at, Rw_at, oneB_at, p_blockK_exit_at] | simp (disch := first | omega | grind) only [heap_ne_, del_ne] | (intro hx_; try simp only [set_none] at hx_) | omega)
   rename_i z
   have hz := hx_
   clear hx_
   refine p_app_one 3 8 (Rw intC x.next[k]) rfl (by simp only [go_sem,seval, List.length_append, List.length_nil, Rw_len, Nat.zero_add]) (by decide) (by simp only [go_sem,seval, List.length_append, List.length_nil, Rw_len, Nat.zero_add]) (by simp only [go_sem,seval, List.length_append, List.length_nil, Rw_len, Nat.zero_add]) (by simp only [go_sem,seval, List.length_append, List.length_nil, Rw_len, Nat.zero_add]) (by simp only [go_sem,seval, List.length_append, List.length_nil, Rw_len, Nat.zero_add]) (by simp only [go_sem,seval, List.length_append, List.length_nil, Rw_len, Nat.zero_add]) (by first | exact hz | (simp only [set_none]; exact hz)) ((fun hk => by simp only [List.mem_cons, List.not_mem_nil, or_false] at hk; rw [hk, q5] at hz; cases hz)) (by simp only [List.length_nil, List.length_append, Rw_len]; omega) (by simp only [List.length_nil, List.length_append, Rw_len]; omega) ?_
   intro b hb
   try simp only [set_none] at hb
   repeat' (first | with_reducible refine And.intro ?_ ?_ | simp only [go_sem,seval, q5, m5, hintc] | simp (disch := omega) only [wrap64, cell_at, Rw_at, oneB_at, p_blockK_exit_at] | simp (disch := first | omega | grind) only [heap_ne_, del_ne] | (intro hx_; try simp only [set_none] at hx_) | omega)
   rename_i bx
   have hbx := hx_
   clear hx_
   have nb5 : b5 ≠ b := fun e => by rw [← e, q5] at hb; cases hb
   have u5 : (Hk.set b (.vec 1 (Rw intC x.next[k]))) b5 = _ := (heap_ne _ nb5).trans q5
   have hout := outAt_keep hZ.out (H' := Hk.set b (.vec 1 (Rw intC x.next[k]))) (fun q o hq _ => by rw [heap_ne _ (fun e => by rw [e, hb] at hq; cases hq)]; exact hq)
   refine p_apZ 29 24 (n := k) (m := 1) (ob := oN) (es := Rw rrC L) (xs := [[.vec b 1 0 x.next[k].length]]) (by simp only [go_sem,seval]) (by decide) (by simp only [go_sem,seval]) (by simp only [go_sem,seval]) (by simp only [go_sem,seval]) (by simp only [go_sem,seval]) ?_ rfl (by simp) hout (by rw [Rw_len, hL]) (fun c hc => by simp only [List.mem_cons, List.not_mem_nil, or_false] at hc; subst hc; exact ⟨_, u5, by simp⟩) (by simp only [List.length_cons, List.length_nil]; omega) (by simp only [List.length_cons, List.length_nil]; omega) fun c' Hd hA => ?_
   ·simp only [set_none]; exact hbx
   have a5 := hA.2.1 _ _ u5 (outAt_ne hout u5 (by simp))
   repeat' (first | with_reducible refine And.intro ?_ ?_ | simp only [go_sem,seval, a5, m5, hintc] | simp (disch := omega) only [wrap64, cell_at, Rw_at, oneB_at, p_blockK_exit_at] | simp (disch := first | omega | grind) only [heap_ne_, del_ne] | (intro hx_; try simp only [set_none] at hx_) | omega)
   exact nx_mk (k + 1, L ++ [⟨false, some b, x.next[k]⟩], some c', Hd.set b5 (.box [.vec cT 6 0 x.seen.length, .vec cF 1 0 x.final.length, .vec c' 1 0 (k + 1)])) (hZ.next hkt (by omega) n5 hb hA) (by simp only []; omega) (by (try simp only [go_sem,seval]) <;> (try simp (disch := omega) [wrap64]) <;> (try omega)) (Heap.Le.refl _)
  ·have hkd : decide ((k : Int) < x.next.length) = false := decide_eq_false (by omega)
   obtain ⟨cN, hcN, hS0⟩ := hZ.done ho (by omega) (by omega) nT nF n5
   subst hcN
   clear hZ
   repeat' (first | with_reducible refine And.intro ?_ ?_ | simp only [go_sem,seval, hkd] | simp (disch := omega) only [wrap64, cell_at, Rw_at, oneB_at, p_blockK_exit_at] | simp (disch := first | omega | grind) only [heap_ne_, del_ne] | (intro hx_; try simp only [set_none] at hx_) | omega)
   refine loop_c [2, 5, 63, 64] (fun (p : Nat × Sy × (Nat → Nat) × List Rr × Nat × Nat × Nat × Heap) => [(65, .int .i64 p.1)]) (fun (p : Nat × Sy × (Nat → Nat) × List Rr × Nat × Nat × Nat × Heap) => p.2.2.2.2.2.2.2) (fun (p : Nat × Sy × (Nat → Nat) × List Rr × Nat × Nat × Nat × Heap) => p.1 ≤ ws.length ∧ DbS x Bs b5 p.2.1 p.2.2.1 p.2.2.2.1 p.2.2.2.2.1 p.2.2.2.2.2.1 p.2.2.2.2.2.2.1 p.2.2.2.2.2.2.2 ∧ p.2.1.seen.length = x.seen.length + p.1 ∧ ∀ l ∈ p.2.1.next, l.length ≤ 900 + p.1) (fun (p : Nat × Sy × (Nat → Nat) × List Rr × Nat × Nat × Nat × Heap) => ws.length - p.1) ((0, x, id, L, cT, cF, cN, Hk)) (⟨Nat.zero_le _, hS0, rfl, fun l hl => hw l hl⟩) (by (try simp only [go_sem,seval]) <;> (try simp (disch := omega) [wrap64]) <;> (try omega)) (by first | with_reducible exact Heap.Le.refl _ | exact heap_set_le (by assumption) | exact Heap.Le.refl _ | exact heap_le_set (by assumption) | exact (by simp only [Go.Av.Heap.Le, Go.Av.Heap.set, Go.Av.Heap.del] at * <;> grind)) ?_
   rintro Ec1 rfl ⟨r, y, o, M, tT, tF, tN, Hr⟩ ⟨hr, hS, hyl, hyb⟩
   simp only at hr hS hyl hyb
   as_aux_lemma =>
    have q5 := hS.box
    have q2 := hS.keep _ _ e2
    have qT := hS.tT
    have qF := hS.tF
    have qN := hS.rr.row
    have hyf := hS.db.f
    have hyn := hS.db.n
    have hMl := hS.len
    by_cases hrt : r < ws.length
    ·have hrd : decide ((r : Int) < ws.length) = true := decide_eq_true (by omega)
     have hwr := hws _ (List.getElem_mem hrt)
     obtain ⟨w, hwe⟩ : ∃ w : Nat, ws[r] = (w : Int) := ⟨ws[r].toNat, by omega⟩
     have hu8 : u8C (w : Int) = [.int .u8 w] := rfl
     have hw0 : w ≤ 255 := by omega
     have hn0 : 0 < y.seen.length := by omega
     obtain ⟨i, hie⟩ : ∃ i, w % y.seen.length = i := ⟨_, rfl⟩
     have hi : i < y.seen.length := by rw [← hie]; exact Nat.mod_lt _ hn0
     have hrem : Int.tmod (w : Int) (y.seen.length : Int) = (i : Int) := by
      rw [Int.tmod_eq_emod_of_nonneg (by omega), ← hie]; omega
     have hne0 : ¬ ((y.seen.length : Int) = 0) := by omega
     repeat' (first | with_reducible refine And.intro ?_ ?_ | simp only [go_sem,seval, hrd, q5, Rw_at _ _ hrt, Rw_get _ _ hrt, hu8, hwe, hrem, hne0] | simp (disch := omega) only [wrap64, cell_at, Rw_at, oneB_at, p_blockK_exit_at] | simp (disch := first | omega | grind) only [heap_ne_, del_ne] | (intro hx_; try simp only [set_none] at hx_) | omega)
     have n5T : b5 ≠ tT := fun e => by rw [e, qT] at q5; cases q5
     have n5F : b5 ≠ tF := fun e => by rw [e, qF] at q5; cases q5
     have n5N : b5 ≠ tN := fun e => by rw [e, qN] at q5; cases q5
     have nFT : tF ≠ tT := fun e => by rw [e, qT] at qF; injection qF with g; injection g with g; omega
     refine par_mk3 (fun i => .c .undef) [b5] [(tT, 8, [6], [17]), (tF, 17, [15], [])] (by kernel_rfl) ?_
     have m5 : b5 ∈ [tT, tF, b5] := by simp
     have mT : tT ∈ [tT, tF, b5] := by simp
     have mF : tF ∈ [tT, tF, b5] := by simp
     have o5 : b5 ∉ [tT, tF] := by simp [n5T, n5F]
     have oT : tT ∉ [tF] := by simp [nFT.symm]
     have oF : tF ∉ [tT] := by simp [nFT]
     have hii : (i : Int) < y.seen.length := by omega
     have hfi : i < y.final.length := by omega
     have hifi : (i : Int) < y.final.length := by omega
     repeat' (first | with_reducible refine And.intro ?_ ?_ | simp only [go_sem,seval, q5, qT, qF, m5, mT, mF, o5, oT, oF, not_false_eq_true, Rw_at _ _ hi, Rw_get _ _ hi, hii] | simp (disch := omega) only [wrap64, cell_at, Rw_at, oneB_at, p_blockK_exit_at] | simp (disch := first | omega | grind) only [heap_ne_, del_ne] | (intro hx_; try simp only [set_none] at hx_) | omega)
     rename_i x1
     have hx1 := hx_
     clear hx_
     refine p_apM 41 96 (n := y.seen.length) (m := 1) (k := tT) (es := Rw tmC y.seen) (xs := [tmC y.seen[i]]) (by simp only [go_sem,seval]) (by decide) (by simp only [go_sem,seval]) (by simp only [go_sem,seval]) (by simp only [go_sem,seval]) (by simp only [go_sem,seval]) hx1 rfl qT (by rw [Rw_len]) (by simp only [go_sem,seval]) (by simp only [List.mem_cons, List.not_mem_nil, or_false, not_or]; exact ⟨fun e => (by rw [e, qT] at hx1; cases hx1), fun e => (by rw [e, qF] at hx1; cases hx1), fun e => (by rw [e, q5] at hx1; cases hx1)⟩) (by simp only [List.length_cons, List.length_nil]; omega) (by simp only [List.length_cons, List.length_nil]; omega) fun tT' Ha hA1 => ?_
     have a5 := hA1.2.1 _ _ q5 (fun e => n5T (Option.some.inj e).symm)
     have aF := hA1.2.1 _ _ qF (fun e => nFT (Option.some.inj e).symm)
     repeat' (first | with_reducible refine And.intro ?_ ?_ | simp only [go_sem,seval, a5, aF, m5, mT, mF, o5, oT, oF, not_false_eq_true, Rw_at _ _ hfi, Rw_get _ _ hfi, hifi] | simp (disch := omega) only [wrap64, cell_at, Rw_at, oneB_at, p_blockK_exit_at] | simp (disch := first | omega | grind) only [heap_ne_, del_ne] | (intro hx_; try simp only [set_none] at hx_) | omega)
     rename_i x2
     have hx2 := hx_
     clear hx_
     refine p_apM 4 1 (n := y.final.length) (m := 1) (k := tF) (es := Rw boolC y.final) (xs := [boolC y.final[i]]) (by simp only [go_sem,seval]) (by decide) (by simp only [go_sem,seval]) (by simp only [go_sem,seval]) (by simp only [go_sem,seval]) (by simp only [go_sem,seval]) hx2 rfl aF (by rw [Rw_len]) (by simp only [go_sem,seval]) (by simp only [List.mem_cons, List.not_mem_nil, or_false, not_or]; exact ⟨fun e => (by rw [e, aF] at hx2; cases hx2), fun e => (by rw [e, a5] at hx2; cases hx2)⟩) (by simp only [List.length_cons, List.length_nil]; omega) (by simp only [List.length_cons, List.length_nil]; omega) fun tF' Hb hA2 => ?_
     have b_5 := hA2.2.1 _ _ a5 (fun e => n5F (Option.some.inj e).symm)
     repeat' (first | with_reducible refine And.intro ?_ ?_ | simp only [go_sem,seval, b_5, m5] | simp (disch := omega) only [wrap64, cell_at, Rw_at, oneB_at, p_blockK_exit_at] | simp (disch := first | omega | grind) only [heap_ne_, del_ne] | (intro hx_; try simp only [set_none] at hx_) | omega)
     have hiM : i < M.length := by omega
     have hin : i < y.next.length := by omega
     have hni : (i : Int) < y.next.length := by omega
     obtain ⟨hzf, bi, hbi⟩ := hS.op i hiM
     have hblk := hS.rr.blk i hiM hzf
     rw [hbi] at hblk
     have hblk : Hr bi = some (.vec 1 (Rw intC M[i].l)) := hblk
     have nbN := (hS.rr.new i hiM bi hzf hbi).2
     have nNT : tN ≠ tT := fun e => by rw [e, qT] at qN; injection qN with g; injection g with g; omega
     have nNF : tN ≠ tF := fun e => by rw [e, qF] at qN; injection qN with g; injection g with _ g; exact bool_ne_rr (by omega) g
     have nbT : bi ≠ tT := fun e => by rw [e, qT] at hblk; injection hblk with g; injection g with g; omega
     have nbF : bi ≠ tF := fun e => by rw [e, qF] at hblk; injection hblk with g; injection g with _ g; exact bool_ne_int (by omega) g
     have nb5 : bi ≠ b5 := fun e => by rw [e, q5] at hblk; cases hblk
     have kA : ∀ q o, Hr q = some o → q ≠ tT → Ha q = some o := fun q o hq hne => hA1.2.1 q o hq (fun e => hne (Option.some.inj e).symm)
     have kB : ∀ q o, Ha q = some o → q ≠ tF → Hb q = some o := fun q o hq hne => hA2.2.1 q o hq (fun e => hne (Option.some.inj e).symm)
     have b_N := kB _ _ (kA _ _ qN nNT) nNF
     have b_i := kB _ _ (kA _ _ hblk nbT) nbF
     have hrr : rrC M[i] = [.vec bi 1 0 M[i].l.length] := by rw [rrC_o hzf, hbi]; rfl
     have hll : M[i].l.length ≤ 900 + r := by rw [hS.at hiM hin]; exact hyb _ (List.getElem_mem hin)
     have kC : ∀ q o, Hb q = some o → q ≠ b5 → (Hb.set b5 (.box [.vec tT' 6 0 (y.seen.length + 1), .vec tF' 1 0 (y.final.length + 1), .vec tN 1 0 y.next.length])) q = some o := fun q o hq hne => by rw [heap_ne _ hne]; exact hq
     have c5 := heap_same (H := Hb) b5 (.box [.vec tT' 6 0 (y.seen.length + 1), .vec tF' 1 0 (y.final.length + 1), .vec tN 1 0 y.next.length])
     generalize Hb.set b5 (.box [.vec tT' 6 0 (y.seen.length + 1), .vec tF' 1 0 (y.final.length + 1), .vec tN 1 0 y.next.length]) = Hc at kC c5 ⊢
     have cN := kC _ _ b_N n5N.symm
     have ci := kC _ _ b_i nb5
     clear m5 mT mF o5 oT oF hx1 hx2 a5 aF b_5 b_N b_i
     refine par_mk3 (fun i => .c .undef) [b5, bi] [(tN, 10, [7], [])] (by kernel_rfl) ?_
     have m5 : b5 ∈ [tN, b5, bi] := by simp
     have mN : tN ∈ [tN, b5, bi] := by simp
     have o5 : b5 ∉ [tN] := by simp [n5N]
     repeat' (first | with_reducible refine And.intro ?_ ?_ | simp only [go_sem,seval, c5, cN, m5, mN, o5, not_false_eq_true, Rw_at _ _ hiM, Rw_get _ _ hiM, hrr, hni] | simp (disch := omega) only [wrap64, cell_at, Rw_at, oneB_at, p_blockK_exit_at] | simp (disch := first | omega | grind) only [heap_ne_, del_ne] | (intro hx_; try simp only [set_none] at hx_) | omega)
     rename_i z
     have hz := hx_
     clear hx_
     refine p_apR 3 8 (m := M[i].l.length) (xs := Rw intC M[i].l) (by simp only [go_sem,seval]) (by decide) (by simp only [go_sem,seval]) (by simp only [go_sem,seval]) (by simp only [go_sem,seval]) (by simp only [go_sem,seval]) hz ci (by rw [Rw_len]) (by simp) (by simp [nbN]) (by simp only [List.mem_cons, List.not_mem_nil, or_false, not_or]; exact ⟨fun e => (by rw [e, cN] at hz; cases hz), fun e => (by rw [e, c5] at hz; cases hz), fun e => (by rw [e, ci] at hz; cases hz)⟩) (by rw [Rw_len]; omega) (by rw [Rw_len]; omega) fun b hb => ?_
     have n5b : b5 ≠ b := fun e => by rw [← e, c5] at hb; cases hb
     have nNb : tN ≠ b := fun e => by rw [← e, cN] at hb; cases hb
     have nib : bi ≠ b := fun e => by rw [← e, ci] at hb; cases hb
     have d5 : (Hc.set b (.vec 1 (Rw intC M[i].l))) b5 = _ := (heap_ne _ n5b).trans c5
     have dN : (Hc.set b (.vec 1 (Rw intC M[i].l))) tN = _ := (heap_ne _ nNb).trans cN
     have di : (Hc.set b (.vec 1 (Rw intC M[i].l))) bi = _ := (heap_ne _ nib).trans ci
     generalize hHx : Hc.set b (.vec 1 (Rw intC M[i].l)) = Hx at d5 dN di ⊢
     repeat' (first | with_reducible refine And.intro ?_ ?_ | simp only [go_sem,seval, d5, dN, m5, mN, o5, not_false_eq_true] | simp (disch := omega) only [wrap64, cell_at, Rw_at, oneB_at, p_blockK_exit_at] | simp (disch := first | omega | grind) only [heap_ne_, del_ne] | (intro hx_; try simp only [set_none] at hx_) | omega)
     rename_i bx
     have hbx := hx_
     clear hx_
     refine p_apM 29 24 (n := y.next.length) (m := 1) (k := tN) (es := Rw rrC M) (xs := [[.vec b 1 0 M[i].l.length]]) (by simp only [go_sem,seval]) (by decide) (by simp only [go_sem,seval]) (by simp only [go_sem,seval]) (by simp only [go_sem,seval]) (by simp only [go_sem,seval]) hbx rfl dN (by rw [Rw_len]; omega) (by simp only [go_sem,seval]) (by simp only [List.mem_cons, List.not_mem_nil, or_false, not_or]; exact ⟨fun e => (by rw [e, dN] at hbx; cases hbx), fun e => (by rw [e, d5] at hbx; cases hbx), fun e => (by rw [e, di] at hbx; cases hbx)⟩) (by simp only [List.length_cons, List.length_nil]; omega) (by simp only [List.length_cons, List.length_nil]; omega) fun tN' Hd hA3 => ?_
     have f5 := hA3.2.1 _ _ d5 (fun e => n5N (Option.some.inj e).symm)
     repeat' (first | with_reducible refine And.intro ?_ ?_ | simp only [go_sem,seval, f5, m5] | simp (disch := omega) only [wrap64, cell_at, Rw_at, oneB_at, p_blockK_exit_at] | simp (disch := first | omega | grind) only [heap_ne_, del_ne] | (intro hx_; try simp only [set_none] at hx_) | omega)
     rw [← hHx] at hA3
     have hS1 := hS.copy hi hfi hin hiM hA1 hA2 kC c5 hb hA3
     have hon : (fun e => if e = y.seen.length then o i else o e) y.seen.length = (fun e => if e = y.seen.length then o i else o e) i := by
      simp
     have hb1 : ∀ (k : Nat) (h : k < (M ++ [(⟨false, some b, M[i].l⟩ : Rr)]).length), (M ++ [(⟨false, some b, M[i].l⟩ : Rr)])[k].l.length ≤ 900 + r + (if k < 0 then 1 else 0) := fun k hk => by
      rw [if_neg (by omega)]
      by_cases e : k < M.length
      ·rw [List.getElem_append_left e, hS.at e (by omega)]; exact hyb _ (List.getElem_mem _)
      ·rw [List.getElem_append_right (by omega)]; simpa using hll
     have hl1 : (⟨y.seen ++ [y.seen[i]], y.final ++ [y.final[i]], y.next ++ [y.next[i]]⟩ : Sy).seen.length = y.seen.length + 1 := by simp
     generalize (⟨y.seen ++ [y.seen[i]], y.final ++ [y.final[i]], y.next ++ [y.next[i]]⟩ : Sy) = y1 at hS1 hl1
     generalize (fun e => if e = y.seen.length then o i else o e) = o1 at hS1 hon
     generalize M ++ [(⟨false, some b, M[i].l⟩ : Rr)] = M1 at hS1 hb1
     generalize Hd.set b5 (.box [.vec tT' 6 0 (y.seen.length + 1), .vec tF' 1 0 (y.final.length + 1), .vec tN' 1 0 (y.next.length + 1)]) = He at hS1 ⊢
     clear hA1 hA2 hA3 kA kB kC c5 cN ci d5 dN di f5 hz hbx hb hHx Hx nNT nNF nbT nbF nb5 hblk nbN hrr hS qT qF qN q5 n5T n5F n5N nFT n5b nNb nib
     have g5 := hS1.box
     have hf1 := hS1.db.f
     have hn1 := hS1.db.n
     have hM1 := hS1.len
     repeat' (first | with_reducible refine And.intro ?_ ?_ | simp only [go_sem,seval, g5] | simp (disch := omega) only [wrap64, cell_at, Rw_at, oneB_at, p_blockK_exit_at] | simp (disch := first | omega | grind) only [heap_ne_, del_ne] | (intro hx_; try simp only [set_none] at hx_) | omega)
     refine loop_c [2, 5, 9, 10, 11, 63, 64, 65, 112] (fun (p : Nat × Sy × List Rr × Heap) => [(113, .int .i64 p.1)]) (fun (p : Nat × Sy × List Rr × Heap) => p.2.2.2) (fun (p : Nat × Sy × List Rr × Heap) => p.1 ≤ y.next.length + 1 ∧ DbS x Bs b5 p.2.1 o1 p.2.2.1 tT' tF' tN' p.2.2.2 ∧ p.2.1.seen.length = y.seen.length + 1 ∧ ∀ (k : Nat) (h : k < p.2.2.1.length), p.2.2.1[k].l.length ≤ 900 + r + (if k < p.1 then 1 else 0)) (fun (p : Nat × Sy × List Rr × Heap) => y.next.length + 1 - p.1) ((0, y1, M1, He)) (⟨Nat.zero_le _, hS1, hl1, hb1⟩) (by (try simp only [go_sem,seval]) <;> (try simp (disch := omega) [wrap64]) <;> (try omega)) (by first | with_reducible exact Heap.Le.refl _ | exact heap_set_le (by assumption) | exact Heap.Le.refl _ | exact heap_le_set (by assumption) | exact (by simp only [Go.Av.Heap.Le, Go.Av.Heap.set, Go.Av.Heap.del] at * <;> grind)) ?_
     clear hS1 hl1 hb1 g5 hf1 hn1 hM1
     rintro Ec2 rfl ⟨k, y2, M2, Hq⟩ ⟨hk, hS, hl2, hb2⟩
     simp only at hk hS hl2 hb2
     as_aux_lemma =>
      have g5 := hS.box
      have gN := hS.rr.row
      have hf2 := hS.db.f
      have hn2 := hS.db.n
      have hM2 := hS.len
      by_cases hkt : k < y.next.length + 1
      ·have hkd : decide ((k : Int) < y.next.length + 1) = true := decide_eq_true (by omega)
       have hkM : k < M2.length := by omega
       obtain ⟨hzf, bk, hbk⟩ := hS.op k hkM
       have hblk := hS.rr.blk k hkM hzf
       rw [hbk] at hblk
       have hblk : Hq bk = some (.vec 1 (Rw intC M2[k].l)) := hblk
       have hrr : rrC M2[k] = [.vec bk 1 0 M2[k].l.length] := by rw [rrC_o hzf, hbk]; rfl
       have hbd := hb2 k hkM
       rw [if_neg (by omega)] at hbd
       have hkn : (k : Int) < y2.next.length := by omega
       repeat' (first | with_reducible refine And.intro ?_ ?_ | simp only [go_sem,seval, hkd, g5, gN, Rw_at _ _ hkM, Rw_get _ _ hkM, hrr, hkn] | simp (disch := omega) only [wrap64, cell_at, Rw_at, oneB_at, p_blockK_exit_at] | simp (disch := first | omega | grind) only [heap_ne_, del_ne] | (intro hx_; try simp only [set_none] at hx_) | omega)
       refine loop_c [2, 5, 9, 10, 11, 12, 63, 64, 65, 112, 113, 120, 121] (fun (j : Nat) => [(122, .int .i64 j)]) (fun (j : Nat) => Hq) (fun (j : Nat) => j ≤ M2[k].l.length) (fun (j : Nat) => M2[k].l.length - j) (0) (Nat.zero_le _) (by (try simp only [go_sem,seval]) <;> (try simp (disch := omega) [wrap64]) <;> (try omega)) (by first | with_reducible exact Heap.Le.refl _ | exact heap_set_le (by assumption) | exact Heap.Le.refl _ | exact heap_le_set (by assumption) | exact (by simp only [Go.Av.Heap.Le, Go.Av.Heap.set, Go.Av.Heap.del] at * <;> grind)) ?_
       rintro Ec3 rfl j hj
       as_aux_lemma =>
        by_cases hjt : j < M2[k].l.length
        ·have hjd : decide ((j : Int) < M2[k].l.length) = true := decide_eq_true (by omega)
         by_cases hm : M2[k].l[j] = (i : Int)
         ·have hmd : decide (M2[k].l[j] = (i : Int)) = true := decide_eq_true hm
          by_cases hp : Int.tmod ((w : Int) + k) 2 = 0
          ·have hpd : decide (Int.tmod ((w : Int) + k) 2 = 0) = true := decide_eq_true hp
           repeat' (first | with_reducible refine And.intro ?_ ?_ | simp only [go_sem,seval, hjd, hblk, Rw_at _ _ hjt, Rw_get _ _ hjt, hm, hp, decide_true] | simp (disch := omega) only [wrap64, cell_at, Rw_at, oneB_at, p_blockK_exit_at] | simp (disch := first | omega | grind) only [heap_ne_, del_ne] | (intro hx_; try simp only [set_none] at hx_) | omega)
           have n5N' : b5 ≠ tN' := fun e => by rw [e, gN] at g5; cases g5
           have nkN := (hS.rr.new k hkM bk hzf hbk).2
           have n5k : b5 ≠ bk := fun e => by rw [e, hblk] at g5; cases g5
           have hfl2 : 0 < y2.final.length := by omega
           have hmem : (i : Int) ∈ M2[k].l := by rw [← hm]; exact List.getElem_mem hjt
           refine raceK_gen fun K' hK => ?_
           refine par_mk3 (fun i => .c .undef) [b5] [(tN', 12, [7], [])] (by kernel_rfl) ?_
           have m5 : b5 ∈ [tN', b5] := by simp
           have mN : tN' ∈ [tN', b5] := by simp
           have o5 : b5 ∉ [tN'] := by simp [n5N']
           as_aux_lemma =>
            repeat' (first | with_reducible refine And.intro ?_ ?_ | simp only [go_sem,seval, g5, gN, m5, mN, o5, not_false_eq_true, Rw_at _ _ hkM, Rw_get _ _ hkM, hrr, hkn] | simp (disch := omega) only [wrap64, cell_at, Rw_at, oneB_at, p_blockK_exit_at] | simp (disch := first | omega | grind) only [heap_ne_, del_ne] | (intro hx_; try simp only [set_none] at hx_) | omega)
            rename_i z
            have hz := hx_
            clear hx_
            refine p_apM 3 8 (n := M2[k].l.length) (m := 1) (k := bk) (es := Rw intC M2[k].l) (xs := [[.int .i64 y.seen.length]]) (by simp only [go_sem,seval]) (by decide) (by simp only [go_sem,seval]) (by simp only [go_sem,seval]) (by simp only [go_sem,seval]) (by simp only [go_sem,seval]) hz rfl hblk (by rw [Rw_len]) (.inl (by simp [nkN, n5k.symm])) (by simp only [List.mem_cons, List.not_mem_nil, or_false, not_or]; exact ⟨fun e => (by rw [e, gN] at hz; cases hz), fun e => (by rw [e, g5] at hz; cases hz)⟩) (by simp only [List.length_cons, List.length_nil]; omega) (by simp only [List.length_cons, List.length_nil]; omega) fun b' H1 hA => ?_
            have f5 := hA.2.1 _ _ g5 (fun e => n5k (Option.some.inj e).symm)
            have fN := hA.2.1 _ _ gN (fun e => nkN (Option.some.inj e))
            repeat' (first | with_reducible refine And.intro ?_ ?_ | simp only [go_sem,seval, f5, fN, m5, mN, o5, not_false_eq_true, Rw_at _ _ hkM, Rw_get _ _ hkM, hrr, hkn] | simp (disch := omega) only [wrap64, cell_at, Rw_at, oneB_at, p_blockK_exit_at] | simp (disch := first | omega | grind) only [heap_ne_, del_ne] | (intro hx_; try simp only [set_none] at hx_) | omega)
            as_aux_lemma =>
             subst hK
             simp only [p_normalK, p_seqK_normal, p_exit, p_seqK_exit, p_blockK_exit_at, p_blockK_normal, p_loopK_exit, ne_eq, not_false_eq_true, p_blockK_exit_ne, Nat.reduceEqDiff]
             repeat' (first | with_reducible refine And.intro ?_ ?_ | simp only [go_sem,seval, f5, fN] | simp (disch := omega) only [wrap64, cell_at, Rw_at, oneB_at, p_blockK_exit_at] | simp (disch := first | omega | grind) only [heap_ne_, del_ne] | (intro hx_; try simp only [set_none] at hx_) | omega)
             have hxs : Rw intC M2[k].l ++ [[D.int .i64 y.seen.length]] = Rw intC (M2[k].l ++ [(y.seen.length : Int)]) := by simp [Rw, intC]
             rw [hxs] at hA
             have hS2 := hS.add hkM hbk hmem (n := y.seen.length) (by omega) hon hfl2 hA
             refine nx_mk (k + 1, ⟨y2.seen, y2.final, y2.next.set k (M2[k].l ++ [(y.seen.length : Int)])⟩, M2.set k ⟨false, some b', M2[k].l ++ [(y.seen.length : Int)]⟩, _) ⟨by simp only []; omega, hS2, by simp only []; omega, fun q hq => ?_⟩ (by simp only []; omega) (by (try simp only [go_sem,seval]) <;> (try simp (disch := omega) [wrap64]) <;> (try omega)) (Heap.Le.refl _)
             simp only [List.length_set] at hq ⊢
             by_cases e : k = q
             ·subst e; rw [List.getElem_set_self, if_pos (by omega)]; simp only [List.length_append, List.length_singleton]; omega
             ·rw [List.getElem_set_ne e]
              have := hb2 q hq
              split at this <;> split <;> omega
          ·have hpd : decide (Int.tmod ((w : Int) + k) 2 = 0) = false := decide_eq_false hp
           repeat' (first | with_reducible refine And.intro ?_ ?_ | simp only [go_sem,seval, hjd, hblk, Rw_at _ _ hjt, Rw_get _ _ hjt, hm, hp, decide_true, decide_false] | simp (disch := omega) only [wrap64, cell_at, Rw_at, oneB_at, p_blockK_exit_at] | simp (disch := first | omega | grind) only [heap_ne_, del_ne] | (intro hx_; try simp only [set_none] at hx_) | omega)
           exact nx_mk (j + 1) (by omega) (by omega) (by (try simp only [go_sem,seval]) <;> (try simp (disch := omega) [wrap64]) <;> (try omega)) (Heap.Le.refl _)
         ·have hmd : decide (M2[k].l[j] = (i : Int)) = false := decide_eq_false hm
          repeat' (first | with_reducible refine And.intro ?_ ?_ | simp only [go_sem,seval, hjd, hblk, Rw_at _ _ hjt, Rw_get _ _ hjt, hm, decide_false] | simp (disch := omega) only [wrap64, cell_at, Rw_at, oneB_at, p_blockK_exit_at] | simp (disch := first | omega | grind) only [heap_ne_, del_ne] | (intro hx_; try simp only [set_none] at hx_) | omega)
          exact nx_mk (j + 1) (by omega) (by omega) (by (try simp only [go_sem,seval]) <;> (try simp (disch := omega) [wrap64]) <;> (try omega)) (Heap.Le.refl _)
        ·have hjd : decide ((j : Int) < M2[k].l.length) = false := decide_eq_false (by omega)
         repeat' (first | with_reducible refine And.intro ?_ ?_ | simp only [go_sem,seval, hjd] | simp (disch := omega) only [wrap64, cell_at, Rw_at, oneB_at, p_blockK_exit_at] | simp (disch := first | omega | grind) only [heap_ne_, del_ne] | (intro hx_; try simp only [set_none] at hx_) | omega)
         exact nx_mk (k + 1, y2, M2, Hq) ⟨by simp only []; omega, hS, by simp only []; omega, fun q hq => by (have := hb2 q hq; simp only []; split at this <;> split <;> omega)⟩ (by simp only []; omega) (by (try simp only [go_sem,seval]) <;> (try simp (disch := omega) [wrap64]) <;> (try omega)) (Heap.Le.refl _)
      ·have hkd : decide ((k : Int) < y.next.length + 1) = false := decide_eq_false (by omega)
       repeat' (first | with_reducible refine And.intro ?_ ?_ | simp only [go_sem,seval, hkd] | simp (disch := omega) only [wrap64, cell_at, Rw_at, oneB_at, p_blockK_exit_at] | simp (disch := first | omega | grind) only [heap_ne_, del_ne] | (intro hx_; try simp only [set_none] at hx_) | omega)
       refine nx_mk (r + 1, y2, o1, M2, tT', tF', tN', Hq) ⟨by simp only []; omega, hS, by simp only []; omega, fun l hl => ?_⟩ (by simp only []; omega) (by (try simp only [go_sem,seval]) <;> (try simp (disch := omega) [wrap64]) <;> (try omega)) (Heap.Le.refl _)
       simp only [] at hl ⊢
       rw [← hS.row, List.mem_map] at hl
       obtain ⟨R, hR, rfl⟩ := hl
       obtain ⟨q, hq, rfl⟩ := List.getElem_of_mem hR
       have := hb2 q hq
       split at this <;> omega
    ·have hrd : decide ((r : Int) < ws.length) = false := decide_eq_false (by omega)
     repeat' (first | with_reducible refine And.intro ?_ ?_ | simp only [go_sem,seval, hrd, q2, q5] | simp (disch := omega) only [wrap64, cell_at, Rw_at, oneB_at, p_blockK_exit_at] | simp (disch := first | omega | grind) only [heap_ne_, del_ne] | (intro hx_; try simp only [set_none] at hx_) | omega)
     have hy4 : y.seen.length ≤ 400 := by omega
     have hAl : alikeR x y = .tuple [.bool true, .int .i64 0] := by unfold alikeR; rw [vx, hS.db.valid vx hy4, hS.db.alike vx hy4]; rfl
     refine hS.hand (by omega) (bAlike_a x y fx (hS.db.fit fx hy4 (fun l hl => by have := hyb l hl; omega)) _ hTB ?_)
     rw [hAl]
     repeat' (first | with_reducible refine And.intro ?_ ?_ | simp only [go_sem,seval, e2] | simp (disch := omega) only [wrap64, cell_at, Rw_at, oneB_at, p_blockK_exit_at] | simp (disch := first | omega | grind) only [heap_ne_, del_ne] | (intro hx_; try simp only [set_none] at hx_) | with_reducible refine awake_a _ hTB ?_ | omega)
     exact Fin.less hle h
end Go.Proofs.YtmohcdihdhggoaaGreatDoor
end
section
namespace Go.Av
open Go.RowKit Go.ChangeShapes Go.WideShapes
def tileB (P : Program) : Nat → List Field → Option Nat
 | o, [] => some o
 | o, f :: r => if f.offset = o then tileB P (o + P.cellsOf f.type) r else none
def plainT (P : Program) (l : List TypeId) (t : TypeId) : Bool := match P.underlying t with
 | some .bool | some (.int _) | some .string => decide (P.cellsOf t = 1)
 | some (.slice e) => decide (P.cellsOf t = 1) && l.contains e && decide (0 < P.cellsOf e) && decide (0 < P.bytesOf e)
 | some (.struct fs) => decide (tileB P 0 fs.toList = some (P.cellsOf t)) && fs.toList.all (fun f => l.contains f.type)
 | _ => false
def plainB (P : Program) (l : List TypeId) : Bool := l.all (plainT P l)
inductive Fits (P : Program) : TypeId → List D → Prop
 | bool {t : TypeId} (b : Bool) (h : P.underlying t = some .bool) : Fits P t [.bool b]
 | int {t : TypeId} {k : IntKind} (n : Int) (h : P.underlying t = some (.int k)) (hw : (Lit.int k n).wf = true) : Fits P t [.int k n]
 | str {t : TypeId} (s : ByteArray) (h : P.underlying t = some .string) (hs : s.size ≤ reachBytes) : Fits P t [.str s]
 | sl {t e : TypeId} (es : List (List D)) (h : P.underlying t = some (.slice e)) (hl : es.length * P.bytesOf e ≤ reachBytes) (he : ∀ x ∈ es, Fits P e x) : Fits P t [.sl (P.cellsOf e) es]
 | struct {t : TypeId} {fs : Array Field} (ps : List (List D)) (h : P.underlying t = some (.struct fs)) (hl : ps.length = fs.size) (hp : ∀ (i : Nat) (f : Field) (p : List D), fs[i]? = some f → ps[i]? = some p → Fits P f.type p) : Fits P t ps.flatten
section
variable {H : Type} {enc : TypeId × Value → H} {P : Program}
def RowL (w : World) (Hp : Heap) (ds : List D) (cs : List Value) : Prop := ∀ (j : Nat) (d : D), ds[j]? = some d → d.one = true ∧ R w Hp d (cs.getD j Go.undef)
theorem tile_rows {w : World} {Hp : Heap} {cs : List Value} : ∀ (fs : List Field) (o m : Nat) (ps : List (List D)), tileB P o fs = some m → m ≤ cs.length → ps.length = fs.length →
  (∀ (i : Nat) (f : Field) (p : List D), fs[i]? = some f → ps[i]? = some p → p.length = P.cellsOf f.type ∧ RowL w Hp p ((cs.drop f.offset).take (P.cellsOf f.type))) →
  o ≤ m ∧ o + ps.flatten.length = m ∧ ∀ (j : Nat) (d : D), ps.flatten[j]? = some d → d.one = true ∧ R w Hp d (cs.getD (o + j) Go.undef)
 | [], o, m, ps, ht, _, hl, _ => by
  have : ps = [] := List.eq_nil_of_length_eq_zero (by simpa using hl)
  subst this
  simp only [tileB, Option.some.injEq] at ht
  subst ht
  exact ⟨Nat.le_refl _, by simp, fun j d hd => by simp at hd⟩
 | f :: r, o, m, ps, ht, hm, hl, hp => by
  cases ps with
  | nil => simp at hl
  | cons p ps =>
   unfold tileB at ht
   split at ht
   ·rename_i ho
    obtain ⟨hpl, hpr⟩ := hp 0 f p rfl rfl
    obtain ⟨h1, h2, h3⟩ := tile_rows r (o + P.cellsOf f.type) m ps ht hm (by simpa using hl) (fun i f' p' hf hp' => hp (i + 1) f' p' (by simpa using hf) (by simpa using hp'))
    refine ⟨by omega, by rw [List.flatten_cons, List.length_append, hpl]; omega, fun j d hd => ?_⟩
    rw [List.flatten_cons, List.getElem?_append] at hd
    split at hd
    ·rename_i hj
     obtain ⟨k1, k2⟩ := hpr j d hd
     refine ⟨k1, ?_⟩
     have e : ((cs.drop f.offset).take (P.cellsOf f.type)).getD j Go.undef = cs.getD (o + j) Go.undef := by
      rw [List.getD_eq_getElem?_getD, List.getD_eq_getElem?_getD, List.getElem?_take_of_lt (by omega), List.getElem?_drop, ho]
     rw [← e]; exact k2
    ·rename_i hj
     have := h3 (j - p.length) d hd
     have e : o + P.cellsOf f.type + (j - p.length) = o + j := by omega
     rw [e] at this
     exact this
   ·cases ht
theorem weightsAll_mem {e : TypeId} {n : Nat} : ∀ {l : List (DataW H)}, (DataW.weightsAll P e l).all (· ≤ n) = true → ∀ d ∈ l, (d.weights P e).all (· ≤ n) = true
 | [], _, d, hd => by cases hd
 | x :: l, h, d, hd => by
  rw [DataW.weightsAll, List.all_append, Bool.and_eq_true] at h
  rcases List.mem_cons.1 hd with rfl | hd
  ·exact h.1
  ·exact weightsAll_mem h.2 d hd
theorem weightsEach_at {n : Nat} : ∀ {ts : List TypeId} {l : List (DataW H)}, (DataW.weightsEach P ts l).all (· ≤ n) = true → ∀ (i : Nat) t d, ts[i]? = some t → l[i]? = some d → (d.weights P t).all (· ≤ n) = true
 | [], _, _, i, t, d, ht, _ => by simp at ht
 | _ :: _, [], _, i, t, d, _, hd => by simp at hd
 | t0 :: ts, d0 :: l, h, i, t, d, ht, hd => by
  rw [DataW.weightsEach, List.all_append, Bool.and_eq_true] at h
  cases i with
  | zero => simp at ht hd; subst ht; subst hd; exact h.1
  | succ i => exact weightsEach_at h.2 i t d (by simpa using ht) (by simpa using hd)
theorem add_off' {a : Addr} (hs : a.spot = none) (n : Nat) : a.add n = ⟨a.block, a.off + n, none⟩ := by
 obtain ⟨b, o, s⟩ := a
 simp only at hs
 subst hs
 unfold Addr.add
 split
 ·rename_i h; subst h; rfl
 ·rfl
theorem fits_of_trod {l : List TypeId} (hB : plainB P l = true) {w : World} {base : Nat} {sp : Nat → Bool} {hd : Bool} {Hp : Heap} (hH : ∀ b, Hp.held b = false) :
  ∀ (n : Nat) (t : TypeId) (cs : List Value) (x : DataW H × List MemPlace), t ∈ l → DataW.trod enc P w base sp hd n t cs = some x → (x.1.weights P t).all (· ≤ reachBytes) = true →
   cs.length = P.cellsOf t ∧ ∃ ds, Fits P t ds ∧ ds.length = cs.length ∧ RowL w Hp ds cs := by
 intro n
 induction n with
 | zero => intro t cs x _ h; simp [DataW.trod] at h
 | succ n ih =>
  intro t cs x ht h hw
  have hpt : plainT P l t = true := List.all_eq_true.1 hB t ht
  unfold plainT at hpt
  have one : ∀ {d : D} {v : Value}, d.one = true → R w Hp d v → RowL w Hp [d] [v] := fun h1 h2 j d' hd' => by
   cases j with
   | zero => simp at hd'; subst hd'; exact ⟨h1, h2⟩
   | succ j => simp at hd'
  cases hu : P.underlying t with
  | none => rw [hu] at hpt; cases hpt
  | some u =>
   cases u with
   | bool =>
    rw [hu] at hpt
    obtain ⟨b, rfl, rfl⟩ := DataW.trod_bool hu h
    exact ⟨(of_decide_eq_true hpt).symm, _, .bool b hu, rfl, one rfl (.bool b)⟩
   | int k =>
    rw [hu] at hpt
    obtain ⟨m, rfl, rfl, hwf⟩ := DataW.trod_int hu h
    exact ⟨(of_decide_eq_true hpt).symm, _, .int m hu hwf, rfl, one rfl (.int k m)⟩
   | string =>
    rw [hu] at hpt
    obtain ⟨s, rfl, rfl, _⟩ := DataW.trod_string hu h
    have hsz : s.size ≤ reachBytes := by simpa [DataW.weights] using hw
    exact ⟨(of_decide_eq_true hpt).symm, _, .str s hu hsz, rfl, one rfl (.str s)⟩
   | slice e =>
    rw [hu] at hpt
    simp only [Bool.and_eq_true, decide_eq_true_eq] at hpt
    obtain ⟨⟨⟨hc1, hel⟩, hce⟩, hbe⟩ := hpt
    have hel : e ∈ l := by simpa using hel
    rcases DataW.trod_slice hu h with ⟨rfl, rfl⟩ | ⟨a, len, cap, elems, rest, m, hm, rfl, rfl, hb, hlc, hmx, hlen, hat, _, _⟩
    ·exact ⟨hc1.symm, _, .sl [] hu (by simp) (by simp), rfl, one rfl (.sl0 _ _ _)⟩
    ·cases hm
     have hw2 : (elems.length + rest.length) * P.bytesOf e ≤ reachBytes ∧ (DataW.weightsAll P e (elems.map (·.1))).all (· ≤ reachBytes) = true := by
      rw [DataW.weights, hu] at hw
      simp only [List.all_cons, List.all_append, Bool.and_eq_true, decide_eq_true_eq, List.length_map] at hw
      exact ⟨hw.1, hw.2.1⟩
     have hex : ∀ i, ∃ p : List D × List Value, i < len → Fits P e p.1 ∧ p.1.length = P.cellsOf e ∧ RowL w Hp p.1 p.2 ∧ ∀ j, j < P.cellsOf e → w.cell? ((a.add (i * P.cellsOf e)).add j) = some (p.2.getD j Go.undef) := by
      intro i
      by_cases hi : i < len
      ·have hy := hat i hi
       have hie : i < elems.length := by omega
       rw [List.getElem?_eq_getElem hie, Option.bind_eq_some_iff] at hy
       obtain ⟨ci, hci, hti⟩ := hy
       obtain ⟨_, hcl, hcg⟩ := World.cells?_some hci
       obtain ⟨k1, ds, k2, k3, k4⟩ := ih e ci elems[i] hel hti (weightsAll_mem hw2.2 _ (List.mem_map.2 ⟨_, List.getElem_mem hie, rfl⟩))
       refine ⟨(ds, ci), fun _ => ⟨k2, by rw [k3]; exact k1, k4, fun j hj => ?_⟩⟩
       rw [hcg j hj, List.getD_eq_getElem?_getD, List.getElem?_eq_getElem (by rw [hcl]; exact hj)]
       rfl
      ·exact ⟨([], []), fun h => absurd h hi⟩
     obtain ⟨g, hg⟩ := Classical.skolem.1 hex
     have hes : ∀ (i : Nat) (x : List D), ((List.range len).map fun i => (g i).1)[i]? = some x → i < len ∧ x = (g i).1 := fun i x hx => by
      simp only [List.getElem?_map, Option.map_eq_some_iff] at hx
      obtain ⟨y, hy, rfl⟩ := hx
      have hi := (List.getElem?_eq_some_iff.1 hy).1
      simp at hi
      rw [List.getElem?_range hi] at hy
      cases hy
      exact ⟨hi, rfl⟩
     have hl2 : ((List.range len).map fun i => (g i).1).length = len := by simp
     refine ⟨hc1.symm, _, .sl ((List.range len).map fun i => (g i).1) hu ?_ ?_, rfl, one rfl ?_⟩
     ·rw [hl2]
      refine Nat.le_trans (Nat.mul_le_mul_right _ ?_) hw2.1
      omega
     ·intro x hx
      obtain ⟨i, hi⟩ := List.mem_iff_getElem?.1 hx
      obtain ⟨hi', rfl⟩ := hes i x hi
      exact (hg i hi').1
     ·show R w Hp (.sl (P.cellsOf e) ((List.range len).map fun i => (g i).1)) (.slice (some a) len cap)
      by_cases hz : len = 0
      ·subst hz; exact .sl0 _ _ _
      ·have h00 := (hg 0 (by omega)).2.2.2 0 hce
       rw [Nat.zero_mul] at h00
       have hspot : a.spot = none := by
        have e0 : (a.add 0).add 0 = a := rfl
        rw [e0] at h00
        unfold World.cell? at h00
        split at h00
        ·split at h00
         ·cases h00
         ·rename_i hns
          cases hsp : a.spot with
          | none => rfl
          | some _ => rw [hsp] at hns; exact absurd rfl hns
        ·cases h00
       have hblk : a.block < w.heap.size := by
        have e0 : (a.add 0).add 0 = a := rfl
        rw [e0] at h00
        unfold World.cell? at h00
        by_cases hlt : a.block < w.heap.size
        ·exact hlt
        ·rw [Array.getElem?_eq_none (by omega)] at h00; cases h00
       have hcell : ∀ i j, i < len → j < P.cellsOf e → w.cell? ⟨a.block, a.off + i * P.cellsOf e + j, none⟩ = some ((g i).2.getD j Go.undef) := fun i j hi hj => by
        have := (hg i hi).2.2.2 j hj
        rw [add_off' hspot, add_off' rfl] at this
        exact this
       have hR := R.sl (w := w) (H := Hp) (P.cellsOf e) ((List.range len).map fun i => (g i).1) a.block a.off cap (fun i j => (g i).2.getD j Go.undef) hblk (hH _)
        (fun i x hx => by obtain ⟨hi, rfl⟩ := hes i x hx; exact (hg i hi).2.1) (by rw [hl2]; exact hlc) (fun i j hi hj => hcell i j (by rw [hl2] at hi; exact hi) hj)
        (fun i x j d hx hd' => by obtain ⟨hi, rfl⟩ := hes i x hx; exact ((hg i hi).2.2.1 j d hd').1) (fun i x j d hx hd' => by obtain ⟨hi, rfl⟩ := hes i x hx; exact ((hg i hi).2.2.1 j d hd').2)
       rw [hl2] at hR
       obtain ⟨ab, ao, as_⟩ := a
       simp only at hspot
       subst hspot
       exact hR
   | struct fs =>
    rw [hu] at hpt
    simp only [Bool.and_eq_true, decide_eq_true_eq, List.all_eq_true] at hpt
    obtain ⟨htile, hall⟩ := hpt
    obtain ⟨xs, m, hm, rfl, hcl, hxl, hat⟩ := DataW.trod_struct hu h
    cases hm
    have hwe : (DataW.weightsEach P (fs.toList.map (·.type)) (xs.map (·.1))).all (· ≤ reachBytes) = true := by
     rw [DataW.weights, hu] at hw; exact hw
    have hex : ∀ i : Nat, ∃ p : List D, ∀ f : Field, fs[i]? = some f → Fits P f.type p ∧ p.length = P.cellsOf f.type ∧ RowL w Hp p ((cs.drop f.offset).take (P.cellsOf f.type)) := by
     intro i
     cases hf : fs[i]? with
     | none => exact ⟨[], fun f h => by cases h⟩
     | some f =>
      have hi := (Array.getElem?_eq_some_iff.1 hf).1
      have hxi : i < xs.length := by omega
      have hy := hat i f hf
      rw [List.getElem?_eq_getElem hxi] at hy
      have hfl : f.type ∈ l := by
       have := hall f (by rw [Array.mem_toList_iff]; exact Array.mem_of_getElem? hf)
       simpa using this
      have hwi := weightsEach_at hwe i f.type xs[i].1 (by simp [hf]) (by simp [List.getElem?_eq_getElem hxi])
      obtain ⟨k1, ds, k2, k3, k4⟩ := ih f.type _ xs[i] hfl hy hwi
      refine ⟨ds, fun f' hf' => ?_⟩
      cases hf'
      exact ⟨k2, by rw [k3]; exact k1, k4⟩
    obtain ⟨g, hg⟩ := Classical.skolem.1 hex
    have hpl : ((List.range fs.size).map g).length = fs.size := by simp
    have hpg : ∀ (i : Nat) (f : Field) (p : List D), fs[i]? = some f → ((List.range fs.size).map g)[i]? = some p → p = g i := fun i f p hf hp => by
     have hi := (Array.getElem?_eq_some_iff.1 hf).1
     rw [List.getElem?_map, List.getElem?_range hi] at hp
     cases hp; rfl
    obtain ⟨_, hlen, hrow⟩ := tile_rows (P := P) (w := w) (Hp := Hp) (cs := cs) fs.toList 0 (P.cellsOf t) ((List.range fs.size).map g) htile (by omega) (by simp) (fun i f p hf hp => by
     have hf' : fs[i]? = some f := by simpa using hf
     have := hpg i f p hf' hp
     subst this
     exact ⟨(hg i f hf').2.1, (hg i f hf').2.2⟩)
    refine ⟨hcl, _, .struct ((List.range fs.size).map g) hu hpl (fun i f p hf hp => by have := hpg i f p hf hp; subst this; exact (hg i f hf).1), by omega, fun j d hd => ?_⟩
    have := hrow j d hd
    rwa [Nat.zero_add] at this
   | _ => rw [hu] at hpt; cases hpt
def FitsV (P : Program) (t : TypeId) (x : D) : Prop := match P.underlying t with
 | some (.struct _) => ∃ ds, x = .agg ds ∧ Fits P t ds
 | _ => Fits P t [x]
theorem arg_fits {l : List TypeId} (hB : plainB P l = true) {w : World} {base b0 : Nat} {sp : Nat → Bool} {hd : Bool} {Hp : Heap} (hH : ∀ b, Hp.held b = false) {t : TypeId} {v : Value} {d : DataW H} {ps : List MemPlace} (ht : t ∈ l)
  (hval : Value.okWide P w .any b0 t v) (h : DataW.Trod enc P w base sp hd t v d ps) (hw : (d.weights P t).all (· ≤ reachBytes) = true) : ∃ x, FitsV P t x ∧ R w Hp x v := by
 obtain ⟨n, hn⟩ := h
 obtain ⟨h1, ds, h2, h3, h4⟩ := fits_of_trod hB hH n t v.cells.toList (d, ps) ht hn hw
 have hpt : plainT P l t = true := List.all_eq_true.1 hB t ht
 have leaf : (∀ fs, P.underlying t ≠ some (.struct fs)) → v.cells.toList = [v] → ∃ x, FitsV P t x ∧ R w Hp x v := by
  intro hns hv
  rw [hv] at h3 h4
  match ds, h3 with
  | [x], _ =>
   refine ⟨x, ?_, (h4 0 x rfl).2⟩
   unfold FitsV
   split
   ·rename_i fs hfs; exact absurd hfs (hns fs)
   ·exact h2
 cases hu : P.underlying t with
 | none => unfold plainT at hpt; rw [hu] at hpt; cases hpt
 | some u =>
  cases u with
  | bool => obtain ⟨b, rfl⟩ := okWide_bool hu hval; exact leaf (by simp [hu]) rfl
  | int k => obtain ⟨m, rfl⟩ := okWide_int hu hval; exact leaf (by simp [hu]) rfl
  | string => obtain ⟨s, rfl⟩ := okWide_string hu hval; exact leaf (by simp [hu]) rfl
  | slice e => obtain ⟨a, len, cap, rfl⟩ := okWide_slice hu hval; exact leaf (by simp [hu]) rfl
  | struct fs =>
   simp only [Value.okWide, hu] at hval
   obtain ⟨cs, rfl, hsz, _⟩ := hval
   refine ⟨.agg ds, ?_, .agg _ _ (by rw [h3]; rfl) (fun i d hd => (h4 i d hd).1) (fun i d hd => ?_)⟩
   ·unfold FitsV; rw [hu]; exact ⟨ds, rfl, h2⟩
   ·have := (h4 i d hd).2
    have e : (Value.agg cs).cells.toList.getD i Go.undef = cs.getD i Go.undef := by
     show cs.toList.getD i Go.undef = _
     simp
    rwa [e] at this
  | _ => unfold plainT at hpt; rw [hu] at hpt; cases hpt
theorem fits_str {t : TypeId} {ds : List D} (hu : P.underlying t = some .string) (h : Fits P t ds) : ∃ s, ds = [.str s] ∧ s.size ≤ reachBytes := by
 cases h with
 | str s h hs => exact ⟨s, rfl, hs⟩
 | bool b h => rw [hu] at h; cases h
 | int n h => rw [hu] at h; cases h
 | sl es h => rw [hu] at h; cases h
 | struct ps h => rw [hu] at h; cases h
theorem fits_bool {t : TypeId} {ds : List D} (hu : P.underlying t = some .bool) (h : Fits P t ds) : ∃ b, ds = [.bool b] := by
 cases h with
 | bool b h => exact ⟨b, rfl⟩
 | str s h hs => rw [hu] at h; cases h
 | int n h => rw [hu] at h; cases h
 | sl es h => rw [hu] at h; cases h
 | struct ps h => rw [hu] at h; cases h
theorem fits_int {t : TypeId} {k : IntKind} {ds : List D} (hu : P.underlying t = some (.int k)) (h : Fits P t ds) : ∃ n, ds = [.int k n] ∧ (Lit.int k n).wf = true := by
 cases h with
 | int n h hw => rw [hu] at h; cases h; exact ⟨n, rfl, hw⟩
 | bool b h => rw [hu] at h; cases h
 | str s h hs => rw [hu] at h; cases h
 | sl es h => rw [hu] at h; cases h
 | struct ps h => rw [hu] at h; cases h
theorem fits_sl {t e : TypeId} {ds : List D} (hu : P.underlying t = some (.slice e)) (h : Fits P t ds) : ∃ es, ds = [.sl (P.cellsOf e) es] ∧ es.length * P.bytesOf e ≤ reachBytes ∧ ∀ x ∈ es, Fits P e x := by
 cases h with
 | sl es h hl he => rw [hu] at h; cases h; exact ⟨es, rfl, hl, he⟩
 | bool b h => rw [hu] at h; cases h
 | str s h hs => rw [hu] at h; cases h
 | int n h => rw [hu] at h; cases h
 | struct ps h => rw [hu] at h; cases h
theorem fits_struct {t : TypeId} {fs : Array Field} {ds : List D} (hu : P.underlying t = some (.struct fs)) (h : Fits P t ds) : ∃ ps : List (List D), ds = ps.flatten ∧ ps.length = fs.size ∧ ∀ (i : Nat) (f : Field) (p : List D), fs[i]? = some f → ps[i]? = some p → Fits P f.type p := by
 cases h with
 | struct ps h hl hp => rw [hu] at h; cases h; exact ⟨ps, rfl, hl, hp⟩
 | bool b h => rw [hu] at h; cases h
 | str s h hs => rw [hu] at h; cases h
 | int n h => rw [hu] at h; cases h
 | sl es h => rw [hu] at h; cases h
theorem fitsV_leaf {t : TypeId} {x : D} (hn : ∀ fs, P.underlying t ≠ some (.struct fs)) (h : FitsV P t x) : Fits P t [x] := by
 unfold FitsV at h
 split at h
 ·rename_i fs hfs; exact absurd hfs (hn fs)
 ·exact h
theorem fitsV_struct {t : TypeId} {fs : Array Field} {x : D} (hu : P.underlying t = some (.struct fs)) (h : FitsV P t x) : ∃ ds, x = .agg ds ∧ Fits P t ds := by
 unfold FitsV at h
 rw [hu] at h
 exact h
theorem fitsV_sl {t e : TypeId} {x : D} (hu : P.underlying t = some (.slice e)) (h : FitsV P t x) : ∃ es, x = .sl (P.cellsOf e) es ∧ es.length * P.bytesOf e ≤ reachBytes ∧ ∀ y ∈ es, Fits P e y := by
 obtain ⟨s, h1, h2⟩ := fits_sl hu (fitsV_leaf (by simp [hu]) h)
 simp at h1
 exact ⟨s, h1, h2⟩
theorem wf_u8 {n : Int} (h : (Lit.int .u8 n).wf = true) : 0 ≤ n ∧ n ≤ 255 := by
 unfold Lit.wf at h
 rw [Bool.and_eq_true, decide_eq_true_eq, decide_eq_true_eq] at h
 exact h
theorem wf_i64 {n : Int} (h : (Lit.int .i64 n).wf = true) : -9223372036854775808 ≤ n ∧ n ≤ 9223372036854775807 := by
 unfold Lit.wf at h
 rw [Bool.and_eq_true, decide_eq_true_eq, decide_eq_true_eq] at h
 exact h
theorem belowTrodAll (hl : laidOutB P = true) {W W' : World} (hb : Below W.heap.size W W') : ∀ {ts : List TypeId} {vs : List Value} {ds : List (DataW H)} {ps : List MemPlace}, ts.all (fun t => P.readableRec t && decide (t < P.types.size)) = true →
  DataW.TrodAll enc P W 0 (fun _ => true) true ts vs ds ps → (∀ x ∈ ps, x.block < W.heap.size) → DataW.TrodAll enc P W' 0 (fun b => decide (b < W.heap.size)) true ts vs ds ps
 | [], [], [], _, _, h, _ => h
 | [], [], _ :: _, _, _, h, _ => h.elim
 | [], _ :: _, _, _, _, h, _ => h.elim
 | _ :: _, [], _, _, _, h, _ => h.elim
 | _ :: _, _ :: _, [], _, _, h, _ => h.elim
 | t :: ts, v :: vs, d :: ds, ps, ht, h, hlt => by
  obtain ⟨p, q, h1, h2, rfl⟩ := h
  simp only [List.all_cons, Bool.and_eq_true, decide_eq_true_eq] at ht
  exact ⟨p, q, Below.trod hl ht.1.1 ht.1.2 h1 hb (fun x hx => hlt x (List.mem_append_left _ hx)), belowTrodAll hl hb ht.2 h2 (fun x hx => hlt x (List.mem_append_right _ hx)), rfl⟩
theorem laid_at {P : Program} {w : World} : ∀ {l : List (String × DataW Unit)} {ps : List MemPlace}, DataW.LaidVars P w l ps → ∀ n d, (n, d) ∈ l →
  ∃ g t cs fuel p, P.globalNamed n = some g ∧ (P.globals[g]?).map (·.type) = some t ∧ w.var? P n = some cs ∧ DataW.trod (fun _ => ()) P w 0 (fun _ => true) false fuel t cs.toList = some (d, p)
 | [], _, _, n, d, h => by cases h
 | (n0, d0) :: r, ps, h, n, d, hm => by
  obtain ⟨g, t, cs, fuel, p, q, h1, h2, h3, h4, h5, _⟩ := h
  rcases List.mem_cons.1 hm with e | hm
  ·cases e; exact ⟨g, t, cs, fuel, p, h1, h2, h3, h4⟩
  ·exact laid_at h5 n d hm
theorem tab_obj {P : Program} {W : World} {laid : List (String × DataW Unit)} (h : laidMet P laid W) {name : String} {k : IntKind} {zs : List Int} (hm : (name, Lib.tabData k zs) ∈ laid) {g : Nat} {t e : TypeId} {n : Nat}
  (hg : P.globalNamed name = some g) (hty : (P.globals[g]?).map (·.type) = some t) (ht : P.underlying t = some (.array n e)) (he : P.underlying e = some (.int k)) (hce : P.cellsOf e = 1) (hct : P.cellsOf t = n) (Hp : Heap) : ObjOk W Hp g (.ro (tabD k zs)) := by
 obtain ⟨ps, hl, _⟩ := h
 obtain ⟨g', t', cs, fuel, p, hg', ht', hvar, hd⟩ := laid_at hl _ _ hm
 obtain rfl := Option.some.inj (hg.symm.trans hg')
 obtain rfl := Option.some.inj (hty.symm.trans ht')
 have hcs := Lib.cells_of_tab ht he hce hct hd
 unfold World.var? at hvar
 rw [hg] at hvar
 simp only [Option.bind_some] at hvar
 split at hvar
 ·rename_i c T fz hw
  cases hvar
  refine ⟨cs, T, fz, hw, by rw [← Array.length_toList, hcs]; simp [tabD], fun j d hd => ?_⟩
  simp only [tabD, List.getElem?_map, Option.map_eq_some_iff] at hd
  obtain ⟨z, hz, rfl⟩ := hd
  have e : cs.getD j Go.undef = .int k z := by
   rw [show cs.getD j Go.undef = cs.toList.getD j Go.undef by simp, hcs]
   simp [hz]
  rw [e]
  exact ⟨rfl, .int _ _⟩
 ·cases hvar
end
end Go.Av
end
section
set_option maxRecDepth 100000
namespace Go.Proofs.YtmohcdihdhggoaaGreatDoor
open Go Go.Av Go.Lexs Go.Bis
section
open Go.RowKit Go.ChangeShapes Go.WideShapes
theorem law_callsT {H : Type} {enc : TypeId × Value → H} {P : Program} {f : Nat} {fn : Func} {s : ChangeSpec} {W : World} {args : Array Value} {ds gs : List (DataW H)} {before : List MemPlace} {tb : TypeId} (hlaid : laidOutB P = true) (hread : fn.params.toList.all (fun t => P.readableRec t && decide (t < P.types.size)) = true)
  (hv : s.vars = []) (hres : fn.resultTypes = #[tb]) (hb : P.underlying tb = some .bool) (hs : s.fn H ds = { results := [.lit (.bool true)], args := ds })
  (hW : DataW.Whole enc P fn.params.toList s.vars false W args.toList ds gs before) (Hp : Heap) (hH : ∀ b, Hp.held b = false) (hS : Sat Hp W) (xs : List D) (hx : xs.length = args.size) (hR : ∀ (i : Nat) d, xs[i]? = some d → R W Hp d (args.getD i Go.undef))
  (hA : ∀ Q : D → Heap → Prop, Q (.bool true) Hp → ACalls P f xs Hp Q) : Calls P f args W fun e W' => ∃ v, e = .returned v ∧ s.post enc P fn false true false false W args v { W' with os := W.os } ∧ Go.Clock.Later W.os W'.os := by
 have hlt := hW.lt
 have hW0 := hW
 obtain ⟨p, q, hA0, hV, rfl, hfz, hnd⟩ := hW
 rw [hv] at hV
 obtain ⟨rfl, rfl⟩ := trodVars_none hV
 refine ((hA (fun d _ => d = .bool true) rfl).2 W args hx hR hS).mono fun e W' ⟨v, he, d, H', h1, h2, h3, h4, h5⟩ => ⟨v, he, ?_, h3.os ▸ Go.Clock.Later.refl _⟩
 have e1 : { W' with os := W.os } = W' := by rw [← h3.os]
 rw [e1]
 subst h5
 have hbv := h1.bool_inv
 subst hbv
 have hbel : Below W.heap.size W W' := ⟨h3.os, h3.tape, h3.output, h3.size, fun k hk => h3.block k hk (hH k)⟩
 have hs' : s.fn H (ds ++ []) = { results := [.lit (.bool true)], args := ds } := by rw [List.append_nil]; exact hs
 refine ⟨ds, [], p ++ [], [], p, [], hW0, ?_, ?_, ?_, hbel.frame _, fun h => by cases h⟩
 ·rw [hs', hres]
  exact trodAll_mk1 (shut_bool hb true)
 ·rw [hs']
  exact belowTrodAll hlaid hbel hread hA0 (fun x hx => hlt x (by simpa using hx))
 ·rw [hs', hv]
  exact rfl
end
theorem own : ownKnob Tryz.prog.godebug = none := by kernel_rfl
theorem laidOut : laidOutB Tryz.prog = true := by kernel_rfl
def tabs : Heap := fun g => if g = 1 then some (.ro (tabD .u64 Lib.pow10Tab))
 else if g = 4 then some (.ro [.sl 1 (tabR .u16 Lib.goPrintTabs.p16)])
 else if g = 5 then some (.ro [.sl 1 (tabR .u16 Lib.goPrintTabs.n16)])
 else if g = 6 then some (.ro [.sl 1 (tabR .u32 Lib.goPrintTabs.p32)])
 else if g = 7 then some (.ro [.sl 1 (tabR .u16 Lib.goPrintTabs.n32)])
 else if g = 2 then some (.ro (tabD .u8 Lib.firstTab))
 else if g = 3 then some (.ro accT) else none
theorem tabs_ro (b : Nat) (o : Av.Obj) (h : tabs b = some o) : ∃ cs, o = .ro cs := by
 unfold tabs at h
 repeat' (split at h; · cases h; exact ⟨_, rfl⟩)
 cases h
theorem tabs_held (b : Nat) : tabs.held b = false := by
 cases h : tabs b with
 | none => exact held_none h
 | some o =>
  obtain ⟨cs, rfl⟩ := tabs_ro b o h
  rw [held_of h]; rfl
theorem tabs_tabs : Tabs tabs := by
 refine ⟨?_, ?_, ?_, ?_, ?_, ?_, ?_⟩ <;> (unfold tabs; simp only [Nat.reduceEqDiff, if_true, if_false])
theorem tabSl_obj {P : Program} {W : World} {laid : List (String × DataW Unit)} (h : laidMet P laid W) {name : String} {k : IntKind} {l : List Nat} (hm : (name, Lib.sliceData k l) ∈ laid) {g : Nat} {t e : TypeId}
  (hg : P.globalNamed name = some g) (hty : (P.globals[g]?).map (·.type) = some t) (ht : P.underlying t = some (.slice e)) (he : P.underlying e = some (.int k)) (hce : P.cellsOf e = 1) (hl : 0 < l.length) {Hp : Heap} (hh : ∀ b, Hp.held b = false) : ObjOk W Hp g (.ro [.sl 1 (tabR k l)]) := by
 have hreads := Lib.laidMet.reads h hm
 obtain ⟨b, off, cap, hv, hc⟩ := Lib.tabSlice_of_reads hg hty ht he hce hl hreads
 obtain ⟨g', t', cs, fuel, p, hg', hty', hvar, hd⟩ := hreads
 obtain rfl := Option.some.inj (hg.symm.trans hg')
 obtain rfl := Option.some.inj (hty.symm.trans hty')
 have hone : cs.toList.length = 1 ∧ ∃ len cap', l.length ≤ cap' ∧ cs.toList = [.slice len l.length cap'] := by
  rcases DataW.trod_slice ht hd with ⟨_, hx⟩ | ⟨a, len, cap, el, rs, m, rfl, hcs, hx, _, hlc, _, hel, _⟩
  ·cases hx
  ·have e0 := congrArg Prod.fst hx
   simp only [Lib.sliceData, DataW.slice.injEq] at e0
   have hlen : len = l.length := by
    have := congrArg List.length e0.1
    simp at this
    omega
   rw [hlen] at hcs hlc
   exact ⟨by rw [hcs]; rfl, _, _, hlc, hcs⟩
 obtain ⟨h1, a, cap', hcap, hcs⟩ := hone
 unfold World.var? at hvar
 rw [hg] at hvar
 simp only [Option.bind_some] at hvar
 split at hvar
 ·rename_i c T fz hw
  cases hvar
  have hc0 : cs[0]? = some (.slice a l.length cap') := by rw [← Array.getElem?_toList, hcs]; rfl
  have hv2 : W.cell? ⟨g, 0, none⟩ = some (.slice a l.length cap') := by simp only [World.cell?, hw]; exact hc0
  rw [hv] at hv2
  cases hv2
  refine ⟨cs, T, fz, hw, by rw [← Array.length_toList, h1]; rfl, fun j d hd => ?_⟩
  match j, hd with
  | 0, hd =>
   cases hd
   refine ⟨rfl, ?_⟩
   have e : cs.getD 0 Go.undef = .slice (some ⟨b, off, none⟩) l.length cap := by
    have := hc0
    simp only [Array.getD_eq_getD_getElem?, this, Option.getD_some]
   rw [e]
   have hlen : (tabR k l).length = l.length := by simp [tabR]
   have hb : b < W.heap.size := by
    have := hc 0 hl
    unfold World.cell? at this
    cases hbk : W.heap[b]? with
    | none => simp only [hbk] at this; cases this
    | some x => exact (Array.getElem?_eq_some_iff.1 hbk).1
   have hR := R.sl (w := W) (H := Hp) 1 (tabR k l) b off cap (fun i j => .int k (l.getD i 0)) hb (hh b) (fun i e he => by
     simp only [tabR, List.getElem?_map, Option.map_eq_some_iff] at he
     obtain ⟨n, _, rfl⟩ := he; rfl) (by rw [hlen]; exact hcap) (fun i j hi hj => by
     rw [hlen] at hi
     have hj0 : j = 0 := by omega
     subst hj0
     rw [Nat.mul_one, Nat.add_zero]; exact hc i hi) (fun i e j d he hd => by
     simp only [tabR, List.getElem?_map, Option.map_eq_some_iff] at he
     obtain ⟨n, _, rfl⟩ := he
     match j, hd with
     | 0, hd => cases hd; rfl) (fun i e j d he hd => by
     simp only [tabR, List.getElem?_map, Option.map_eq_some_iff] at he
     obtain ⟨n, hn, rfl⟩ := he
     match j, hd with
     | 0, hd =>
      cases hd
      have : l.getD i 0 = n := by simp [List.getD_eq_getElem?_getD, hn]
      rw [this]; exact .int _ _)
   rw [hlen] at hR
   exact hR
  | j + 1, hd => cases hd
 ·cases hvar
theorem acc_obj {P : Program} {W : World} {laid : List (String × DataW Unit)} (h : laidMet P laid W) {name : String} (hm : (name, Lib.acceptData) ∈ laid) {g : Nat} {t e : TypeId} {fs : Array Field}
  (hg : P.globalNamed name = some g) (hty : (P.globals[g]?).map (·.type) = some t) (ht : P.underlying t = some (.array 16 e)) (he : P.underlying e = some (.struct fs)) (hf : ∀ (i : Nat) (f : Field), fs[i]? = some f → P.underlying f.type = some (.int .u8) ∧ f.offset = i ∧ P.cellsOf f.type = 1) (hfs : fs.size = 2) (hce : P.cellsOf e = 2)
  (hsz : ∀ fuel (cs : List Value) d, DataW.trod (fun _ => ()) P W 0 (fun _ => true) false fuel t cs = some d → cs.length = 32) (Hp : Heap) : ObjOk W Hp g (.ro accT) := by
 obtain ⟨g', t', cs, fuel, p, hg', hty', hvar, hd⟩ := Lib.laidMet.reads h hm
 obtain rfl := Option.some.inj (hg.symm.trans hg')
 obtain rfl := Option.some.inj (hty.symm.trans hty')
 have h32 := hsz _ _ _ hd
 unfold World.var? at hvar
 rw [hg] at hvar
 simp only [Option.bind_some] at hvar
 split at hvar
 ·rename_i c T fz hw
  cases hvar
  have hel : ∀ i, i < 16 → (cs.toList.drop (i * 2)).take 2 = [.int .u8 (Lib.accLo i : Int), .int .u8 (Lib.accHi i : Int)] := fun i hi => by
   obtain ⟨fuel', d, q, h1, h2⟩ := Lib.array_elem ht hd i hi
   have hdi : d = .agg ([(Lib.accLo i : Int), (Lib.accHi i : Int)].map fun z => .lit (.int .u8 z)) := by
    rw [List.getElem?_map, List.getElem?_range hi] at h1
    exact (Option.some.inj h1).symm
   rw [hdi, hce] at h2
   exact Lib.ints_of_struct he hf (by rw [hce, hfs]) h2
  refine ⟨cs, T, fz, hw, by rw [← Array.length_toList, h32]; rfl, fun j d hd => ?_⟩
  have hj : j < 32 := by have := (List.getElem?_eq_some_iff.1 hd).1; simpa [accT] using this
  have hd2 : d = .int .u8 (if j % 2 = 0 then (Lib.accLo (j / 2) : Int) else (Lib.accHi (j / 2) : Int)) := by
   unfold accT at hd
   rw [List.getElem?_map, List.getElem?_range hj] at hd
   exact (Option.some.inj hd).symm
  rw [hd2]
  refine ⟨rfl, ?_⟩
  have h3 := congrArg (·[j % 2]?) (hel (j / 2) (by omega))
  simp only [List.getElem?_take_of_lt (show j % 2 < 2 by omega), List.getElem?_drop, show j / 2 * 2 + j % 2 = j by omega] at h3
  have e : cs.getD j Go.undef = .int .u8 (if j % 2 = 0 then (Lib.accLo (j / 2) : Int) else (Lib.accHi (j / 2) : Int)) := by
   have : cs[j]? = some (.int .u8 (if j % 2 = 0 then (Lib.accLo (j / 2) : Int) else (Lib.accHi (j / 2) : Int))) := by
    rw [← Array.getElem?_toList, h3]
    by_cases h0 : j % 2 = 0
    ·rw [h0]; rfl
    ·rw [show j % 2 = 1 by omega]; rfl
   simp only [Array.getD_eq_getD_getElem?, this, Option.getD_some]
  rw [e]
  exact .int _ _
 ·cases hvar
theorem pow_data : (Rows.laid_internal_strconv_uint64pow10 : DataW Unit) = Lib.tabData .u64 Lib.pow10Tab := by kernel_rfl
theorem fst_data : (Rows.laid_unicode_utf8_first : DataW Unit) = Lib.tabData .u8 Lib.firstTab := by kernel_rfl
theorem acc_data : (Rows.laid_unicode_utf8_acceptRanges : DataW Unit) = Lib.acceptData := by kernel_rfl
theorem p16_data : (Rows.laid_strconv_isPrint16 : DataW Unit) = Lib.sliceData .u16 Lib.goPrintTabs.p16 := by kernel_rfl
theorem n16_data : (Rows.laid_strconv_isNotPrint16 : DataW Unit) = Lib.sliceData .u16 Lib.goPrintTabs.n16 := by kernel_rfl
theorem p32_data : (Rows.laid_strconv_isPrint32 : DataW Unit) = Lib.sliceData .u32 Lib.goPrintTabs.p32 := by kernel_rfl
theorem n32_data : (Rows.laid_strconv_isNotPrint32 : DataW Unit) = Lib.sliceData .u16 Lib.goPrintTabs.n32 := by kernel_rfl
theorem arr_len {P : Program} {W : World} {t e : TypeId} {n m : Nat} (ht : P.underlying t = some (.array n e)) (hm : P.cellsOf t = m) (fuel : Nat) (cs : List Value) (d : DataW Unit × List MemPlace) (h : DataW.trod (fun _ => ()) P W 0 (fun _ => true) false fuel t cs = some d) : cs.length = m := by
 cases fuel with
 | zero => simp [DataW.trod] at h
 | succ fuel =>
  simp only [DataW.trod, ht] at h
  split at h
  ·rename_i hl
   rw [← hm]; first | exact hl.1 | exact hl | omega
  ·cases h
theorem tabs_sat {W : World} {laid : List (String × DataW Unit)} (h : laidMet Tryz.prog laid W) (h1 : ("internal/strconv.uint64pow10", (Rows.laid_internal_strconv_uint64pow10 : DataW Unit)) ∈ laid) (h2 : ("strconv.isPrint16", Rows.laid_strconv_isPrint16) ∈ laid) (h3 : ("strconv.isNotPrint16", Rows.laid_strconv_isNotPrint16) ∈ laid) (h4 : ("strconv.isPrint32", Rows.laid_strconv_isPrint32) ∈ laid) (h5 : ("strconv.isNotPrint32", Rows.laid_strconv_isNotPrint32) ∈ laid) (h6 : ("unicode/utf8.first", Rows.laid_unicode_utf8_first) ∈ laid) (h7 : ("unicode/utf8.acceptRanges", (Rows.laid_unicode_utf8_acceptRanges : DataW Unit)) ∈ laid) : Sat tabs W := by
 rw [pow_data] at h1
 rw [p16_data] at h2
 rw [n16_data] at h3
 rw [p32_data] at h4
 rw [n32_data] at h5
 rw [fst_data] at h6
 rw [acc_data] at h7
 intro b o hb
 unfold tabs at hb
 split at hb
 ·rename_i e; cases hb; subst e
  exact tab_obj h h1 (by kernel_rfl) (t := (Tryz.prog.globals[1]?.map (·.type)).getD 0) (by kernel_rfl) (n := 20) (e := 142) (by kernel_rfl) (by kernel_rfl) (by kernel_rfl) (by kernel_rfl) _
 split at hb
 ·rename_i e; cases hb; subst e
  exact tabSl_obj h h2 (by kernel_rfl) (t := (Tryz.prog.globals[4]?.map (·.type)).getD 0) (by kernel_rfl) (e := 193) (by kernel_rfl) (by kernel_rfl) (by kernel_rfl) (by decide) tabs_held
 split at hb
 ·rename_i e; cases hb; subst e
  exact tabSl_obj h h3 (by kernel_rfl) (t := (Tryz.prog.globals[5]?.map (·.type)).getD 0) (by kernel_rfl) (e := 193) (by kernel_rfl) (by kernel_rfl) (by kernel_rfl) (by decide) tabs_held
 split at hb
 ·rename_i e; cases hb; subst e
  exact tabSl_obj h h4 (by kernel_rfl) (t := (Tryz.prog.globals[6]?.map (·.type)).getD 0) (by kernel_rfl) (e := 140) (by kernel_rfl) (by kernel_rfl) (by kernel_rfl) (by decide) tabs_held
 split at hb
 ·rename_i e; cases hb; subst e
  exact tabSl_obj h h5 (by kernel_rfl) (t := (Tryz.prog.globals[7]?.map (·.type)).getD 0) (by kernel_rfl) (e := 193) (by kernel_rfl) (by kernel_rfl) (by kernel_rfl) (by decide) tabs_held
 split at hb
 ·rename_i e; cases hb; subst e
  exact tab_obj h h6 (by kernel_rfl) (t := (Tryz.prog.globals[2]?.map (·.type)).getD 0) (by kernel_rfl) (n := 256) (e := 5) (by kernel_rfl) (by kernel_rfl) (by kernel_rfl) (by kernel_rfl) _
 split at hb
 ·rename_i e; cases hb; subst e
  have hun : Tryz.prog.underlying ((Tryz.prog.globals[3]?.map (·.type)).getD 0) = some (.array 16 191) := by kernel_rfl
  exact acc_obj h h7 (by kernel_rfl) (t := (Tryz.prog.globals[3]?.map (·.type)).getD 0) (by kernel_rfl) hun Tryz.underlying191 (fun i f hf => by
   match i, hf with
   | 0, hf => cases hf; exact ⟨by kernel_rfl, rfl, by kernel_rfl⟩
   | 1, hf => cases hf; exact ⟨by kernel_rfl, rfl, by kernel_rfl⟩
   | i + 2, hf => simp at hf) rfl (by kernel_rfl) (arr_len hun (by kernel_rfl)) _
 ·cases hb
theorem list_six {α : Type} : ∀ (l : List α), l.length = 6 → ∃ a b c d e f, l = [a, b, c, d, e, f]
 | [a, b, c, d, e, f], _ => ⟨a, b, c, d, e, f, rfl⟩
 | [], h => by cases h
 | [_], h => by cases h
 | [_, _], h => by cases h
 | [_, _, _], h => by cases h
 | [_, _, _, _], h => by cases h
 | [_, _, _, _, _], h => by cases h
 | _ :: _ :: _ :: _ :: _ :: _ :: _ :: _, h => by simp at h
theorem list_three {α : Type} : ∀ (l : List α), l.length = 3 → ∃ a b c, l = [a, b, c]
 | [a, b, c], _ => ⟨a, b, c, rfl⟩
 | [], h => by cases h
 | [_], h => by cases h
 | [_, _], h => by cases h
 | _ :: _ :: _ :: _ :: _, h => by simp at h
theorem rw_ex {α : Type} {f : α → List D} {p : α → Prop} : ∀ (es : List (List D)), (∀ x ∈ es, ∃ t, x = f t ∧ p t) → ∃ l : List α, es = Rw f l ∧ ∀ t ∈ l, p t
 | [], _ => ⟨[], rfl, by simp⟩
 | x :: es, h => by
  obtain ⟨t, rfl, ht⟩ := h x (by simp)
  obtain ⟨l, rfl, hl⟩ := rw_ex es (fun y hy => h y (by simp [hy]))
  refine ⟨t :: l, rfl, fun u hu => ?_⟩
  rcases List.mem_cons.1 hu with rfl | hu
  ·exact ht
  ·exact hl u hu
theorem fits_tm (n : Nat) : ∀ (el : List D), SizeOf.sizeOf el ≤ n → Fits Tryz.prog 41 el → ∃ t : Tm, el = tmC t ∧ TmFit t := by
 induction n with
 | zero => intro el hn; cases el <;> simp at hn
 | succ n ih =>
 intro el hn h
 have hre : reachBytes = 140737488351232 := rfl
 have hc : Tryz.prog.cellsOf 41 = 6 := by kernel_rfl
 have hb : Tryz.prog.bytesOf 41 = 96 := by kernel_rfl
 obtain ⟨ps, rfl, hl, hp⟩ := fits_struct Tryz.underlying41 h
 obtain ⟨p0, p1, p2, p3, p4, p5, rfl⟩ := list_six ps hl
 obtain ⟨k, rfl, hk⟩ := fits_int (k := .i64) (by kernel_rfl) (hp 0 _ _ rfl rfl)
 obtain ⟨m, rfl, hm⟩ := fits_int (k := .i64) (by kernel_rfl) (hp 1 _ _ rfl rfl)
 obtain ⟨x, rfl, hx⟩ := fits_str (by kernel_rfl) (hp 2 _ _ rfl rfl)
 obtain ⟨s, rfl, hs⟩ := fits_str (by kernel_rfl) (hp 3 _ _ rfl rfl)
 obtain ⟨es, rfl, he, hes⟩ := fits_sl (e := 41) (by kernel_rfl) (hp 4 _ _ rfl rfl)
 obtain ⟨rs, rfl, hr, hrs⟩ := fits_sl (e := 41) (by kernel_rfl) (hp 5 _ _ rfl rfl)
 rw [hc] at hn ⊢
 rw [hb] at he hr
 simp only [List.flatten_cons, List.flatten_nil, List.singleton_append, List.append_nil, List.cons.sizeOf_spec, List.nil.sizeOf_spec, D.sl.sizeOf_spec, List.cons_append, List.nil_append] at hn ⊢
 obtain ⟨ks, rfl, hks⟩ := rw_ex (f := tmC) (p := TmFit) es (fun y hy => ih y (by have := List.sizeOf_lt_of_mem hy; omega) (hes y hy))
 obtain ⟨qs, rfl, hqs⟩ := rw_ex (f := tmC) (p := TmFit) rs (fun y hy => ih y (by have := List.sizeOf_lt_of_mem hy; omega) (hrs y hy))
 rw [Rw_len] at he hr
 refine ⟨.mk k m x s ks qs, by rw [tmC_mk], .mk _ _ _ _ _ _ (wf_i64 hk) (wf_i64 hm) (by omega) (by omega) (by omega) (by omega) hks hqs⟩
theorem fits_sy {x : D} (h : FitsV Tryz.prog 26 x) : ∃ s : Sy, x = .agg (syC s) ∧ SyFit s := by
 have hre : reachBytes = 140737488351232 := rfl
 obtain ⟨ds, rfl, hv⟩ := fitsV_struct Tryz.underlying26 h
 obtain ⟨ps, rfl, hl, hp⟩ := fits_struct Tryz.underlying26 hv
 obtain ⟨p0, p1, p2, rfl⟩ := list_three ps hl
 obtain ⟨es, rfl, he, hes⟩ := fits_sl (e := 41) (by kernel_rfl) (hp 0 _ _ rfl rfl)
 obtain ⟨fs, rfl, hf, hfs⟩ := fits_sl (e := 4) (by kernel_rfl) (hp 1 _ _ rfl rfl)
 obtain ⟨ns, rfl, hn, hns⟩ := fits_sl (e := 29) (by kernel_rfl) (hp 2 _ _ rfl rfl)
 have c1 : Tryz.prog.cellsOf 41 = 6 := by kernel_rfl
 have c2 : Tryz.prog.cellsOf 4 = 1 := by kernel_rfl
 have c3 : Tryz.prog.cellsOf 29 = 1 := by kernel_rfl
 have c4 : Tryz.prog.cellsOf 3 = 1 := by kernel_rfl
 have b1 : Tryz.prog.bytesOf 41 = 96 := by kernel_rfl
 have b2 : Tryz.prog.bytesOf 4 = 1 := by kernel_rfl
 have b3 : Tryz.prog.bytesOf 29 = 24 := by kernel_rfl
 have b4 : Tryz.prog.bytesOf 3 = 8 := by kernel_rfl
 rw [b1] at he
 rw [b2] at hf
 rw [b3] at hn
 obtain ⟨ss, rfl, hss⟩ := rw_ex (f := tmC) (p := TmFit) es (fun y hy => fits_tm _ y (Nat.le_refl _) (hes y hy))
 obtain ⟨bs, rfl, _⟩ := rw_ex (f := boolC) (p := fun _ => True) fs (fun y hy => by
  obtain ⟨b, rfl⟩ := fits_bool (by kernel_rfl) (hfs y hy)
  exact ⟨b, rfl, trivial⟩)
 obtain ⟨ls, rfl, hls⟩ := rw_ex (f := intsC) (p := fun l => l.length ≤ 17592186043904) ns (fun y hy => by
  obtain ⟨zs, rfl, hz, hzs⟩ := fits_sl (e := 3) (by kernel_rfl) (hns y hy)
  rw [b4] at hz
  rw [c4]
  obtain ⟨l, rfl, _⟩ := rw_ex (f := intC) (p := fun _ => True) zs (fun z hz2 => by
   obtain ⟨n, rfl, _⟩ := fits_int (k := .i64) (by kernel_rfl) (hzs z hz2)
   exact ⟨n, rfl, trivial⟩)
  rw [Rw_len] at hz
  exact ⟨l, rfl, by omega⟩)
 rw [Rw_len] at he hf hn
 rw [c1, c2, c3]
 exact ⟨⟨ss, bs, ls⟩, rfl, by simp only []; omega, by simp only []; omega, by simp only []; omega, hss, hls⟩
theorem plain28 : plainB Tryz.prog [26, 44, 42, 41, 22, 23, 4, 24, 29, 3, 9, 39, 38, 54, 5] = true := by kernel_rfl
end Go.Proofs.YtmohcdihdhggoaaGreatDoor
end
section
set_option maxRecDepth 100000
namespace Go.Proofs.YtmohcdihdhggoaaGreatDoor
open Go Go.Av Go.Lexs Go.Bis
theorem fits_u8s {x : D} (h : FitsV Tryz.prog 54 x) : ∃ ws : List Int, x = .sl 1 (Rw u8C ws) ∧ ∀ z ∈ ws, 0 ≤ z ∧ z ≤ 255 := by
 obtain ⟨es, rfl, _, hes⟩ := fitsV_sl (e := 5) (by kernel_rfl) h
 have c1 : Tryz.prog.cellsOf 5 = 1 := by kernel_rfl
 rw [c1]
 obtain ⟨ws, rfl, hws⟩ := rw_ex (f := u8C) (p := fun z => 0 ≤ z ∧ z ≤ 255) es (fun y hy => by
  obtain ⟨n, rfl, hn⟩ := fits_int (k := .u8) (by kernel_rfl) (hes y hy)
  exact ⟨n, rfl, wf_u8 hn⟩)
 exact ⟨ws, rfl, hws⟩
end Go.Proofs.YtmohcdihdhggoaaGreatDoor
end
section
set_option maxRecDepth 100000
namespace Go.Proofs.YtmohcdihdhggoaaGreatDoor.bisimDoubled
open Go Go.Av Go.Lexs Go.Bis Go.ChangeShapes Go.WideShapes Go.RowKit
theorem lifted (os : Os) (started : os.Started) (H : Type) (enc : TypeId × Value → H) (F : Stop.Interp) :
  ReturnsInHanded { calm := true } Tryz.checked os 8 .any (fun w args => (Rows.bisimDoubledSpec.pre enc Tryz.prog Tryz.f8 Rows.bisimDoubledRow.domain false w args ∧ laidMetH Tryz.prog Rows.bisimDoubledRow.laid w) ∧ sizedMet enc Tryz.prog Tryz.f8 (OpenSpec.ofChange Rows.bisimDoubledSpec) false w args)
   ((OpenSpec.ofChange Rows.bisimDoubledSpec).postWith enc Tryz.prog Tryz.f8 F (outsideKept [.timePasses]) false true false) := by
 refine Go.Clock.returns_of_change (C := Tryz.checked) (X := fun w _ => laidMetH Tryz.prog Rows.bisimDoubledRow.laid w) (fun _ _ _ hh h => h.of_heap hh) own started (by kernel_rfl) Tryz.func8
  (Go.Clock.witness_at (enc := enc) (C := Tryz.checked) (X := fun w _ => laidMetH Tryz.prog Rows.bisimDoubledRow.laid w) (World.laidAll Tryz.prog os Rows.bisimDoubledRow.laid) #[.agg #[.slice none 0 0, .slice none 0 0, .slice none 0 0], .slice none 0 0] 8 (World.laidAll_os _ _ _)
   (World.shaped_of_ZipB (by kernel_rfl) (by kernel_rfl)) (by kernel_rfl) (by kernel_rfl) (by kernel_rfl)
   (by rw [MakeChecks.laidMetH_plain _ _ _ (by kernel_rfl)]; exact laidMet_laidAll _ (by kernel_rfl) (by kernel_rfl))) ?_
 intro W base args ds gs before hval hW _ hsz hL _
 rw [MakeChecks.laidMetH_plain _ _ _ (by kernel_rfl)] at hL
 have hS := tabs_sat hL (by simp [Rows.bisimDoubledRow]) (by simp [Rows.bisimDoubledRow]) (by simp [Rows.bisimDoubledRow]) (by simp [Rows.bisimDoubledRow]) (by simp [Rows.bisimDoubledRow]) (by simp [Rows.bisimDoubledRow]) (by simp [Rows.bisimDoubledRow])
 have hW' := hW
 obtain ⟨p, q, hA0, hV, _, _, _⟩ := hW
 rw [Tryz.params8] at hA0 hval hsz
 obtain ⟨v0, v1, d0, d1, p0, p1, rfl, rfl, rfl, h0, h1⟩ := trodAll_two hA0
 obtain ⟨rfl, rfl⟩ := trodVars_none hV
 obtain ⟨x0, k0, r0⟩ := arg_fits plain28 tabs_held (by simp) (hval 0 _ _ rfl rfl) h0 (weightsEach_at hsz 0 _ _ rfl rfl)
 obtain ⟨x1, k1, r1⟩ := arg_fits plain28 tabs_held (by simp) (hval 1 _ _ rfl rfl) h1 (weightsEach_at hsz 1 _ _ rfl rfl)
 obtain ⟨x, rfl, fx⟩ := fits_sy k0
 obtain ⟨ws, rfl, hws⟩ := fits_u8s k1
 have hre : reachBytes = 140737488351232 := rfl
 refine law_callsT laidOut (by kernel_rfl) rfl (tb := 4) (by kernel_rfl) (by kernel_rfl) rfl hW' tabs tabs_held hS [.agg (syC x), .sl 1 (Rw u8C ws)] rfl (fun i d hd => ?_) (fun Q hQ => lawDoubled_a x ws fx hws _ tabs_tabs hQ)
 match i, hd with
 | 0, hd => simp at hd; subst hd; exact r0
 | 1, hd => simp at hd; subst hd; exact r1
 | i + 2, hd => simp at hd
theorem said : Rows.BisimDoubledSaid :=
 Go.Clock.holds_of_wide_time 8 Tryz.f8 rfl rfl rfl rfl rfl rfl rfl ⟨rfl, rfl, rfl, rfl, rfl⟩ rfl rfl rfl rfl rfl (by kernel_rfl) Tryz.func8 (by kernel_rfl)
  (of_decide_eq_true (by kernel_rfl)) (by unfold Func.isWrapper; first | (rw [if_pos (by decide +kernel)]; kernel_rfl) | (rw [if_neg (by decide +kernel)]; exact ⟨rfl, rfl⟩))
  (fun os started H enc _ F => lifted os started H enc F)
theorem plain (f : FuncId) (fn : Func) (hf : Tryz.pinned.checked.prog.funcNamed "voussoir/voussoirlaw28.BisimDoubled" = some f) (hfn : Tryz.pinned.checked.prog.funcs[f]? = some fn) :
  false = Tryz.pinned.checked.prog.looks [] ∧ ∀ (j : Nat) t, fn.params[j]? = some t → Tryz.pinned.checked.prog.wantsStandIn t = false := by
 obtain rfl : f = 8 := Option.some.inj ((show Tryz.prog.funcNamed "voussoir/voussoirlaw28.BisimDoubled" = some 8 by kernel_rfl).symm.trans hf) |>.symm
 obtain rfl : fn = Tryz.f8 := (Option.some.inj (Tryz.func8.symm.trans hfn)).symm
 refine ⟨by kernel_rfl, fun j t ht => ?_⟩
 have hall : ((Tryz.f8.params.toList).all fun u => !Tryz.prog.wantsStandIn u) = true := by kernel_rfl
 have := List.all_eq_true.1 hall t (by rw [Array.mem_toList_iff]; exact Array.mem_of_getElem? ht)
 exact (by simpa using this : Tryz.prog.wantsStandIn t = false)
theorem card : Rows.BisimDoubledCardSaid :=
 Claim7.holds_tied_plain_at .later [] _ _ _ _ said (fun _ h => by cases h) (by kernel_rfl) (fun _ h => by cases h) bisimDoubled_row_tie rfl ⟨rfl, rfl⟩ (by kernel_rfl) rfl plain (by kernel_rfl)
end Go.Proofs.YtmohcdihdhggoaaGreatDoor.bisimDoubled
namespace Go.Proofs.YtmohcdihdhggoaaGreatDoor
theorem bisimDoubled_holds : Rows.BisimDoubledCardSaid := bisimDoubled.card
end Go.Proofs.YtmohcdihdhggoaaGreatDoor
end
