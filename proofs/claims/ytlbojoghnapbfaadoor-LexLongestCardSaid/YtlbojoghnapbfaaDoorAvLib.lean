/- Av: from the kit's contracts ('Calls', 'Below') to calls on abstract values. -/
import Derived.Test.YtlbojoghnapbfaaDoorAvSimp
import Derived.Lib.ConvBytes
import Derived.Lib.LaidTab
import Derived.Sort.Grow
import Derived.Deep.Draws
set_option linter.unusedVariables false
set_option linter.unusedSimpArgs false
namespace Go.Av
open Go.RowKit

theorem ext_below {H : Heap} {w w' : World} (h : Below w.heap.size w w') : Ext H w w' :=
  ⟨h.os, h.tape, h.output, h.size, fun k hk _ => h.block k hk, fun k hk => by unfold World.shape?; rw [h.block k hk]⟩

theorem sat_below {H : Heap} {w w' : World} (hs : Sat H w) (h : Below w.heap.size w w') : Sat H w' := fun b o hb =>
  (hs b o hb).mono (ext_below h) (From.refl _ _) (h.block b (hs.lt hb))

theorem acalls_kit {P : Program} {f : Nat} {args : List D} {H : Heap} {Q : D → Heap → Prop} {r : D} (hb : bodied P f = true)
    (h : ∀ w (vs : Array Value), args.length = vs.size → (∀ (i : Nat) d, args[i]? = some d → R w H d (vs.getD i Go.undef)) → Sat H w → Calls P f vs w fun e w' => ∃ v, e = .returned v ∧ Below w.heap.size w w' ∧ R w' H r v)
    (hq : Q r H) : ACalls P f args H Q :=
  ⟨hb, fun w vs h1 h2 h3 => (h w vs h1 h2 h3).mono fun e w' ⟨v, he, hB, hR⟩ => ⟨v, he, r, H, hR, sat_below h3 hB, ext_below hB, From.refl _ _, hq⟩⟩

theorem args1 {w : World} {H : Heap} {d : D} {vs : Array Value} (hl : [d].length = vs.size) (hr : ∀ (i : Nat) d', [d][i]? = some d' → R w H d' (vs.getD i Go.undef)) : ∃ a, vs = #[a] ∧ R w H d a := by
  obtain ⟨l⟩ := vs
  match l, hl with
  | [a], _ => exact ⟨a, rfl, by simpa using hr 0 d rfl⟩

theorem args2 {w : World} {H : Heap} {d e : D} {vs : Array Value} (hl : [d, e].length = vs.size) (hr : ∀ (i : Nat) d', [d, e][i]? = some d' → R w H d' (vs.getD i Go.undef)) : ∃ a b, vs = #[a, b] ∧ R w H d a ∧ R w H e b := by
  obtain ⟨l⟩ := vs
  match l, hl with
  | [a, b], _ => exact ⟨a, b, rfl, by simpa using hr 0 d rfl, by simpa using hr 1 e rfl⟩

/-- A table: numbers of one kind. -/
def tabD (k : IntKind) (zs : List Int) : List D := zs.map (D.int k)

theorem tabIs_of {P : Program} {w : World} {H : Heap} {name : String} {g : Nat} {k : IntKind} {zs : List Int} (hg : P.globalNamed name = some g) (hs : Sat H w) (h : H g = some (.ro (tabD k zs))) : Lib.TabIs P w name k zs := by
  obtain ⟨c, T, fz, h1, h2, h3⟩ := hs g _ h
  unfold Lib.TabIs World.var?
  rw [hg]
  simp only [Option.bind_some, h1, Option.some.injEq]
  apply Array.ext
  · simpa [tabD] using h2
  · intro i hi1 hi2
    simp at hi2
    have := (h3 i (.int k zs[i]) (by simp [tabD, hi2])).2
    have e := this.int_inv
    simp [hi1] at e
    simp [e]

theorem below_grow (w : World) (k : Nat) (os : Array Go.Obj) : Below w.heap.size w (Sort.grow (w.drewN k) os) :=
  ⟨rfl, rfl, rfl, by simp [Sort.grow, World.drewN], fun i hi => by
    have : (w.drewN k).heap = w.heap := rfl
    simp only [Sort.grow, this]
    rw [Array.getElem?_append, if_pos hi]⟩
theorem below_bytes (w : World) (e : TypeId) (s : ByteArray) : Below w.heap.size w (Lib.bytesWorld w e s) :=
  ⟨rfl, rfl, rfl, by rw [Lib.bytesWorld_size]; omega, fun i hi => Lib.bytesWorld_at_old w e s i hi⟩
end Go.Av
