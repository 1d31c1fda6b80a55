/- What a row hands the disk's laws. -/
import Derived.Test.YtpekdeeagnfecaaRows
import Derived.Test.YtpekdeeagnfecaaL4
import Derived.ProofKit
import Derived.SizedLaws
namespace Go.Proofs.Ytpekdeeagnfecaa
open Go Go.Proofs Go.Proofs.Ytpekdeeagnfecaa.V
open Go.ChangeShapes Go.WideShapes Go.ChangeAt Go.RowKit
theorem Try.own : ownKnob Try.prog.godebug = none := by kernel_rfl
theorem Try.laidOut : laidOutB Try.prog = true := by kernel_rfl
theorem cells33 : Try.prog.cellsOf 33 = 4 := by kernel_rfl
theorem cells31 : Try.prog.cellsOf 31 = 1 := by kernel_rfl
theorem cells3 : Try.prog.cellsOf 3 = 1 := by kernel_rfl
theorem cells5 : Try.prog.cellsOf 5 = 1 := by kernel_rfl
theorem bytes5 : Try.prog.bytesOf 5 = 1 := by kernel_rfl
theorem bytes33 : Try.prog.bytesOf 33 = 48 := by kernel_rfl

section
variable {H : Type} {enc : TypeId × Value → H} {w : World} {base : Nat} {sp : Nat → Bool} {hd : Bool} {fuel : Nat} {cs : List Value} {x : DataW H × List MemPlace}

set_option maxRecDepth 100000 in
/-- A call that is read. -/
theorem read_op (h : DataW.trod enc Try.prog w base sp hd fuel 33 cs = some x) (hz : Sz Try.prog 33 x.1) :
    ∃ (o : Op) (a : Option Addr) (l c : Nat), cs = [.int .i64 o.act, .int .i64 o.i, .int .i64 o.n, .slice a l c] ∧ BytesAt w.heap a l o.b ∧ o.n ≤ 9223372036854775807 := by
  obtain ⟨hl, m, _, hx⟩ := trod_st Try.underlying33 h hz
  rw [cells33] at hl
  match cs, hl with
  | [c0, c1, c2, c3], _ =>
    obtain ⟨y0, h0, z0⟩ := hx 0 _ rfl
    obtain ⟨y1, h1, z1⟩ := hx 1 _ rfl
    obtain ⟨y2, h2, z2⟩ := hx 2 _ rfl
    obtain ⟨y3, h3, z3⟩ := hx 3 _ rfl
    replace h0 : DataW.trod enc Try.prog w base sp hd m 3 ([c0, c1, c2, c3].take (Try.prog.cellsOf 3)) = some y0 := h0
    replace h1 : DataW.trod enc Try.prog w base sp hd m 3 ([c1, c2, c3].take (Try.prog.cellsOf 3)) = some y1 := h1
    replace h2 : DataW.trod enc Try.prog w base sp hd m 3 ([c2, c3].take (Try.prog.cellsOf 3)) = some y2 := h2
    replace h3 : DataW.trod enc Try.prog w base sp hd m 31 ([c3].take (Try.prog.cellsOf 31)) = some y3 := h3
    rw [cells3] at h0 h1 h2
    rw [cells31] at h3
    obtain ⟨n0, e0, _⟩ := trod_int Try.underlying3 h0
    obtain ⟨n1, e1, _⟩ := trod_int Try.underlying3 h1
    obtain ⟨n2, e2, f2⟩ := trod_int Try.underlying3 h2
    obtain ⟨a, l, c, b, e3, hb⟩ := trod_bytes Try.underlying31 Try.underlying5 cells5 bytes5 h3 z3
    simp only [List.drop_zero, List.drop_succ_cons, List.take_succ_cons, List.take_zero, List.cons.injEq, and_true] at e0 e1 e2 e3
    subst e0 e1 e2 e3
    exact ⟨⟨n0, n1, n2, b⟩, a, l, c, rfl, hb, f2.2⟩

/-- A script that is read. -/
theorem read_ops (h : DataW.trod enc Try.prog w base sp hd fuel 22 cs = some x) (hz : Sz Try.prog 22 x.1) :
    ∃ (a : Option Addr) (l c : Nat) (ops : List Op), cs = [.slice a l c] ∧ OpsAt w.heap a l ops := by
  obtain ⟨a, l, c, rfl, hb, _, _, m, _, hx⟩ := trod_sl Try.underlying22 h hz
  have h1 : ∀ i, i < l → ∃ o : Op, ∃ ad, a = some ad ∧ OpAt w.heap (ad.add (i * 4)) o := by
    intro i hi
    obtain ⟨ad, e, cs', y, hl, hc, ht, hz'⟩ := hx i hi
    rw [cells33] at hc hl
    obtain ⟨o, a', l', c', rfl, hb', hn⟩ := read_op ht hz'
    have hz0 : ∀ q : Addr, q.add 0 = q := fun q => by simp [Addr.add]
    refine ⟨o, ad, e, ?_, ?_, ?_, ⟨a', l', c', ?_, hb'⟩, hn⟩
    · have := hc 0 (by omega); rw [hz0] at this; exact this
    · exact hc 1 (by omega)
    · exact hc 2 (by omega)
    · exact hc 3 (by omega)
  have h2 : ∃ f : Nat → Op, ∀ i, i < l → ∃ ad, a = some ad ∧ OpAt w.heap (ad.add (i * 4)) (f i) :=
    ⟨fun i => if hi : i < l then Classical.choose (h1 i hi) else ⟨0, 0, 0, ⟨#[]⟩⟩, fun i hi => by simp only [dif_pos hi]; exact Classical.choose_spec (h1 i hi)⟩
  obtain ⟨f, hf⟩ := h2
  refine ⟨a, l, c, (List.range l).map f, rfl, ⟨by simp, ?_, fun i o hi => ?_⟩⟩
  · rw [bytes33] at hb; omega
  · rw [List.getElem?_map, Option.map_eq_some_iff] at hi
    obtain ⟨j, hj, rfl⟩ := hi
    obtain ⟨hlt, rfl⟩ := List.getElem?_eq_some_iff.1 hj
    simp only [List.length_range] at hlt
    rw [List.getElem_range]
    exact hf i hlt
end

theorem sz_of {H : Type} {P : Program} {ts : List TypeId} {ds : List (DataW H)} (h : (DataW.weightsEach P ts ds).all (· ≤ reachBytes) = true) {j : Nat} {t : TypeId} {d : DataW H} (ht : ts[j]? = some t) (hd : ds[j]? = some d) : Sz P t d := fun n hn => by
  have := List.all_eq_true.1 h _ (DataW.weights_mem_each ht hd n hn)
  simpa using this
end Go.Proofs.Ytpekdeeagnfecaa
