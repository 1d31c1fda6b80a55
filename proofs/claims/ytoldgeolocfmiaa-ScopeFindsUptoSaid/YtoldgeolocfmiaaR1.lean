/- Nodes, as a row reads them. -/
import Derived.Test.YtoldgeolocfmiaaS14
import Derived.Test.YtoldgeolocfmiaaRows
import Derived.HandedShaped
import Derived.JoinedCond
import Derived.OpenShut
import Derived.ProofKit
namespace Go.Proofs.Ytoldgeolocfmiaa
open Go Go.Proofs Go.Proofs.Ytoldgeolocfmiaa.V Go.ChangeShapes Go.WideShapes
/-! ## Nodes, as a row reads them -/

theorem bulk_pos {H : Type} (d : DataW H) : 1 ≤ Rows.uptoBulk d := by
  cases d with
  | lit l => cases l <;> simp [Rows.uptoBulk]
  | _ => simp [Rows.uptoBulk]
theorem bulk_part {H : Type} {d : DataW H} : ∀ {l : List (DataW H)}, d ∈ l → Rows.uptoBulk d ≤ Rows.uptoBulkAll l
  | [], h => by cases h
  | x :: r, h => by
    simp only [Rows.uptoBulkAll]
    rcases List.mem_cons.1 h with rfl | h
    · omega
    · have := bulk_part h; omega
theorem bulk_length {H : Type} : ∀ (l : List (DataW H)), l.length ≤ Rows.uptoBulkAll l
  | [] => by simp
  | x :: r => by have := bulk_pos x; have := bulk_length r; simp only [Rows.uptoBulkAll, List.length_cons]; omega
theorem add_zero' (q : Addr) : q.add 0 = q := by simp [Addr.add]
theorem cellsN : Try.prog.cellsOf 26 = 6 := by kernel_rfl
theorem cellsI : Try.prog.cellsOf 3 = 1 := by kernel_rfl
theorem cellsL : Try.prog.cellsOf 2 = 1 := by kernel_rfl
theorem cellsS : Try.prog.cellsOf 9 = 1 := by kernel_rfl
theorem cellsSS : Try.prog.cellsOf 23 = 1 := by kernel_rfl
theorem cellsNN : Try.prog.cellsOf 24 = 1 := by kernel_rfl
theorem undI : Try.prog.underlying 3 = some (.int .i64) := by kernel_rfl
theorem undL : Try.prog.underlying 2 = some (.int .i64) := by kernel_rfl
theorem undS : Try.prog.underlying 9 = some .string := by kernel_rfl
theorem undSS : Try.prog.underlying 23 = some (.slice 9) := by kernel_rfl
theorem undNN : Try.prog.underlying 24 = some (.slice 26) := by kernel_rfl

section
variable {H : Type} {enc : TypeId × Value → H} {w : World} {base : Nat} {sp : Nat → Bool} {hd : Bool}

theorem read_strs {fuel : Nat} {cs : List Value} {x : DataW H × List MemPlace} (h : DataW.trod enc Try.prog w base sp hd fuel 23 cs = some x) :
    ∃ (a : Option Addr) (l c : Nat) (L : List ByteArray), cs = [.slice a l c] ∧ StrsAt w.heap a l L ∧ L.length ≤ Rows.uptoBulk x.1 ∧ (∀ s ∈ L, s.size ≤ Rows.uptoBulk x.1) ∧ l ≤ c := by
  rcases DataW.trod_slice undSS h with ⟨h1, _⟩ | ⟨a, len, cap, elems, rest, n, hfu, rfl, hx, hb, hl, hm, hlen, hel, _⟩
  · exact ⟨none, 0, 0, [], h1, StrsAt.nil _ _, by simp, fun s h => (by cases h), Nat.le_refl _⟩
  · have hone : ∀ i, i < len → ∃ s : ByteArray, cl w.heap (a.add i) = some (.string s) ∧ s.size + 1 ≤ Rows.uptoBulkAll (elems.map (·.1)) := by
      intro i hi
      have h1 := hel i hi
      rw [List.getElem?_eq_getElem (by omega), cellsS, Nat.mul_one] at h1
      obtain ⟨cs', h2, h3⟩ := Option.bind_eq_some_iff.1 h1
      obtain ⟨_, h4, h5⟩ := World.cells?_some h2
      obtain ⟨s, rfl, he, _⟩ := DataW.trod_string undS h3
      refine ⟨s, ?_, ?_⟩
      · have := h5 0 (by omega)
        rw [add_zero'] at this; exact this
      · have hmem : (elems[i]'(by omega)).1 ∈ elems.map (·.1) := List.mem_map.2 ⟨_, List.getElem_mem _, rfl⟩
        have := bulk_part hmem
        rw [he] at this
        simp only [Rows.uptoBulk, Array.length_toList] at this
        exact this
    have hex : ∃ f : Nat → ByteArray, ∀ i, i < len → cl w.heap (a.add i) = some (.string (f i)) ∧ (f i).size + 1 ≤ Rows.uptoBulkAll (elems.map (·.1)) :=
      ⟨fun i => if hi : i < len then Classical.choose (hone i hi) else ⟨#[]⟩, fun i hi => by simp only [dif_pos hi]; exact Classical.choose_spec (hone i hi)⟩
    obtain ⟨f, hf⟩ := hex
    have hbx : Rows.uptoBulkAll (elems.map (·.1)) ≤ Rows.uptoBulk x.1 := by rw [hx]; simp only [Rows.uptoBulk]; omega
    have hle := bulk_length (elems.map (·.1))
    rw [List.length_map] at hle
    refine ⟨some a, len, cap, (List.range len).map f, rfl, ⟨by simp, fun i s hi => ?_⟩, by simp; omega, fun s hs => ?_, hl⟩
    · rw [List.getElem?_map, Option.map_eq_some_iff] at hi
      obtain ⟨j, hj, rfl⟩ := hi
      obtain ⟨hlt, e⟩ := List.getElem?_eq_some_iff.1 hj
      simp only [List.getElem_range] at e
      subst e
      simp only [List.length_range] at hlt
      exact ⟨a, rfl, (hf i hlt).1⟩
    · obtain ⟨i, hi, rfl⟩ := List.mem_map.1 hs
      have := (hf i (List.mem_range.1 hi)).2
      omega

theorem sizes_le : ∀ {ks : List ND} {ds : List (DataW H)}, ks.length = ds.length → (∀ (i : Nat) (k : ND) (d : DataW H), ks[i]? = some k → ds[i]? = some d → k.size ≤ Rows.uptoBulk d) → ND.sizeAll ks ≤ Rows.uptoBulkAll ds
  | [], _, _, _ => by simp [ND.sizeAll]
  | k :: ks, [], h, _ => by simp at h
  | k :: ks, d :: ds, h, hp => by
    have h1 := hp 0 k d rfl rfl
    have h2 := sizes_le (ks := ks) (ds := ds) (by simpa using h) fun i k' d' hk hd => hp (i + 1) k' d' (by simpa using hk) (by simpa using hd)
    simp only [ND.sizeAll, Rows.uptoBulkAll]
    omega

theorem read_nodes_of {n : Nat} (ih : ∀ {cs : List Value} {x : DataW H × List MemPlace}, DataW.trod enc Try.prog w base sp hd n 26 cs = some x → ∃ (v : NV) (k : ND), cs = v.cells.toList ∧ NodeAt w.heap v k ∧ k.size ≤ Rows.uptoBulk x.1 ∧ (Rows.uptoBulk x.1 ≤ 1099511627776 → k.Str))
    {cs : List Value} {x : DataW H × List MemPlace} (h : DataW.trod enc Try.prog w base sp hd (n + 1) 24 cs = some x) :
    ∃ (a : Option Addr) (l c : Nat) (L : List ND), cs = [.slice a l c] ∧ NodesAt w.heap a l L ∧ ND.sizeAll L + 1 ≤ Rows.uptoBulk x.1 ∧ (Rows.uptoBulk x.1 ≤ 1099511627776 → ND.StrAll L) ∧ l ≤ c := by
  rcases DataW.trod_slice undNN h with ⟨h1, h2⟩ | ⟨a, len, cap, elems, rest, m, hfu, rfl, hx, hb, hl, hm, hlen, hel, _⟩
  · exact ⟨none, 0, 0, [], h1, nodes0 _ _, by rw [h2]; simp [ND.sizeAll, Rows.uptoBulk], fun _ => trivial, Nat.le_refl _⟩
  · obtain rfl : n = m := by omega
    have hone : ∀ i, i < len → ∃ (v : NV) (k : ND), NVAt w.heap (a.add (i * 6)) v ∧ NodeAt w.heap v k ∧ ∃ d, (elems.map (·.1))[i]? = some d ∧ k.size ≤ Rows.uptoBulk d ∧ (Rows.uptoBulk d ≤ 1099511627776 → k.Str) := by
      intro i hi
      have h1 := hel i hi
      rw [List.getElem?_eq_getElem (by omega), cellsN] at h1
      obtain ⟨cs', h2, h3⟩ := Option.bind_eq_some_iff.1 h1
      obtain ⟨_, h4, h5⟩ := World.cells?_some h2
      obtain ⟨v, k, rfl, hn, hs, hst⟩ := ih h3
      refine ⟨v, k, ⟨?_, ?_, ?_, ?_, ?_, ?_⟩, hn, _, by rw [List.getElem?_map, List.getElem?_eq_getElem (by omega)]; rfl, hs, hst⟩
      · have := h5 0 (by omega); rw [add_zero'] at this; exact this
      · exact h5 1 (by omega)
      · exact h5 2 (by omega)
      · exact h5 3 (by omega)
      · exact h5 4 (by omega)
      · exact h5 5 (by omega)
    have hex : ∃ f : Nat → ND, ∀ i, i < len → ∃ v : NV, NVAt w.heap (a.add (i * 6)) v ∧ NodeAt w.heap v (f i) ∧ ∃ d, (elems.map (·.1))[i]? = some d ∧ (f i).size ≤ Rows.uptoBulk d ∧ (Rows.uptoBulk d ≤ 1099511627776 → (f i).Str) :=
      ⟨fun i => if hi : i < len then Classical.choose (Classical.choose_spec (hone i hi)) else leaf 0 ⟨#[]⟩, fun i hi => by
        simp only [dif_pos hi]; exact ⟨_, Classical.choose_spec (Classical.choose_spec (hone i hi))⟩⟩
    obtain ⟨f, hf⟩ := hex
    have hget : ∀ i k, ((List.range len).map f)[i]? = some k → i < len ∧ k = f i := fun i k hi => by
      rw [List.getElem?_map, Option.map_eq_some_iff] at hi
      obtain ⟨j, hj, rfl⟩ := hi
      obtain ⟨hlt, e⟩ := List.getElem?_eq_some_iff.1 hj
      simp only [List.getElem_range] at e
      simp only [List.length_range] at hlt
      exact ⟨hlt, by rw [e]⟩
    have hbx : Rows.uptoBulkAll (elems.map (·.1)) + 1 ≤ Rows.uptoBulk x.1 := by rw [hx]; simp only [Rows.uptoBulk]; omega
    refine ⟨some a, len, cap, (List.range len).map f, rfl, ⟨by simp, fun i k hi => ?_⟩, ?_, fun hbd => ND.strAll_of fun k hk => ?_, hl⟩
    · obtain ⟨hlt, rfl⟩ := hget i k hi
      obtain ⟨v, h1, h2, _⟩ := hf i hlt
      exact ⟨a, v, rfl, h1, h2⟩
    · have := sizes_le (ks := (List.range len).map f) (ds := elems.map (·.1)) (by simp [hlen]) fun i k d hi hd => by
        obtain ⟨hlt, rfl⟩ := hget i k hi
        obtain ⟨v, _, _, d', e, hs, _⟩ := hf i hlt
        rw [hd] at e; cases e; exact hs
      omega
    · obtain ⟨i, hi⟩ := List.getElem?_of_mem hk
      obtain ⟨hlt, rfl⟩ := hget i k hi
      obtain ⟨v, _, _, d', e, _, hst⟩ := hf i hlt
      have := bulk_part (List.mem_of_getElem? e)
      exact hst (by omega)

set_option maxRecDepth 100000 in
theorem read_node : ∀ (fuel : Nat) {cs : List Value} {x : DataW H × List MemPlace}, DataW.trod enc Try.prog w base sp hd fuel 26 cs = some x →
    ∃ (v : NV) (k : ND), cs = v.cells.toList ∧ NodeAt w.heap v k ∧ k.size ≤ Rows.uptoBulk x.1 ∧ (Rows.uptoBulk x.1 ≤ 1099511627776 → k.Str)
  | 0, cs, x, h => by simp [DataW.trod] at h
  | fuel + 1, cs, x, h => by
    obtain ⟨xs, n, hf, hx, hl, hn, hall⟩ := DataW.trod_struct Try.underlying26 h
    obtain rfl : fuel = n := by omega
    rw [cellsN] at hl
    match cs, hl, xs, hn with
    | [c0, c1, c2, c3, c4, c5], _, [x0, x1, x2, x3, x4, x5], _ =>
      have h0 := hall 0 _ rfl
      have h1 := hall 1 _ rfl
      have h2 := hall 2 _ rfl
      have h3 := hall 3 _ rfl
      have h4 := hall 4 _ rfl
      have h5 := hall 5 _ rfl
      replace h0 : DataW.trod enc Try.prog w base sp hd fuel 3 ([c0, c1, c2, c3, c4, c5].take (Try.prog.cellsOf 3)) = some x0 := h0
      replace h1 : DataW.trod enc Try.prog w base sp hd fuel 9 ([c1, c2, c3, c4, c5].take (Try.prog.cellsOf 9)) = some x1 := h1
      replace h2 : DataW.trod enc Try.prog w base sp hd fuel 2 ([c2, c3, c4, c5].take (Try.prog.cellsOf 2)) = some x2 := h2
      replace h3 : DataW.trod enc Try.prog w base sp hd fuel 9 ([c3, c4, c5].take (Try.prog.cellsOf 9)) = some x3 := h3
      replace h4 : DataW.trod enc Try.prog w base sp hd fuel 23 ([c4, c5].take (Try.prog.cellsOf 23)) = some x4 := h4
      replace h5 : DataW.trod enc Try.prog w base sp hd fuel 24 ([c5].take (Try.prog.cellsOf 24)) = some x5 := h5
      rw [cellsI] at h0
      rw [cellsS] at h1 h3
      rw [cellsL] at h2
      rw [cellsSS] at h4
      rw [cellsNN] at h5
      obtain ⟨n0, e0, _⟩ := trod_int undI h0
      obtain ⟨s1, e1, b1, _⟩ := DataW.trod_string undS h1
      obtain ⟨n2, e2, _⟩ := trod_int undL h2
      obtain ⟨s3, e3, b3, _⟩ := DataW.trod_string undS h3
      obtain ⟨a4, l4, k4, L4, e4, hs4, hb4, hz4, hc4⟩ := read_strs h4
      cases fuel with
      | zero => simp [DataW.trod] at h5
      | succ m =>
        obtain ⟨a5, l5, k5, L5, e5, hs5, hb5, hz5, hc5⟩ := read_nodes_of (n := m) (fun h => read_node m h) h5
        simp only [List.take_succ_cons, List.take_zero, List.cons.injEq, and_true] at e0 e1 e2 e3 e4 e5
        subst e0 e1 e2 e3 e4 e5
        have hbx : Rows.uptoBulk x.1 = Rows.uptoBulk x0.1 + (s1.size + 1) + Rows.uptoBulk x2.1 + (s3.size + 1) + Rows.uptoBulk x4.1 + Rows.uptoBulk x5.1 + 1 := by
          rw [hx]
          simp only [List.map_cons, List.map_nil, Rows.uptoBulk, Rows.uptoBulkAll, b1, b3, Array.length_toList]
          show _ + (s1.size + 1 + _) + 1 = _
          simp only [ByteArray.size]
          omega
        refine ⟨⟨n0, s1, n2, s3, a4, l4, k4, a5, l5, k5⟩, .mk n0 s1 n2 s3 L4 L5, rfl, NodeAt.make (x := ⟨n0, s1, n2, s3, a4, l4, k4, a5, l5, k5⟩) hs4 hs5, ?_, fun hbd => ?_⟩
        · rw [ND.size_eq]
          simp only [ND.l, ND.names]
          omega
        · simp only [ND.Str]
          exact ⟨by omega, by omega, fun s hs => by have := hz4 s hs; omega, hz5 (by omega)⟩
theorem read_nodes {fuel : Nat} {cs : List Value} {x : DataW H × List MemPlace} (h : DataW.trod enc Try.prog w base sp hd fuel 24 cs = some x) :
    ∃ (a : Option Addr) (l c : Nat) (L : List ND), cs = [.slice a l c] ∧ NodesAt w.heap a l L ∧ ND.sizeAll L + 1 ≤ Rows.uptoBulk x.1 ∧ (Rows.uptoBulk x.1 ≤ 1099511627776 → ND.StrAll L) ∧ l ≤ c := by
  cases fuel with
  | zero => simp [DataW.trod] at h
  | succ m => exact read_nodes_of (n := m) (fun h => read_node m h) h
end
end Go.Proofs.Ytoldgeolocfmiaa
