/- Lists of strings, sorted; no string twice. -/
import Derived.Test.YtoldgeolocfmiaaS7
import Derived.Test.YtoldgeolocfmiaaLay
import Derived.Shelf.Slices.CompactS
import Derived.Shelf.Slices.Cells
import Derived.Ground.SlgmProg
import Derived.Shelf.SortM.Plain
import Derived.Shelf.SortM.SortNone
import Derived.Sort.OwnSorted
import Derived.Sort.KeysCollected
import Derived.Lib.SlicesCompact
namespace Go.Proofs.Ytoldgeolocfmiaa
open Go Go.Proofs Go.Shelf Go.RowKit Go.Sort Go.Proofs.Ytoldgeolocfmiaa.V
/-! ## Frames across a range over a function -/
namespace V

theorem Laid.frm {h h0 : Heap} {l : Nat} (hl : Laid h l h0) : Frm [] h h0 ∧ l = h.size + 1 ∧ h0.size = h.size + 2 := by
  obtain ⟨rfl, L, rfl⟩ := hl
  exact ⟨(Frm.push _ _ _).trans ((Frm.push _ _ _)), rfl, by simp⟩
theorem Turn.frm {l : Nat} {h h' : Heap} (t : Turn l h h') : Frm [l] h h' := ⟨by rw [t.1]; exact Nat.le_refl _, fun b _ hn => t.2.1 b (by simpa using hn)⟩
theorem Turn.old {l : Nat} {g h h' : Heap} {L : List Nat} (f : Frm L g h) (t : Turn l h h') (hg : g.size ≤ l) : Frm L g h' := f.young t.frm (by simpa using Or.inr hg)
theorem Turn.get {l : Nat} {h h' : Heap} (t : Turn l h h') {b : Nat} {c : Array Value} {ty : TypeId} {z : Nat × Nat} (hb : h[b]? = some (.cells c ty z)) : h'[b]? = some (.cells c ty z) := by
  obtain ⟨_, h2, ⟨L, h3⟩, _⟩ := t
  rw [h2 b (fun e => by subst e; rw [h3] at hb; cases hb)]; exact hb
theorem Shut.old {n : Nat} {g h h' : Heap} {L : List Nat} (f : Frm L g h) (s : Shut n h h') (hg : g.size ≤ n) : Frm L g h' := ⟨by rw [s.1]; exact f.1, fun b hb hn => by
  rcases s.2 b with e | ⟨e, _⟩
  · rw [e]; exact f.2 b hb hn
  · omega⟩
theorem Shut.get {n : Nat} {h h' : Heap} (s : Shut n h h') {b : Nat} {c : Array Value} {ty : TypeId} {z : Nat × Nat} (hb : h[b]? = some (.cells c ty z)) : h'[b]? = some (.cells c ty z) := by
  rcases s.2 b with e | ⟨_, e⟩
  · rw [e]; exact hb
  · rw [hb] at e; cases e
theorem Own.keep {h h' : Heap} {base : Nat} {e : TypeId} {size : Nat} {v : Value} {n : Nat} {xs : List Value} (ho : Own h base e size v n xs)
    (hk : ∀ (b : Nat) c ty z, h[b]? = some (.cells c ty z) → h'[b]? = some (.cells c ty z)) : Own h' base e size v n xs := by
  refine ⟨ho.1, ?_⟩
  rcases ho.2 with h | ⟨g, cap, cur, h1, h2, h3, h4⟩
  · exact .inl h
  · exact .inr ⟨g, cap, cur, h1, h2, hk _ _ _ _ h3, h4⟩

end V

/-! ## slices.Values, slices.Collect, slices.Sorted, slices.Compact -/

def strV (l : List ByteArray) : List Value := l.map .string
theorem values1_ok {h : Heap} {l p : Nat} {a : Option Addr} {n c : Nat} {lst : List ByteArray} (hp : cl h ⟨p, 0, none⟩ = some (.slice a n c)) (hn : n ≤ 281474976710656) {X : Nat → Heap → Prop} (h0 : X 0 h)
    (hs : ∀ k h', X k h' → StrsAt h' a n lst) (hy : ∀ k s h', lst[k]? = some s → X k h' → CallVal Try.prog (.func (.yield l) #[] #[]) #[.string s] h' fun e h'' => e = .returned (.bool true) ∧ X (k + 1) h'') :
    CallsH Try.prog 74 #[.func (.yield l) #[] #[], .pointer (some ⟨p, 0, none⟩)] h fun e h' => e = .returned (.tuple #[]) ∧ X lst.length h' := by
  have hlen := (hs 0 h h0).1
  refine c74 _ _ _ _ ⟨_, _, _, hp, ?_⟩
  refine loop_nat (N := n) (X := X) h0 ?_
  intro k h' hk hx I μ step
  rw [cnd_if]
  by_cases hlt : k < n
  · rw [if_pos (by simpa using hlt)]
    obtain ⟨s, hi⟩ : ∃ s, lst[k]? = some s := ⟨_, List.getElem?_eq_getElem (by omega)⟩
    obtain ⟨ad, eb, hc⟩ := (hs k h' hx).2 k s hi
    refine ⟨by omega, by omega, ?_⟩
    rw [eb]
    refine (show onSome _ _ from ?_)
    simp only [onSome_some', Int.toNat_natCast, Nat.mul_one]
    refine ⟨s, hc, (show CallVal _ _ _ _ _ from ?_)⟩
    refine (hy k s h' hi hx).mono ?_
    rintro e h'' ⟨rfl, hx'⟩
    refine endH_ret ⟨true, rfl, ?_⟩
    rw [cnd_if, if_neg (by decide)]
    exact ⟨in64 (by omega) (by omega), step h'' hlt hx'⟩
  · rw [if_neg (by simpa using hlt)]
    refine ⟨rfl, ?_⟩
    rw [hlen, show n = k by omega]; exact hx

set_option maxRecDepth 10000 in
theorem collect_ok {h : Heap} {p : Nat} {a : Option Addr} {n c : Nat} {lst : List ByteArray} (hp : cl h ⟨p, 0, none⟩ = some (.slice a n c)) (hs : StrsAt h a n lst) (hn : n ≤ 1099511627776) :
    CallsH Try.prog 72 #[.func (.func 74) #[] #[.pointer (some ⟨p, 0, none⟩)]] h fun e h' => ∃ v, e = .returned v ∧ Own h' h.size 9 1 v n (strV lst) ∧ Frm [] h h' := by
  refine c72 _ _ _ ?_
  obtain rfl := hs.1
  suffices hap : CallsH Try.prog 85 #[.slice none 0 0, .func (.func 74) #[] #[.pointer (some ⟨p, 0, none⟩)]] h fun e h' => ∃ v, e = .returned v ∧ Own h' h.size 9 1 v lst.length (strV lst) ∧ Frm [] h h' by
    refine hap.mono ?_
    rintro e h' ⟨v, rfl, ho, f⟩
    obtain ⟨a', c', rfl⟩ := ho.slice
    exact endH_ret ⟨_, _, _, rfl, _, rfl, ho, f⟩
  refine c85 _ _ _ _ _ _ (al_intro fun h1 e1 g1 f1 s1 => ?_)
  intro l h2 hlaid hyield
  obtain ⟨f2, el, s2⟩ := hlaid.frm
  have g2 := f2.get g1 (by simp)
  refine (show CallsH Try.prog 74 #[.func (.yield l) #[] #[], .pointer (some ⟨p, 0, none⟩)] h2 _ from ?_)
  -- the rounds' invariant
  let X : Nat → Heap → Prop := fun k h' => Frm [] h h' ∧ h'[l]? = h2[l]? ∧ h2.size ≤ h'.size ∧ ∃ v, h'[h.size]? = some (.cells #[v] 23 (0, 0)) ∧ Own h' h2.size 9 1 v k (strV (lst.take k))
  have hX0 : X 0 h2 := ⟨f1.trans f2, rfl, Nat.le_refl _, _, g2, by simpa [strV] using Own.nil h2 h2.size 9 1⟩
  have hpl : cl h2 ⟨p, 0, none⟩ = some (.slice a lst.length c) := (f1.trans f2).cl hp (by simp)
  refine (values1_ok (l := l) hpl (by omega) (lst := lst) (X := X) hX0 (fun k h' hx => hs.frm hx.1) ?_).mono ?_
  · rintro k s h3 hi ⟨f3, k3, z3, v, g3, o3⟩
    have hlt := (List.getElem?_eq_some_iff.1 hi).1
    refine hyield s h3 _ k3 ⟨rfl, fun h4 t4 => ?_⟩
    have g4 := t4.get g3
    have o4 := o3.keep fun _ _ _ _ hb => t4.get hb
    have f4 : Frm [] h h4 := t4.old f3 (by omega)
    obtain ⟨a', c', rfl⟩ := o4.slice
    refine ⟨_, _, _, by rw [cl_at g4]; rfl, ?_⟩
    have hbl : ∀ b ∈ blockOf (.slice a' k c'), h2.size ≤ b := fun b hb => (o4.lt (by simpa [blockOf] using hb)).1
    refine append_elem (z := .string ⟨#[]⟩) (size := 1) (bytes := 16) (by kernel_rfl) (by kernel_rfl) rfl (by omega) o4 (us := [.string s]) rfl (fun u hu => by rw [List.mem_singleton.1 hu]; rfl) (by omega) (by simp only [maxLen]; omega) (by rw [t4.1]; omega) ?_
    intro v' h5 o5 f5 hb5
    obtain ⟨a5, c5, rfl⟩ := o5.slice
    have g5 := f5.get g4 (fun hm => by have := hbl _ hm; omega)
    refine ⟨_, _, _, rfl, st1_at g5 (by simp) rfl fun h6 e6 g6 f6 s6 => ?_⟩
    have k5 : h5[l]? = h4[l]? := f5.2 l (by obtain ⟨_, h9⟩ := t4.2.2.2; exact (Array.getElem?_eq_some_iff.1 h9).1) (fun hm => by have := hbl _ hm; omega)
    have lt5 : l < h5.size := by obtain ⟨_, h9⟩ := t4.2.2.2; have := (Array.getElem?_eq_some_iff.1 h9).1; have := f5.1; omega
    have k6 : h6[l]? = h4[l]? := (f6.2 l lt5 (by simp; omega)).trans k5
    refine ⟨k6, fun h7 t7 k7 => ⟨rfl, ?_, k7, ?_, ?_⟩⟩
    · refine t7.old ((f4.young f5 fun x hx => .inr ?_).young f6 fun x hx => .inr ?_) (by omega)
      · have := hbl x hx; omega
      · rw [List.mem_singleton.1 hx]; exact Nat.le_refl _
    · have := t4.1; have := f5.1; have := t7.1; omega
    · have o6 := Own.frm f6 o5 (fun b hb hm => by
        have := (o5.lt hb).1
        rw [List.mem_singleton.1 hm] at this; omega)
      have o7 := o6.keep (fun _ _ _ _ hb => t7.get hb)
      refine ⟨_, t7.get g6, ?_⟩
      rw [List.take_add_one, hi]
      simpa [strV] using o7
  · rintro e h3 ⟨rfl, f3, k3, z3, v, g3, o3⟩
    refine endH_ret (.inl ⟨k3, fun h4 t4 => ?_⟩)
    have g4 := t4.get g3
    have o4 := o3.keep fun _ _ _ _ hb => t4.get hb
    obtain ⟨a', c', rfl⟩ := o4.slice
    refine ⟨_, _, _, by rw [cl_at g4]; rfl, fun h5 s5 => ⟨_, rfl, ?_, s5.old (t4.old f3 (by omega)) (Nat.le_refl _)⟩⟩
    rw [List.take_length] at o4
    exact (o4.keep fun _ _ _ _ hb => s5.get hb).base (f1.trans f2).1

def dataL (l : List ByteArray) : List (List UInt8) := l.map fun s => s.data.toList
theorem strV_enc (l : List ByteArray) : strV l = (dataL l).map encStr := by simp [strV, dataL, encStr]
theorem frm_of_grown {w w' : World} {g : Nat} (hg : w.grownBy w' (some g)) (hc : ∃ c t f, w.heap[g]? = some (.cells c t f)) : Same w w' ∧ Frm [g] w.heap w'.heap := by
  have f : Frm [g] w.heap w'.heap := ⟨hg.size, fun b hb hn => hg.block b hb (fun e => hn (by cases e; simp))⟩
  exact ⟨⟨hg.os, hg.output, hg.tape, kept_of f fun b hb c hd => by
    obtain ⟨c', t, f', h⟩ := hc
    rw [List.mem_singleton.1 hb, h] at hd; cases hd⟩, f⟩

theorem sort_ok {h : Heap} {base n : Nat} {v : Value} {ss : List (List UInt8)} (hn : n ≤ 1099511627776) (ho : Own h base 9 1 v n (ss.map encStr)) :
    CallsH Try.prog 73 #[v] h fun e h' => e = .returned (.tuple #[]) ∧ Own h' base 9 1 v n ((ss.mergeSort fun x y => decide (x ≤ y)).map encStr) ∧ Frm (blockOf v) h h' := by
  intro w hw
  subst hw
  have hl : ss.length = n := by have := ho.1; simpa using this
  rcases ho.2 with ⟨rfl, hz⟩ | ⟨g, cap, cur, rfl, h2, h3, h4, h5, h6, h7⟩
  · refine (AnyM.slices_Sort_string_none Try.laysSlM6 none 0 w).mono ?_
    rintro e w' ⟨rfl, rfl⟩
    have : ss = [] := List.length_eq_zero_iff.1 (by omega)
    subst this
    exact ⟨Same.refl _, rfl, by simpa using ho, Frm.refl _ _⟩
  · subst hl
    have hH : Holds encStr w g 0 ss.toArray := holds_of_block h3 (by simpa using h7)
    refine (AnyM.slices_Sort_string Try.laysSlM6 g 0 cap ss w hH (lt_of_get h3) (by omega)).mono ?_
    rintro e w' ⟨rfl, k, os, rfl⟩
    obtain ⟨hs, f⟩ := frm_of_grown (grownBy_sorted (w := w) (g := g) (n := k) (os := os) (ss.mergeSort fun x y => decide (x ≤ y)).toArray) ⟨_, _, _, h3⟩
    exact ⟨hs, rfl, ownsRow_sorted (List.length_mergeSort ss) h2 h3 h4 h5 h6, f⟩

theorem sorted_ok {h : Heap} {p : Nat} {a : Option Addr} {n c : Nat} {lst : List ByteArray} (hp : cl h ⟨p, 0, none⟩ = some (.slice a n c)) (hs : StrsAt h a n lst) (hn : n ≤ 1099511627776) :
    CallsH Try.prog 53 #[.func (.func 74) #[] #[.pointer (some ⟨p, 0, none⟩)]] h fun e h' => ∃ v, e = .returned v ∧ Own h' h.size 9 1 v n (((dataL lst).mergeSort fun x y => decide (x ≤ y)).map encStr) ∧ Frm [] h h' := by
  refine c53 _ _ _ ?_
  refine (collect_ok hp hs hn).mono ?_
  rintro e h1 ⟨v, rfl, o1, f1⟩
  rw [strV_enc] at o1
  obtain ⟨a1, c1, rfl⟩ := o1.slice
  refine endH_ret ⟨_, _, _, rfl, (sort_ok hn o1).mono ?_⟩
  rintro e h2 ⟨rfl, o2, f2⟩
  exact endH_ret ⟨rfl, _, rfl, o2, f1.young f2 fun x hx => .inr (o1.lt (by simpa [blockOf] using hx)).1⟩

/-! ## No string twice -/

theorem compact_nodup {ss : List (List UInt8)} (hp : ss.Pairwise fun x y => x ≤ y) : ((Lib.compact ss).length = ss.length ↔ ss.Nodup) := by
  constructor
  · intro h
    have hall : ∀ j, j < ss.length → Lib.keeps ss.toArray j = true := by
      have h1 : ((List.range ss.length).filter (Lib.keeps ss.toArray)).length = (List.range ss.length).length := by
        simpa [Lib.compact, Lib.compactUpTo] using h
      have h2 := List.length_filter_eq_length_iff.1 h1
      intro j hj
      exact h2 j (List.mem_range.2 hj)
    refine List.pairwise_iff_getElem.2 fun i j hi hj hij e => ?_
    have hk := hall (i + 1) (by omega)
    simp only [Lib.keeps, decide_eq_true_eq] at hk
    rcases hk with hk | hk
    · omega
    · rw [List.getElem!_toArray, List.getElem!_toArray, getElem!_pos ss (i + 1) (by omega), getElem!_pos ss (i + 1 - 1) (by omega)] at hk
      simp only [Nat.add_sub_cancel] at hk
      have hp' := List.pairwise_iff_getElem.1 hp
      have h1 : ss[i] ≤ ss[i + 1] := hp' i (i + 1) hi (by omega) (by omega)
      have h2 : ss[i + 1] ≤ ss[i] := by
        rw [e]
        by_cases e2 : i + 1 = j
        · subst e2; exact List.le_refl _
        · exact hp' (i + 1) j (by omega) hj (by omega)
      exact hk (List.le_antisymm h2 h1)
  · intro hnd
    rw [Lib.compact_all ss]
    intro j hj
    simp only [Lib.keeps, decide_eq_true_eq]
    by_cases h0 : j = 0
    · exact .inl h0
    · refine .inr ?_
      rw [List.getElem!_toArray, List.getElem!_toArray, getElem!_pos ss j hj, getElem!_pos ss (j - 1) (by omega)]
      exact fun e => List.pairwise_iff_getElem.1 hnd (j - 1) j (by omega) hj (by omega) e.symm

theorem dataL_nodup (l : List ByteArray) : (dataL l).Nodup ↔ l.Nodup := by
  refine ⟨fun h => (List.pairwise_map.1 h).imp fun hne e => hne (by rw [e]), fun h => List.pairwise_map.2 (h.imp fun hne e => hne ?_)⟩
  exact ba_ext (Array.toList_inj.1 e)

theorem distinct_ok {h : Heap} {a : Option Addr} {n c : Nat} {lst : List ByteArray} (hs : StrsAt h a n lst) (hn : n ≤ 1099511627776) :
    Ret Try.prog 37 #[.slice a n c] h (.bool (decide lst.Nodup)) := by
  refine .mk fun R hR => c37 _ _ _ _ _ ?_
  refine (c54 a n c h (endH (fun u3 h4 => _) _) ?_)
  refine al_intro fun h1 e1 g1 f1 s1 => endH_ret ⟨_, rfl, ?_⟩
  refine (sorted_ok (by rw [cl_at g1]; rfl) (hs.frm f1) hn).mono ?_
  rintro e h2 ⟨v, rfl, o2, f2⟩
  obtain ⟨a2, c2, rfl⟩ := o2.slice
  refine endH_ret ⟨_, _, _, rfl, ?_⟩
  have hlen : ((dataL lst).mergeSort fun x y => decide (x ≤ y)).length = n := by have := o2.1; simpa using this
  have tr : ∀ a b c : List UInt8, decide (a ≤ b) = true → decide (b ≤ c) = true → decide (a ≤ c) = true := fun a b c h1 h2 => by simp only [decide_eq_true_eq] at *; exact List.le_trans h1 h2
  have to : ∀ a b : List UInt8, (decide (a ≤ b) || decide (b ≤ a)) = true := fun a b => by simp only [Bool.or_eq_true, decide_eq_true_eq]; exact List.le_total a b
  have hpw : ((dataL lst).mergeSort fun x y => decide (x ≤ y)).Pairwise fun x y => x ≤ y := (List.pairwise_mergeSort tr to (dataL lst)).imp fun h => by simpa using h
  have hnd : ((dataL lst).mergeSort fun x y => decide (x ≤ y)).Nodup ↔ lst.Nodup := (List.mergeSort_perm _ _).nodup_iff.trans (dataL_nodup lst)
  generalize (dataL lst).mergeSort (fun x y => decide (x ≤ y)) = ss at *
  have hfin : ∀ h3, Frm [] h h3 → R (.returned (.bool (((Lib.compact ss).length : Int) == (n : Int)))) h3 := fun h3 f3 => by
    refine fin_bool ?_ (hR h3 f3)
    rw [Bool.eq_iff_iff, beq_iff_eq, decide_eq_true_eq, ← hnd, ← compact_nodup hpw, hlen]
    omega
  rcases o2.2 with ⟨hv, hz⟩ | ⟨g, cap, cur, hv, k2, k3, k4, k5, k6, k7⟩
  · intro w hw
    subst hw
    cases hv
    refine (Any.slices_Compact_string_empty Try.lays194 none 0 w).mono ?_
    rintro e w' ⟨rfl, rfl⟩
    have : ss = [] := List.length_eq_zero_iff.1 hlen
    subst this
    exact ⟨Same.refl _, endH_ret ⟨_, _, _, rfl, hfin _ (f1.trans f2)⟩⟩
  · intro w hw
    subst hw
    cases hv
    subst hlen
    have hH : Holds encStr w g 0 ss.toArray := holds_of_block k3 (by simpa using k7)
    refine (Any.slices_Compact_string Try.lays194 g 0 _ ss w hH (by simp only [maxLen] at k5; omega) k4).mono ?_
    rintro e w' ⟨rfl, q, rfl⟩
    have hgrown := grownBy_sorted (w := w) (g := g) (n := q) (os := #[]) (Lib.compact ss ++ List.replicate (ss.length - (Lib.compact ss).length) []).toArray
    rw [grow_empty] at hgrown
    obtain ⟨hs', f'⟩ := frm_of_grown hgrown ⟨_, _, _, k3⟩
    refine ⟨hs', endH_ret ⟨_, _, _, rfl, hfin _ ((f1.trans f2).young f' fun x hx => .inr ?_)⟩⟩
    rw [List.mem_singleton.1 hx]
    have := f1.1
    omega
end Go.Proofs.Ytoldgeolocfmiaa
