/- Programs put together. -/
import Derived.Test.YtoldgeolocfmiaaS15
namespace Go.Proofs.Ytoldgeolocfmiaa
open Go Go.Proofs Go.Proofs.Ytoldgeolocfmiaa.V
/-! ## Programs put together: the plain law -/

theorem may_more : ∀ (d e : Nat) (n : ND), n.deep ≤ d → n.deep ≤ e → may d n = may e n
  | 0, _, n, h, _ => by have := n.deep_eq; omega
  | _, 0, n, _, h => by have := n.deep_eq; omega
  | d + 1, e + 1, n, h1, h2 => by
    have hk : kidsFrom (fun i k => fitKind k (kidLetter (formOf n.kind n.l.length).1.l i) && may d k) 0 n.l = kidsFrom (fun i k => fitKind k (kidLetter (formOf n.kind n.l.length).1.l i) && may e k) 0 n.l := by
      rw [Bool.eq_iff_iff, kidsFrom_iff, kidsFrom_iff]
      constructor
      · intro h j k hj
        have := ND.kid_deep (List.mem_of_getElem? hj)
        rw [← may_more d e k (by omega) (by omega)]; exact h j k hj
      · intro h j k hj
        have := ND.kid_deep (List.mem_of_getElem? hj)
        rw [may_more d e k (by omega) (by omega)]; exact h j k hj
    simp only [may, hk]
theorem checkS_zero {n : ND} : checkS n = 0 ↔ n.kind = 41 ∧ may n.deep n = true ∧ n.deep ≤ 64 ∧ earlyAll n.deep n ⟨[], false, false, false⟩ = false := by
  unfold checkS checkT
  by_cases h1 : n.kind ≠ 41 ∨ may n.deep n = false
  · rw [if_pos h1]
    simp only [ne_eq, reduceCtorEq, not_false_eq_true, if_true]
    constructor
    · intro h; cases h
    · rintro ⟨a, b, _⟩; rcases h1 with h1 | h1
      · exact absurd a h1
      · rw [b] at h1; cases h1
  · rw [if_neg h1]
    have h1' : n.kind = 41 ∧ may n.deep n = true := by
      refine ⟨Classical.byContradiction fun h => h1 (.inl h), ?_⟩
      cases hm : may n.deep n with
      | true => rfl
      | false => exact absurd (.inr hm) h1
    by_cases h2 : 64 < n.deep
    · rw [if_pos h2]
      constructor
      · intro h; cases h
      · rintro ⟨_, _, h, _⟩; omega
    · rw [if_neg h2]
      simp only [ne_eq, not_true_eq_false, if_false]
      cases he : earlyAll n.deep n ⟨[], false, false, false⟩ with
      | true => simp
      | false => simp [h1']; omega
theorem form41 (m : Nat) : formOf 41 m = formOf 41 0 := by
  have : exprForm 41 = none := by decide
  rw [formOf, formOf, this]
  simp [stmtForm]
abbrev A0 : Arnd := ⟨[], false, false, false⟩
theorem letter_prog (i : Nat) : kidLetter ⟨#[42, 120]⟩ i = 120 := by
  have : letters ⟨#[42, 120]⟩ = [120] := by decide +kernel
  rw [kidLetter, this]
  simp
theorem form_prog (m : Nat) : formOf 41 m = (⟨⟨#[]⟩, 0, false, false, ⟨#[42, 120]⟩⟩, true) := by
  have : exprForm 41 = none := by decide
  rw [formOf, this]
  simp [stmtForm]
theorem prog_kids {n : ND} {d : Nat} (hk : n.kind = 41) (hm : may (d + 1) n = true) : ∀ k ∈ n.l, (fitKind k 120 && may d k) = true := by
  intro k hkm
  simp only [may, Bool.and_eq_true, decide_eq_true_eq] at hm
  obtain ⟨_, _, _, _, _, _, _, _, _, _, h11, _⟩ := hm
  obtain ⟨i, hi⟩ := List.getElem?_of_mem hkm
  have := (kidsFrom_iff _ _ _).1 h11 i k hi
  rw [hk, form_prog, letter_prog] at this
  exact this
theorem prog_may {L : List ND} {d : Nat} (h : ∀ k ∈ L, (fitKind k 120 && may d k) = true) : may (d + 1) (progOf L) = true := by
  have hk : kidsFrom (fun i k => fitKind k (kidLetter (formOf 41 L.length).1.l i) && may d k) 0 L = true := by
    rw [kidsFrom_iff]
    intro j k hj
    rw [form_prog, letter_prog]
    exact h k (List.mem_of_getElem? hj)
  have hc : L.countP (emptyK (progOf L)) = 0 := by
    rw [List.countP_eq_zero]
    intro k _
    simp [emptyK, progOf, ND.kind]
  have e1 : (progOf L).kind = 41 := rfl
  have e2 : (progOf L).l = L := rfl
  rw [may, e1, e2, hk, hc, form_prog]
  have e3 : fixL ⟨#[42, 120]⟩ = [] := by decide +kernel
  have e4 : manyL ⟨#[42, 120]⟩ = true := by decide +kernel
  have e5 : namedB (progOf L) ⟨#[]⟩ = true := by
    rw [namedB, if_pos (by decide +kernel)]
    show emptyB ⟨#[]⟩ = true
    decide +kernel
  have e6 : evenB (progOf L).text = true := by show evenB ⟨#[]⟩ = true; decide +kernel
  have e7 : emptyB (progOf L).text = true := by show emptyB ⟨#[]⟩ = true; decide +kernel
  have e8 : (progOf L).num = 0 := rfl
  have e9 : (progOf L).names = [] := rfl
  simp only [e3, e4, e5, e6, e7, e8, e9]
  simp
theorem prog_early (L : List ND) (d : Nat) : earlyAll (d + 1) (progOf L) A0 = L.any fun k => earlyAll d k A0 := by
  have e : earlyB (progOf L) A0 = false := by simp [earlyB, progOf, ND.kind]
  have ei : inner (progOf L) A0 = A0 := by simp [inner, progOf, ND.kind, loopK]
  rw [earlyAll, e, ei]; rfl
theorem prog_early_kids {n : ND} {d : Nat} (hk : n.kind = 41) (h : earlyAll (d + 1) n A0 = false) : ∀ k ∈ n.l, earlyAll d k A0 = false := by
  intro k hkm
  have ei : inner n A0 = A0 := by simp [inner, hk, loopK]
  simp only [earlyAll, Bool.or_eq_false_iff, ei] at h
  cases he : earlyAll d k A0 with
  | false => rfl
  | true =>
    have : n.l.any (fun k => earlyAll d k A0) = true := List.any_eq_true.2 ⟨k, hkm, he⟩
    rw [h.2] at this; cases this
/-- What a program's parts say of it. -/
theorem checkS_parts {n : ND} (h : checkS n = 0) : n.deep ≤ 64 ∧ ∀ k ∈ n.l, fitKind k 120 = true ∧ (∀ d, k.deep ≤ d → may d k = true) ∧ ∀ d, k.deep ≤ d → earlyAll d k A0 = false := by
  obtain ⟨h1, h2, h3, h4⟩ := checkS_zero.1 h
  refine ⟨h3, fun k hk => ?_⟩
  have hd := ND.kid_deep hk
  obtain ⟨d, e⟩ : ∃ d, n.deep = d + 1 := ⟨n.deep - 1, by omega⟩
  rw [e] at h2 h4 hd
  have a := prog_kids h1 h2 k hk
  have b := prog_early_kids h1 h4 k hk
  rw [Bool.and_eq_true] at a
  exact ⟨a.1, fun d' hd' => by rw [may_more d' d k hd' (by omega)]; exact a.2, fun d' hd' => by rw [earlyAll_more d' d k A0 hd' (by omega)]; exact b⟩
theorem checkS_prog {L : List ND} (hd : ND.deepAll L ≤ 63) (h : ∀ k ∈ L, fitKind k 120 = true ∧ (∀ d, k.deep ≤ d → may d k = true) ∧ ∀ d, k.deep ≤ d → earlyAll d k A0 = false) : checkS (progOf L) = 0 := by
  have e : (progOf L).deep = ND.deepAll L + 1 := by simp [progOf, ND.deep]
  refine checkS_zero.2 ⟨rfl, ?_, by omega, ?_⟩
  · rw [e]
    refine prog_may fun k hk => ?_
    obtain ⟨a, b, _⟩ := h k hk
    rw [a, b _ (ND.deepAll_le hk)]; rfl
  · rw [e, prog_early]
    rw [List.any_eq_false]
    intro k hk
    obtain ⟨_, _, c⟩ := h k hk
    rw [c _ (ND.deepAll_le hk)]
    simp
theorem joins_check {a b : ND} (ha : checkS a = 0) (hb : checkS b = 0) : checkS (progOf (a.l ++ b.l)) = 0 := by
  obtain ⟨da, pa⟩ := checkS_parts ha
  obtain ⟨db, pb⟩ := checkS_parts hb
  refine checkS_prog ?_ fun k hk => ?_
  · rw [deepAll_append]
    have := a.deep_eq
    have := b.deep_eq
    omega
  · rcases List.mem_append.1 hk with hk | hk
    · exact pa k hk
    · exact pb k hk
end Go.Proofs.Ytoldgeolocfmiaa
