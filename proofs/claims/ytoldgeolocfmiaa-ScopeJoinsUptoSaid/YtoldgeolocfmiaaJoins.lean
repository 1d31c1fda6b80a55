/- ScopeJoins. -/
import Derived.Test.YtoldgeolocfmiaaF0
import Derived.Test.YtoldgeolocfmiaaS17
namespace Go.Proofs.Ytoldgeolocfmiaa
open Go Go.Proofs Go.Proofs.Ytoldgeolocfmiaa.V Go.ChangeShapes Go.WideShapes
/-! ## ScopeJoins -/

theorem agg_of {v : Value} {c : Array Value} (h : v.cells.toList = c.toList) (hc : 1 < c.size) : v = .agg c := by
  have e : v.cells = c := Array.toList_inj.1 h
  cases v <;> simp only [Value.cells] at e <;> first
    | (rw [e])
    | (rw [← e] at hc; simp at hc)

set_option maxRecDepth 100000 in
theorem joins_lifted (os : Os) (started : os.Started) (H : Type) (enc : TypeId × Value → H) (F : Stop.Interp) :
    ReturnsInHanded {} Try.checked os 7 .any ((Rows.OpenSpec.upto Rows.scopeJoinsSpec).pre6 enc Try.prog Try.f7 Rows.scopeJoinsUptoRow.domain false) (((Rows.OpenSpec.upto Rows.scopeJoinsSpec).at F).post enc Try.prog Try.f7 false true false false) := by
  refine upto_shaped (C := Try.checked) (s := Rows.OpenSpec.upto Rows.scopeJoinsSpec) (k := Rows.uptoSmall) rfl own0 started (by kernel_rfl) Try.func7
    (OpenSpec.witness (enc := enc) (C := Try.checked) (s := Rows.OpenSpec.upto Rows.scopeJoinsSpec) (k := Rows.uptoSmall) rfl false ⟨#[], #[.agg #[.int .i64 0, .string ⟨#[]⟩, .int .i64 0, .string ⟨#[]⟩, .slice none 0 0, .slice none 0 0], .agg #[.int .i64 0, .string ⟨#[]⟩, .int .i64 0, .string ⟨#[]⟩, .slice none 0 0, .slice none 0 0]], []⟩ 8 (by kernel_rfl) (by kernel_rfl) (by kernel_rfl)
      (x := ([.agg [.lit (.int .i64 0), .lit (.string []), .lit (.int .i64 0), .lit (.string []), .nil, .nil], .agg [.lit (.int .i64 0), .lit (.string []), .lit (.int .i64 0), .lit (.string []), .nil, .nil]], [], [])) (by kernel_rfl) rfl (by kernel_rfl)) ?_
  intro W base args ds gs before hval0 hW hkk hshape
  have hW' := hW
  obtain ⟨p, q, hA0, hV, rfl, hfz, hnd⟩ := hW
  obtain ⟨rfl, rfl⟩ := trodVars_none hV
  have hA : DataW.TrodAll enc Try.prog W 0 (fun _ => true) true Try.f7.params.toList args.toList ds p := hA0
  have hA1 := hA
  rw [Try.params7] at hA
  obtain ⟨v0, v1, d0, d1, p0, p1, rfl, rfl, rfl, h0, h1⟩ := trodAll_two hA
  obtain ⟨fuel0, h0⟩ := h0
  obtain ⟨fuel1, h1⟩ := h1
  obtain ⟨x0, k0, e0, hn0, hb0, hs0⟩ := read_node fuel0 h0
  obtain ⟨x1, k1, e1, hn1, hb1, hs1⟩ := read_node fuel1 h1
  obtain rfl := agg_of e0 (by simp)
  obtain rfl := agg_of e1 (by simp)
  replace hb0 : k0.size ≤ Rows.uptoBulk d0 := hb0
  replace hb1 : k1.size ≤ Rows.uptoBulk d1 := hb1
  have hbulk := small_of hkk
  simp only [List.append_nil, Rows.uptoBulkAll] at hbulk
  refine (joins_ok (maxOk_shaped hshape) hn0 hn1 ⟨by omega, hs0 (by show Rows.uptoBulk d0 ≤ _; omega)⟩ ⟨by omega, hs1 (by show Rows.uptoBulk d1 ≤ _; omega)⟩ (by omega) W rfl).mono ?_
  rintro e W' ⟨hs, v, rfl, rfl, hf⟩
  rw [List.append_nil] at hW'
  exact ⟨_, rfl, law_post laid0 (by decide +kernel) rfl Try.underlying4 rfl rfl hW' hA1 hs hf⟩

theorem joins_holds : Rows.ScopeJoinsUptoSaid :=
  OpenClaim.holds_of_cond 7 Try.f7 rfl rfl rfl rfl rfl rfl rfl ⟨rfl, rfl, rfl, rfl, rfl⟩ rfl rfl rfl rfl rfl (by kernel_rfl) Try.func7 (by kernel_rfl)
    (of_decide_eq_true (by kernel_rfl)) (by unfold Func.isWrapper; rw [if_neg (by decide +kernel)]; exact ⟨rfl, rfl⟩)
    (fun os started H enc _ F => joins_lifted os started H enc F)
end Go.Proofs.Ytoldgeolocfmiaa
