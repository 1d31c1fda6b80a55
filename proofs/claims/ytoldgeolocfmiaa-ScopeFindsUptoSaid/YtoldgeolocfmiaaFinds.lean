/- ScopeFinds. -/
import Derived.Test.YtoldgeolocfmiaaF0
import Derived.Test.YtoldgeolocfmiaaS18
namespace Go.Proofs.Ytoldgeolocfmiaa
open Go Go.Proofs Go.Proofs.Ytoldgeolocfmiaa.V Go.ChangeShapes Go.WideShapes
/-! ## ScopeFinds -/

set_option maxRecDepth 100000 in
theorem finds_lifted (os : Os) (started : os.Started) (H : Type) (enc : TypeId × Value → H) (F : Stop.Interp) :
    ReturnsInHanded {} Try.checked os 5 .any ((Rows.OpenSpec.upto Rows.scopeFindsSpec).pre6 enc Try.prog Try.f5 Rows.scopeFindsUptoRow.domain false) (((Rows.OpenSpec.upto Rows.scopeFindsSpec).at F).post enc Try.prog Try.f5 false true false false) := by
  refine upto_shaped (C := Try.checked) (s := Rows.OpenSpec.upto Rows.scopeFindsSpec) (k := Rows.uptoSmall) rfl own0 started (by kernel_rfl) Try.func5
    (OpenSpec.witness (enc := enc) (C := Try.checked) (s := Rows.OpenSpec.upto Rows.scopeFindsSpec) (k := Rows.uptoSmall) rfl false ⟨#[], #[.slice none 0 0], []⟩ 8 (by kernel_rfl) (by kernel_rfl) (by kernel_rfl)
      (x := ([.nil], [], [])) (by kernel_rfl) rfl (by kernel_rfl)) ?_
  intro W base args ds gs before hval0 hW hkk hshape
  have hval : ∀ (j : Nat) t v, Try.f5.params[j]? = some t → args[j]? = some v → Value.okWide Try.prog W .any base t v := hval0
  have hW' := hW
  obtain ⟨p, q, hA0, hV, rfl, hfz, hnd⟩ := hW
  obtain ⟨rfl, rfl⟩ := trodVars_none hV
  have hA : DataW.TrodAll enc Try.prog W 0 (fun _ => true) true Try.f5.params.toList args.toList ds p := hA0
  have hA1 := hA
  rw [Try.params5] at hA hval
  obtain ⟨v0, vs0, d0, ds0, p0, q0, hargs, rfl, rfl, h0, r0⟩ := trodAll_cons hA
  obtain ⟨rfl, rfl, rfl⟩ := trodAll_nil r0
  obtain rfl : args = #[v0] := by cases args; simp_all
  obtain ⟨a0, l0, c0, rfl⟩ := WideShapes.okWide_slice undNN (hval 0 24 v0 rfl rfl)
  obtain ⟨fuel, h0⟩ := h0
  obtain ⟨a, l, c, L, e, hn, hb, hs, hc⟩ := read_nodes h0
  simp only [Value.cells, List.cons.injEq, Value.slice.injEq, and_true] at e
  obtain ⟨rfl, rfl, rfl⟩ := e
  replace hb : ND.sizeAll L + 1 ≤ Rows.uptoBulk d0 := hb
  have hbulk := small_of hkk
  simp only [List.append_nil, Rows.uptoBulkAll] at hbulk
  refine (finds_ok (maxOk_shaped hshape) hn (by omega) (fun k hk => ⟨by have := ND.sizeAll_le hk; omega, ND.StrAll.mem (hs (by show Rows.uptoBulk d0 ≤ _; omega)) hk⟩) W rfl).mono ?_
  rintro e W' ⟨hs, v, rfl, rfl, hf⟩
  rw [List.append_nil] at hW'
  exact ⟨_, rfl, law_post laid0 (by decide +kernel) rfl Try.underlying4 rfl rfl hW' hA1 hs hf⟩

theorem finds_holds : Rows.ScopeFindsUptoSaid :=
  OpenClaim.holds_of_cond 5 Try.f5 rfl rfl rfl rfl rfl rfl rfl ⟨rfl, rfl, rfl, rfl, rfl⟩ rfl rfl rfl rfl rfl (by kernel_rfl) Try.func5 (by kernel_rfl)
    (of_decide_eq_true (by kernel_rfl)) (by unfold Func.isWrapper; rw [if_neg (by decide +kernel)]; exact ⟨rfl, rfl⟩)
    (fun os started H enc _ F => finds_lifted os started H enc F)
end Go.Proofs.Ytoldgeolocfmiaa
