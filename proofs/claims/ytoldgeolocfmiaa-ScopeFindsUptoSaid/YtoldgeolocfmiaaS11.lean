/- scope.Check. -/
import Derived.Test.YtoldgeolocfmiaaS10
namespace Go.Proofs.Ytoldgeolocfmiaa
open Go Go.Proofs Go.Proofs.Ytoldgeolocfmiaa.V
/-! ## scope.Check -/

theorem frm_back {l : Nat} {h h' : Heap} (f : Frm [l] h h') (e : h'[l]? = h[l]?) : Frm [] h h' := ⟨f.1, fun b hb _ => by
  by_cases eb : b = l
  · rw [eb]; exact e
  · exact f.2 b hb (by simpa using eb)⟩

/-- Every cell is kept. -/
def CK (h h' : Heap) : Prop := ∀ (a : Addr) (v : Value), cl h a = some v → cl h' a = some v
theorem V.Turn.ck {l : Nat} {h h' : Heap} (t : Turn l h h') : CK h h' := fun a v hc => by
  have e : h'[a.block]? = h[a.block]? := t.2.1 _ (fun e => by
    obtain ⟨_, _, ⟨L, h3⟩, _⟩ := t
    rw [← e] at h3
    simp [cl, h3] at hc)
  rw [cl, e]; exact hc
theorem strs_ck {h h' : Heap} (f : CK h h') {a : Option Addr} {n : Nat} {l : List ByteArray} (hs : StrsAt h a n l) : StrsAt h' a n l :=
  ⟨hs.1, fun i s hi => let ⟨ad, e, hc⟩ := hs.2 i s hi; ⟨ad, e, f _ _ hc⟩⟩
theorem nv_ck {h h' : Heap} (f : CK h h') {ad : Addr} {x : NV} (hx : NVAt h ad x) : NVAt h' ad x :=
  ⟨f _ _ hx.k, f _ _ hx.nm, f _ _ hx.num, f _ _ hx.tx, f _ _ hx.names, f _ _ hx.l⟩
theorem node_ck {h h' : Heap} (f : CK h h') {x : NV} {n : ND} (hx : NodeAt h x n) : NodeAt h' x n := by
  induction hx with
  | mk vs hn hl hv hk ih => exact .mk vs (strs_ck f hn) hl (fun i hi => let ⟨ad, e, h1⟩ := hv i hi; ⟨ad, e, nv_ck f h1⟩) fun i k hi => ih i k hi
theorem labels_ck {h h' : Heap} (f : CK h h') : ∀ {L : Lab} {p : Option Addr}, LabelsAt h p L → LabelsAt h' p L
  | [], _, hp => hp
  | _ :: _, _, ⟨q, up, e, h1, h2, h3, h4⟩ => ⟨q, up, e, f _ _ h1, f _ _ h2, f _ _ h3, labels_ck f h4⟩

/-- scope.Check's answer. -/
def checkS (n : ND) : Int := if checkT n ≠ 0 then checkT n else if earlyAll n.deep n ⟨[], false, false, false⟩ then 90 else 0

set_option maxRecDepth 20000 in
theorem scheck_ok {h : Heap} (hm : MaxOk h) {x : NV} {n : ND} (hx : NodeAt h x n) (ho : n.Ok) : Ret Try.prog 13 #[x.val] h (.int .i64 (checkS n)) := by
  refine .mk fun R hR => c13 _ _ _ _ _ _ _ _ _ _ _ _ (al_intro fun h1 e1 g1 f1 s1 => al_intro fun h2 e2 g2 f2 s2 => ?_)
  have F2 := f1.trans f2
  have p2 := f2.get g1 (by simp)
  refine ⟨_, _, _, _, _, _, _, _, _, _, box6 p2, (tcheck_ok (hm.frm F2) (hx.frm F2) ho).use fun h3 f3 => ⟨_, rfl, ?_⟩⟩
  have p3 := f3.get p2 (by simp)
  have g3 := f3.get g2 (by simp)
  have F3 := F2.trans f3
  have hk : h.size ≤ h1.size := f1.1
  have end1 : ∀ {v : Int} {h' : Heap}, Frm [] h h' → h'[h1.size]? = some (.cells #[.int .i64 v] 28 (0, 0)) → v = checkS n → ∀ h'', Shut h.size h' h'' → ∃ n29 : Int, cl h'' (⟨h1.size, 0, none⟩ : Addr) = some (.int .i64 n29) ∧ R (.returned (.int .i64 n29)) h'' := fun {v h'} f g e h'' s => by
    refine ⟨v, by rw [cl_at (s.get g)]; rfl, ?_⟩
    rw [e]
    exact hR _ (s.old f (Nat.le_refl _))
  rw [cnd_if]
  by_cases z : checkT n = 0
  case neg =>
    rw [if_pos (by simpa using z)]
    refine st1_at g3 (by simp) rfl fun h4 e4 g4 f4 s4 => end1 (F3.young f4 (by simpa using hk)) g4 ?_
    rw [checkS, if_pos z]
  rw [if_neg (by simpa using z)]
  have hgood : Good n := by
    refine ⟨n.deep, ?_⟩
    unfold checkT at z
    by_cases y : n.kind ≠ 41 ∨ may n.deep n = false
    · rw [if_pos y] at z; cases z
    · cases hmay : may n.deep n with
      | true => rfl
      | false => exact absurd (.inr hmay) y
  have ev : checkS n = if earlyAll n.deep n ⟨[], false, false, false⟩ then 90 else 0 := by rw [checkS, if_neg (by simpa using z)]
  refine ⟨_, _, _, _, _, _, _, _, _, _, box6 p3, ?_⟩
  refine c23 _ _ _ _ _ _ _ _ _ _ _ _ (al_intro fun h4 e4 g4 f4 s4 => endH_ret ⟨_, rfl, ?_⟩)
  intro l h5 hlaid hyield
  obtain ⟨f5, el, s5⟩ := hlaid.frm
  have F5 : Frm [] h h5 := F3.trans (f4.trans f5)
  have g5 : h5[h1.size]? = some (.cells #[.int .i64 0] 28 (0, 0)) := (f4.trans f5).get g3 (by simp)
  have p5 := f5.get g4 (by simp)
  have hll : l < h5.size := by omega
  have hlk : h1.size < l := by have := lt_of_get g3; omega
  refine (show CallsH Try.prog 33 #[.func (.yield l) #[] #[], .pointer (some ⟨h3.size, 0, none⟩)] h5 _ from ?_)
  refine c33 _ _ _ _ ⟨_, _, _, _, _, _, _, _, _, _, box6 p5, ?_⟩
  have hp : PlaceAt h5 ⟨x, none, false, false, false⟩ n ⟨[], false, false, false⟩ := ⟨hx.frm F5, rfl, rfl, rfl, rfl⟩
  have rounds : Rounds h5 l fun h' => Stopped l .ret h' ∧ h'[h1.size]? = some (.cells #[.int .i64 90] 28 (0, 0)) ∧ Frm [] h h' := by
    intro h6 y m a f6 hpl hom hgm
    have hl6 : h6[l]? = h5[l]? := f6.2 l hll (by simp)
    have sl6 : l < h6.size := by have := f6.1; omega
    refine hyield _ _ _ _ _ _ _ _ _ _ _ _ _ _ h6 _ hl6 (al_intro fun h7 e7 g7 f7 s7 => stn_at g7 rfl rfl fun h8 g8 f8 s8 => ?_)
    have F8 : Frm [] h6 h8 := f7.young f8 (by simp)
    have gy8 : h8[h6.size]? = some (.cells y.cells 45 (0, 0)) := g8
    have hl8 : h8[l]? = h6[l]? := F8.2 l sl6 (by simp)
    refine ⟨hl8, fun h9 t9 => ?_⟩
    have gy9 := t9.get gy8
    obtain ⟨⟨q0, q1, q2, q3, q4, q5⟩, q6, q7, q8, q9⟩ := pbox gy9
    -- the place lies in blocks that are cells: told before the turn
    have hpl9 : PlaceAt h9 y m a := by
      have h8' := hpl.frm F8
      exact ⟨node_ck (V.Turn.ck t9) h8'.node, labels_ck (V.Turn.ck t9) h8'.labs, h8'.br, h8'.go, h8'.ins⟩
    refine ⟨_, _, _, _, _, _, _, _, _, _, _, _, _, _, ⟨q0, q1, q2, q3, q4, q5, q6, q7, q8, q9⟩, (early_ok hpl9 hom hgm).use fun h10 f10 => ⟨_, rfl, ?_⟩⟩
    have sl8 : l < h8.size := by have := F8.1; omega
    have hl10 : h10[l]? = h9[l]? := f10.2 l (by rw [t9.1]; exact sl8) (by simp)
    have g10 : h10[h1.size]? = some (.cells #[.int .i64 0] 28 (0, 0)) := f10.get (t9.get (F8.get (f6.get g5 (by simp)) (by simp))) (by simp)
    have F10 : Frm [l] h6 h10 := ((Frm.mono F8 (by simp)).trans t9.frm).trans (Frm.mono f10 (by simp))
    rw [cnd_if]
    by_cases z1 : earlyB m a = true
    · rw [if_pos z1]
      refine st1_at g10 (by simp) rfl fun h11 e11 g11 f11 s11 => ⟨?_, fun h12 t12 st12 => .inr ⟨z1, rfl, st12, t12.get g11, ?_⟩⟩
      · have : l < h10.size := by have := f10.1; have := t9.1; omega
        exact (f11.2 l this (by simp; omega)).trans hl10
      · have : Frm [] h h6 := F5.trans f6
        refine t12.old ((this.young F10 ?_).young f11 ?_) ?_
        · have := F3.1; have := f4.1; simp; omega
        · simpa using hk
        · have := F3.1; have := f4.1; omega
    · rw [if_neg z1]
      refine ⟨hl10, fun h11 t11 hl11 => .inl ⟨by simpa using z1, rfl, frm_back (F10.trans t11.frm) (hl11.trans hl6.symm)⟩⟩
  refine (walk_ok rounds n.deep (Frm.refl _ _) hp (Nat.le_refl _) ho hgood).mono ?_
  rintro e h6 (⟨w0, rfl, f6⟩ | ⟨w0, rfl, st6, g6, F6⟩)
  · refine endH_ret ⟨true, rfl, endH_ret (.inl ⟨f6.2 l hll (by simp), fun h7 t7 => ?_⟩)⟩
    refine st1_at (t7.get (f6.get g5 (by simp))) (by simp) rfl fun h8 e8 g8 f8 s8 => end1 ?_ g8 ?_
    · refine (t7.old (F5.trans f6) ?_).young f8 (by simpa using hk)
      have := F3.1; have := f4.1; omega
    · rw [ev, w0]; rfl
  · refine endH_ret ⟨false, rfl, endH_ret (.inr (.inl ⟨st6, fun h7 t7 => end1 ?_ (t7.get g6) ?_⟩))⟩
    · refine t7.old F6 ?_
      have := F3.1; have := f4.1; omega
    · rw [ev, w0]; rfl
end Go.Proofs.Ytoldgeolocfmiaa
