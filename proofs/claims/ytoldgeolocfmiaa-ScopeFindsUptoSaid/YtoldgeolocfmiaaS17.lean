/- ScopeJoins: the walk. -/
import Derived.Test.YtoldgeolocfmiaaS16
namespace Go.Proofs.Ytoldgeolocfmiaa
open Go Go.Proofs Go.Proofs.Ytoldgeolocfmiaa.V
/-! ## ScopeJoins: the walk -/

theorem len_map {P : Program} {mt kt et ty : TypeId} (hmt : P.underlying mt = some (.map kt et)) {h : Heap} {m : Nat} {es : Array MapEntry} {c : Nat} (hb : h[m]? = some (.map es c)) {G : Value → Prop} (hk : G (.int .i64 es.size)) :
    ReadH P (Builtin.len_ #[mt] ty #[.map (some m)]) h G := by
  intro w hw
  subst hw
  refine ⟨_, ?_, hk⟩
  simp [Builtin.len_, run_underlying hmt, getObj, Sem.run, hb, Result.andThen, goInt]
abbrev VB : Bool → Value := fun b => .bool b
/-- A map of the names in a list. -/
def setOf (S : List ByteArray) : ByteArray → Option Bool := fun s => if memB S s then some true else none
theorem set_size {h : Heap} {m : Nat} {S : List ByteArray} (hm : MapAt h m KS VB (setOf S)) (hS : S.Nodup) : ∃ es c, h[m]? = some (.map es c) ∧ es.size = S.length := by
  obtain ⟨es, c, kvs, hb, hkv, hnd, _, _, hf⟩ := hm
  have hmem : ∀ {kvs : List (ByteArray × Bool)} {k : ByteArray}, k ∈ kvs.map (·.1) ↔ get? kvs k ≠ none := by
    intro kvs k
    induction kvs with
    | nil => simp [get?]
    | cons p r ih =>
      obtain ⟨a, b⟩ := p
      simp only [List.map_cons, List.mem_cons, get?]
      by_cases e : a = k
      · simp [e]
      · rw [if_neg e, ← ih]
        exact ⟨fun h => h.resolve_left fun h => e h.symm, .inr⟩
  refine ⟨es, c, hb, ?_⟩
  have hlen : es.toList.length = kvs.length := by
    have := congrArg List.length (show es.toList.map (fun e => (e.key, e.val)) = _ from hkv)
    simpa using this
  have hp : (kvs.map (·.1)).Perm S := (List.perm_ext_iff_of_nodup hnd hS).2 fun k => by
    rw [hmem, ← hf k, setOf]
    by_cases hm : memB S k = true
    · rw [if_pos hm]; simp [(memB_iff _ _).1 hm]
    · rw [if_neg hm]; simp only [ne_eq, not_true_eq_false, false_iff]; exact fun h => hm ((memB_iff _ _).2 h)
  have := hp.length_eq
  rw [List.length_map] at this
  rw [← Array.length_toList, hlen, this]
theorem set_read {h : Heap} {m : Nat} {S : List ByteArray} (hm : MapAt h m KS VB (setOf S)) (s : ByteArray) {G : Value → Prop} (hk : G (.bool (memB S s))) :
    ReadH Try.prog (Instr.lookup 39 (.map (some m)) (.string s) false) h G := by
  refine lookup_run (K := KS) (V := VB) (keyStr (kt := 9) (by kernel_rfl)) (et := 4) (z := .bool false) (by kernel_rfl) (by kernel_rfl) hm s false ?_
  simp only [Bool.false_eq_true, if_false]
  have : ((setOf S s).map VB).getD (.bool false) = .bool (memB S s) := by
    unfold setOf
    by_cases h : memB S s = true
    · rw [if_pos h, h]; rfl
    · rw [if_neg h]; have : memB S s = false := by simpa using h
      rw [this]; rfl
  rw [this]; exact hk
theorem set_write {h : Heap} {m : Nat} {S : List ByteArray} (hm : MapAt h m KS VB (setOf S)) (s : ByteArray) {G : Unit → Heap → Prop}
    (hk : ∀ h', MapAt h' m KS VB (setOf (addN S s)) → Frm [m] h h' → G () h') :
    RunH Try.prog (Instr.mapUpdate 39 (.map (some m)) (.string s) (.bool true)) h G := by
  refine update_run (K := KS) (V := VB) (keyStr (kt := 9) (by kernel_rfl)) (et := 4) (by kernel_rfl) hm s true fun h' hm' f _ => hk h' (hm'.congr fun y => ?_) f
  unfold setOf
  have e : memB (addN S s) y = true ↔ (memB S y = true ∨ y = s) := by rw [memB_iff, mem_addN, memB_iff]
  by_cases h1 : s = y
  · subst h1
    rw [if_pos rfl, if_pos (e.2 (.inr rfl))]
  · rw [if_neg h1]
    by_cases h2 : memB S y = true
    · rw [if_pos h2, if_pos (e.2 (.inl h2))]
    · rw [if_neg h2, if_neg fun h => (e.1 h).elim h2 fun h => h1 h.symm]
theorem OutN.keep {g0 h h' : Heap} {base : Nat} {v : Value} {l : List ND} {L : List Nat} (ho : OutN g0 h base v l) (f : Frm L h h') (hn : ∀ b ∈ blockOf v, b ∉ L) : OutN g0 h' base v l :=
  let ⟨ys, h1, h2, h3⟩ := ho; ⟨ys, h1, V.Own.frm f h2 fun b hb => hn b (by simpa [blockOf] using hb), h3⟩

set_option maxRecDepth 20000 in
set_option maxHeartbeats 2000000 in
theorem joins_ok {h : Heap} (hm : MaxOk h) {x1 x2 : NV} {n1 n2 : ND} (hx1 : NodeAt h x1 n1) (hx2 : NodeAt h x2 n2) (ho1 : n1.Ok) (ho2 : n2.Ok) (hsz : n1.size + n2.size ≤ 1099511627775) :
    Ret Try.prog 7 #[x1.val, x2.val] h (.bool true) := by
  refine .mk fun R hR => c7 _ _ _ _ _ _ _ _ _ _ _ _ _ _ _ _ _ _ _ _ _ _ (al_intro fun h1 e1 g1 f1 s1 => al_intro fun h2 e2 g2 f2 s2 => ?_)
  have F2 := f1.trans f2
  have ga2 := f2.get g1 (by simp)
  refine (live_ok (hm.frm F2)).use fun h3 f3 => ⟨_, rfl, ?_⟩
  have F3 := F2.trans f3
  refine ⟨fun vs h' => vs = [] ∧ Frm [] h2 h' ∧ checkS n1 = 0 ∧ checkS n2 = 0, ?_, ?_⟩
  · refine ⟨_, _, _, _, _, _, _, _, _, _, box6 (f3.get ga2 (by simp)), (scheck_ok (hm.frm F3) (hx1.frm F3) ho1).use fun h4 f4 => ⟨_, rfl, ?_⟩⟩
    rw [cnd_if]
    by_cases z1 : checkS n1 = 0
    case neg => rw [if_pos (by simpa using z1)]; exact hR _ (F3.trans f4)
    rw [if_neg (by simpa using z1)]
    refine ⟨_, _, _, _, _, _, _, _, _, _, box6 ((f3.trans f4).get g2 (by simp)), (scheck_ok (hm.frm (F3.trans f4)) (hx2.frm (F3.trans f4)) ho2).use fun h5 f5 => ⟨_, rfl, ?_⟩⟩
    rw [cnd_if]
    by_cases z2 : checkS n2 = 0
    case neg => rw [if_pos (by simpa using z2)]; exact hR _ (F3.trans (f4.trans f5))
    rw [if_neg (by simpa using z2)]
    exact ⟨rfl, f3.trans (f4.trans f5), z1, z2⟩
  rintro _ h4 ⟨_, f4, z1, z2⟩
  have F4 := F2.trans f4
  have ga4 := f4.get ga2 (by simp)
  have gb4 := f4.get g2 (by simp)
  obtain ⟨_, _, _, _, pa, na⟩ := hx1.open
  obtain ⟨_, _, _, _, pb, nb⟩ := hx2.open
  have sa := n1.size_eq
  have sb := n2.size_eq
  have la := ND.length_le n1.l
  have lb := ND.length_le n2.l
  refine ⟨_, _, _, (box6 ga4).2.2.2.2.2, _, _, _, (box6 gb4).2.2.2.2.2, ?_⟩
  refine app_nodes (OutN.nil h h4 h4.size) na F4 (by simp; omega) (Nat.le_refl _) fun v5 h5 o5 f5 => ?_
  have f5' : Frm [] h4 h5 := f5
  obtain ⟨a5, c5, rfl⟩ := o5.slice
  refine ⟨_, _, _, rfl, ⟨_, _, _, (box6 (f5'.get gb4 (by simp))).2.2.2.2.2, rfl⟩, ?_⟩
  refine app_nodes o5 nb (F4.trans f5') (by simp; omega) f5'.1 fun v6 h6 o6 f6 => ?_
  obtain ⟨a6, c6, rfl⟩ := o6.slice
  have F6 : Frm [] h4 h6 := f5'.young f6 fun x hx => .inr (o5.young x hx).1
  rw [List.nil_append] at o6
  refine ⟨_, _, _, rfl, fun k h7 hk e7 => ?_⟩
  subst hk
  have f7 : Frm [] h6 h7 := e7 ▸ Frm.push _ _ _
  have m7 : MapAt h7 h6.size KS VB (setOf []) := by rw [e7]; exact (MapAt.new h6 KS VB).congr fun y => rfl
  have o7 := o6.frm f7
  have F47 : Frm [] h4 h7 := F6.trans f7
  have young6 := o6.young
  -- a later world
  have later : ∀ {h' : Heap}, Frm [h6.size] h7 h' → Frm [] h h' ∧ h'[h.size]? = some (.cells x1.cells 26 (0, 0)) ∧ h'[h1.size]? = some (.cells x2.cells 26 (0, 0)) ∧ OutN h h' h4.size (.slice a6 (n1.l ++ n2.l).length c6) (n1.l ++ n2.l) := fun {h'} f' => by
    have g : Frm [] h4 h' := F47.young f' (by simpa using F6.1)
    exact ⟨F4.trans g, g.get ga4 (by simp), g.get gb4 (by simp), o7.keep f' fun b hb hm' => by
      have := (young6 b hb).2
      rw [List.mem_singleton.1 hm'] at this; omega⟩
  obtain ⟨F7, ga7, gb7, _⟩ := later (Frm.refl _ _)
  refine ⟨_, _, _, (box6 ga7).2.2.2.2.2, (varsL_ok (na.frm F7) (by omega)).mono ?_⟩
  rintro e h8 ⟨v8, rfl, o8, f8⟩
  obtain ⟨a8, c8, rfl⟩ := o8.slice
  have vA := varsOf_length n1.l
  have vB := varsOf_length n2.l
  refine endH_ret ⟨_, _, _, rfl, ?_⟩
  have y8 := own_block_old o8 (Frm.refl _ _)
  have k7 : h6.size < h7.size := m7.lt
  refine loop_nat (N := (varsOf n1.l).length) (X := fun k h' => Frm [h6.size] h8 h' ∧ MapAt h' h6.size KS VB (setOf (adds [] ((varsOf n1.l).take k)))) ⟨Frm.refl _ _, by simpa [adds] using m7.frm f8 (by simp)⟩ ?_
  rintro k h9 hk ⟨f9, m9⟩ I μ step
  have f79 : Frm [h6.size] h7 h9 := (Frm.mono f8 (by simp)).trans f9
  have o9 : OutAt h9 h7.size (.slice a8 (varsOf n1.l).length c8) (varsOf n1.l) := V.Own.frm f9 o8 fun b hb hm' => by
    have := (y8 b (by simpa [blockOf] using hb)).1
    rw [List.mem_singleton.1 hm'] at this; omega
  rw [cnd_if]
  by_cases hlt : k < (varsOf n1.l).length
  · rw [if_pos (by simpa using hlt)]
    have hi : (varsOf n1.l)[k]? = some ((varsOf n1.l)[k]'hlt) := List.getElem?_eq_getElem _
    generalize (varsOf n1.l)[k]'hlt = s at hi
    obtain ⟨ad, eb, hc⟩ := o9.strs.2 k s hi
    refine ⟨by omega, by omega, ?_⟩
    rw [eb]
    refine (show onSome _ _ from ?_)
    simp only [onSome_some', Int.toNat_natCast, Nat.mul_one]
    refine ⟨s, hc, set_write m9 s fun h10 m10 f10 => ⟨in64 (by omega) (by omega), step h10 hlt ⟨f9.trans f10, ?_⟩⟩⟩
    rw [List.take_add_one, hi, adds_append]; exact m10
  rw [if_neg (by simpa using hlt)]
  rw [List.take_of_length_le (by omega)] at m9
  obtain ⟨F9, ga9, gb9, _⟩ := later f79
  refine ⟨_, _, _, (box6 gb9).2.2.2.2.2, (varsL_ok (nb.frm F9) (by omega)).mono ?_⟩
  rintro e h10 ⟨v10, rfl, o10, f10⟩
  obtain ⟨a10, c10, rfl⟩ := o10.slice
  refine endH_ret ⟨_, _, _, rfl, ?_⟩
  have y10 := own_block_old o10 (Frm.refl _ _)
  have k9 : h6.size < h9.size := m9.lt
  refine loop_nat (N := (varsOf n2.l).length) (X := fun k h' => Frm [h6.size] h10 h' ∧ MapAt h' h6.size KS VB (setOf (adds (adds [] (varsOf n1.l)) ((varsOf n2.l).take k)))) ⟨Frm.refl _ _, by simpa [adds] using m9.frm f10 (by simp)⟩ ?_
  rintro k2 h11 hk2 ⟨f11, m11⟩ I2 μ2 step2
  have f711 : Frm [h6.size] h7 h11 := f79.trans ((Frm.mono f10 (by simp)).trans f11)
  have o11 : OutAt h11 h9.size (.slice a10 (varsOf n2.l).length c10) (varsOf n2.l) := V.Own.frm f11 o10 fun b hb hm' => by
    have := (y10 b (by simpa [blockOf] using hb)).1
    rw [List.mem_singleton.1 hm'] at this; omega
  rw [cnd_if]
  by_cases hlt2 : k2 < (varsOf n2.l).length
  · rw [if_pos (by simpa using hlt2)]
    have hi : (varsOf n2.l)[k2]? = some ((varsOf n2.l)[k2]'hlt2) := List.getElem?_eq_getElem _
    generalize (varsOf n2.l)[k2]'hlt2 = s at hi
    obtain ⟨ad, eb, hc⟩ := o11.strs.2 k2 s hi
    refine ⟨by omega, by omega, ?_⟩
    rw [eb]
    refine (show onSome _ _ from ?_)
    simp only [onSome_some', Int.toNat_natCast, Nat.mul_one]
    refine ⟨s, hc, set_write m11 s fun h12 m12 f12 => ⟨in64 (by omega) (by omega), step2 h12 hlt2 ⟨f11.trans f12, ?_⟩⟩⟩
    rw [List.take_add_one, hi, adds_append]; exact m12
  rw [if_neg (by simpa using hlt2)]
  rw [List.take_of_length_le (by omega)] at m11
  have hset : adds (adds [] (varsOf n1.l)) (varsOf n2.l) = varsOf (n1.l ++ n2.l) := by
    rw [varsOf, varsOf, adds_nil, adds_nil, varsOf, declsOf_append, adds_append]
  rw [hset] at m11
  obtain ⟨F11, ga11, gb11, on11⟩ := later f711
  have nl11 := on11.nodes F11
  have hsl : ND.sizeAll (n1.l ++ n2.l) ≤ 1099511627775 := by rw [sizeAll_append]; omega
  have hll : (n1.l ++ n2.l).length ≤ 1099511627775 := by have := ND.length_le (n1.l ++ n2.l); omega
  have vL := varsOf_length (n1.l ++ n2.l)
  refine (varsL_ok nl11 (by omega)).mono ?_
  rintro e h12 ⟨v12, rfl, o12, f12⟩
  obtain ⟨a12, c12, rfl⟩ := o12.slice
  refine endH_ret ⟨_, _, _, rfl, ?_⟩
  have m12 := m11.frm f12 (by simp)
  refine loop_nat (N := (varsOf (n1.l ++ n2.l)).length) (X := fun k h' => h' = h12) rfl ?_
  rintro k3 h13 hk3 rfl I3 μ3 step3
  rw [cnd_if]
  by_cases hlt3 : k3 < (varsOf (n1.l ++ n2.l)).length
  · rw [if_pos (by simpa using hlt3)]
    have hi : (varsOf (n1.l ++ n2.l))[k3]? = some ((varsOf (n1.l ++ n2.l))[k3]'hlt3) := List.getElem?_eq_getElem _
    have hmem := List.mem_of_getElem? hi
    generalize (varsOf (n1.l ++ n2.l))[k3]'hlt3 = s at hi hmem
    obtain ⟨ad, eb, hc⟩ := o12.strs.2 k3 s hi
    refine ⟨by omega, by omega, ?_⟩
    rw [eb]
    refine (show onSome _ _ from ?_)
    simp only [onSome_some', Int.toNat_natCast, Nat.mul_one]
    refine ⟨s, hc, set_read m12 s ⟨_, rfl, ?_⟩⟩
    rw [(memB_iff _ _).2 hmem, cnd_if, if_neg (by decide)]
    exact ⟨in64 (by omega) (by omega), step3 h13 hlt3 rfl⟩
  rw [if_neg (by simpa using hlt3), cnd_if, if_pos rfl]
  have f713 : Frm [h6.size] h7 h13 := f711.trans (Frm.mono f12 (by simp))
  obtain ⟨F13, ga13, gb13, on13⟩ := later f713
  have np13 : NodeAt h13 ⟨41, ⟨#[]⟩, 0, ⟨#[]⟩, none, 0, 0, a6, (n1.l ++ n2.l).length, c6⟩ (progOf (n1.l ++ n2.l)) := node0 (x := ⟨41, ⟨#[]⟩, 0, ⟨#[]⟩, none, 0, 0, a6, (n1.l ++ n2.l).length, c6⟩) rfl (on13.nodes F13)
  have okp : (progOf (n1.l ++ n2.l)).Ok := by
    refine ⟨?_, ?_⟩
    · rw [ND.size_eq]; show ND.sizeAll (n1.l ++ n2.l) + 0 + 1 ≤ _; omega
    · show ND.Str (.mk _ _ _ _ _ _)
      simp only [ND.Str]
      refine ⟨by decide +kernel, by decide +kernel, (fun s hs => by cases hs), ND.strAll_of fun k hk => ?_⟩
      rcases List.mem_append.1 hk with hk | hk
      · exact (ho1.kid hk).str
      · exact (ho2.kid hk).str
  refine (scheck_ok (hm.frm F13) np13 okp).use fun h14 f14 => ⟨_, rfl, ?_⟩
  rw [joins_check z1 z2, cnd_if, if_pos (by decide)]
  have f714 : Frm [h6.size] h7 h14 := f713.trans (Frm.mono f14 (by simp))
  obtain ⟨F14, ga14, gb14, on14⟩ := later f714
  refine (varsL_ok (on14.nodes F14) (by omega)).mono ?_
  rintro e h15 ⟨v15, rfl, o15, f15⟩
  obtain ⟨a15, c15, rfl⟩ := o15.slice
  have f715 : Frm [h6.size] h7 h15 := f714.trans (Frm.mono f15 (by simp))
  obtain ⟨F15, ga15, gb15, on15⟩ := later f715
  have m15 := m12.frm (f14.trans f15) (by simp)
  obtain ⟨es, cc, hmb, hes⟩ := set_size m15 (varsOf_nodup _)
  refine endH_ret ⟨_, _, _, rfl, len_map (kt := 9) (et := 4) (by kernel_rfl) hmb ⟨_, rfl, ?_⟩⟩
  rw [hes, cnd_if, if_pos (by simp)]
  refine ⟨_, _, _, (box6 ga15).2.2.2.2.2, _, _, _, (box6 gb15).2.2.2.2.2, (sfuncs_ok (on15.nodes F15) hll).mono ?_⟩
  rintro e h16 ⟨v16, rfl, o16, f16⟩
  obtain ⟨a16, c16, rfl⟩ := o16.slice
  have ga16 := f16.get ga15 (by simp)
  have gb16 := f16.get gb15 (by simp)
  have F16 := F15.trans f16
  have na1 : x1.m ≤ 1099511627775 := by have := na.1; omega
  have nb1 : x2.m ≤ 1099511627775 := by have := nb.1; omega
  refine endH_ret ⟨_, _, _, rfl, ⟨_, _, _, (box6 gb16).2.2.2.2.2, rfl⟩, ⟨_, _, _, (box6 ga16).2.2.2.2.2, rfl⟩, (sfuncs_ok (na.frm F16) na1).mono ?_⟩
  rintro e h17 ⟨v17, rfl, o17, f17⟩
  obtain ⟨a17, c17, rfl⟩ := o17.slice
  refine endH_ret ⟨_, _, _, rfl, ⟨_, _, _, (box6 (f17.get gb16 (by simp))).2.2.2.2.2, rfl⟩, (sfuncs_ok (nb.frm (F16.trans f17)) nb1).mono ?_⟩
  rintro e h18 ⟨v18, rfl, o18, f18⟩
  obtain ⟨a18, c18, rfl⟩ := o18.slice
  have q1 : (funcsOf n1.l).length ≤ n1.l.length := List.length_filter_le _ _
  have q2 : (funcsOf n2.l).length ≤ n2.l.length := List.length_filter_le _ _
  refine endH_ret ⟨_, _, _, rfl, in64 (by omega) (by omega), fin_bool ?_ (hR _ (F16.trans (f17.trans f18)))⟩
  rw [funcsOf, List.filter_append, List.length_append]
  simp [funcsOf]
end Go.Proofs.Ytoldgeolocfmiaa
