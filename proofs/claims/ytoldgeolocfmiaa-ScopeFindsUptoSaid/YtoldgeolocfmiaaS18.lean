/- ScopeFinds: the walk. -/
import Derived.Test.YtoldgeolocfmiaaS17
namespace Go.Proofs.Ytoldgeolocfmiaa
open Go Go.Proofs Go.Proofs.Ytoldgeolocfmiaa.V
/-! ## The document's own: Same, decls, Vars -/

set_option maxRecDepth 20000 in
set_option maxHeartbeats 1000000 in
/-- Two values of one tree are the same. -/
theorem same7_ok : ∀ (d : Nat) {h : Heap} {x y : NV} {n : ND}, NodeAt h x n → NodeAt h y n → n.deep ≤ d → n.Ok → Ret Try.prog 19 #[x.val, y.val] h (.bool true)
  | 0, _, _, _, n, _, _, hd, _ => by have := n.deep_eq; omega
  | d + 1, h, x, y, n, hx, hy, hd, ho => by
    refine .mk fun R hR => c19 _ _ _ _ _ _ _ _ _ _ _ _ _ _ _ _ _ _ _ _ _ _ (al_intro fun h1 e1 g1 f1 s1 => al_intro fun h2 e2 g2 f2 s2 => ?_)
    have F2 := f1.trans f2
    have p2 := f2.get g1 (by simp)
    obtain ⟨a1, a2, a3, a4, a5, a6⟩ := box6 p2
    obtain ⟨b1, b2, b3, b4, b5, b6⟩ := box6 g2
    obtain ⟨o1, o2, o3, o4, o5, o6⟩ := (hx.frm F2).open
    obtain ⟨q1, q2, q3, q4, q5, q6⟩ := (hy.frm F2).open
    have hlen := ho.len
    have hnlen := ho.nlen
    have l1 := o5.1
    have l2 := q5.1
    have m1 := o6.1
    have m2 := q6.1
    refine ⟨fun vs h' => vs = [] ∧ h' = h2, ?_, ?_⟩
    · refine ⟨_, a1, _, b1, ?_⟩
      rw [← o1, ← q1, cnd_if, if_neg (by simp)]
      refine ⟨_, a2, _, b2, ?_⟩
      rw [beq_str, ← o2, ← q2, cnd_if, if_neg (by simp)]
      refine ⟨_, a3, _, b3, ?_⟩
      rw [← o3, ← q3, cnd_if, if_neg (by simp)]
      refine ⟨_, a4, _, b4, ?_⟩
      rw [beq_str, ← o4, ← q4, cnd_if, if_neg (by simp)]
      refine ⟨_, _, _, a5, _, _, _, b5, ?_⟩
      rw [cnd_if, if_neg (by simp; omega)]
      refine ⟨_, _, _, a6, _, _, _, b6, ?_⟩
      rw [cnd_if, if_neg (by simp; omega)]
      exact ⟨rfl, rfl⟩
    rintro _ h3 ⟨_, e3⟩
    rw [e3]; clear e3 h3
    refine ⟨_, _, _, a5, ?_⟩
    refine loop_nat (N := x.n) (X := fun k h' => h' = h2) rfl ?_
    rintro k h3 hk e3 I μ step
    rw [e3] at step ⊢; clear e3
    rw [cnd_if]
    by_cases hlt : k < x.n
    · rw [if_pos (by simpa using hlt)]
      have hi : n.names[k]? = some (n.names[k]'(by omega)) := List.getElem?_eq_getElem _
      generalize n.names[k]'(by omega) = s at hi
      obtain ⟨ad, ea, hca⟩ := o5.2 k s hi
      obtain ⟨bd, eb, hcb⟩ := q5.2 k s hi
      refine ⟨_, _, _, a5, by omega, by omega, ?_⟩
      rw [ea]
      refine (show onSome _ _ from ?_)
      simp only [onSome_some', Int.toNat_natCast, Nat.mul_one]
      refine ⟨s, hca, _, _, _, b5, by omega, by omega, ?_⟩
      rw [eb]
      refine (show onSome _ _ from ?_)
      simp only [onSome_some']
      refine ⟨s, hcb, ?_⟩
      rw [beq_str, cnd_if, if_neg (by simp)]
      exact ⟨in64 (by omega) (by omega), step h2 hlt rfl⟩
    rw [if_neg (by simpa using hlt)]
    refine ⟨_, _, _, a6, ?_⟩
    refine loop_nat (N := x.m) (X := fun k h' => Frm [] h2 h') (Frm.refl _ _) ?_
    rintro k2 h4 hk2 f4 I2 μ2 step2
    obtain ⟨a1, a2, a3, a4, a5, a6⟩ := box6 (f4.get p2 (by simp))
    obtain ⟨b1, b2, b3, b4, b5, b6⟩ := box6 (f4.get g2 (by simp))
    rw [cnd_if]
    by_cases hlt2 : k2 < x.m
    · rw [if_pos (by simpa using hlt2)]
      have hi : n.l[k2]? = some (n.l[k2]'(by omega)) := List.getElem?_eq_getElem _
      have hmem := List.mem_of_getElem? hi
      generalize n.l[k2]'(by omega) = kd at hi hmem
      obtain ⟨ad, u, ea, hva, hna⟩ := (o6.frm f4).2 k2 kd hi
      obtain ⟨bd, v, eb, hvb, hnb⟩ := (q6.frm f4).2 k2 kd hi
      have hkd := ND.kid_deep hmem
      refine ⟨_, _, _, a6, by omega, by omega, ?_⟩
      rw [ea]
      refine (show onSome _ _ from ?_)
      simp only [onSome_some', Int.toNat_natCast]
      refine ⟨_, _, _, _, _, _, _, _, _, _, ⟨hva.k, hva.nm, hva.num, hva.tx, hva.names, hva.l⟩, _, _, _, b6, by omega, by omega, ?_⟩
      rw [eb]
      refine (show onSome _ _ from ?_)
      simp only [onSome_some']
      refine ⟨_, _, _, _, _, _, _, _, _, _, ⟨hvb.k, hvb.nm, hvb.num, hvb.tx, hvb.names, hvb.l⟩, (same7_ok d hna hnb (by omega) (ho.kid hmem)).use fun h5 f5 => ⟨_, rfl, ?_⟩⟩
      rw [cnd_if, if_neg (by decide)]
      exact ⟨in64 (by omega) (by omega), step2 h5 hlt2 (f4.trans f5)⟩
    · rw [if_neg (by simpa using hlt2)]
      exact hR _ (F2.trans f4)

/-- Strings put behind. -/
theorem app_strs {h : Heap} {base : Nat} {v : Value} {out L : List ByteArray} {a : Option Addr} {n c : Nat} {K : Value → Heap → Prop} (ho : OutAt h base v out) (hs : StrsAt h a n L) (hl : out.length + L.length ≤ 4398046511104) (hb : base ≤ h.size)
    (hk : ∀ v' h', OutAt h' base v' (out ++ L) → Frm (blockOf v) h h' → K v' h') :
    RunH Try.prog (Builtin.append_ #[23, 23] 23 #[v, .slice a n c]) h K := by
  obtain ⟨i, hi, he⟩ := Option.map_eq_some_iff.1 (by kernel_rfl : (Try.prog.info? 9).map (fun i => (i.zero, i.size, i.bytes)) = some (some (.string ⟨#[]⟩), 1, 16))
  simp only [Prod.mk.injEq] at he
  obtain ⟨hn, hc⟩ := hs
  refine append_sl (news := strV L) (by kernel_rfl) hi he.1 he.2.1 he.2.2 rfl (by omega) ho (by simp [strV, hn]) ?_ ?_ (by omega) (by simp only [maxLen]; omega) hb ?_
  · by_cases h0 : n = 0
    · exact .inl h0
    · refine .inr ?_
      obtain ⟨ad, e, _⟩ := hc 0 _ (List.getElem?_eq_getElem (by omega))
      refine ⟨ad, e, fun j u hj => ?_⟩
      simp only [strV, List.getElem?_map, Option.map_eq_some_iff] at hj
      obtain ⟨s, hs, rfl⟩ := hj
      obtain ⟨ad', e', hc'⟩ := hc j s hs
      rw [e] at e'; cases e'
      exact hc'
  · intro u hu
    obtain ⟨s, _, rfl⟩ := List.mem_map.1 hu
    rfl
  · intro v' h' o f _
    refine hk v' h' ?_ f
    have : Own h' base 9 1 v' (out ++ L).length (strV (out ++ L)) := by
      rw [List.length_append, hn, strV, List.map_append]; exact o
    exact this

set_option maxRecDepth 20000 in
set_option maxHeartbeats 1000000 in
theorem rdecls_ok : ∀ (d : Nat) {h : Heap} {a : Option Addr} {n c : Nat} {l : List ND}, NodesAt h a n l → ND.deepAll l ≤ d → ND.sizeAll l ≤ 4398046511104 →
    CallsH Try.prog 29 #[.slice a n c] h fun e h' => ∃ v, e = .returned v ∧ OutAt h' h.size v (decls (d + 1) l) ∧ Frm [] h h' := by
  intro d
  induction d with
  | zero =>
    intro h a n c l hl hd hs
    have el : l = [] := by
      cases l with
      | nil => rfl
      | cons k r => have := k.deep_eq; simp only [ND.deepAll] at hd; omega
    subst el
    have hn : n = 0 := hl.1.symm
    subst hn
    refine c29 _ _ _ _ _ ?_
    refine loop_sl (N := 0) (v0 := .slice none 0 0) (X := fun k v h' => h' = h ∧ v = .slice none 0 0) ⟨rfl, rfl⟩ ?_
    rintro k a' n' c' h' hk ⟨rfl, e⟩ I μ step
    cases e
    rw [cnd_if, if_neg (by simp)]
    exact ⟨_, rfl, Own.nil _ _ _ _, Frm.refl _ _⟩
  | succ d ih =>
    intro h a n c l hl hd hs
    refine c29 _ _ _ _ _ ?_
    have hll := ND.length_le l
    have hn := hl.1
    refine loop_sl (N := n) (v0 := .slice none 0 0) (X := fun k v h' => Frm [] h h' ∧ OutAt h' h.size v (decls (d + 2) (l.take k))) ⟨Frm.refl _ _, by simpa [decls, OutAt, strV] using Own.nil h h.size 9 1⟩ ?_
    rintro k a' n' c' h1 hk ⟨f1, o1⟩ I μ step
    rw [cnd_if]
    by_cases hlt : k < n
    · rw [if_pos (by simpa using hlt)]
      have hi : l[k]? = some (l[k]'(by omega)) := List.getElem?_eq_getElem _
      have hmem := List.mem_of_getElem? hi
      generalize l[k]'(by omega) = kd at hi hmem
      have hdt := decls_take (d + 1) hi
      have hcount : (decls (d + 2) (l.take k)).length + kd.size ≤ 4398046511104 := by
        have h1 := decls_length (d + 2) (l.take k)
        have h2 : ND.sizeAll (l.take (k + 1)) = ND.sizeAll (l.take k) + kd.size := by
          rw [List.take_add_one, hi, sizeAll_append]; simp [ND.sizeAll]
        have h3 := sizeAll_take l (k + 1)
        omega
      generalize hO : decls (d + 2) (l.take k) = O at *
      have hks := kd.size_eq
      refine ⟨by omega, by omega, node_round2 hl f1 hi fun kk y h2 g2 k2 f2 n2 => ?_⟩
      obtain ⟨o2k, o2n, _, _, _, o2l⟩ := n2.open
      have F2 := f1.trans f2
      have O2 := o1.frm f2
      obtain ⟨b1, b2, b3, b4, b5, b6⟩ := box6 g2
      have hkd : ND.deepAll kd.l ≤ d := by have := ND.deepAll_le hmem; have := kd.deep_eq; omega
      have hksz : ND.sizeAll kd.l ≤ 4398046511104 := by omega
      have hD := decls_length (d + 1) kd.l
      -- the parts' own names, put behind
      have tail : ∀ {h3 : Heap} {a3 : Option Addr} {n3 c3 : Nat} {out : List ByteArray} {K : Value → Heap → Prop} {Q : List PanicEntry → Heap → Prop}, Frm [] h h3 → h3[kk]? = some (.cells y.cells 26 (0, 0)) → OutAt h3 h.size (.slice a3 n3 c3) out → out.length + (decls (d + 1) kd.l).length ≤ 4398046511104 →
          (∀ v' h', Frm [] h h' → OutAt h' h.size v' (out ++ decls (d + 1) kd.l) → K v' h') →
          ∃ (a39 : Option Addr) (l40 c41 : Nat), cl h3 ((⟨kk, 0, none⟩ : Addr).add 5) = some (.slice a39 l40 c41) ∧ CallsH Try.prog 29 #[(.slice a39 l40 c41)] h3 (endH (fun u42 h43 => ∃ (a44 : Option Addr) (l45 c46 : Nat), u42 = (.slice a44 l45 c46) ∧ RunH Try.prog (Builtin.append_ #[23, 23] 23 #[(.slice a3 n3 c3), (.slice a44 l45 c46)]) h43 fun u47 h48 => ∃ (a49 : Option Addr) (l50 c51 : Nat), u47 = (.slice a49 l50 c51) ∧ K (.slice a49 l50 c51) h48) Q) := by
        intro h3 a3 n3 c3 out K Q F3 g3 O3 hlen hK
        refine ⟨_, _, _, (box6 g3).2.2.2.2.2, (ih (o2l.frm F3) hkd hksz).mono ?_⟩
        rintro e h4 ⟨v4, rfl, o4, f4⟩
        obtain ⟨a4, c4, rfl⟩ := o4.slice
        have O4 := O3.frm f4
        refine endH_ret ⟨_, _, _, rfl, app_strs O4 o4.strs hlen (F3.trans f4).1 fun v5 h5 o5 f5 => ?_⟩
        obtain ⟨a5, c5, rfl⟩ := o5.slice
        refine ⟨_, _, _, rfl, hK _ h5 ((F3.trans f4).young f5 fun x hx => .inr (own_block_old O4 (Frm.refl _ _) x hx).1) ?_⟩
        exact o5
      refine ⟨fun vs h' => vs = [] ∧ h' = h2 ∧ ¬(kd.kind = 39 ∨ kd.kind = 10), ?_, ?_⟩
      · refine ⟨_, b1, ?_⟩
        rw [cnd_if]
        by_cases z1 : y.k = 39
        · rw [if_pos (by simpa using z1)]
          refine ⟨in64 (by omega) (by omega), step _ h2 hlt ⟨F2, ?_⟩⟩
          rw [hdt, declOf, if_pos (.inl (o2k.trans z1)), List.append_nil]; exact O2
        rw [if_neg (by simpa using z1)]
        refine ⟨_, b1, ?_⟩
        rw [cnd_if]
        by_cases z2 : y.k = 10
        · rw [if_pos (by simpa using z2)]
          refine ⟨in64 (by omega) (by omega), step _ h2 hlt ⟨F2, ?_⟩⟩
          rw [hdt, declOf, if_pos (.inr (o2k.trans z2)), List.append_nil]; exact O2
        rw [if_neg (by simpa using z2)]
        exact ⟨rfl, rfl, by rw [o2k]; omega⟩
      rintro _ h3 ⟨_, e3, z1⟩
      rw [e3]; clear e3 h3
      have hdone : ∀ (v' : Value) (h' : Heap), Frm [] h h' → OutAt h' h.size v' ((O ++ if kd.kind = 23 then [kd.name] else []) ++ decls (d + 1) kd.l) → In64 ((k : Int) + 1) ∧ I [v', .int .i64 ((k : Int) + 1)] h' ∧ μ [v', .int .i64 ((k : Int) + 1)] h' < μ [.slice a' n' c', .int .i64 (k : Int)] h1 := fun v' h' F' O' => by
        refine ⟨in64 (by omega) (by omega), step v' h' hlt ⟨F', ?_⟩⟩
        rw [hdt, declOf, if_neg z1, ← List.append_assoc]; exact O'
      refine ⟨_, b1, ?_⟩
      rw [cnd_if]
      by_cases z2 : kd.kind = 23
      · rw [if_pos (by rw [← o2k]; simpa using z2)]
        rw [if_pos z2] at hdone
        refine ⟨_, b2, app_str O2 (by omega) F2.1 fun v3 h3 o3 f3 hb3 => ?_⟩
        obtain ⟨a3, c3, rfl⟩ := V.Own.slice o3
        have hold := own_block_old O2 (Frm.refl _ _)
        have F3 : Frm [] h h3 := F2.young f3 fun x hx => .inr (hold x hx).1
        have nkk : kk ∉ blockOf (.slice a' n' c') := fun hm => by have := (own_block_old o1 (Frm.refl _ _) kk hm).2; omega
        refine ⟨_, _, _, rfl, tail F3 (f3.get g2 nkk) o3 (by simp; omega) fun v' h' F' O' => hdone v' h' F' ?_⟩
        rw [o2n]; exact O'
      · rw [if_neg (by rw [← o2k]; simpa using z2)]
        rw [if_neg z2, List.append_nil] at hdone
        exact tail F2 g2 O2 (by omega) hdone
    · rw [if_neg (by simpa using hlt)]
      rw [List.take_of_length_le (by omega)] at o1
      exact ⟨_, rfl, o1, f1⟩

set_option maxRecDepth 20000 in
theorem rvars_ok {h : Heap} {a : Option Addr} {n c : Nat} {l : List ND} (hl : NodesAt h a n l) (hs : ND.sizeAll l ≤ 4398046511104) :
    CallsH Try.prog 21 #[.slice a n c] h fun e h' => ∃ v, e = .returned v ∧ OutAt h' h.size v (varsOf l) ∧ Frm [] h h' := by
  refine c21 _ _ _ _ _ ((rdecls_ok _ hl (Nat.le_refl _) hs).mono ?_)
  rintro e h1 ⟨v1, rfl, o1, f1⟩
  obtain ⟨a1, c1, rfl⟩ := o1.slice
  have hD := decls_length (ND.deepAll l + 1) l
  rw [show decls (ND.deepAll l + 1) l = declsOf l from rfl] at o1 hD ⊢
  refine endH_ret ⟨_, _, _, rfl, ?_⟩
  refine loop_sl (N := (declsOf l).length) (v0 := .slice none 0 0) (X := fun k v h' => h1.size ≤ h'.size ∧ Frm [] h h' ∧ OutAt h' h1.size v (adds [] ((declsOf l).take k)) ∧ OutAt h' h.size (.slice a1 (declsOf l).length c1) (declsOf l) ∧ ∀ b ∈ blockOf v, b ∉ blockOf (.slice a1 (declsOf l).length c1)) ⟨Nat.le_refl _, f1, by simpa [adds, OutAt, strV] using Own.nil h1 h1.size 9 1, o1, fun b hb => by simp [blockOf, Value.ownBlock] at hb⟩ ?_
  rintro j aj nj cj h5 hj ⟨hsz, F5, O5, oL5, dj⟩ I' μ' step'
  rw [cnd_if]
  by_cases hlt' : j < (declsOf l).length
  · rw [if_pos (by simpa using hlt')]
    have hi' : (declsOf l)[j]? = some ((declsOf l)[j]'hlt') := List.getElem?_eq_getElem _
    generalize (declsOf l)[j]'hlt' = s at hi'
    obtain ⟨ad, eb, hc⟩ := oL5.strs.2 j s hi'
    have hoj := adds_length ((declsOf l).take j) []
    have : ((declsOf l).take j).length ≤ j := List.length_take_le _ _
    simp only [List.length_nil] at hoj
    refine ⟨by omega, by omega, ?_⟩
    rw [eb]
    refine (show onSome _ _ from ?_)
    simp only [onSome_some', Int.toNat_natCast, Nat.mul_one]
    refine ⟨s, hc, addOne (K := fun v h' => In64 ((j : Int) + 1) ∧ I' [v, .int .i64 ((j : Int) + 1)] h' ∧ μ' [v, .int .i64 ((j : Int) + 1)] h' < μ' [.slice aj nj cj, .int .i64 (j : Int)] h5) O5 (by omega) hsz (shas_ok O5.strs (by have := O5.strs.1; omega) s) fun v' h6 o6 f6 hb6 => ⟨in64 (by omega) (by omega), step' v' h6 hlt' ⟨Nat.le_trans hsz f6.1, ?_, ?_, ?_, ?_⟩⟩⟩
    · exact F5.young f6 fun x hx => .inr (by have := (own_block_old O5 (Frm.refl _ _) x hx).1; have := f1.1; omega)
    · rw [List.take_add_one, hi', adds_append]; exact o6
    · exact V.Own.frm f6 oL5 fun b hb hm => dj b hm (by simpa [blockOf] using hb)
    · intro b hb hbL
      rcases hb6 b (by simpa [blockOf] using hb) with h1 | h1
      · exact dj b (by simpa [blockOf] using h1) hbL
      · have := (own_block_old oL5 (Frm.refl _ _) b hbL).2
        omega
  · rw [if_neg (by simpa using hlt')]
    rw [List.take_of_length_le (by omega)] at O5
    exact ⟨_, rfl, V.Own.base O5 f1.1, F5⟩

set_option maxRecDepth 20000 in
set_option maxHeartbeats 1000000 in
theorem finds_ok {h : Heap} (hm : MaxOk h) {a : Option Addr} {n c : Nat} {l : List ND} (hl : NodesAt h a n l) (hs : ND.sizeAll l ≤ 1099511627775) (hok : ∀ k ∈ l, k.Ok) :
    Ret Try.prog 5 #[.slice a n c] h (.bool true) := by
  have hln := ND.length_le l
  have hn : n ≤ 1099511627775 := by have := hl.1; omega
  refine .mk fun R hR => c5 _ _ _ _ _ ((sfuncs_ok hl hn).mono ?_)
  rintro e h1 ⟨v1, rfl, o1, f1⟩
  obtain ⟨a1, c1, rfl⟩ := o1.slice
  refine endH_ret ⟨_, _, _, rfl, (rfuncs_ok (hl.frm f1) hn).mono ?_⟩
  rintro e h2 ⟨v2, rfl, o2, f2⟩
  obtain ⟨a2, c2, rfl⟩ := o2.slice
  have F2 := f1.trans f2
  have nd1 := (o1.frm f2).nodes F2
  have nd2 := o2.nodes f2
  have q1 : (funcsOf l).length ≤ l.length := List.length_filter_le _ _
  refine endH_ret ⟨_, _, _, rfl, ?_⟩
  rw [cnd_if, if_neg (by simp)]
  refine loop_nat (N := (funcsOf l).length) (X := fun k h' => Frm [] h2 h') (Frm.refl _ _) ?_
  rintro k h3 hk f3 I μ step
  rw [cnd_if]
  by_cases hlt : k < (funcsOf l).length
  · rw [if_pos (by simpa using hlt)]
    have hi : (funcsOf l)[k]? = some ((funcsOf l)[k]'hlt) := List.getElem?_eq_getElem _
    have hmem := List.mem_of_getElem? hi
    generalize (funcsOf l)[k]'hlt = kd at hi hmem
    obtain ⟨ad, u, ea, hva, hna⟩ := (nd1.frm f3).2 k kd hi
    obtain ⟨bd, v, eb, hvb, hnb⟩ := (nd2.frm f3).2 k kd hi
    refine ⟨by omega, by omega, ?_⟩
    rw [ea]
    refine (show onSome _ _ from ?_)
    simp only [onSome_some', Int.toNat_natCast]
    refine ⟨_, _, _, _, _, _, _, _, _, _, ⟨hva.k, hva.nm, hva.num, hva.tx, hva.names, hva.l⟩, by omega, by omega, ?_⟩
    rw [eb]
    refine (show onSome _ _ from ?_)
    simp only [onSome_some']
    refine ⟨_, _, _, _, _, _, _, _, _, _, ⟨hvb.k, hvb.nm, hvb.num, hvb.tx, hvb.names, hvb.l⟩, (same7_ok _ hna hnb (Nat.le_refl _) (hok kd (List.mem_filter.1 hmem).1)).use fun h4 f4 => ⟨_, rfl, ?_⟩⟩
    rw [cnd_if, if_neg (by decide)]
    exact ⟨in64 (by omega) (by omega), step h4 hlt (f3.trans f4)⟩
  rw [if_neg (by simpa using hlt)]
  have F3 := F2.trans f3
  refine (live_ok (hm.frm F3)).use fun h4 f4 => ⟨_, rfl, ?_⟩
  rw [cnd_if, if_pos rfl]
  have F4 := F3.trans f4
  refine (varsL_ok (hl.frm F4) (by omega)).mono ?_
  rintro e h5 ⟨v5, rfl, o5, f5⟩
  obtain ⟨a5, c5, rfl⟩ := o5.slice
  refine endH_ret ⟨_, _, _, rfl, (rvars_ok (hl.frm (F4.trans f5)) (by omega)).mono ?_⟩
  rintro e h6 ⟨v6, rfl, o6, f6⟩
  obtain ⟨a6, c6, rfl⟩ := o6.slice
  have hV := varsOf_length l
  refine endH_ret ⟨_, _, _, rfl, (same_ok (o5.frm f6).strs o6.strs (by omega)).use ⟨_, rfl, ?_⟩⟩
  rw [cnd_if, if_pos (by simp)]
  refine al_intro fun h7 e7 g7 f7 s7 => ?_
  have F6 := F4.trans (f5.trans f6)
  let xf : NV := ⟨39, ⟨#[]⟩, 0, ⟨#[]⟩, none, 0, 0, none, 0, 0⟩
  have nf : NodesAt h7 (some ⟨h6.size, 0, none⟩) 1 [leaf 39 ⟨#[]⟩] := nodes1 (x := xf) g7 (node0 (x := xf) rfl (nodes0 _ none))
  refine (sfuncs_ok nf (by omega)).mono ?_
  rintro e h8 ⟨v8, rfl, o8, f8⟩
  obtain ⟨a8, c8, rfl⟩ := o8.slice
  exact endH_ret ⟨_, _, _, rfl, fin_bool (by simp [funcsOf, leaf, ND.kind]) (hR _ (F6.trans (f7.trans f8)))⟩
end Go.Proofs.Ytoldgeolocfmiaa
