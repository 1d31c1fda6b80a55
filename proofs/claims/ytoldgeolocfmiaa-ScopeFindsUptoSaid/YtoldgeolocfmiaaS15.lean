/- Rows of nodes; Funcs. -/
import Derived.Test.YtoldgeolocfmiaaS14
namespace Go.Proofs.Ytoldgeolocfmiaa
open Go Go.Proofs Go.Proofs.Ytoldgeolocfmiaa.V
/-! ## Rows of nodes of the call's own -/

abbrev NV.row (y : NV) : List Value := [.int .i64 y.k, .string y.nm, .int .i64 y.num, .string y.tx, .slice y.a y.n y.c, .slice y.b y.m y.d]
theorem flat_get : ∀ (ys : List NV) (i r : Nat), r < 6 → (ys.flatMap NV.row)[i * 6 + r]? = (ys[i]?).bind fun y => y.row[r]?
  | [], i, r, _ => by simp
  | y :: ys, 0, r, hr => by
    rw [List.flatMap_cons, Nat.zero_mul, Nat.zero_add, List.getElem?_append_left (by simp; omega)]
    rfl
  | y :: ys, i + 1, r, hr => by
    rw [List.flatMap_cons, List.getElem?_append_right (by simp; omega)]
    have : (i + 1) * 6 + r - y.row.length = i * 6 + r := by simp; omega
    rw [this, flat_get ys i r hr]
    rfl
theorem flat_length (ys : List NV) : (ys.flatMap NV.row).length = ys.length * 6 := by
  induction ys with
  | nil => rfl
  | cons y ys ih => rw [List.flatMap_cons, List.length_append, ih]; simp; omega

/-- A row of nodes that lie in g0. -/
def OutN (g0 h : Heap) (base : Nat) (v : Value) (l : List ND) : Prop :=
  ∃ ys : List NV, ys.length = l.length ∧ Own h base 26 6 v l.length (ys.flatMap NV.row) ∧ ∀ (i : Nat) (y : NV) (k : ND), ys[i]? = some y → l[i]? = some k → NodeAt g0 y k
theorem OutN.nil (g0 h : Heap) (base : Nat) : OutN g0 h base (.slice none 0 0) [] := ⟨[], rfl, Own.nil _ _ _ _, fun i y k hy _ => by simp at hy⟩
theorem OutN.frm {g0 h h' : Heap} {base : Nat} {v : Value} {l : List ND} (ho : OutN g0 h base v l) (f : Frm [] h h') : OutN g0 h' base v l :=
  let ⟨ys, h1, h2, h3⟩ := ho; ⟨ys, h1, own_frm h2 f, h3⟩
theorem OutN.slice {g0 h : Heap} {base : Nat} {v : Value} {l : List ND} (ho : OutN g0 h base v l) : ∃ a c, v = .slice a l.length c := let ⟨_, _, h2, _⟩ := ho; V.Own.slice h2
theorem OutN.young {g0 h : Heap} {base : Nat} {v : Value} {l : List ND} (ho : OutN g0 h base v l) : ∀ b ∈ blockOf v, base ≤ b ∧ b < h.size := fun b hb => let ⟨_, _, h2, _⟩ := ho; V.Own.lt h2 (by simpa [blockOf] using hb)
theorem OutN.nodes {g0 h : Heap} {base : Nat} {a : Option Addr} {n c : Nat} {l : List ND} (ho : OutN g0 h base (.slice a n c) l) (f : Frm [] g0 h) : NodesAt h a n l := by
  obtain ⟨ys, h1, h2, h3⟩ := ho
  rcases h2.2 with ⟨hv, hz⟩ | ⟨g, cap, cur, hv, k2, k3, k4, k5, k6, k7⟩
  · cases hv
    have : l = [] := List.length_eq_zero_iff.1 hz
    subst this; exact nodes0 _ _
  · cases hv
    refine ⟨rfl, fun i k hi => ?_⟩
    have hlt := (List.getElem?_eq_some_iff.1 hi).1
    have hy : ys[i]? = some (ys[i]'(by omega)) := List.getElem?_eq_getElem _
    generalize ys[i]'(by omega) = y at hy
    have hc : ∀ r, r < 6 → cl h (⟨g, 0 + i * 6 + r, none⟩ : Addr) = y.row[r]? := fun r hr => by
      rw [cl_at k3, ← Array.getElem?_toList]
      have e : (cur.toList.take (l.length * 6))[i * 6 + r]? = y.row[r]? := by rw [k7, flat_get ys i r hr, hy]; rfl
      rw [List.getElem?_take_of_lt (by omega)] at e
      rw [Nat.zero_add]; exact e
    refine ⟨⟨g, 0, none⟩, y, rfl, ⟨?_, ?_, ?_, ?_, ?_, ?_⟩, (h3 i y k hy hi).frm f⟩
    · rw [add_at]; have := hc 0 (by omega); rwa [Nat.add_zero] at this
    · rw [add_at, add_at]; exact hc 1 (by omega)
    · rw [add_at, add_at]; exact hc 2 (by omega)
    · rw [add_at, add_at]; exact hc 3 (by omega)
    · rw [add_at, add_at]; exact hc 4 (by omega)
    · rw [add_at, add_at]; exact hc 5 (by omega)

theorem row_one (y : NV) : ∀ u ∈ y.row, u.oneCell' = true := fun u hu => by
  simp only [NV.row, List.mem_cons, List.not_mem_nil, or_false] at hu
  rcases hu with rfl | rfl | rfl | rfl | rfl | rfl <;> rfl

/-- One node more. -/
theorem app_node {g0 h : Heap} {base : Nat} {v : Value} {l : List ND} {y : NV} {k : ND} {K : Value → Heap → Prop} (ho : OutN g0 h base v l) (hk : NodeAt g0 y k) (hl : l.length ≤ 1099511627775) (hb : base ≤ h.size)
    (hK : ∀ v' h', OutN g0 h' base v' (l ++ [k]) → Frm (blockOf v) h h' → K v' h') :
    Al h (.cells y.cells 26) fun kk h1 => RunH Try.prog (Builtin.append_ #[24, 24] 24 #[v, .slice (some ⟨kk, 0, none⟩) 1 1]) h1 K := by
  obtain ⟨ys, h1, h2, h3⟩ := ho
  refine append_elem (z := .agg #[.int .i64 0, .string ⟨#[]⟩, .int .i64 0, .string ⟨#[]⟩, .slice none 0 0, .slice none 0 0]) (size := 6) (bytes := 96) (by kernel_rfl) (by kernel_rfl) rfl (by omega) h2 (us := y.row) rfl (row_one y) (by omega) (by simp only [maxLen]; omega) hb ?_
  intro v' h' o f _
  refine hK v' h' ⟨ys ++ [y], by simp [h1], by simpa using o, fun i z kd hz hi => ?_⟩ f
  by_cases e : i < ys.length
  · rw [List.getElem?_append_left e] at hz
    rw [List.getElem?_append_left (by omega)] at hi
    exact h3 i z kd hz hi
  · rw [List.getElem?_append_right (by omega)] at hz hi
    have e0 : i - ys.length = 0 := by have := (List.getElem?_eq_some_iff.1 hz).1; simp at this; omega
    rw [e0] at hz
    rw [← h1, e0] at hi
    simp only [List.getElem?_cons_zero, Option.some.injEq] at hz hi
    subst hz hi
    exact hk

/-- A row of nodes put behind. -/
theorem app_nodes {g0 h : Heap} {base : Nat} {v : Value} {l l2 : List ND} {b : Option Addr} {m c : Nat} {K : Value → Heap → Prop} (ho : OutN g0 h base v l) (h2 : NodesAt g0 b m l2) (f0 : Frm [] g0 h) (hl : l.length + l2.length ≤ 1099511627775) (hb : base ≤ h.size)
    (hK : ∀ v' h', OutN g0 h' base v' (l ++ l2) → Frm (blockOf v) h h' → K v' h') :
    RunH Try.prog (Builtin.append_ #[24, 24] 24 #[v, .slice b m c]) h K := by
  obtain ⟨ys, e1, o, h3⟩ := ho
  obtain ⟨hm, hkids⟩ := h2
  have hex : ∃ zs : List NV, zs.length = m ∧ ∀ (i : Nat) (z : NV), zs[i]? = some z → ∃ ad, b = some ad ∧ NVAt g0 (ad.add (i * 6)) z ∧ ∀ k, l2[i]? = some k → NodeAt g0 z k := by
    have hone : ∀ i, i < m → ∃ z : NV, ∃ ad, b = some ad ∧ NVAt g0 (ad.add (i * 6)) z ∧ ∀ k, l2[i]? = some k → NodeAt g0 z k := fun i hi => by
      obtain ⟨ad, z, e, q1, q2⟩ := hkids i _ (List.getElem?_eq_getElem (by omega))
      refine ⟨z, ad, e, q1, fun k hk => ?_⟩
      rw [List.getElem?_eq_getElem (by omega)] at hk
      cases hk; exact q2
    refine ⟨(List.range m).map fun i => if hi : i < m then Classical.choose (hone i hi) else ⟨0, ⟨#[]⟩, 0, ⟨#[]⟩, none, 0, 0, none, 0, 0⟩, by simp, fun i z hz => ?_⟩
    rw [List.getElem?_map, Option.map_eq_some_iff] at hz
    obtain ⟨j, hj, rfl⟩ := hz
    obtain ⟨hlt, e⟩ := List.getElem?_eq_some_iff.1 hj
    simp only [List.getElem_range] at e
    simp only [List.length_range] at hlt
    subst e
    simp only [dif_pos hlt]
    exact Classical.choose_spec (hone i hlt)
  obtain ⟨zs, hz1, hz2⟩ := hex
  obtain ⟨i, hi, he⟩ := Option.map_eq_some_iff.1 (by kernel_rfl : (Try.prog.info? 26).map (fun i => (i.zero, i.size, i.bytes)) = some (some (.agg #[.int .i64 0, .string ⟨#[]⟩, .int .i64 0, .string ⟨#[]⟩, .slice none 0 0, .slice none 0 0]), 6, 96))
  simp only [Prod.mk.injEq] at he
  refine append_sl (news := zs.flatMap NV.row) (by kernel_rfl) hi he.1 he.2.1 he.2.2 rfl (by omega) o (by rw [flat_length, hz1]) ?_ ?_ (by omega) (by simp only [maxLen]; omega) hb ?_
  · by_cases h0 : m = 0
    · exact .inl h0
    · refine .inr ?_
      obtain ⟨ad, e, _⟩ := hz2 0 _ (List.getElem?_eq_getElem (by omega))
      refine ⟨ad, e, fun j v hj => ?_⟩
      have hjlt := (List.getElem?_eq_some_iff.1 hj).1
      rw [flat_length] at hjlt
      have ej : j = j / 6 * 6 + j % 6 := by omega
      have hr : j % 6 < 6 := Nat.mod_lt _ (by omega)
      rw [ej, flat_get zs _ _ hr] at hj
      obtain ⟨z, hz, hv⟩ := Option.bind_eq_some_iff.1 hj
      obtain ⟨ad', e', q1, _⟩ := hz2 _ z hz
      rw [e] at e'; cases e'
      have q1 := q1.frm f0
      rw [ej, ← Addr.add_add]
      generalize j % 6 = r at hr hv
      rcases (show r = 0 ∨ r = 1 ∨ r = 2 ∨ r = 3 ∨ r = 4 ∨ r = 5 by omega) with rfl | rfl | rfl | rfl | rfl | rfl <;> (simp only [NV.row, List.getElem?_cons_zero, List.getElem?_cons_succ, Option.some.injEq] at hv; subst hv)
      · have : ∀ q : Addr, q.add 0 = q := fun q => by simp [Addr.add]
        rw [this]; exact q1.k
      · exact q1.nm
      · exact q1.num
      · exact q1.tx
      · exact q1.names
      · exact q1.l
  · intro u hu
    obtain ⟨z, _, hz⟩ := List.mem_flatMap.1 hu
    exact row_one z u hz
  · intro v' h' o' f _
    refine hK v' h' ⟨ys ++ zs, by simp [e1, hz1, hm], by rw [List.length_append, hm, List.flatMap_append]; exact o', fun i z kd hz hi => ?_⟩ f
    by_cases e : i < ys.length
    · rw [List.getElem?_append_left e] at hz
      rw [List.getElem?_append_left (by omega)] at hi
      exact h3 i z kd hz hi
    · rw [List.getElem?_append_right (by omega)] at hz hi
      rw [← e1] at hi
      obtain ⟨_, _, _, hn⟩ := hz2 _ z hz
      exact hn kd hi

def funcsOf (l : List ND) : List ND := l.filter fun n => decide (n.kind = 39)
theorem funcs_gen {f : FuncId} {h : Heap} {a : Option Addr} {n c : Nat} {l : List ND} (hl : NodesAt h a n l) (hn : n ≤ 1099511627775)
    (hc : ∀ R : Ending → Heap → Prop, (∃ (I3 : List Value → Heap → Prop) (μ4 : List Value → Heap → Nat), I3 [(.slice none 0 0), (.int .i64 (0 : Int))] h ∧ ∀ (a5 : Option Addr) (l6 c7 : Nat) (n8 : Int) (_D9 : Nat → Value) (h10 : Heap), I3 [(.slice a5 l6 c7), (.int .i64 n8)] h10 → cnd (decide (n8 < ((n : Nat) : Int))) ((0 ≤ n8 ∧ n8 < ((n : Nat) : Int) ∧ onSome a fun q11 => ∃ (n12 : Int) (s13 : ByteArray) (n14 : Int) (s15 : ByteArray) (a16 : Option Addr) (l17 c18 : Nat) (a19 : Option Addr) (l20 c21 : Nat), (cl h10 (q11.add ((n8 : Int).toNat * 6)) = some (.int .i64 n12) ∧ cl h10 ((q11.add ((n8 : Int).toNat * 6)).add 1) = some (.string s13) ∧ cl h10 ((q11.add ((n8 : Int).toNat * 6)).add 2) = some (.int .i64 n14) ∧ cl h10 ((q11.add ((n8 : Int).toNat * 6)).add 3) = some (.string s15) ∧ cl h10 ((q11.add ((n8 : Int).toNat * 6)).add 4) = some (.slice a16 l17 c18) ∧ cl h10 ((q11.add ((n8 : Int).toNat * 6)).add 5) = some (.slice a19 l20 c21)) ∧ Al h10 (.cells #[(.int .i64 (0 : Int)), (.string (⟨#[]⟩ : ByteArray)), (.int .i64 (0 : Int)), (.string (⟨#[]⟩ : ByteArray)), (.slice none 0 0), (.slice none 0 0)] 26) fun k22 h23 => StN h23 (⟨k22, 0, none⟩ : Addr) [(.int .i64 n12), (.string s13), (.int .i64 n14), (.string s15), (.slice a16 l17 c18), (.slice a19 l20 c21)] fun h24 => ∃ (n25 : Int), cl h24 (⟨k22, 0, none⟩ : Addr) = some (.int .i64 n25) ∧ cnd (n25 == (39 : Int)) (∃ (n26 : Int) (s27 : ByteArray) (n28 : Int) (s29 : ByteArray) (a30 : Option Addr) (l31 c32 : Nat) (a33 : Option Addr) (l34 c35 : Nat), (cl h24 (⟨k22, 0, none⟩ : Addr) = some (.int .i64 n26) ∧ cl h24 ((⟨k22, 0, none⟩ : Addr).add 1) = some (.string s27) ∧ cl h24 ((⟨k22, 0, none⟩ : Addr).add 2) = some (.int .i64 n28) ∧ cl h24 ((⟨k22, 0, none⟩ : Addr).add 3) = some (.string s29) ∧ cl h24 ((⟨k22, 0, none⟩ : Addr).add 4) = some (.slice a30 l31 c32) ∧ cl h24 ((⟨k22, 0, none⟩ : Addr).add 5) = some (.slice a33 l34 c35)) ∧ Al h24 (.cells #[(.int .i64 n26), (.string s27), (.int .i64 n28), (.string s29), (.slice a30 l31 c32), (.slice a33 l34 c35)] 26) fun k36 h37 => RunH Try.prog (Builtin.append_ #[24, 24] 24 #[(.slice a5 l6 c7), (.slice (some ⟨k36, 0, none⟩) 1 1)]) h37 fun u38 h39 => ∃ (a40 : Option Addr) (l41 c42 : Nat), u38 = (.slice a40 l41 c42) ∧ (In64 (n8 + (1 : Int)) ∧ (I3 [(.slice a40 l41 c42), (.int .i64 (n8 + (1 : Int)))] h39 ∧ μ4 [(.slice a40 l41 c42), (.int .i64 (n8 + (1 : Int)))] h39 < μ4 [(.slice a5 l6 c7), (.int .i64 n8)] h10))) ((In64 (n8 + (1 : Int)) ∧ (I3 [(.slice a5 l6 c7), (.int .i64 (n8 + (1 : Int)))] h24 ∧ μ4 [(.slice a5 l6 c7), (.int .i64 (n8 + (1 : Int)))] h24 < μ4 [(.slice a5 l6 c7), (.int .i64 n8)] h10))))) (R (.returned (.slice a5 l6 c7)) h10)) → CallsH Try.prog f #[.slice a n c] h R) :
    CallsH Try.prog f #[.slice a n c] h fun e h' => ∃ v, e = .returned v ∧ OutN h h' h.size v (funcsOf l) ∧ Frm [] h h' := by
  refine hc _ ?_
  have hln := hl.1
  refine loop_sl (N := n) (v0 := .slice none 0 0) (X := fun k v h' => Frm [] h h' ∧ OutN h h' h.size v (funcsOf (l.take k))) ⟨Frm.refl _ _, by simpa [funcsOf] using OutN.nil h h h.size⟩ ?_
  rintro k a' n' c' h1 hk ⟨f1, o1⟩ I μ step
  rw [cnd_if]
  by_cases hlt : k < n
  · rw [if_pos (by simpa using hlt)]
    have hi : l[k]? = some (l[k]'(by omega)) := List.getElem?_eq_getElem _
    generalize l[k]'(by omega) = kd at hi
    refine ⟨by omega, by omega, node_round2 hl f1 hi fun kk y h2 g2 k2 f2 n2 => ?_⟩
    obtain ⟨r1, r2, r3, r4, r5, r6⟩ := box6 g2
    have ek := n2.kind
    have F2 := f1.trans f2
    have O2 := o1.frm f2
    have hflen : (funcsOf (l.take k)).length ≤ k := Nat.le_trans (List.length_filter_le _ _) (List.length_take_le _ _)
    refine ⟨_, r1, ?_⟩
    rw [cnd_if]
    by_cases z : kd.kind = 39
    · rw [if_pos (by rw [← ek]; simpa using z)]
      refine ⟨_, _, _, _, _, _, _, _, _, _, ⟨r1, r2, r3, r4, r5, r6⟩, app_node O2 n2 (by omega) F2.1 fun v' h3 o3 f3 => ?_⟩
      obtain ⟨a3, c3, rfl⟩ := o3.slice
      refine ⟨_, _, _, rfl, in64 (by omega) (by omega), step _ h3 hlt ⟨F2.young f3 fun x hx => .inr (O2.young x hx).1, ?_⟩⟩
      rw [List.take_add_one, hi]
      simpa [funcsOf, z] using o3
    · rw [if_neg (by rw [← ek]; simpa using z)]
      refine ⟨in64 (by omega) (by omega), step _ h2 hlt ⟨F2, ?_⟩⟩
      rw [List.take_add_one, hi]
      simpa [funcsOf, z] using O2
  · rw [if_neg (by simpa using hlt)]
    rw [List.take_of_length_le (by omega)] at o1
    exact ⟨_, rfl, o1, f1⟩
theorem sfuncs_ok {h : Heap} {a : Option Addr} {n c : Nat} {l : List ND} (hl : NodesAt h a n l) (hn : n ≤ 1099511627775) :
    CallsH Try.prog 17 #[.slice a n c] h fun e h' => ∃ v, e = .returned v ∧ OutN h h' h.size v (funcsOf l) ∧ Frm [] h h' := funcs_gen hl hn fun R hyp => c17 _ _ _ _ R hyp
theorem rfuncs_ok {h : Heap} {a : Option Addr} {n c : Nat} {l : List ND} (hl : NodesAt h a n l) (hn : n ≤ 1099511627775) :
    CallsH Try.prog 18 #[.slice a n c] h fun e h' => ∃ v, e = .returned v ∧ OutN h h' h.size v (funcsOf l) ∧ Frm [] h h' := funcs_gen hl hn fun R hyp => c18 _ _ _ _ R hyp
end Go.Proofs.Ytoldgeolocfmiaa
