/- DiskGoes, walked. -/
import Derived.Test.YtpekdeeagnfecaaL3
namespace Go.Proofs.Ytpekdeeagnfecaa
open Go Go.Proofs Go.Proofs.Ytpekdeeagnfecaa.V
/-! ## Scripts -/

def run (s : St) (l : List Op) : St := l.foldl St.step s

/-- A call, as it lies in memory. -/
structure OpAt (h : Heap) (ad : Addr) (o : Op) : Prop where
  act : cl h ad = some (.int .i64 o.act)
  i : cl h (ad.add 1) = some (.int .i64 o.i)
  n : cl h (ad.add 2) = some (.int .i64 o.n)
  b : ∃ a l c, cl h (ad.add 3) = some (.slice a l c) ∧ BytesAt h a l o.b
  small : o.n ≤ 9223372036854775807
/-- A script, as it lies in memory. -/
structure OpsAt (h : Heap) (a : Option Addr) (l : Nat) (ops : List Op) : Prop where
  len : ops.length = l
  small : l ≤ 140737488351232
  each : ∀ (i : Nat) (o : Op), ops[i]? = some o → ∃ ad, a = some ad ∧ OpAt h (ad.add (i * 4)) o

theorem op_load {h0 h : Heap} (F : Frm [] h0 h) {a : Option Addr} {l : Nat} {ops : List Op} (ho : OpsAt h0 a l ops) {i : Nat} {o : Op} (hi : ops[i]? = some o) :
    ∃ ad a' l' c', a = some ad ∧ cl h (ad.add (i * 4)) = some (.int .i64 o.act) ∧ cl h ((ad.add (i * 4)).add 1) = some (.int .i64 o.i) ∧ cl h ((ad.add (i * 4)).add 2) = some (.int .i64 o.n) ∧
      cl h ((ad.add (i * 4)).add 3) = some (.slice a' l' c') ∧ BytesAt h a' l' o.b ∧ (0 < l' → ∀ x, a' = some x → x.block < h0.size) ∧ o.n ≤ 9223372036854775807 := by
  obtain ⟨ad, e, h1, h2, h3, ⟨a', l', c', h4, h5⟩, h6⟩ := ho.each i o hi
  exact ⟨ad, a', l', c', e, F.cl h1 (by simp), F.cl h2 (by simp), F.cl h3 (by simp), F.cl h4 (by simp), h5.frm F (by simp), fun h0 x e => (h5.here h0 x e).2, h6⟩

theorem run_snoc (s : St) (ops : List Op) {i : Nat} {o : Op} (hi : ops[i]? = some o) : run s (ops.take (i + 1)) = (run s (ops.take i)).step o := by
  rw [List.take_add_one, hi]
  simp [run, List.foldl_append]

/-- Both disks at one state, in memory laid since h0. -/
structure Both (d : Impl) (r : RefD) (s : St) (h0 h : Heap) : Prop where
  dAt : d.At s h
  rAt : r.At s h
  apart : ∀ b ∈ d.blocks, b ∉ r.blocks
  yd : ∀ b ∈ d.blocks, h0.size ≤ b
  yr : ∀ b ∈ r.blocks, h0.size ≤ b
  frm : Frm [] h0 h
theorem Both.go {d : Impl} {r : RefD} {s s' : St} {h0 h h' : Heap} (hb : Both d r s h0 h) (hd : d.At s' h') (hr : r.At s' h') (f : Frm (d.blocks ++ r.blocks) h h') : Both d r s' h0 h' :=
  ⟨hd, hr, hb.apart, hb.yd, hb.yr, hb.frm.young f fun x hx => by
    rcases List.mem_append.1 hx with h1 | h1
    · exact .inr (hb.yd x h1)
    · exact .inr (hb.yr x h1)⟩
theorem Both.still {d : Impl} {r : RefD} {s : St} {h0 h h' : Heap} (hb : Both d r s h0 h) (f : Frm [] h h') : Both d r s h0 h' :=
  hb.go (hb.dAt.frm f (by simp) (by simp) (by simp)) (hb.rAt.frm f (by simp) (by simp) (by simp)) (f.mono (by simp))

theorem RefD.lt {d : RefD} {s : St} {h : Heap} (hd : d.At s h) : ∀ b ∈ d.blocks, b < h.size := by
  obtain ⟨_, hf, _⟩ := hd.firm
  obtain ⟨_, hw, _⟩ := hd.waits
  intro b hb
  simp only [RefD.blocks, List.mem_cons, List.not_mem_nil, or_false] at hb
  rcases hb with rfl | rfl | rfl
  · exact lt_of_get hd.cells
  · exact lt_of_get hf
  · exact lt_of_get hw

theorem both_do {d : Impl} {r : RefD} {s : St} {h0 h : Heap} (hb : Both d r s h0 h) {k : Nat} (hs : s.Good k) (hk : k < 1000000) {o : Op} {a : Option Addr} {l c : Nat} (ho : BytesAt h a l o.b)
    (hap : 0 < l → ∀ ad, a = some ad → ad.block < h0.size) :
    CallsH Try.prog 11 #[.pointer (some ⟨d.p, 0, none⟩), .pointer (some ⟨r.p, 0, none⟩), .agg #[.int .i64 o.act, .int .i64 o.i, .int .i64 o.n, .slice a l c]] h
      (fun e h' => ∃ v, e = .returned v ∧ v = .bool true ∧ Both d r (s.step o) h0 h' ∧ Frm (d.blocks ++ r.blocks) h h') := by
  refine (do_ok hb.dAt hb.rAt hb.apart hs hk ho fun h1 ad e => ⟨fun hm => ?_, fun hm => ?_⟩).mono ?_
  · have := hap h1 ad e; have := hb.yd _ hm; omega
  · have := hap h1 ad e; have := hb.yr _ hm; omega
  · rintro e h' ⟨v, rfl, rfl, hd, hr, f⟩
    exact ⟨_, rfl, rfl, hb.go hd hr f, f⟩

theorem run_good {s : St} {ops : List Op} {k : Nat} (hs : s.Good k) (hn : ∀ o ∈ ops, o.n ≤ 9223372036854775807) : (run s ops).Good (k + ops.length) := by
  induction ops generalizing s k with
  | nil => exact hs
  | cons o ops ih =>
    have := ih (s := s.step o) (k := k + 1) (hs.step (hn o List.mem_cons_self)) (fun q hq => hn q (List.mem_cons_of_mem _ hq))
    rw [List.length_cons, show k + (ops.length + 1) = k + 1 + ops.length by omega]
    exact this
theorem OpsAt.nums {h : Heap} {a : Option Addr} {l : Nat} {ops : List Op} (ho : OpsAt h a l ops) : ∀ o ∈ ops, o.n ≤ 9223372036854775807 := by
  intro o hm
  obtain ⟨i, hi, rfl⟩ := List.getElem_of_mem hm
  obtain ⟨_, _, h1⟩ := ho.each i _ (List.getElem?_eq_getElem hi)
  exact h1.small
theorem step_many (s : St) (o : Op) : (s.step o).many = s.many := by
  have ha : s.act.many = s.many := by unfold St.act; split <;> rfl
  unfold St.step
  split
  · unfold St.write
    split
    · rfl
    split
    · rfl
    split
    · exact ha
    · exact ha
  split
  · unfold St.flush
    split
    · rfl
    split
    · exact ha
    · exact ha
  split
  · rfl
  split
  · rfl
  split
  · rfl
  split
  · unfold St.on; split <;> rfl
  · rfl
theorem run_many (s : St) : ∀ ops : List Op, (run s ops).many = s.many
  | [] => rfl
  | o :: ops => (run_many (s.step o) ops).trans (step_many s o)
theorem on_many (s : St) : s.on.many = s.many := by unfold St.on; split <;> rfl

/-- A round's copy of a call, and the call. -/
theorem op_round {h0 h : Heap} (F : Frm [] h0 h) {a : Option Addr} {l : Nat} {ops : List Op} (ho : OpsAt h0 a l ops) {i : Nat} {o : Op} (hi : ops[i]? = some o) {X : Nat → Heap → Prop}
    (hX : ∀ k a' l' c' h', h'[k]? = some (.cells #[.int .i64 o.act, .int .i64 o.i, .int .i64 o.n, .slice a' l' c'] 33 (0, 0)) → h.size ≤ k → Frm [] h h' → BytesAt h' a' l' o.b → (0 < l' → ∀ x, a' = some x → x.block < h0.size) → X k h') :
    onSome a fun q => ∃ (n33 : Int) (n34 : Int) (n35 : Int) (a36 : Option Addr) (l37 c38 : Nat), (cl h (q.add ((i : Int).toNat * 4)) = some (.int .i64 n33) ∧ cl h ((q.add ((i : Int).toNat * 4)).add 1) = some (.int .i64 n34) ∧ cl h ((q.add ((i : Int).toNat * 4)).add 2) = some (.int .i64 n35) ∧ cl h ((q.add ((i : Int).toNat * 4)).add 3) = some (.slice a36 l37 c38)) ∧
      Al h (.cells #[(.int .i64 (0 : Int)), (.int .i64 (0 : Int)), (.int .i64 (0 : Int)), (.slice none 0 0)] 33) fun k39 h40 => StN h40 (⟨k39, 0, none⟩ : Addr) [(.int .i64 n33), (.int .i64 n34), (.int .i64 n35), (.slice a36 l37 c38)] fun h41 => X k39 h41 := by
  obtain ⟨ad, a', l', c', rfl, e0, e1, e2, e3, hb, hlt, _⟩ := op_load F ho hi
  refine (show onSome _ _ from ?_)
  simp only [onSome_some', Int.toNat_natCast]
  refine ⟨o.act, o.i, o.n, a', l', c', ⟨e0, e1, e2, e3⟩, al_intro fun hA _ gA fA sA => stn_at gA (by simp) rfl fun hB gB fB sB => ?_⟩
  have f : Frm [] h hB := fA.young fB (by simp)
  exact hX _ a' l' c' hB gB (Nat.le_refl _) f (hb.frm f (by simp)) hlt

theorem impl_off {d : Impl} {h0 h1 : Heap} {s : St} (hd : d.At s h1) (y1 : h0.size ≤ d.p) (y2 : h0.size ≤ d.mf) (y3 : h0.size ≤ d.mw) : ∀ b ∈ d.blocks, h0.size ≤ b ∧ b < h1.size := by
  intro b hb
  refine ⟨?_, Impl.lt hd b hb⟩
  simp only [Impl.blocks, List.mem_cons, List.not_mem_nil, or_false] at hb
  rcases hb with rfl | rfl | rfl <;> assumption
theorem ref_off {d : RefD} {h0 h1 : Heap} {s : St} (hd : d.At s h1) (y1 : h0.size ≤ d.p) (y2 : h0.size ≤ d.gf) (y3 : h0.size ≤ d.gw) : ∀ b ∈ d.blocks, h0.size ≤ b ∧ b < h1.size := by
  intro b hb
  refine ⟨?_, RefD.lt hd b hb⟩
  simp only [RefD.blocks, List.mem_cons, List.not_mem_nil, or_false] at hb
  rcases hb with rfl | rfl | rfl <;> assumption
/-- Two new disks. -/
theorem both_new {d : Impl} {r : RefD} {n : Int} {h0 h h1 h2 : Heap} (F : Frm [] h0 h) (f1 : Frm [] h h1) (hd : d.At (St.new n) h1) (y1 : h.size ≤ d.p) (y2 : h.size ≤ d.mf) (y3 : h.size ≤ d.mw)
    (f2 : Frm [] h1 h2) (hr : r.At (St.new n) h2) (z1 : h1.size ≤ r.p) (z2 : h1.size ≤ r.gf) (z3 : h1.size ≤ r.gw) : Both d r (St.new n) h0 h2 := by
  have o1 := impl_off hd y1 y2 y3
  have o2 := ref_off hr z1 z2 z3
  have s1 := F.1
  have s2 := f1.1
  refine ⟨hd.frm f2 (by simp) (by simp) (by simp), hr, fun b hb hb' => ?_, fun b hb => ?_, fun b hb => ?_, F.trans (f1.trans f2)⟩
  · have := (o1 b hb).2; have := (o2 b hb').1; omega
  · have := (o1 b hb).1; omega
  · have := (o2 b hb).1; omega

theorem bytesAt_nil (h : Heap) : BytesAt h none 0 ⟨#[]⟩ := ⟨⟨rfl, .inl rfl⟩, by omega, fun h0 => absurd h0 (Nat.lt_irrefl 0)⟩

theorem goes_ok {h : Heap} (n : Int) {a : Option Addr} {l c : Nat} {ops : List Op} (ho : OpsAt h a l ops) :
    CallsH Try.prog 3 #[.int .i64 n, .slice a l c] h (fun e h' => ∃ v, e = .returned v ∧ v = .bool true ∧ Frm [] h h') := by
  refine c3 _ _ _ _ _ _ ?_
  refine (live_ok h).ret ?_
  rintro _ h1 ⟨rfl, f1⟩
  refine ⟨_, rfl, ?_⟩
  refine (new_ok n h1).ret ?_
  intro v0 h2 ⟨f2, hv⟩
  rcases hv with ⟨hn, rfl⟩ | ⟨n1, n2, d, rfl, hd1, y1, y2, y3⟩
  · refine ⟨_, _, rfl, ?_⟩
    refine (rnew_ok n h2).ret ?_
    intro v0 h3 ⟨f3, hv⟩
    rcases hv with ⟨_, rfl⟩ | ⟨n1, n2, _⟩
    · refine ⟨_, _, rfl, fun _ _ => False, ⟨fun vs h' => vs = [.bool true] ∧ h' = h3, by simp [cnd_if], ?_⟩, fun _ _ h => h.elim⟩
      rintro b _ h' ⟨e1, e2⟩
      rw [e2]; clear e2 h'
      simp only [List.cons.injEq, Value.bool.injEq, and_true] at e1
      subst e1
      simp only [cnd_if, if_true]
      exact ⟨_, rfl, by simp, f1.trans (f2.trans f3)⟩
    · exact absurd ⟨n1, n2⟩ hn
  refine ⟨_, _, rfl, ?_⟩
  refine (rnew_ok n h2).ret ?_
  intro v0 h3 ⟨f3, hv⟩
  rcases hv with ⟨hn, _⟩ | ⟨_, _, r, rfl, hr1, z1, z2, z3⟩
  · exact absurd ⟨n1, n2⟩ hn
  refine ⟨_, _, rfl, ?_⟩
  have B := both_new f1 f2 hd1 y1 y2 y3 f3 hr1 z1 z2 z3
  refine ⟨fun _ h' => h' = h3 ∧ l ≤ 200 ∧ n ≤ 100, ⟨fun vs h' => vs = [.bool (decide (200 < l ∨ 100 < n))] ∧ h' = h3, ?_, ?_⟩, ?_⟩
  · simp only [cnd_if]
    rw [if_neg (by simp), if_neg (by simp)]
    by_cases h200 : 200 < l
    · rw [if_pos (by simp; omega)]; simp [h200]
    · rw [if_neg (by simp; omega)]; simp [h200]
  · rintro b _ h' ⟨e1, e2⟩
    rw [e2]; clear e2 h'
    simp only [List.cons.injEq, Value.bool.injEq, and_true] at e1
    subst e1
    simp only [cnd_if, if_true]
    by_cases hc : 200 < l ∨ 100 < n
    · rw [if_pos (by simpa using hc)]
      exact ⟨_, rfl, by simp, B.frm⟩
    · rw [if_neg (by simpa using hc)]
      exact ⟨trivial, by omega, by omega⟩
  rintro _ h' ⟨e2, hl, hn⟩
  rw [e2]; clear e2 h'
  have hlen := ho.len
  have gd : ∀ m, m ≤ l → (run (St.new n) (ops.take m)).Good m := fun m hm => by
    have := run_good (s := St.new n) (k := 0) (ops := ops.take m) (.new ⟨n1, n2⟩) fun o hq => ho.nums o (List.mem_of_mem_take hq)
    rw [List.length_take, show 0 + min m ops.length = m by omega] at this
    exact this
  refine ⟨fun vs h' => ∃ m : Nat, vs = [.int .i64 (m : Int)] ∧ m ≤ l ∧ Both d r (run (St.new n) (ops.take m)) h h', fun vs _ => match vs with | [.int _ m] => l - m.toNat | _ => 0, ⟨0, rfl, Nat.zero_le _, B⟩, ?_⟩
  rintro m' _ h4 ⟨m, e, hm, hB⟩
  simp only [List.cons.injEq, Value.int.injEq, true_and, and_true] at e
  subst e
  rw [cnd_if]
  by_cases hlt : m < l
  · rw [if_pos (by simpa using hlt)]
    have hi : ops[m]? = some ops[m] := List.getElem?_eq_getElem (by omega)
    refine ⟨by omega, by omega, op_round hB.frm ho hi fun k a' l' c' h5 g5 k5 f5 b5 lt5 => ?_⟩
    refine ⟨ops[m].act, ops[m].i, ops[m].n, a', l', c', by simp [cl_at g5, add_at], ?_⟩
    refine (both_do (hB.still f5) (gd m hm) (by omega) b5 lt5).ret ?_
    rintro _ h6 ⟨rfl, hB6, _⟩
    refine ⟨_, rfl, ?_⟩
    rw [cnd_if, if_neg (by simp)]
    refine ⟨in64 (by omega) (by omega), ⟨m + 1, rfl, hlt, by rw [run_snoc _ _ hi]; exact hB6⟩, ?_⟩
    show l - ((m : Int) + 1).toNat < l - ((m : Int)).toNat
    omega
  · rw [if_neg (by simpa using hlt)]
    obtain rfl : m = l := by omega
    have hg := gd m (Nat.le_refl _)
    refine (on_ok hB.dAt hg.ok).ret ?_
    rintro _ h5 ⟨rfl, hd5, f5⟩
    refine ⟨rfl, ?_⟩
    have okr : ∀ {s' : St} {h h' : Heap}, r.At s' h → Frm d.blocks h h' → r.At s' h' := fun hr f => hr.frm f (fun h => hB.apart _ h (by simp [RefD.blocks])) (fun h => hB.apart _ h (by simp [RefD.blocks])) (fun h => hB.apart _ h (by simp [RefD.blocks]))
    refine (ron_ok (okr hB.rAt f5) hg.ok).ret ?_
    rintro _ h6 ⟨rfl, hr6, f6⟩
    refine ⟨rfl, ?_⟩
    have B6 : Both d r (run (St.new n) (ops.take m)).on h h6 := by
      refine hB.go (hd5.frm f6 (hB.apart _ (by simp [Impl.blocks])) (hB.apart _ (by simp [Impl.blocks])) (hB.apart _ (by simp [Impl.blocks]))) hr6 ((f5.mono ?_).trans (f6.mono ?_))
      · exact fun b hb => List.mem_append_left _ hb
      · exact fun b hb => List.mem_append_right _ hb
    have hmn : (run (St.new n) (ops.take m)).on.many = n := by rw [on_many, run_many]; rfl
    have hgo := hg.on
    generalize hS : (run (St.new n) (ops.take m)).on = S at B6 hmn hgo
    refine (rsectors_ok B6.rAt (by omega)).ret ?_
    rintro _ h7 ⟨rfl, e7⟩
    rw [e7]; clear e7 h7
    refine ⟨_, rfl, ?_⟩
    rw [hmn]
    refine ⟨fun vs h' => ∃ j : Nat, vs = [.int .i64 (j : Int)] ∧ (j : Int) ≤ n ∧ Both d r S h h', fun vs _ => match vs with | [.int _ j] => n.toNat - j.toNat | _ => 0, ⟨0, rfl, by omega, B6⟩, ?_⟩
    rintro j' _ h8 ⟨j, e, hj, hB8⟩
    simp only [List.cons.injEq, Value.int.injEq, true_and, and_true] at e
    subst e
    simp only [cnd_if, if_true]
    by_cases hjn : (j : Int) < n
    · rw [if_pos (by simpa using hjn)]
      refine (both_do (o := ⟨3, j, 0, ⟨#[]⟩⟩) hB8 hgo (by omega) (bytesAt_nil _) (fun h0 => absurd h0 (Nat.lt_irrefl 0))).ret ?_
      rintro _ h9 ⟨rfl, hB9, _⟩
      refine ⟨_, rfl, ?_⟩
      rw [if_neg (by simp)]
      have e3 : S.step ⟨3, j, 0, ⟨#[]⟩⟩ = S := by simp [St.step]
      rw [e3] at hB9
      refine ⟨in64 (by omega) (by omega), ⟨j + 1, rfl, by omega, hB9⟩, ?_⟩
      show n.toNat - ((j : Int) + 1).toNat < n.toNat - ((j : Int)).toNat
      omega
    · rw [if_neg (by simpa using hjn)]
      exact ⟨_, rfl, by simp, hB8.frm⟩
end Go.Proofs.Ytpekdeeagnfecaa
