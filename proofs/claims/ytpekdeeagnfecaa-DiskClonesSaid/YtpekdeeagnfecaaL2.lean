/- One call of both disks. -/
import Derived.Test.YtpekdeeagnfecaaL1
namespace Go.Proofs.Ytpekdeeagnfecaa
open Go Go.Proofs Go.Proofs.Ytpekdeeagnfecaa.V
/-- What one call makes of a state. -/
def St.step (s : St) (o : Op) : St :=
  if o.act = 0 ∨ o.act = 1 then s.write o.i o.data else if o.act = 2 then s.flush else if o.act = 3 then s
  else if o.act = 4 then { s with fuse := mx o.n (-1) } else if o.act = 5 then s.cut s.wl o.b.data.toList else if o.act = 6 then s.on else s

/-- A state behind at most n acts. -/
structure St.Good (s : St) (n : Nat) : Prop where
  ok : s.Ok
  fuse : -1 ≤ s.fuse ∧ s.fuse ≤ 9223372036854775807
  acts : 0 ≤ s.acts ∧ s.acts ≤ n
theorem St.Good.fits {s : St} {n : Nat} (h : s.Good n) (hn : n < 1000000) : s.fits := by
  obtain ⟨_, ⟨h1, h2⟩, h3, h4⟩ := h
  exact ⟨by omega, h2, h3, by omega⟩
theorem St.Good.mono {s : St} {n m : Nat} (h : s.Good n) (hn : n ≤ m) : s.Good m := ⟨h.ok, h.fuse, h.acts.1, by have := h.acts.2; omega⟩
theorem St.act_nums (s : St) {n : Nat} (h : s.Good n) : (-1 ≤ s.act.fuse ∧ s.act.fuse ≤ 9223372036854775807) ∧ 0 ≤ s.act.acts ∧ s.act.acts ≤ (n + 1 : Nat) := by
  obtain ⟨_, ⟨h1, h2⟩, h3, h4⟩ := h
  unfold St.act
  split
  · exact ⟨⟨h1, h2⟩, h3, by show s.acts ≤ _; omega⟩
  · refine ⟨?_, by show 0 ≤ s.acts + 1; omega, by show s.acts + 1 ≤ _; omega⟩
    show -1 ≤ (if 0 < s.fuse then s.fuse - 1 else s.fuse) ∧ (if 0 < s.fuse then s.fuse - 1 else s.fuse) ≤ 9223372036854775807
    split <;> omega
theorem St.Good.write {s : St} {n : Nat} (h : s.Good n) (i : Int) (b : ByteArray) : (s.write i b).Good (n + 1) := by
  obtain ⟨h1, h2⟩ := s.act_nums h
  refine ⟨h.ok.write i b, ?_, ?_⟩
  all_goals
    unfold St.write
    split
    · first | exact h.fuse | exact (h.mono (Nat.le_succ n)).acts
    · split
      · first | exact h.fuse | exact (h.mono (Nat.le_succ n)).acts
      · split
        · first | exact h1 | exact h2
        · first | exact h1 | exact h2
theorem St.Good.flush {s : St} {n : Nat} (h : s.Good n) : s.flush.Good (n + 1) := by
  obtain ⟨h1, h2⟩ := s.act_nums h
  refine ⟨h.ok.flush, ?_, ?_⟩
  all_goals
    unfold St.flush
    split
    · first | exact h.fuse | exact (h.mono (Nat.le_succ n)).acts
    · split
      · first | exact h1 | exact h2
      · first | exact h1 | exact h2
theorem St.Good.cut {s : St} {n : Nat} (h : s.Good n) (m : List UInt8) : (s.cut s.wl m).Good n := ⟨h.ok.cut m, by show -1 ≤ (-1 : Int) ∧ (-1 : Int) ≤ _; omega, h.acts⟩
theorem St.Good.on {s : St} {n : Nat} (h : s.Good n) : s.on.Good n := by
  refine ⟨h.ok.on, ?_, ?_⟩
  all_goals
    unfold St.on
    split
    · first | exact (h.cut []).fuse | exact (h.cut []).acts
    · first | exact h.fuse | exact h.acts
theorem St.Good.setFuse {s : St} {n : Nat} (h : s.Good n) {k : Int} (hk : k ≤ 9223372036854775807) : ({ s with fuse := mx k (-1) } : St).Good n := by
  refine ⟨h.ok.fuse _, ?_, h.acts⟩
  show -1 ≤ mx k (-1) ∧ mx k (-1) ≤ 9223372036854775807
  unfold mx
  split <;> omega
theorem St.Good.step {s : St} {n : Nat} (h : s.Good n) {o : Op} (ho : o.n ≤ 9223372036854775807) : (s.step o).Good (n + 1) := by
  unfold St.step
  split
  · exact h.write _ _
  split
  · exact h.flush
  split
  · exact h.mono (Nat.le_succ n)
  split
  · exact (h.setFuse ho).mono (Nat.le_succ n)
  split
  · exact (h.cut _).mono (Nat.le_succ n)
  split
  · exact h.on.mono (Nat.le_succ n)
  · exact h.mono (Nat.le_succ n)
theorem St.Good.new {k : Int} (h : 1 ≤ k ∧ k ≤ 2048) : (St.new k).Good 0 := ⟨.new h, by show -1 ≤ (-1 : Int) ∧ (-1 : Int) ≤ _; omega, by show 0 ≤ (0 : Int) ∧ (0 : Int) ≤ _; omega⟩

/-- A row of bytes that may be written. -/
def U8s (h : Heap) (g n : Nat) : Prop := ∃ cur : Array Value, h[g]? = some (.cells cur 5 (0, 0)) ∧ n ≤ cur.size ∧ ∀ i, i < n → ∃ m : Int, cur[i]? = some (.int .u8 m)
theorem own_u8s {h : Heap} {base g n c : Nat} {b : ByteArray} (ho : Own h base 5 1 (.slice (some ⟨g, 0, none⟩) n c) b.size (bv b)) (hn : n = b.size) : U8s h g n := by
  subst hn
  rcases ho.2 with ⟨h1, _⟩ | ⟨g', cap, cur, h1, _, hg, hnc, _, hs, ht⟩
  · cases h1
  · simp only [Value.slice.injEq, Option.some.injEq, Addr.mk.injEq] at h1
    obtain ⟨⟨rfl, _⟩, _⟩ := h1
    refine ⟨cur, hg, by omega, fun i hi => ?_⟩
    obtain ⟨m, _, hm⟩ := bv_at (s := b) hi
    rw [← ht, List.getElem?_take_of_lt (by omega)] at hm
    exact ⟨_, by simpa using hm⟩
theorem U8s.store {h : Heap} {g n : Nat} (hs : U8s h g n) {i : Nat} (hi : i < n) {m : Int} {K : Heap → Prop} (hk : ∀ h', U8s h' g n → Frm [g] h h' → K h') : St1 h ⟨g, i, none⟩ (.int .u8 m) K := by
  obtain ⟨cur, h1, h2, h3⟩ := hs
  refine st1_at h1 (by omega) rfl fun h' _ hg f _ => hk h' ⟨_, hg, by simpa using h2, fun j hj => ?_⟩ f
  by_cases e : j = i
  · subst e
    have : j < cur.size := by omega
    exact ⟨m, by simp [this]⟩
  · rw [Array.getElem?_setIfInBounds_ne (fun h => e h.symm)]; exact h3 j hj

/-- The loop that turns a row's bytes. -/
theorem turn_loop {h : Heap} {a : Option Addr} {n c : Nat} {b : ByteArray} {base : Nat} (ho : Own h base 5 1 (.slice a n c) n (bv b)) (hn : n = b.size) {K : Heap → Prop} (hk : ∀ h', Frm (blockOf (.slice a n c)) h h' → K h') :
    ∃ (I61 : List Value → Heap → Prop) (μ62 : List Value → Heap → Nat), I61 [(.int .i64 (0 : Int))] h ∧ ∀ (n63 : Int) (_D64 : Nat → Value) (h65 : Heap), I61 [(.int .i64 n63)] h65 → if decide (n63 < ((n : Nat) : Int)) = true then (0 ≤ n63 ∧ n63 < ((n : Nat) : Int) ∧ onSome a fun q66 => ∃ (n67 : Int), cl h65 (q66.add ((n63 : Int).toNat * 1)) = some (.int .u8 n67) ∧ (0 ≤ n63 ∧ n63 < ((n : Nat) : Int) ∧ onSome a fun q68 => St1 h65 (q68.add ((n63 : Int).toNat * 1)) (.int .u8 (IntKind.wrap .u8 (n67 + (1 : Int)))) fun h69 => (In64 (n63 + (1 : Int)) ∧ (I61 [(.int .i64 (n63 + (1 : Int)))] h69 ∧ μ62 [(.int .i64 (n63 + (1 : Int)))] h69 < μ62 [(.int .i64 n63)] h65)))) else K h65 := by
  refine ⟨fun vs h2 => ∃ k : Nat, vs = [.int .i64 (k : Int)] ∧ k ≤ n ∧ (∀ g, a = some ⟨g, 0, none⟩ → 0 < n → U8s h2 g n) ∧ Frm (blockOf (.slice a n c)) h h2, fun vs _ => match vs with | [.int _ k] => n - k.toNat | _ => 0, ?_, ?_⟩
  · refine ⟨0, rfl, Nat.zero_le _, ?_, Frm.refl _ _⟩
    rintro g rfl h0
    subst hn
    exact own_u8s ho rfl
  · rintro k' _ h2 ⟨k, e, hk2, hu, f2⟩
    simp only [List.cons.injEq, Value.int.injEq, true_and, and_true] at e
    subst e
    by_cases hlt : k < n
    · rw [if_pos (by simpa using hlt)]
      have hln := ho.len
      obtain ⟨g, rfl, _⟩ := own_row ho hlt
      have hu' := hu g rfl (by omega)
      obtain ⟨cur, h1, h2', h3⟩ := hu'
      obtain ⟨m, hm⟩ := h3 k hlt
      refine ⟨by omega, by omega, (show onSome _ _ from ?_)⟩
      simp only [onSome_some', add_at, Int.toNat_natCast, Nat.mul_one, Nat.zero_add]
      refine ⟨m, by rw [cl_at h1]; exact hm, by omega, by omega, ?_⟩
      refine U8s.store ⟨cur, h1, h2', h3⟩ hlt fun h4 hu4 f4 => ⟨in64 (by omega) (by simp only [maxLen] at hln; omega), ⟨k + 1, rfl, hlt, fun g' e _ => by cases e; exact hu4, f2.trans (f4.mono (by simp [blockOf, Value.ownBlock]))⟩, ?_⟩
      show n - ((k : Int) + 1).toNat < n - ((k : Int)).toNat
      omega
    · rw [if_neg (by simpa using hlt)]
      exact hk h2 f2

theorem do_ok {d : Impl} {r : RefD} {s : St} {h : Heap} (hd : d.At s h) (hr : r.At s h) (hdr : ∀ b ∈ d.blocks, b ∉ r.blocks) {k : Nat} (hs : s.Good k) (hk : k < 1000000) {o : Op} {a : Option Addr} {l c : Nat} (hb : BytesAt h a l o.b)
    (hap : 0 < l → ∀ ad, a = some ad → ad.block ∉ d.blocks ∧ ad.block ∉ r.blocks) :
    CallsH Try.prog 11 #[.pointer (some ⟨d.p, 0, none⟩), .pointer (some ⟨r.p, 0, none⟩), .agg #[.int .i64 o.act, .int .i64 o.i, .int .i64 o.n, .slice a l c]] h
      (fun e h' => ∃ v, e = .returned v ∧ v = .bool true ∧ d.At (s.step o) h' ∧ r.At (s.step o) h' ∧ Frm (d.blocks ++ r.blocks) h h') := by
  have hrd : ∀ b ∈ r.blocks, b ∉ d.blocks := fun b hb hb' => hdr b hb' hb
  have okr : ∀ {s' : St} {h h' : Heap}, r.At s' h → Frm d.blocks h h' → r.At s' h' := fun hr f => hr.frm f (hrd _ (by simp [RefD.blocks])) (hrd _ (by simp [RefD.blocks])) (hrd _ (by simp [RefD.blocks]))
  have okd : ∀ {s' : St} {h h' : Heap}, d.At s' h → Frm r.blocks h h' → d.At s' h' := fun hd f => hd.frm f (hdr _ (by simp [Impl.blocks])) (hdr _ (by simp [Impl.blocks])) (hdr _ (by simp [Impl.blocks]))
  have nild : ∀ {s' : St} {h h' : Heap}, d.At s' h → Frm [] h h' → d.At s' h' := fun hd f => hd.frm f (by simp) (by simp) (by simp)
  have nilr : ∀ {s' : St} {h h' : Heap}, r.At s' h → Frm [] h h' → r.At s' h' := fun hr f => hr.frm f (by simp) (by simp) (by simp)
  have ltd : ∀ b ∈ d.blocks, b < h.size := by
    obtain ⟨g, hg, _⟩ := hd.firm
    intro b hb
    simp only [Impl.blocks, List.mem_cons, List.not_mem_nil, or_false] at hb
    rcases hb with rfl | rfl | rfl
    · exact lt_of_get hd.cells
    · exact hg.lt
    · exact hd.waits.lt
  have ltr : ∀ b ∈ r.blocks, b < h.size := by
    obtain ⟨_, hf, _⟩ := hr.firm
    obtain ⟨_, hw, _⟩ := hr.waits
    intro b hb
    simp only [RefD.blocks, List.mem_cons, List.not_mem_nil, or_false] at hb
    rcases hb with rfl | rfl | rfl
    · exact lt_of_get hr.cells
    · exact lt_of_get hf
    · exact lt_of_get hw
  have Z1 : ∀ {h h' : Heap}, Frm d.blocks h h' → Frm (d.blocks ++ r.blocks) h h' := fun f => f.mono fun b hb => List.mem_append_left _ hb
  have Z2 : ∀ {h h' : Heap}, Frm r.blocks h h' → Frm (d.blocks ++ r.blocks) h h' := fun f => f.mono fun b hb => List.mem_append_right _ hb
  have Z0 : ∀ {h h' : Heap}, Frm [] h h' → Frm (d.blocks ++ r.blocks) h h' := fun f => f.mono (by simp)
  have hfits := hs.fits hk
  have hok := hs.ok
  refine c11 _ _ _ _ _ _ _ _ _ _ ?_
  refine al_intro fun ha ea ga fa sa => ?_
  have kz : h.size ∉ d.blocks ++ r.blocks := by
    intro hm
    rcases List.mem_append.1 hm with h1 | h1
    · exact absurd (ltd _ h1) (by omega)
    · exact absurd (ltr _ h1) (by omega)
  have hda := nild hd fa
  have hra := nilr hr fa
  have hba := hb.frm fa (by simp)
  have hbz : ∀ {h' : Heap}, Frm (d.blocks ++ r.blocks) ha h' → BytesAt h' a l o.b := fun f => hba.frm f fun h0 ad e hm => by
    rcases List.mem_append.1 hm with h1 | h1
    · exact (hap h0 ad e).1 h1
    · exact (hap h0 ad e).2 h1
  refine ⟨fun _ h' => d.At (s.step o) h' ∧ r.At (s.step o) h' ∧ Frm (d.blocks ++ r.blocks) h h', ?_, ?_⟩
  · simp only [add_at, cl_at ga, cnd_if, Nat.zero_add]
    refine ⟨o.act, by simp, ?_⟩
    refine ⟨fun vs h' => vs = [.bool (decide (o.act = 0 ∨ o.act = 1))] ∧ h' = ha, ?_, ?_⟩
    · by_cases h0 : o.act = 0
      · rw [if_pos (by simp [h0])]; simp [h0]
      · rw [if_neg (by simp [h0])]; simp [h0]; rfl
    rintro b _ h1 ⟨e1, e2⟩
    rw [e2]; clear e2 h1
    simp only [List.cons.injEq, Value.bool.injEq, and_true] at e1
    by_cases hc : o.act = 0 ∨ o.act = 1
    · rw [if_pos (by rw [e1]; simpa using hc)]
      have hstep : s.step o = s.write o.i o.data := by rw [St.step, if_pos hc]
      refine ⟨o.act, o.i, o.n, a, l, c, by simp [cl_at ga], ?_⟩
      refine (bytes_ok hba).ret ?_
      intro v1 h1 ⟨ho1, f1⟩
      obtain ⟨a1, c1, rfl⟩ := ho1.slice
      have g1 := f1.get ga (by simp)
      refine ⟨a1, _, c1, rfl, o.i, by simp [cl_at g1], ?_⟩
      obtain ⟨sr1, _, sp1⟩ := ho1.slRow
      have nd1 : ∀ b, (Value.slice a1 o.data.size c1).ownBlock = some b → b ∉ d.blocks ++ r.blocks := fun b hb hm => by
        have := (ho1.lt hb).1
        rcases List.mem_append.1 hm with h1 | h1
        · have := ltd _ h1; omega
        · have := ltr _ h1; omega
      refine (write_ok (nild hda f1) hfits o.i sr1 sp1 ?_).ret ?_
      · rintro ad rfl hm
        exact nd1 ad.block rfl (List.mem_append_left _ hm)
      rintro _ h2 ⟨rfl, hd2, f2⟩
      have g2 := f2.get g1 (fun hm => kz (List.mem_append_left _ hm))
      simp only [cl_at g2]
      refine ⟨_, rfl, o.i, by simp, o.act, o.i, o.n, a, l, c, by simp, ?_⟩
      have F2 := (Z0 f1).trans (Z1 f2)
      refine (bytes_ok (hbz F2)).ret ?_
      intro v2 h3 ⟨ho2, f3⟩
      obtain ⟨a2, c2, rfl⟩ := ho2.slice
      have g3 := f3.get g2 (by simp)
      simp only [cl_at g3]
      refine ⟨a2, _, c2, rfl, ⟨o.i, by simp, rfl⟩, ?_⟩
      obtain ⟨sr2, _, sp2⟩ := ho2.slRow
      refine (rwrite_ok (nilr (okr (nilr hra f1) f2) f3) hfits o.i sr2 sp2 ?_).ret ?_
      · rintro ad rfl hm
        have := (ho2.lt rfl).1
        have := ltr _ hm
        have := f1.1
        have := f2.1
        omega
      rintro _ h4 ⟨rfl, hr4, f4⟩
      have g4 := f4.get g3 (fun hm => kz (List.mem_append_right _ hm))
      simp only [cl_at g4]
      refine ⟨_, rfl, o.act, o.i, o.n, a, l, c, by simp, ?_⟩
      have F4 := F2.trans ((Z0 f3).trans (Z2 f4))
      refine (bytes_ok (hbz F4)).ret ?_
      intro v3 h5 ⟨ho3, f5⟩
      obtain ⟨a3, c3, rfl⟩ := ho3.slice
      refine ⟨a3, _, c3, rfl, ?_⟩
      have F15 : Frm (d.blocks ++ r.blocks) h1 h5 := (Z1 f2).trans ((Z0 f3).trans ((Z2 f4).trans (Z0 f5)))
      have ho15 := ho1.frm F15 nd1
      refine (same_ok ho15.slRow.1 ho3.slRow.1 sp1 ho3.slRow.2.2).ret ?_
      rintro _ h6 ⟨rfl, e6⟩
      rw [e6]; clear e6 h6
      refine ⟨_, rfl, turn_loop ho15 rfl fun h7 f7 => ?_⟩
      rw [if_pos (by simp), same_self]
      have hd5 := nild (okd (nild hd2 f3) f4) f5
      have hr5 := nilr hr4 f5
      have off : ∀ b ∈ d.blocks ++ r.blocks, b ∉ blockOf (.slice a1 o.data.size c1) := fun b hb hm => by
        simp only [blockOf, Option.mem_toList] at hm
        exact nd1 b hm hb
      refine ⟨_, rfl, rfl, ?_, ?_, ?_⟩
      · rw [hstep]; exact hd5.frm f7 (off _ (by simp [Impl.blocks])) (off _ (by simp [Impl.blocks])) (off _ (by simp [Impl.blocks]))
      · rw [hstep]; exact hr5.frm f7 (off _ (by simp [RefD.blocks])) (off _ (by simp [RefD.blocks])) (off _ (by simp [RefD.blocks]))
      · refine ((Z0 fa).trans ((F4.trans (Z0 f5)))).young f7 fun x hx => ?_
        simp only [blockOf, Option.mem_toList] at hx
        have := (ho1.lt hx).1
        exact .inr (by omega)
    · rw [if_neg (by rw [e1]; simpa using hc)]
      by_cases h2 : o.act = 2
      · rw [if_pos (by simp [h2])]
        have hstep : s.step o = s.flush := by simp [St.step, h2]
        refine (flush_ok hda hfits).ret ?_
        rintro _ h1 ⟨rfl, hd1, f1⟩
        refine ⟨_, rfl, ?_⟩
        refine (rflush_ok (okr hra f1) hfits hok).ret ?_
        rintro _ h2 ⟨rfl, hr2, f2⟩
        exact ⟨_, rfl, _, rfl, by simp, by rw [hstep]; exact okd hd1 f2, by rw [hstep]; exact hr2, (Z0 fa).trans ((Z1 f1).trans (Z2 f2))⟩
      rw [if_neg (by simp [h2])]
      by_cases h3 : o.act = 3
      · rw [if_pos (by simp [h3])]
        have hstep : s.step o = s := by simp [St.step, h3]
        refine ⟨o.i, by simp [cl_at ga], ?_⟩
        refine (read_ok hda hok o.i).ret ?_
        intro v1 h1 ⟨f1, hv1⟩
        have g1 := f1.get ga (by simp)
        rcases hv1 with ⟨hc1, rfl⟩ | ⟨hc1, g, rfl, ho1⟩
        · refine ⟨none, 0, 0, _, rfl, o.i, by simp [cl_at g1], ?_⟩
          refine (rread_ok (nilr hra f1) hok o.i).ret ?_
          intro v2 h2 ⟨f2, hv2⟩
          rcases hv2 with ⟨hc2, rfl⟩ | ⟨hc2, _⟩
          · refine ⟨none, 0, 0, _, rfl, ?_⟩
            refine (same_ok (s := ⟨#[]⟩) (t := ⟨#[]⟩) ⟨rfl, .inl rfl⟩ ⟨rfl, .inl rfl⟩ (by simp) (by simp)).ret ?_
            rintro _ h6 ⟨rfl, e6⟩
            rw [e6]; clear e6 h6
            refine ⟨_, rfl, turn_loop (b := ⟨#[]⟩) (base := 0) (Own.nil _ _ _ _) rfl fun h7 f7 => ?_⟩
            rw [if_pos (by simp), same_self]
            have f7' : Frm [] h2 h7 := f7
            exact ⟨_, rfl, rfl, by rw [hstep]; exact nild (nild (nild hda f1) f2) f7', by rw [hstep]; exact nilr (nilr (nilr hra f1) f2) f7', Z0 (fa.trans (f1.trans (f2.trans f7')))⟩
          · exact absurd hc2 hc1
        · refine ⟨_, _, _, _, rfl, o.i, by simp [cl_at g1], ?_⟩
          refine (rread_ok (nilr hra f1) hok o.i).ret ?_
          intro v2 h2 ⟨f2, hv2⟩
          rcases hv2 with ⟨hc2, _⟩ | ⟨hc2, a2, n2, c2, rfl, sr2, sp2⟩
          · exact absurd hc1 hc2
          · refine ⟨a2, n2, c2, _, rfl, ?_⟩
            obtain ⟨_, i0, i1⟩ := refused_zero hc1
            have hsz := St.read_size hok i0 i1
            have ho2 := ho1.frm f2 (by simp)
            refine (same_ok ho2.slRow.1 sr2 ho2.slRow.2.2 sp2).ret ?_
            rintro _ h6 ⟨rfl, e6⟩
            rw [e6]; clear e6 h6
            refine ⟨_, rfl, turn_loop ho2 hsz.symm fun h7 f7 => ?_⟩
            rw [if_pos (by simp [hc1]), same_self]
            have hgl : ha.size ≤ g := (ho1.lt rfl).1
            have nd : ∀ b ∈ d.blocks ++ r.blocks, b ∉ blockOf (.slice (some ⟨g, 0, none⟩) 4096 4096) := fun b hb hm => by
              simp only [blockOf, Value.ownBlock, Option.mem_toList, Option.some.injEq] at hm
              subst hm
              rcases List.mem_append.1 hb with h1 | h1
              · have := ltd _ h1; omega
              · have := ltr _ h1; omega
            refine ⟨_, rfl, rfl, ?_, ?_, ?_⟩
            · rw [hstep]; exact (nild (nild hda f1) f2).frm f7 (nd _ (by simp [Impl.blocks])) (nd _ (by simp [Impl.blocks])) (nd _ (by simp [Impl.blocks]))
            · rw [hstep]; exact (nilr (nilr hra f1) f2).frm f7 (nd _ (by simp [RefD.blocks])) (nd _ (by simp [RefD.blocks])) (nd _ (by simp [RefD.blocks]))
            · refine (Z0 (fa.trans (f1.trans f2))).young f7 fun x hx => ?_
              simp only [blockOf, Value.ownBlock, Option.mem_toList, Option.some.injEq] at hx
              subst hx
              exact .inr (by omega)
      rw [if_neg (by simp [h3])]
      by_cases h4 : o.act = 4
      · rw [if_pos (by simp [h4])]
        have hstep : s.step o = { s with fuse := mx o.n (-1) } := by simp [St.step, h4]
        refine ⟨o.n, by simp [cl_at ga], ?_⟩
        refine (fuse_ok hda o.n).ret ?_
        rintro v1 h1 ⟨rfl, hd1, f1⟩
        have g1 := f1.get ga (fun hm => kz (List.mem_append_left _ hm))
        refine ⟨rfl, ?_⟩
        simp only [cl_at g1]
        refine ⟨o.n, by simp, ?_⟩
        refine (rfuse_ok (okr hra f1) o.n).ret ?_
        rintro _ h2 ⟨rfl, hr2, f2⟩
        exact ⟨rfl, by rw [hstep]; exact okd hd1 f2, by rw [hstep]; exact hr2, (Z0 fa).trans ((Z1 f1).trans (Z2 f2))⟩
      rw [if_neg (by simp [h4])]
      by_cases h5 : o.act = 5
      · rw [if_pos (by simp [h5])]
        have hstep : s.step o = s.cut s.wl o.b.data.toList := by simp [St.step, h5]
        refine ⟨a, l, c, by simp [cl_at ga], ?_⟩
        refine (cut_ok' hda hok hba.row (fun h0 ad e => (hap h0 ad e).1)).ret ?_
        rintro _ h1 ⟨rfl, hd1, f1⟩
        have g1 := f1.get ga (fun hm => kz (List.mem_append_left _ hm))
        refine ⟨rfl, ?_⟩
        simp only [cl_at g1]
        refine ⟨a, l, c, by simp, ?_⟩
        refine (rcut_ok (okr hra f1) hok (hbz (Z1 f1)).row (fun h0 ad e => (hap h0 ad e).2)).ret ?_
        rintro _ h2 ⟨rfl, hr2, f2⟩
        exact ⟨rfl, by rw [hstep]; exact okd hd1 f2, by rw [hstep]; exact hr2, (Z0 fa).trans ((Z1 f1).trans (Z2 f2))⟩
      rw [if_neg (by simp [h5])]
      by_cases h6 : o.act = 6
      · rw [if_pos (by simp [h6])]
        have hstep : s.step o = s.on := by simp [St.step, h6]
        refine (on_ok hda hok).ret ?_
        rintro _ h1 ⟨rfl, hd1, f1⟩
        refine ⟨rfl, ?_⟩
        refine (ron_ok (okr hra f1) hok).ret ?_
        rintro _ h2 ⟨rfl, hr2, f2⟩
        exact ⟨rfl, by rw [hstep]; exact okd hd1 f2, by rw [hstep]; exact hr2, (Z0 fa).trans ((Z1 f1).trans (Z2 f2))⟩
      rw [if_neg (by simp [h6])]
      have hstep : s.step o = s := by
        have h0 : o.act ≠ 0 := fun e => hc (.inl e)
        have h1 : o.act ≠ 1 := fun e => hc (.inr e)
        simp [St.step, h0, h1, h2, h3, h4, h5, h6]
      exact ⟨by rw [hstep]; exact hda, by rw [hstep]; exact hra, Z0 fa⟩
  · rintro _ h1 ⟨hd1, hr1, f1⟩
    have hs1 : (s.step o).Ok := by
      unfold St.step
      split
      · exact hok.write _ _
      split
      · exact hok.flush
      split
      · exact hok
      split
      · exact hok.fuse _
      split
      · exact hok.cut _
      split
      · exact hok.on
      · exact hok
    refine (waiting_ok' hd1 hs1).ret ?_
    intro v1 h2 ⟨ho1, f2⟩
    obtain ⟨a1, c1, rfl⟩ := ho1.slice
    refine ⟨a1, _, c1, rfl, ?_⟩
    refine (rwaiting_ok (nilr hr1 f2) hs1).ret ?_
    intro v2 h3 ⟨ho2, f3⟩
    obtain ⟨a2, c2, rfl⟩ := ho2.slice
    refine ⟨a2, _, c2, rfl, ?_⟩
    have hwl := (s.step o).wl_length (s.step o).many.toNat
    rw [wlN_wl] at hwl
    have hmm := hs1.many
    refine (sameInts_ok (ho1.frm f3 (by simp)).slRow.1 ho2.slRow.1 (by omega)).ret ?_
    rintro _ h4 ⟨rfl, e4⟩
    rw [e4]; clear e4 h4
    have hd3 := nild (nild hd1 f2) f3
    have hr3 := nilr (nilr hr1 f2) f3
    refine ⟨_, rfl, ?_⟩
    simp only [cnd_if, if_true]
    refine (acts_ok hd3).ret ?_
    rintro _ _ ⟨rfl, rfl⟩
    rename_i h3
    refine ⟨_, rfl, ?_⟩
    refine (racts_ok hr3).ret ?_
    rintro _ _ ⟨rfl, rfl⟩
    rename_i h3
    refine ⟨_, rfl, ?_⟩
    rw [if_pos (by simp)]
    refine (isOn_ok hd3).ret ?_
    rintro _ _ ⟨rfl, rfl⟩
    rename_i h3
    refine ⟨_, rfl, ?_⟩
    refine (risOn_ok hr3).ret ?_
    rintro _ _ ⟨rfl, rfl⟩
    rename_i h3
    refine ⟨_, rfl, ?_⟩
    rw [if_pos (by simp)]
    refine (sectors_ok hd3).ret ?_
    rintro _ _ ⟨rfl, rfl⟩
    rename_i h3
    refine ⟨_, rfl, ?_⟩
    refine (rsectors_ok hr3 (by omega)).ret ?_
    rintro _ _ ⟨rfl, rfl⟩
    rename_i h3
    exact ⟨_, rfl, _, rfl, by simp, hd3, hr3, f1.trans (Z0 (f2.trans f3))⟩
end Go.Proofs.Ytpekdeeagnfecaa
