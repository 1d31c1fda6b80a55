/- DiskClones, walked. -/
import Derived.Test.YtpekdeeagnfecaaL5
namespace Go.Proofs.Ytpekdeeagnfecaa
open Go Go.Proofs Go.Proofs.Ytpekdeeagnfecaa.V
set_option maxHeartbeats 2000000 in
set_option maxRecDepth 20000 in
theorem clones_ok {h : Heap} {a a' : Option Addr} {l c l' c' : Nat} {ops more : List Op} (ho : OpsAt h a l ops) (hm : OpsAt h a' l' more) :
    CallsH Try.prog 6 #[.slice a l c, .slice a' l' c'] h (fun e h' => ∃ v, e = .returned v ∧ v = .bool true ∧ Frm [] h h') := by
  refine c6 _ _ _ _ _ _ _ _ ?_
  refine (live_ok h).ret ?_
  rintro _ h2 ⟨rfl, f2⟩
  refine ⟨_, rfl, ?_⟩
  refine (new_ok 6 h2).ret ?_
  intro v0 h3 ⟨f3, hv⟩
  rcases hv with ⟨hn, _⟩ | ⟨_, _, d, rfl, hd3, y1, y2, y3⟩
  · exact absurd ⟨by decide, by decide⟩ hn
  have F3 := f2.trans f3
  refine ⟨_, _, rfl, fun _ h' => h' = h3 ∧ l ≤ 60 ∧ l' ≤ 60, ⟨fun vs h' => vs = [.bool (decide (60 < l ∨ 60 < l'))] ∧ h' = h3, ?_, ?_⟩, ?_⟩
  · simp only [cnd_if]
    rw [if_neg (by simp)]
    by_cases h60 : 60 < l
    · rw [if_pos (by simp; omega)]; simp [h60]
    · rw [if_neg (by simp; omega)]
      refine ⟨?_, trivial⟩
      congr 2
      rw [Bool.eq_iff_iff]
      simp only [decide_eq_true_eq]
      omega
  · rintro b _ h' ⟨e1, e2⟩
    rw [e2]; clear e2 h'
    simp only [List.cons.injEq, Value.bool.injEq, and_true] at e1
    subst e1
    simp only [cnd_if, if_true]
    by_cases hc : 60 < l ∨ 60 < l'
    · rw [if_pos (by simpa using hc)]
      exact ⟨_, rfl, by simp, F3⟩
    · rw [if_neg (by simpa using hc)]
      exact ⟨trivial, by omega, by omega⟩
  rintro _ h' ⟨e2, hl, hl'⟩
  rw [e2]; clear e2 h'
  refine (rnew_ok 6 h3).ret ?_
  intro v0 h4 ⟨f4, hv⟩
  rcases hv with ⟨hn, _⟩ | ⟨_, _, r, rfl, hr4, z1, z2, z3⟩
  · exact absurd ⟨by decide, by decide⟩ hn
  refine ⟨_, _, rfl, ?_⟩
  have B := both_new f2 f3 hd3 y1 y2 y3 f4 hr4 z1 z2 z3
  refine script_loop B (.new ⟨by decide, by decide⟩) ho (by omega) fun h5 B5 F5 => ?_
  have hG := run_good (s := St.new 6) (k := 0) (ops := ops) (.new ⟨by decide, by decide⟩) ho.nums
  have hmn : (run (St.new 6) ops).many = 6 := by rw [run_many]; rfl
  have hlen := ho.len
  have hlen' := hm.len
  generalize hS : run (St.new 6) ops = S at B5 hG hmn
  refine (clone_ok B5.dAt).ret ?_
  rintro _ h6 ⟨cl, rfl, hc6, f6, w1, w2, w3⟩
  have hd6 := B5.dAt.frm f6 (by simp) (by simp) (by simp)
  refine ⟨_, rfl, fun _ h' => Frm [] h6 h', ?_, ?_⟩
  · simp only [cnd_if]
    rw [if_neg (by simp)]
    refine (isOn_ok hc6).ret ?_
    rintro _ h14 ⟨rfl, e14⟩
    rw [e14]; clear e14 h14
    refine ⟨_, rfl, ?_⟩
    refine (isOn_ok hd6).ret ?_
    rintro _ h14 ⟨rfl, e14⟩
    rw [e14]; clear e14 h14
    refine ⟨_, rfl, ?_⟩
    rw [if_neg (by simp)]
    refine (acts_ok hc6).ret ?_
    rintro _ h14 ⟨rfl, e14⟩
    rw [e14]; clear e14 h14
    refine ⟨_, rfl, ?_⟩
    refine (acts_ok hd6).ret ?_
    rintro _ h14 ⟨rfl, e14⟩
    rw [e14]; clear e14 h14
    refine ⟨_, rfl, ?_⟩
    rw [if_neg (by simp)]
    refine (waiting_ok' hc6 hG.ok).ret ?_
    intro v1 h7 ⟨ho1, f7⟩
    obtain ⟨a1, c1, rfl⟩ := ho1.slice
    refine ⟨a1, _, c1, rfl, ?_⟩
    refine (waiting_ok' (hd6.frm f7 (by simp) (by simp) (by simp)) hG.ok).ret ?_
    intro v2 h8 ⟨ho2, f8⟩
    obtain ⟨a2, c2, rfl⟩ := ho2.slice
    refine ⟨a2, _, c2, rfl, ?_⟩
    have hwl := S.wl_length S.many.toNat
    rw [wlN_wl, hmn] at hwl
    refine (sameInts_ok (ho1.frm f8 (by simp)).slRow.1 ho2.slRow.1 (by omega)).ret ?_
    rintro _ h14 ⟨rfl, e14⟩
    rw [e14]; clear e14 h14
    refine ⟨_, rfl, ?_⟩
    rw [if_neg (by simp)]
    exact f7.trans f8
  rintro _ h9 f9
  have Fc6 := impl_off hc6 w1 w2 w3
  have ltd5 := Impl.lt B5.dAt
  have ltr5 := RefD.lt B5.rAt
  have s5 := B5.frm.1
  have BC : Both cl r S h h9 := by
    refine ⟨hc6.frm f9 (by simp) (by simp) (by simp), (B5.rAt.frm f6 (by simp) (by simp) (by simp)).frm f9 (by simp) (by simp) (by simp), fun b hb hb' => ?_, fun b hb => ?_, B5.yr, B5.frm.trans (f6.trans f9)⟩
    · have := (Fc6 b hb).1; have := ltr5 _ hb'; omega
    · have := (Fc6 b hb).1; omega
  refine script_loop BC hG hm (by omega) fun h10 B10 F10 => ?_
  have offd : ∀ b ∈ d.blocks, b ∉ cl.blocks ++ r.blocks := fun b hb hb' => by
    rcases List.mem_append.1 hb' with h1 | h1
    · have := (Fc6 b h1).1; have := ltd5 _ hb; omega
    · exact B5.apart b hb h1
  have hd10 := ((hd6.frm f9 (by simp) (by simp) (by simp)).frm F10 (offd _ (by simp [Impl.blocks])) (offd _ (by simp [Impl.blocks])) (offd _ (by simp [Impl.blocks])))
  have ltd10 := Impl.lt hd10
  refine (rnew_ok 6 h10).ret ?_
  intro v0 h11 ⟨f11, hv⟩
  rcases hv with ⟨hn, _⟩ | ⟨_, _, y, rfl, hy11, x1, x2, x3⟩
  · exact absurd ⟨by decide, by decide⟩ hn
  refine ⟨_, _, rfl, ?_⟩
  refine (new_ok 6 h11).ret ?_
  intro v0 h12 ⟨f12, hv⟩
  rcases hv with ⟨hn, _⟩ | ⟨_, _, z, rfl, hz12, u1, u2, u3⟩
  · exact absurd ⟨by decide, by decide⟩ hn
  refine ⟨_, _, rfl, fun _ h' => h' = h12, ?_, ?_⟩
  · rw [cnd_if, cnd_if, if_neg (by simp), if_neg (by simp)]
  rintro _ h' e2
  rw [e2]; clear e2 h'
  have oy := ref_off hy11 x1 x2 x3
  have oz := impl_off hz12 u1 u2 u3
  have s10 := B10.frm.1
  have s11 := f11.1
  have Bz : Both z y (St.new 6) h h12 := ⟨hz12, hy11.frm f12 (by simp) (by simp) (by simp), fun b hb hb' => by
      have := (oz b hb).1; have := (oy b hb').2; omega, fun b hb => by have := (oz b hb).1; omega, fun b hb => by have := (oy b hb).1; omega, B10.frm.trans (f11.trans f12)⟩
  have hd12 := (hd10.frm f11 (by simp) (by simp) (by simp)).frm f12 (by simp) (by simp) (by simp)
  refine script_loop Bz (.new ⟨by decide, by decide⟩) ho (by omega) fun h13 B13 F13 => ?_
  rw [hS] at B13
  have offz : ∀ b ∈ d.blocks, b ∉ z.blocks ++ y.blocks := fun b hb hb' => by
    have := ltd10 _ hb
    rcases List.mem_append.1 hb' with h1 | h1
    · have := (oz b h1).1; omega
    · have := (oy b h1).1; omega
  have hd13 := hd12.frm F13 (offz _ (by simp [Impl.blocks])) (offz _ (by simp [Impl.blocks])) (offz _ (by simp [Impl.blocks]))
  have yd : ∀ b ∈ d.blocks, h.size ≤ b := B5.yd
  have dz : ∀ b ∈ d.blocks, b ∉ z.blocks := fun b hb hb' => offz b hb (List.mem_append_left _ hb')
  refine (on_ok hd13 hG.ok).ret ?_
  rintro _ h14 ⟨rfl, hd14, f14⟩
  refine ⟨rfl, ?_⟩
  have hz14 := B13.dAt.frm f14 (fun hb => dz _ hb (by simp [Impl.blocks])) (fun hb => dz _ hb (by simp [Impl.blocks])) (fun hb => dz _ hb (by simp [Impl.blocks]))
  refine (on_ok hz14 hG.ok).ret ?_
  rintro _ h15 ⟨rfl, hz15, f15⟩
  refine ⟨rfl, ?_⟩
  have hd15 := hd14.frm f15 (dz _ (by simp [Impl.blocks])) (dz _ (by simp [Impl.blocks])) (dz _ (by simp [Impl.blocks]))
  have F15 : Frm [] h h15 := (B13.frm.young f14 fun x hx => .inr (yd x hx)).young f15 fun x hx => .inr (by have := (oz x hx).1; omega)
  have hoff := on_off S
  have hmn2 : S.on.many = 6 := by rw [on_many, hmn]
  have hGo := hG.on
  refine ⟨fun vs h' => ∃ m : Nat, vs = [.int .i64 (m : Int)] ∧ m ≤ 6 ∧ Frm [] h15 h', fun vs _ => match vs with | [.int _ m] => 6 - m.toNat | _ => 0, ⟨0, rfl, by omega, Frm.refl _ _⟩, ?_⟩
  rintro m' _ h16 ⟨m, e, hmm, f16⟩
  simp only [List.cons.injEq, Value.int.injEq, true_and, and_true] at e
  subst e
  simp only [cnd_if]
  by_cases hlt : m < 6
  · rw [if_pos (by simp; omega)]
    refine (read_ok (hd15.frm f16 (by simp) (by simp) (by simp)) hGo.ok m).ret ?_
    intro v h17 ⟨f17, hv⟩
    rcases hv with ⟨hc, _⟩ | ⟨_, g, rfl, hown⟩
    · exact absurd (refused_on hoff (by omega) (by omega)) hc
    refine ⟨_, _, _, _, rfl, ?_⟩
    refine (read_ok ((hz15.frm f16 (by simp) (by simp) (by simp)).frm f17 (by simp) (by simp) (by simp)) hGo.ok m).ret ?_
    intro v h18 ⟨f18, hv⟩
    rcases hv with ⟨hc, _⟩ | ⟨_, g2, rfl, hown2⟩
    · exact absurd (refused_on hoff (by omega) (by omega)) hc
    refine ⟨_, _, _, _, rfl, ?_⟩
    refine (same_ok (hown.frm f18 (by simp)).slRow.1 hown2.slRow.1 hown.slRow.2.2 hown2.slRow.2.2).ret ?_
    rintro _ h19 ⟨rfl, e19⟩
    rw [e19]; clear e19 h19
    refine ⟨_, rfl, ?_⟩
    rw [same_self, if_neg (by simp)]
    refine ⟨in64 (by omega) (by omega), ⟨m + 1, rfl, hlt, f16.trans (f17.trans f18)⟩, ?_⟩
    show 6 - ((m : Int) + 1).toNat < 6 - ((m : Int)).toNat
    omega
  · rw [if_neg (by simp; omega)]
    exact ⟨_, rfl, rfl, F15.trans f16⟩
end Go.Proofs.Ytpekdeeagnfecaa
