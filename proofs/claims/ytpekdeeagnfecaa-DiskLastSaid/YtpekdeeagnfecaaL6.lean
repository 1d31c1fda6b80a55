/- DiskLast, walked. -/
import Derived.Test.YtpekdeeagnfecaaL5
namespace Go.Proofs.Ytpekdeeagnfecaa
open Go Go.Proofs Go.Proofs.Ytpekdeeagnfecaa.V
theorem read_write {s : St} (i : Int) (b : ByteArray) (k : Int) (hw : s.write i b = { s.act with waits := fun y => if i = y then some b else s.waits y }) : (s.write i b).read k = if k = i then b else s.read k := by
  have hf : s.act.firm = s.firm := by unfold St.act; split <;> rfl
  rw [hw]
  show ((if i = k then some b else s.waits k).getD (s.act.firm k)) = _
  rw [hf]
  by_cases e : k = i
  · rw [if_pos e.symm, if_pos e]; rfl
  · rw [if_neg (fun h => e h.symm), if_neg e]; rfl

theorem write_many (s : St) (i : Int) (b : ByteArray) : (s.write i b).many = s.many := by
  have ha : s.act.many = s.many := by unfold St.act; split <;> rfl
  unfold St.write
  split
  · rfl
  split
  · rfl
  split
  · exact ha
  · exact ha

set_option maxHeartbeats 2000000 in
set_option maxRecDepth 20000 in
theorem last_ok {h : Heap} {a a' : Option Addr} {l c l' c' : Nat} {ops : List Op} {o : Op} (ho : OpsAt h a l ops) (hb : BytesAt h a' l' o.b) (hn : o.n ≤ 9223372036854775807) :
    CallsH Try.prog 5 #[.slice a l c, .agg #[.int .i64 o.act, .int .i64 o.i, .int .i64 o.n, .slice a' l' c']] h (fun e h' => ∃ v, e = .returned v ∧ v = .bool true ∧ Frm [] h h') := by
  refine c5 _ _ _ _ _ _ _ _ _ _ _ ?_
  refine al_intro fun h1 e1 g1 f1 s1 => ?_
  refine (live_ok h1).ret ?_
  rintro _ h2 ⟨rfl, f2⟩
  refine ⟨_, rfl, ?_⟩
  refine (new_ok 6 h2).ret ?_
  intro v0 h3 ⟨f3, hv⟩
  rcases hv with ⟨hn, _⟩ | ⟨_, _, d, rfl, hd3, y1, y2, y3⟩
  · exact absurd ⟨by decide, by decide⟩ hn
  have F3 := f1.trans (f2.trans f3)
  refine ⟨_, _, rfl, fun _ h' => h' = h3 ∧ l ≤ 60, ⟨fun vs h' => vs = [.bool (decide (60 < l))] ∧ h' = h3, ?_, ?_⟩, ?_⟩
  · simp only [cnd_if]
    rw [if_neg (by simp)]
    refine ⟨?_, trivial⟩
    congr 2
    rw [Bool.eq_iff_iff]
    simp only [decide_eq_true_eq]
    omega
  · rintro b _ h' ⟨e1, e2⟩
    rw [e2]; clear e2 h'
    simp only [List.cons.injEq, Value.bool.injEq, and_true] at e1
    subst e1
    simp only [cnd_if, if_true]
    by_cases hc : 60 < l
    · rw [if_pos (by simpa using hc)]
      exact ⟨_, rfl, by simp, F3⟩
    · rw [if_neg (by simpa using hc)]
      exact ⟨trivial, by omega⟩
  rintro _ h' ⟨e2, hl⟩
  rw [e2]; clear e2 h'
  refine (rnew_ok 6 h3).ret ?_
  intro v0 h4 ⟨f4, hv⟩
  rcases hv with ⟨hn, _⟩ | ⟨_, _, r, rfl, hr4, z1, z2, z3⟩
  · exact absurd ⟨by decide, by decide⟩ hn
  refine ⟨_, _, rfl, ?_⟩
  have B := both_new (f1.trans f2) f3 hd3 y1 y2 y3 f4 hr4 z1 z2 z3
  have offk : h.size ∉ d.blocks ++ r.blocks := fun hm => by
    rcases List.mem_append.1 hm with h5 | h5
    · have := (impl_off hd3 y1 y2 y3 _ h5).1; have := f2.1; omega
    · have := (ref_off hr4 z1 z2 z3 _ h5).1; have := f2.1; have := f3.1; omega
  have g4 := (f2.trans (f3.trans f4)).get g1 (by simp)
  refine script_loop B (.new ⟨by decide, by decide⟩) ho (by omega) fun h5 B5 F5 => ?_
  have g5 := F5.get g4 offk
  have hgd := run_good (s := St.new 6) (k := 0) (ops := ops) (.new ⟨by decide, by decide⟩) ho.nums
  refine (on_ok B5.dAt hgd.ok).ret ?_
  rintro _ h6 ⟨rfl, hd6, f6⟩
  refine ⟨rfl, ?_⟩
  have hG := hgd.on
  have hoff := on_off (run (St.new 6) ops)
  have hmn : (run (St.new 6) ops).on.many = 6 := by rw [on_many, run_many]; rfl
  generalize hS : (run (St.new 6) ops).on = S at hd6 hG hoff hmn
  have g6 := f6.get g5 (fun hm => offk (List.mem_append_left _ hm))
  refine al_intro fun h7 e7 g7 f7 s7 => ?_
  have hd7 := hd6.frm f7 (by simp) (by simp) (by simp)
  have ltd := Impl.lt hd6
  have hA7 : Arr h7 h6.size 47 6 (fun _ => ⟨#[]⟩) := ⟨_, g7, by simp, fun i hi => by
    rcases i with _ | _ | _ | _ | _ | _ | i
    all_goals first | rfl | omega⟩
  have offA : h6.size ∉ d.blocks := fun hm => by have := ltd _ hm; omega
  have hlen := ho.len
  have hfits := hG.fits (by omega)
  have F6 : Frm [] h h6 := B5.frm.young f6 fun x hx => .inr (B5.yd x hx)
  refine keep_loop (N := 6) hd7 hG.ok hoff (by rw [hmn]; decide) hA7 offA fun h8 hA8 f8 => ?_
  have ltS := B5.frm.1
  have dA : ∀ b ∈ d.blocks, b ∉ [h6.size] := fun b hb h1 => offA (by rw [← List.mem_singleton.1 h1]; exact hb)
  have hd8 := hd7.frm f8 (dA _ (by simp [Impl.blocks])) (dA _ (by simp [Impl.blocks])) (dA _ (by simp [Impl.blocks]))
  have hk6 : h.size < h6.size := lt_of_get g6
  have g8 := f8.get (f7.get g6 (by simp)) (by simp; omega)
  have F8 : Frm [] h h8 := (F6.trans f7).young f8 fun x hx => .inr (by rw [List.mem_singleton.1 hx]; omega)
  simp only [add_at, cl_at g8]
  refine ⟨o.act, o.i, o.n, a', l', c', by simp, ?_⟩
  refine (bytes_ok (hb.frm F8 (by simp))).ret ?_
  intro v9 h9 ⟨ho9, f9⟩
  obtain ⟨a9, c9, rfl⟩ := ho9.slice
  have g9 := f9.get g8 (by simp)
  simp only [cl_at g9]
  refine ⟨a9, _, c9, rfl, o.i, by simp, ?_⟩
  have hd9 := hd8.frm f9 (by simp) (by simp) (by simp)
  have lt8 : ∀ b ∈ d.blocks, b < h8.size := Impl.lt hd8
  have nd9 : ∀ b, (Value.slice a9 o.data.size c9).ownBlock = some b → b ∉ d.blocks := fun b hb hm => by
    have := (ho9.lt hb).1
    have := lt8 _ hm
    omega
  refine (write_ok hd9 hfits o.i ho9.slRow.1 ho9.slRow.2.2 (by rintro ad rfl; exact nd9 _ rfl)).ret ?_
  rintro _ h10 ⟨rfl, hd10, f10⟩
  refine ⟨_, rfl, ?_⟩
  have g10 := f10.get g9 (fun hm => offk (List.mem_append_left _ hm))
  have hA10 := (hA8.frm f9 (by simp)).frm f10 offA
  have hG2 := hG.write o.i o.data
  have F10 : Frm [] h h10 := (F8.trans f9).young f10 fun x hx => .inr (B5.yd x hx)
  -- what is kept behind the Write
  have key : ∀ {X : Heap → Prop}, (∀ h', (∃ W : Nat → ByteArray, Arr h' h6.size 47 6 W ∧ ((S.write o.i o.data).off = false → ∀ k : Nat, k < 6 → W k = (S.write o.i o.data).read k)) → Frm [h6.size] h10 h' → X h') →
      (if (S.writeCode o.i o.data == 0) = true then (∃ (n88 : Int), cl h10 (⟨h.size, 0 + 1, none⟩ : Addr) = some (.int .i64 n88) ∧ RunH Try.prog (convert 31 9 (.slice a9 o.data.size c9)) h10 fun u89 h90 => ∃ (s91 : ByteArray), u89 = (.string s91) ∧ (0 ≤ n88 ∧ n88 < ((6 : Nat) : Int) ∧ St1 h90 (⟨h6.size, 0 + (n88 : Int).toNat * 1, none⟩ : Addr) (.string s91) fun h92 => X h92)) else X h10) := by
    intro X hX
    rcases write_cases hoff o.i o.data with ⟨hc, i0, i1, _, _, hw, hact⟩ | ⟨hc, _, hw⟩ | ⟨hc, _, hw⟩
    · rw [if_pos (by simp [hc])]
      refine ⟨o.i, by simp [cl_at g10], ?_⟩
      have ho10 := ho9.frm f10 nd9
      refine conv_bytes_string Try.underlying31 Try.underlying5 Try.underlying9 ho10.slRow.1 ho10.slRow.2.2 ⟨_, rfl, i0, by omega, ?_⟩
      simp only [add_at, Nat.mul_one, Nat.zero_add]
      refine hA10.store (by omega) fun h11 hA11 f11 => hX h11 ⟨_, hA11, fun _ k hk => ?_⟩ f11
      rw [read_write _ _ _ hw]
      by_cases e : k = o.i.toNat
      · rw [if_pos e, if_pos (by omega)]
      · rw [if_neg e, if_neg (by omega)]
    · rw [if_neg (by simpa using hc)]
      exact hX h10 ⟨_, hA10, fun _ k _ => by rw [hw]⟩ (Frm.refl _ _)
    · rw [if_neg (by simp [hc])]
      exact hX h10 ⟨_, hA10, fun h1 => by rw [hw] at h1; cases h1⟩ (Frm.refl _ _)
  refine ⟨fun _ h' => (∃ W : Nat → ByteArray, Arr h' h6.size 47 6 W ∧ ((S.write o.i o.data).off = false → ∀ k : Nat, k < 6 → W k = (S.write o.i o.data).read k)) ∧ Frm [h6.size] h10 h', ?_, ?_⟩
  · rw [cnd_if]
    exact key (X := fun h' => (∃ W : Nat → ByteArray, Arr h' h6.size 47 6 W ∧ ((S.write o.i o.data).off = false → ∀ k : Nat, k < 6 → W k = (S.write o.i o.data).read k)) ∧ Frm [h6.size] h10 h') fun h' h1 h2 => ⟨h1, h2⟩
  rintro _ h11 ⟨⟨W, hA11, hW⟩, f11⟩
  have hd11 := hd10.frm f11 (dA _ (by simp [Impl.blocks])) (dA _ (by simp [Impl.blocks])) (dA _ (by simp [Impl.blocks]))
  have F11 : Frm [] h h11 := F10.young f11 fun x hx => .inr (by rw [List.mem_singleton.1 hx]; omega)
  have hmn2 : (S.write o.i o.data).many = 6 := by rw [write_many, hmn]
  have hcase := write_cases hoff o.i o.data
  generalize hS2 : S.write o.i o.data = S2 at hd11 hG2 hmn2 hW hcase
  refine ⟨fun vs h' => ∃ m : Nat, vs = [.int .i64 (m : Int)] ∧ m ≤ 6 ∧ Frm [] h11 h', fun vs _ => match vs with | [.int _ m] => 6 - m.toNat | _ => 0, ⟨0, rfl, by omega, Frm.refl _ _⟩, ?_⟩
  rintro m' _ h12 ⟨m, e, hm, f12⟩
  simp only [List.cons.injEq, Value.int.injEq, true_and, and_true] at e
  subst e
  simp only [cnd_if]
  have hd12 := hd11.frm f12 (by simp) (by simp) (by simp)
  by_cases hlt : m < 6
  · rw [if_pos (by simp; omega)]
    have hmu : 6 - ((m : Int) + 1).toNat < 6 - ((m : Int)).toNat := by omega
    refine (read_ok hd12 hG2.ok m).ret ?_
    intro v h13 ⟨f13, hv⟩
    have hd13 := hd12.frm f13 (by simp) (by simp) (by simp)
    by_cases hon : S2.off = true
    · obtain ⟨aa, ll, cc, nn, rfl⟩ : ∃ (aa : Option Addr) (ll cc : Nat) (nn : Int), v = .tuple #[.slice aa ll cc, .int .i64 nn] := by
        rcases hv with ⟨_, rfl⟩ | ⟨_, g, rfl, _⟩
        · exact ⟨_, _, _, _, rfl⟩
        · exact ⟨_, _, _, _, rfl⟩
      refine ⟨aa, ll, cc, nn, rfl, ?_⟩
      refine (isOn_ok hd13).ret ?_
      rintro _ h14 ⟨rfl, e14⟩
      rw [e14]; clear e14 h14
      refine ⟨_, rfl, ?_⟩
      rw [if_neg (by simp [hon])]
      exact ⟨trivial, in64 (by omega) (by omega), ⟨m + 1, rfl, hlt, f12.trans f13⟩, hmu⟩
    · have hon' : S2.off = false := by simpa using hon
      rcases hv with ⟨hc, _⟩ | ⟨_, g, rfl, hown⟩
      · exact absurd (refused_on hon' (by omega) (by omega)) hc
      refine ⟨_, _, _, _, rfl, ?_⟩
      refine (isOn_ok hd13).ret ?_
      rintro _ h14 ⟨rfl, e14⟩
      rw [e14]; clear e14 h14
      refine ⟨_, rfl, ?_⟩
      rw [if_pos (by simp [hon']), if_neg (by simp)]
      have hA13 := (hA11.frm f12 (by simp)).frm f13 (by simp)
      refine ⟨by omega, by omega, W m, by simpa [add_at] using hA13.load hlt, ?_⟩
      refine conv_bytes_string Try.underlying31 Try.underlying5 Try.underlying9 hown.slRow.1 hown.slRow.2.2 ⟨_, rfl, ⟨W m, by simpa [add_at] using hA13.load hlt, rfl⟩, ?_⟩
      rw [hW hon' m hlt, same_self, if_neg (by simp)]
      exact ⟨in64 (by omega) (by omega), ⟨m + 1, rfl, hlt, f12.trans f13⟩, hmu⟩
  · rw [if_neg (by simp; omega)]
    simp only [if_true]
    have F12 := F11.trans f12
    rcases hcase with ⟨hc, _⟩ | ⟨hc, hc2, _⟩ | ⟨hc, _, hw⟩
    · rw [if_pos (by simp [hc])]; exact ⟨_, rfl, rfl, F12⟩
    · rw [if_neg (by simpa using hc), if_pos (by simpa using hc2)]; exact ⟨_, rfl, rfl, F12⟩
    · rw [if_neg (by simp [hc]), if_neg (by simp [hc])]
      refine (isOn_ok hd12).ret ?_
      rintro _ h14 ⟨rfl, e14⟩
      rw [e14]; clear e14 h14
      exact ⟨_, rfl, _, rfl, by simp [hw], F12⟩
end Go.Proofs.Ytpekdeeagnfecaa
