/- DiskFirm, walked. -/
import Derived.Test.YtpekdeeagnfecaaL5
namespace Go.Proofs.Ytpekdeeagnfecaa
open Go Go.Proofs Go.Proofs.Ytpekdeeagnfecaa.V
theorem calm_step {s : St} (hoff : s.off = false) (hfu : s.fuse = -1) {o : Op} (h4 : o.act < 4) : (s.step o).off = false ∧ (s.step o).fuse = -1 := by
  have ha : s.act.off = false ∧ s.act.fuse = -1 := by
    rw [St.act, if_neg (by omega)]
    exact ⟨hoff, by show (if 0 < s.fuse then s.fuse - 1 else s.fuse) = -1; rw [if_neg (by omega)]; exact hfu⟩
  unfold St.step
  split
  · unfold St.write
    split
    · exact ⟨hoff, hfu⟩
    split
    · exact ⟨hoff, hfu⟩
    split
    · exact ha
    · exact ha
  split
  · unfold St.flush
    split
    · exact ⟨hoff, hfu⟩
    split
    · exact ha
    · exact ha
  split
  · exact ⟨hoff, hfu⟩
  rw [if_neg (by omega), if_neg (by omega), if_neg (by omega)]
  exact ⟨hoff, hfu⟩

theorem cutF_nil (w : Int → Option ByteArray) (l : List Int) (f : Int → ByteArray) : cutF w l [] f = f := by cases l <;> rfl
theorem cut_on (s : St) (l : List Int) (m : List UInt8) (k : Int) : ((s.cut l m).on).read k = cutF s.waits l m s.firm k := by
  have : (s.cut l m).on = { (s.cut l m).cut (s.cut l m).wl [] with off := false } := by unfold St.on; rw [if_pos (show (s.cut l m).off = true from rfl)]
  rw [this]
  show ((none : Option ByteArray).getD (cutF (s.cut l m).waits (s.cut l m).wl [] (s.cut l m).firm k)) = _
  rw [cutF_nil]
  rfl
theorem cut_on_waits (s : St) (l : List Int) (m : List UInt8) : ((s.cut l m).on).wl = [] := by
  have : (s.cut l m).on.waits = fun _ => none := by unfold St.on; rw [if_pos (show (s.cut l m).off = true from rfl)]; rfl
  unfold St.wl St.wlN
  rw [this]
  simp

set_option maxHeartbeats 4000000 in
set_option maxRecDepth 20000 in
theorem firm_ok {h : Heap} {a a' a'' : Option Addr} {l c l' c' l'' c'' : Nat} {ops more : List Op} {mask : ByteArray} (ho : OpsAt h a l ops) (hm : OpsAt h a' l' more) (hb : BytesAt h a'' l'' mask) :
    CallsH Try.prog 4 #[.slice a l c, .slice a' l' c', .slice a'' l'' c''] h (fun e h' => ∃ v, e = .returned v ∧ v = .bool true ∧ Frm [] h h') := by
  refine c4 _ _ _ _ _ _ _ _ _ _ _ ?_
  refine (live_ok h).ret ?_
  rintro _ h2 ⟨rfl, f2⟩
  refine ⟨_, rfl, ?_⟩
  refine (new_ok 8 h2).ret ?_
  intro v0 h3 ⟨f3, hv⟩
  rcases hv with ⟨hn, _⟩ | ⟨_, _, d, rfl, hd3, y1, y2, y3⟩
  · exact absurd ⟨by decide, by decide⟩ hn
  have F3 := f2.trans f3
  refine ⟨_, _, rfl, fun _ h' => h' = h3 ∧ l ≤ 60 ∧ l' ≤ 60, ⟨fun vs h' => vs = [.bool (decide (60 < l ∨ 60 < l'))] ∧ h' = h3, ?_, ?_⟩, ?_⟩
  · simp only [cnd_if]
    rw [if_neg (by simp)]
    by_cases h60 : 60 < l
    · rw [if_pos (by simp; omega)]; simp [h60]
    · rw [if_neg (by simp; omega)]
      refine ⟨?_, trivial⟩
      congr 2
      rw [Bool.eq_iff_iff]
      simp only [decide_eq_true_eq]
      omega
  · rintro b _ h' ⟨e1, e2⟩
    rw [e2]; clear e2 h'
    simp only [List.cons.injEq, Value.bool.injEq, and_true] at e1
    subst e1
    simp only [cnd_if, if_true]
    by_cases hc : 60 < l ∨ 60 < l'
    · rw [if_pos (by simpa using hc)]
      exact ⟨_, rfl, by simp, F3⟩
    · rw [if_neg (by simpa using hc)]
      exact ⟨trivial, by omega, by omega⟩
  rintro _ h' ⟨e2, hl, hl'⟩
  rw [e2]; clear e2 h'
  refine (rnew_ok 8 h3).ret ?_
  intro v0 h4 ⟨f4, hv⟩
  rcases hv with ⟨hn, _⟩ | ⟨_, _, r, rfl, hr4, z1, z2, z3⟩
  · exact absurd ⟨by decide, by decide⟩ hn
  refine ⟨_, _, rfl, ?_⟩
  have B := both_new f2 f3 hd3 y1 y2 y3 f4 hr4 z1 z2 z3
  have hlen := ho.len
  have hlen' := hm.len
  refine ⟨fun vs h' => ∃ (m : Nat) (s : St), vs = [.int .i64 (m : Int)] ∧ m ≤ l ∧ Both d r s h h' ∧ s.Good m ∧ s.off = false ∧ s.fuse = -1 ∧ s.many = 8, fun vs _ => match vs with | [.int _ m] => l - m.toNat | _ => 0,
    ⟨0, _, rfl, Nat.zero_le _, B, .new ⟨by decide, by decide⟩, rfl, rfl, rfl⟩, ?_⟩
  rintro m' _ h5 ⟨m, s, e, hml, hB, hg, hoff, hfu, hmn⟩
  simp only [List.cons.injEq, Value.int.injEq, true_and, and_true] at e
  subst e
  rw [cnd_if]
  by_cases hlt : m < l
  · rw [if_pos (by simpa using hlt)]
    have hi : ops[m]? = some ops[m] := List.getElem?_eq_getElem (by omega)
    have hmu : l - ((m : Int) + 1).toNat < l - ((m : Int)).toNat := by omega
    refine ⟨by omega, by omega, op_round hB.frm ho hi fun k a' l' c' h5 g5 k5 f5 b5 lt5 => ?_⟩
    refine ⟨ops[m].act, by simp [cl_at g5], ?_⟩
    rw [cnd_if]
    by_cases h4 : ops[m].act < 4
    · rw [if_pos (by simpa using h4)]
      refine ⟨ops[m].act, ops[m].i, ops[m].n, a', l', c', by simp [cl_at g5, add_at], ?_⟩
      refine (both_do (hB.still f5) hg (by omega) b5 lt5).ret ?_
      rintro _ h6 ⟨rfl, hB6, f6⟩
      obtain ⟨q1, q2⟩ := calm_step hoff hfu h4
      exact ⟨_, rfl, in64 (by omega) (by omega), ⟨m + 1, _, rfl, hlt, hB6, hg.step (ho.nums _ (List.getElem_mem _)), q1, q2, by rw [step_many, hmn]⟩, hmu⟩
    · rw [if_neg (by simpa using h4)]
      exact ⟨in64 (by omega) (by omega), ⟨m + 1, _, rfl, hlt, hB.still f5, hg.mono (Nat.le_succ m), hoff, hfu, hmn⟩, hmu⟩
  rw [if_neg (by simpa using hlt)]
  refine (flush_ok hB.dAt (hg.fits (by omega))).ret ?_
  rintro _ h6 ⟨rfl, hd6, f6⟩
  have hr0 : s.refused 0 = 0 := refused_on hoff (by omega) (by omega)
  have hcode : s.flushCode = 0 := by simp [St.flushCode, hr0, St.actCode, hfu]
  refine ⟨_, rfl, ?_⟩
  rw [cnd_if, if_neg (by simp [hcode])]
  have hact : s.act = { s with acts := s.acts + 1 } := by rw [St.act, if_neg (by omega), if_neg (by omega)]
  have hfl : s.flush = { s with acts := s.acts + 1, firm := s.read, waits := fun _ => none } := by
    simp only [St.flush, hr0]
    rw [if_neg (by simp), if_neg (by omega), hact]
  have hg6 : s.flush.Good (m + 1) := hg.flush
  have F6 : Frm [] h h6 := hB.frm.young f6 fun x hx => .inr (hB.yd x hx)
  have p1 : s.flush.off = false := by rw [hfl]; exact hoff
  have p2 : s.flush.fuse = -1 := by rw [hfl]; exact hfu
  have p3 : s.flush.many = 8 := by rw [hfl]; exact hmn
  have p4 : s.flush.waits = fun _ => none := by rw [hfl]
  generalize hS : s.flush = S at hd6 hg6 p1 p2 p3 p4
  refine al_intro fun h7 e7 g7 f7 s7 => al_intro fun h8 e8 g8 f8 s8 => ?_
  have hd8 := (hd6.frm f7 (by simp) (by simp) (by simp)).frm f8 (by simp) (by simp) (by simp)
  have arr0 : ∀ {hh : Heap} {g : Nat}, hh[g]? = some (.cells #[.string ⟨#[]⟩, .string ⟨#[]⟩, .string ⟨#[]⟩, .string ⟨#[]⟩, .string ⟨#[]⟩, .string ⟨#[]⟩, .string ⟨#[]⟩, .string ⟨#[]⟩] 38 (0, 0)) → Arr hh g 38 8 (fun _ => ⟨#[]⟩) := fun gg => ⟨_, gg, by simp, fun i hi => by
    rcases i with _ | _ | _ | _ | _ | _ | _ | _ | i
    all_goals first | rfl | omega⟩
  have hA8 : Arr h8 h6.size 38 8 (fun _ => ⟨#[]⟩) := arr0 (f8.get g7 (by simp))
  have ltd := Impl.lt hd6
  have offA : h6.size ∉ d.blocks := fun h1 => by have := ltd _ h1; omega
  have offL : h7.size ∉ d.blocks := fun h1 => by have := ltd _ h1; omega
  have dA : ∀ b ∈ d.blocks, b ∉ [h6.size] := fun b hb h1 => offA (by rw [← List.mem_singleton.1 h1]; exact hb)
  have dL : ∀ b ∈ d.blocks, b ∉ [h7.size] := fun b hb h1 => offL (by rw [← List.mem_singleton.1 h1]; exact hb)
  have sz6 := F6.1
  refine keep_loop (N := 8) hd8 hg6.ok p1 (by rw [p3]; decide) hA8 offA fun h9 hA9 f9 => ?_
  have hd9 := hd8.frm f9 (dA _ (by simp [Impl.blocks])) (dA _ (by simp [Impl.blocks])) (dA _ (by simp [Impl.blocks]))
  have F9 : Frm [] h h9 := (F6.trans (f7.trans f8)).young f9 fun x hx => .inr (by rw [List.mem_singleton.1 hx]; exact sz6)
  have hL9 : Arr h9 h7.size 38 8 (fun _ => ⟨#[]⟩) := (arr0 g8).frm f9 (by simp; omega)
  refine ⟨fun vs h' => ∃ (j : Nat) (s : St), vs = [.int .i64 (j : Int)] ∧ j ≤ l' ∧ d.At s h' ∧ s.Good (m + 1 + j) ∧ s.off = false ∧ s.fuse = -1 ∧ s.many = 8 ∧ s.firm = S.firm ∧ Arr h' h6.size 38 8 (fun i => S.read i) ∧ Arr h' h7.size 38 8 (fun i => (s.waits i).getD ⟨#[]⟩) ∧ Frm [] h h',
    fun vs _ => match vs with | [.int _ j] => l' - j.toNat | _ => 0, ⟨0, S, rfl, Nat.zero_le _, hd9, hg6, p1, p2, p3, rfl, hA9, hL9.congr fun i _ => by rw [p4]; rfl, F9⟩, ?_⟩
  rintro j' _ h10 ⟨j, s2, e, hjl, hd10, hg10, q1, q2, q3, q4, hA10, hL10, F10⟩
  simp only [List.cons.injEq, Value.int.injEq, true_and, and_true] at e
  subst e
  rw [cnd_if]
  by_cases hlj : j < l'
  · rw [if_pos (by simpa using hlj)]
    have hi : more[j]? = some more[j] := List.getElem?_eq_getElem (by omega)
    have hmu : l' - ((j : Int) + 1).toNat < l' - ((j : Int)).toNat := by omega
    have lt10 : h7.size < h10.size := by obtain ⟨_, h1, _⟩ := hL10; exact lt_of_get h1
    have ltd10 := Impl.lt hd10
    refine ⟨by omega, by omega, op_round F10 hm hi fun k a' l' c' h11 g11 k11 f11 b11 lt11 => ?_⟩
    have hd11 := hd10.frm f11 (by simp) (by simp) (by simp)
    simp only [add_at, cl_at g11]
    refine ⟨more[j].act, by simp, ?_⟩
    rw [cnd_if]
    by_cases h2 : more[j].act < 2
    · rw [if_pos (by simpa using h2)]
      refine ⟨more[j].i, by simp, more[j].act, more[j].i, more[j].n, a', l', c', by simp, ?_⟩
      refine (bytes_ok b11).ret ?_
      intro v12 h12 ⟨ho12, f12⟩
      obtain ⟨a12, c12, rfl⟩ := ho12.slice
      have g12 := f12.get g11 (by simp)
      simp only [cl_at g12]
      refine ⟨a12, _, c12, rfl, ⟨more[j].i, by simp, rfl⟩, ?_⟩
      have hd12 := hd11.frm f12 (by simp) (by simp) (by simp)
      have f1011 := f11.1
      have f1112 := f12.1
      refine (write_ok hd12 (hg10.fits (by omega)) more[j].i ho12.slRow.1 ho12.slRow.2.2 (by
        rintro ad rfl h1
        have := (ho12.lt rfl).1
        have := ltd10 _ h1
        omega)).ret ?_
      rintro _ h13 ⟨rfl, hd13, f13⟩
      have koff : k ∉ d.blocks := fun h1 => by have := ltd10 _ h1; omega
      have g13 := f13.get g12 koff
      have F13 : Frm [] h h13 := (F10.trans (f11.trans f12)).young f13 fun x hx => .inr (by
        have := hB.yd x hx; omega)
      have hA13 := ((hA10.frm f11 (by simp)).frm f12 (by simp)).frm f13 offA
      have hL13 := ((hL10.frm f11 (by simp)).frm f12 (by simp)).frm f13 offL
      have hg13 := hg10.write more[j].i more[j].data
      simp only [cl_at g13]
      refine ⟨_, rfl, ?_⟩
      rw [cnd_if]
      rcases write_cases q1 more[j].i more[j].data with ⟨hc, i0, i1, _, _, hw, hact⟩ | ⟨hc, _, hw⟩ | ⟨_, hc, _⟩
      · rw [if_pos (by simp [hc])]
        refine ⟨more[j].i, by simp, more[j].act, more[j].i, more[j].n, a', l', c', by simp, ?_⟩
        have b13 : BytesAt h13 a' l' more[j].b := (b11.frm f12 (by simp)).frm f13 fun h0 ad e h1 => by
          have := lt11 h0 ad e
          have := hB.yd _ h1
          omega
        refine (bytes_ok b13).ret ?_
        intro v14 h14 ⟨ho14, f14⟩
        obtain ⟨a14, c14, rfl⟩ := ho14.slice
        have g14 := f14.get g13 (by simp)
        refine ⟨a14, _, c14, rfl, ⟨more[j].i, by simp [cl_at g14], rfl⟩, ?_⟩
        refine conv_bytes_string Try.underlying31 Try.underlying5 Try.underlying9 ho14.slRow.1 ho14.slRow.2.2 ⟨_, rfl, ⟨more[j].i, by simp [cl_at g14], rfl⟩, i0, by omega, ?_⟩
        simp only [Nat.mul_one, Nat.zero_add]
        refine (hL13.frm f14 (by simp)).store (by omega) fun h15 hL15 f15 => ⟨in64 (by omega) (by omega), ⟨j + 1, _, rfl, hlj, ((hd13.frm f14 (by simp) (by simp) (by simp)).frm f15 (dL _ (by simp [Impl.blocks])) (dL _ (by simp [Impl.blocks])) (dL _ (by simp [Impl.blocks]))), hg13, ?_, ?_, ?_, ?_, (hA13.frm f14 (by simp)).frm f15 (by simp; omega), hL15.congr fun i _ => ?_, (F13.trans f14).young f15 fun x hx => .inr (by rw [List.mem_singleton.1 hx]; omega)⟩, hmu⟩
        · rw [hw, hact]; exact q1
        · rw [hw, hact]; show (if 0 < s2.fuse then s2.fuse - 1 else s2.fuse) = -1; rw [if_neg (by omega)]; exact q2
        · rw [hw, hact]; exact q3
        · rw [hw, hact]; exact q4
        · rw [hw]
          show (if more[j].i = (i : Int) then some more[j].data else s2.waits i).getD ⟨#[]⟩ = if i = more[j].i.toNat then more[j].data else (s2.waits i).getD ⟨#[]⟩
          by_cases e : i = more[j].i.toNat
          · rw [if_pos (by omega), if_pos e]; rfl
          · rw [if_neg (by omega), if_neg e]
      · rw [if_neg (by simpa using hc)]
        refine ⟨in64 (by omega) (by omega), ⟨j + 1, _, rfl, hlj, hd13, hg13, ?_, ?_, ?_, ?_, hA13, hL13.congr fun i _ => ?_, F13⟩, hmu⟩
        all_goals rw [hw]
        all_goals assumption
      · exact absurd hc (by omega)
    · rw [if_neg (by simpa using h2)]
      exact ⟨trivial, in64 (by omega) (by omega), ⟨j + 1, s2, rfl, hlj, hd11, hg10.mono (by omega), q1, q2, q3, q4, hA10.frm f11 (by simp), hL10.frm f11 (by simp), F10.trans f11⟩, hmu⟩
  rw [if_neg (by simpa using hlj)]
  refine (cut_ok' hd10 hg10.ok (hb.frm F10 (by simp)).row (fun h0 ad e h1 => by
    have := (hb.here h0 ad e).2
    have := hB.yd _ h1
    omega)).ret ?_
  rintro _ h11 ⟨rfl, hd11, f11⟩
  refine ⟨rfl, ?_⟩
  have hg11 := hg10.cut mask.data.toList
  refine (on_ok hd11 hg11.ok).ret ?_
  rintro _ h12 ⟨rfl, hd12, f12⟩
  refine ⟨rfl, ?_⟩
  have hg12 := hg11.on
  have hoff12 := on_off (s2.cut s2.wl mask.data.toList)
  have hmn12 : (s2.cut s2.wl mask.data.toList).on.many = 8 := by rw [on_many]; exact q3
  have hrd : ∀ k : Int, (s2.cut s2.wl mask.data.toList).on.read k = cutF s2.waits s2.wl mask.data.toList s2.firm k := cut_on _ _ _
  have hwl := cut_on_waits s2 s2.wl mask.data.toList
  generalize (s2.cut s2.wl mask.data.toList).on = S3 at hd12 hg12 hoff12 hmn12 hrd hwl
  have hA12 := (hA10.frm f11 offA).frm f12 offA
  have hL12 := (hL10.frm f11 offL).frm f12 offL
  have F12 : Frm [] h h12 := (F10.young f11 fun x hx => .inr (hB.yd x hx)).young f12 fun x hx => .inr (hB.yd x hx)
  have hfirm : ∀ k : Int, S.read k = s2.firm k := fun k => by rw [q4, St.read, p4]; rfl
  refine ⟨fun vs h' => ∃ j : Nat, vs = [.int .i64 (j : Int)] ∧ j ≤ 8 ∧ Frm [] h12 h', fun vs _ => match vs with | [.int _ j] => 8 - j.toNat | _ => 0, ⟨0, rfl, by omega, Frm.refl _ _⟩, ?_⟩
  rintro j' _ h13 ⟨j, e, hj8, f13⟩
  simp only [List.cons.injEq, Value.int.injEq, true_and, and_true] at e
  subst e
  simp only [cnd_if]
  have hd13 := hd12.frm f13 (by simp) (by simp) (by simp)
  by_cases hlt8 : j < 8
  · rw [if_pos (by simp; omega)]
    have hmu : 8 - ((j : Int) + 1).toNat < 8 - ((j : Int)).toNat := by omega
    refine (read_ok hd13 hg12.ok j).ret ?_
    intro v h14 ⟨f14, hv⟩
    rcases hv with ⟨hc, _⟩ | ⟨_, g, rfl, hown⟩
    · exact absurd (refused_on hoff12 (by omega) (by omega)) hc
    have hA14 := (hA12.frm f13 (by simp)).frm f14 (by simp)
    have hL14 := (hL12.frm f13 (by simp)).frm f14 (by simp)
    refine ⟨_, _, _, _, rfl, ?_⟩
    rw [if_neg (by simp)]
    refine ⟨by omega, by omega, S.read j, by simpa [add_at] using hA14.load hlt8, ?_⟩
    refine conv_bytes_string Try.underlying31 Try.underlying5 Try.underlying9 hown.slRow.1 hown.slRow.2.2 ⟨_, rfl, ⟨S.read j, by simpa [add_at] using hA14.load hlt8, rfl⟩, ?_⟩
    by_cases heq : ((S3.read j).toList == (S.read j).toList) = true
    · rw [if_neg (by simpa using heq)]
      exact ⟨trivial, in64 (by omega) (by omega), ⟨j + 1, rfl, hlt8, f13.trans f14⟩, hmu⟩
    · rw [if_pos (by simpa using heq)]
      rcases cutF_is s2.waits s2.wl mask.data.toList s2.firm j with h1 | ⟨h1, h2⟩
      · rw [hrd, h1, ← hfirm, same_self] at heq
        exact absurd rfl heq
      · refine ⟨by omega, by omega, (s2.waits j).getD ⟨#[]⟩, by simpa [add_at] using hL14.load hlt8, ?_⟩
        have hne : s2.waits j ≠ none := (hg10.ok.waiting.2 j).1 h1
        rw [waits_nil hg10.ok, if_neg (by cases h : s2.waits j <;> simp_all)]
        refine ⟨by omega, by omega, (s2.waits j).getD ⟨#[]⟩, by simpa [add_at] using hL14.load hlt8, ?_⟩
        refine conv_bytes_string Try.underlying31 Try.underlying5 Try.underlying9 hown.slRow.1 hown.slRow.2.2 ⟨_, rfl, ⟨_, by simpa [add_at] using hL14.load hlt8, rfl⟩, ?_⟩
        rw [hrd, h2, same_self, if_neg (by simp)]
        exact ⟨in64 (by omega) (by omega), ⟨j + 1, rfl, hlt8, f13.trans f14⟩, hmu⟩
  · rw [if_neg (by simp; omega)]
    simp only [if_true]
    refine (waiting_ok' hd13 hg12.ok).ret ?_
    intro v1 h14 ⟨ho1, f14⟩
    obtain ⟨a1, c1, rfl⟩ := ho1.slice
    refine ⟨a1, _, c1, rfl, _, rfl, ?_, F12.trans (f13.trans f14)⟩
    rw [hwl]
    rfl
end Go.Proofs.Ytpekdeeagnfecaa
