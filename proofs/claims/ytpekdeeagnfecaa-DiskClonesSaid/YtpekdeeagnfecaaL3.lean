/- The chapter's example. -/
import Derived.Test.YtpekdeeagnfecaaL2
namespace Go.Proofs.Ytpekdeeagnfecaa
open Go Go.Proofs Go.Proofs.Ytpekdeeagnfecaa.V
/-! ## The chapter's example -/

theorem Impl.lt {d : Impl} {s : St} {h : Heap} (hd : d.At s h) : ∀ b ∈ d.blocks, b < h.size := by
  obtain ⟨g, hg, _⟩ := hd.firm
  intro b hb
  simp only [Impl.blocks, List.mem_cons, List.not_mem_nil, or_false] at hb
  rcases hb with rfl | rfl | rfl
  · exact lt_of_get hd.cells
  · exact hg.lt
  · exact hd.waits.lt

def ex0 : St := St.new 4
def ex1 : St := { St.new 4 with acts := 1, waits := fun y => if (0 : Int) = y then some (fullB 1) else none }
def ex2 : St := { St.new 4 with acts := 2, waits := fun y => if (3 : Int) = y then some (fullB 2) else if (0 : Int) = y then some (fullB 1) else none }
theorem ex_1 : ex0.write 0 (fullB 1) = ex1 := by
  simp [ex0, ex1, St.write, St.refused, St.new, fullB_size, St.act]
theorem ex_2 : ex1.write 3 (fullB 2) = ex2 := by
  simp [ex1, ex2, St.write, St.refused, St.new, fullB_size, St.act]
theorem ex_wl : ex2.wl = [0, 3] := by
  simp [St.wl, St.wlN, ex2, St.new, List.range_succ, List.filter_cons]
def exF : Int → ByteArray := fun y => if (0 : Int) = y then fullB 1 else zeros
def ex3 : St := { many := 4, acts := 2, fuse := -1, off := true, firm := exF, waits := fun _ => none }
theorem ex_3 : ex2.cut ex2.wl [1, 0] = ex3 := by
  rw [ex_wl]
  simp only [St.cut, ex2, ex3, St.new, cutF, exF]
  simp
  rfl
def ex4 : St := { many := 4, acts := 2, fuse := -1, off := false, firm := exF, waits := fun _ => none }
theorem ex_4 : ex3.on = ex4 := by
  have hw : ex3.wl = [] := by simp [St.wl, St.wlN, ex3]
  simp only [St.on, hw]
  rfl
def ex5 : St := { ex4 with fuse := 1 }
theorem ex_5 : ({ ex4 with fuse := mx 1 (-1) } : St) = ex5 := rfl
def ex6 : St := { ex4 with fuse := 0, acts := 3, waits := fun y => if (1 : Int) = y then some (fullB 3) else none }
theorem ex_6 : ex5.write 1 (fullB 3) = ex6 := by
  simp [ex5, ex6, ex4, St.write, St.refused, fullB_size, St.act]
def ex7 : St := { ex6 with off := true }
theorem ex_7 : ex6.flush = ex7 := by
  simp [ex6, ex7, ex4, St.flush, St.refused, St.act]
theorem ex_good : ex0.Good 0 ∧ ex1.Good 1 ∧ ex2.Good 2 ∧ ex3.Good 2 ∧ ex4.Good 2 ∧ ex5.Good 2 ∧ ex6.Good 3 := by
  have h0 : ex0.Good 0 := .new ⟨by decide, by decide⟩
  have h1 : ex1.Good 1 := ex_1 ▸ h0.write _ _
  have h2 : ex2.Good 2 := ex_2 ▸ h1.write _ _
  have h3 : ex3.Good 2 := ex_3 ▸ h2.cut _
  have h4 : ex4.Good 2 := ex_4 ▸ h3.on
  have h5 : ex5.Good 2 := ex_5 ▸ h4.setFuse (by decide)
  exact ⟨h0, h1, h2, h3, h4, h5, ex_6 ▸ h5.write _ _⟩

set_option maxRecDepth 20000 in
theorem live_ok (h : Heap) : CallsH Try.prog 8 #[] h (fun e h' => ∃ v, e = .returned v ∧ v = .bool true ∧ Frm [] h h') := by
  obtain ⟨G0, G1, G2, G3, G4, G5, G6⟩ := ex_good
  refine c8 _ _ ?_
  refine (new_ok 4 h).ret ?_
  intro v0 h1 ⟨f1, hv⟩
  rcases hv with ⟨hn, _⟩ | ⟨_, _, d, rfl, hd1, y1, y2, y3⟩
  · exact absurd ⟨by decide, by decide⟩ hn
  refine ⟨_, _, rfl, fun _ h' => h' = h1, ?_, ?_⟩
  · rw [cnd_if, cnd_if, if_neg (by simp), if_neg (by simp)]
  rintro _ h1' e1
  rw [e1]; clear e1 h1'
  have ltd := Impl.lt hd1
  have yd : ∀ b ∈ d.blocks, h.size ≤ b := by
    intro b hb
    simp only [Impl.blocks, List.mem_cons, List.not_mem_nil, or_false] at hb
    rcases hb with rfl | rfl | rfl <;> assumption
  have nild : ∀ {s' : St} {h h' : Heap}, d.At s' h → Frm [] h h' → d.At s' h' := fun hd f => hd.frm f (by simp) (by simp) (by simp)
  have off : ∀ {hb : Heap} {v : Value} {n : Nat} {xs : List Value} {base : Nat}, Own hb base 5 1 v n xs → h1.size ≤ base → ∀ ad c, v = .slice (some ad) n c → ad.block ∉ d.blocks := by
    rintro hb v n xs base ho hbs ad c rfl hm
    have := (ho.lt rfl).1
    have := ltd _ hm
    omega
  have Z0 : ∀ {h h' : Heap}, Frm [] h h' → Frm d.blocks h h' := fun f => f.mono (by simp)
  have hd1 : d.At ex0 h1 := hd1
  -- Write(0, full(1))
  refine (full_ok 1 (by decide) (by decide) h1).ret ?_
  intro v1 h2 ⟨o1, f2⟩
  obtain ⟨a1, c1, rfl⟩ := o1.slice
  refine ⟨a1, _, c1, rfl, ?_⟩
  have F2 : Frm d.blocks h1 h2 := Z0 f2
  refine (write_ok (nild hd1 f2) (G0.fits (by omega)) 0 o1.slRow.1 o1.slRow.2.2 (by rintro ad rfl; exact off o1 (Nat.le_refl _) ad _ rfl)).ret ?_
  rintro _ h3 ⟨rfl, hd3, f3⟩
  rw [ex_1] at hd3
  have F3 := F2.trans f3
  refine ⟨_, rfl, ?_⟩
  refine (full_ok 2 (by decide) (by decide) h3).ret ?_
  intro v2 h4 ⟨o2, f4⟩
  obtain ⟨a2, c2, rfl⟩ := o2.slice
  refine ⟨a2, _, c2, rfl, ?_⟩
  refine (write_ok (nild hd3 f4) (G1.fits (by omega)) 3 o2.slRow.1 o2.slRow.2.2 (by rintro ad rfl; exact off o2 F3.1 ad _ rfl)).ret ?_
  rintro _ h5 ⟨rfl, hd5, f5⟩
  rw [ex_2] at hd5
  have F5 := F3.trans ((Z0 f4).trans f5)
  refine ⟨_, rfl, ?_⟩
  refine al_intro fun h6 e6 g6 f6 s6 => ?_
  have row : SlRow h6 (some ⟨h5.size, 0, none⟩) 2 (bv ⟨#[1, 0]⟩) := by
    refine ⟨rfl, .inr ⟨_, rfl, fun j v hj => ?_⟩⟩
    rw [show bv ⟨#[1, 0]⟩ = [Value.int .u8 1, Value.int .u8 0] from by simp [bv]] at hj
    rw [add_at, cl_at g6, Nat.zero_add]
    simpa using hj
  refine (cut_ok' (nild hd5 f6) G2.ok row (by
    rintro _ ad e hm
    cases e
    have h51 : h5.size < h1.size := ltd _ hm
    have := F5.1
    omega)).ret ?_
  rintro _ h7 ⟨rfl, hd7, f7⟩
  rw [show (⟨#[1, 0]⟩ : ByteArray).data.toList = [1, 0] from rfl, ex_3] at hd7
  have F7 := F5.trans ((Z0 f6).trans f7)
  refine ⟨rfl, ?_⟩
  refine (read_ok hd7 G3.ok 0).ret ?_
  intro v3 h8 ⟨f8, hv3⟩
  rcases hv3 with ⟨_, rfl⟩ | ⟨hc, _⟩
  case inr => exact absurd hc (by decide)
  refine ⟨_, _, _, _, rfl, ?_⟩
  refine (on_ok (nild hd7 f8) G3.ok).ret ?_
  rintro _ h9 ⟨rfl, hd9, f9⟩
  rw [ex_4] at hd9
  have F9 := F7.trans ((Z0 f8).trans f9)
  refine ⟨rfl, ?_⟩
  refine (read_ok hd9 G4.ok 0).ret ?_
  intro v4 h10 ⟨f10, hv4⟩
  rcases hv4 with ⟨hc, _⟩ | ⟨_, g4, rfl, o4⟩
  case inl => exact absurd (by decide) hc
  refine ⟨_, _, _, _, rfl, ?_⟩
  refine (read_ok (nild hd9 f10) G4.ok 3).ret ?_
  intro v5 h11 ⟨f11, hv5⟩
  rcases hv5 with ⟨hc, _⟩ | ⟨_, g5, rfl, o5⟩
  case inl => exact absurd (by decide) hc
  refine ⟨_, _, _, _, rfl, ?_⟩
  refine (fuse_ok (nild (nild hd9 f10) f11) 1).ret ?_
  rintro _ h12 ⟨rfl, hd12, f12⟩
  rw [ex_5] at hd12
  have F12 := F9.trans ((Z0 f10).trans ((Z0 f11).trans f12))
  refine ⟨rfl, ?_⟩
  refine (full_ok 3 (by decide) (by decide) h12).ret ?_
  intro v6 h13 ⟨o6, f13⟩
  obtain ⟨a6, c6, rfl⟩ := o6.slice
  refine ⟨a6, _, c6, rfl, ?_⟩
  refine (write_ok (nild hd12 f13) (G5.fits (by omega)) 1 o6.slRow.1 o6.slRow.2.2 (by rintro ad rfl; exact off o6 F12.1 ad _ rfl)).ret ?_
  rintro _ h14 ⟨rfl, hd14, f14⟩
  rw [ex_6] at hd14
  have F14 := F12.trans ((Z0 f13).trans f14)
  refine ⟨_, rfl, ?_⟩
  refine (flush_ok hd14 (G6.fits (by omega))).ret ?_
  rintro _ h15 ⟨rfl, hd15, f15⟩
  rw [ex_7] at hd15
  have F15 := F14.trans f15
  refine ⟨_, rfl, ?_⟩
  have w1 : ex5.writeCode 1 (fullB 3) = 0 := by simp [ex5, ex4, St.writeCode, St.refused, fullB_size, St.actCode]
  have w2 : ex6.flushCode = 160 := by decide
  have w3 : ex3.refused 0 = 160 := by decide
  simp only [cnd_if, w1, w2, w3]
  rw [if_pos (by decide)]
  have nb : ∀ {hb : Heap} {v : Value} {n : Nat} {xs : List Value} {base : Nat}, Own hb base 5 1 v n xs → h1.size ≤ base → ∀ b, v.ownBlock = some b → b ∉ d.blocks := by
    intro hb v n xs base ho hbs b hb' hm
    have := (ho.lt hb').1
    have := ltd _ hm
    omega
  have o4' : Own h15 h9.size 5 1 _ _ _ := o4.frm ((Z0 f11).trans (f12.trans ((Z0 f13).trans (f14.trans f15)))) (nb o4 F9.1)
  have o5' : Own h15 h10.size 5 1 _ _ _ := o5.frm (f12.trans ((Z0 f13).trans (f14.trans f15))) (nb o5 (F9.trans (Z0 f10)).1)
  refine (full_ok 1 (by decide) (by decide) h15).ret ?_
  intro v7 h16 ⟨o7, f16⟩
  obtain ⟨a7, c7, rfl⟩ := o7.slice
  refine ⟨a7, _, c7, rfl, ?_⟩
  refine (same_ok (o4'.frm f16 (by simp)).slRow.1 o7.slRow.1 (o4'.slRow.2.2) o7.slRow.2.2).ret ?_
  rintro _ h6' ⟨rfl, e6'⟩
  rw [e6']; clear e6' h6'
  refine ⟨_, rfl, ?_⟩
  have r1 : ex4.read 0 = fullB 1 := rfl
  rw [r1, same_self, if_pos rfl]
  refine (full_ok 0 (by decide) (by decide) h16).ret ?_
  intro v8 h17 ⟨o8, f17⟩
  obtain ⟨a8, c8, rfl⟩ := o8.slice
  refine ⟨a8, _, c8, rfl, ?_⟩
  refine (same_ok ((o5'.frm f16 (by simp)).frm f17 (by simp)).slRow.1 o8.slRow.1 (o5'.slRow.2.2) o8.slRow.2.2).ret ?_
  rintro _ h6' ⟨rfl, e6'⟩
  rw [e6']; clear e6' h6'
  refine ⟨_, rfl, ?_⟩
  have r2 : ex4.read 3 = fullB 0 := rfl
  rw [r2, same_self, if_pos rfl, if_pos (by decide), if_pos (by decide)]
  have hd17 := nild (nild hd15 f16) f17
  have F17 := F15.trans ((Z0 f16).trans (Z0 f17))
  refine (isOn_ok hd17).ret ?_
  rintro _ h6' ⟨rfl, e6'⟩
  rw [e6']; clear e6' h6'
  refine ⟨_, rfl, ?_⟩
  rw [if_pos (by decide)]
  refine (sectors_ok hd17).ret ?_
  rintro _ h6' ⟨rfl, e6'⟩
  rw [e6']; clear e6' h6'
  refine ⟨_, rfl, ?_⟩
  rw [if_pos (by decide)]
  refine (acts_ok hd17).ret ?_
  rintro _ h6' ⟨rfl, e6'⟩
  rw [e6']; clear e6' h6'
  exact ⟨_, rfl, _, rfl, rfl, f1.young F17 fun x hx => .inr (yd x hx)⟩
end Go.Proofs.Ytpekdeeagnfecaa
