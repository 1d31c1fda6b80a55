/- The reference's disk. -/
import Derived.Test.YtpekdeeagnfecaaS
import Derived.Laws.Strings
namespace Go.Proofs.Ytpekdeeagnfecaa
open Go Go.Proofs Go.Proofs.Ytpekdeeagnfecaa.V
/-! ## The reference's disk -/

structure RefD where
  p : Nat
  gf : Nat
  cf : Nat
  gw : Nat
  cw : Nat

def RefD.obj (d : RefD) (s : St) : Obj := .cells #[.slice (some ⟨d.gf, 0, none⟩) s.many.toNat d.cf, .slice (some ⟨d.gw, 0, none⟩) s.many.toNat d.cw, .bool s.off, .int .i64 s.fuse, .int .i64 s.acts] 77 (0, 0)
/-- A row of strings at a block's beginning. -/
def Strs (h : Heap) (g n : Nat) (f : Nat → ByteArray) : Prop := ∃ cur : Array Value, h[g]? = some (.cells cur 9 (0, 0)) ∧ n ≤ cur.size ∧ ∀ i, i < n → cur[i]? = some (.string (f i))
theorem Strs.frm {L : List Nat} {h h' : Heap} (f : Frm L h h') {g n : Nat} {u : Nat → ByteArray} (hs : Strs h g n u) (hn : g ∉ L) : Strs h' g n u := by
  obtain ⟨cur, h1, h2⟩ := hs
  exact ⟨cur, f.get h1 hn, h2⟩
theorem Strs.congr {h : Heap} {g n : Nat} {u v : Nat → ByteArray} (hs : Strs h g n u) (he : ∀ i, i < n → v i = u i) : Strs h g n v := by
  obtain ⟨cur, h1, h2, h3⟩ := hs
  exact ⟨cur, h1, h2, fun i hi => by rw [he i hi]; exact h3 i hi⟩
theorem Strs.load {h : Heap} {g n : Nat} {u : Nat → ByteArray} (hs : Strs h g n u) {i : Nat} (hi : i < n) : cl h ⟨g, i, none⟩ = some (.string (u i)) := by
  obtain ⟨cur, h1, h2, h3⟩ := hs
  rw [cl_at h1]; exact h3 i hi
theorem Strs.store {h : Heap} {g n : Nat} {u : Nat → ByteArray} (hs : Strs h g n u) {i : Nat} (hi : i < n) {t : ByteArray} {K : Heap → Prop}
    (hk : ∀ h', Strs h' g n (fun j => if j = i then t else u j) → Frm [g] h h' → K h') : St1 h ⟨g, i, none⟩ (.string t) K := by
  obtain ⟨cur, h1, h2, h3⟩ := hs
  refine st1_at h1 (by omega) rfl fun h' _ hg f _ => hk h' ⟨_, hg, by simpa using h2, fun j hj => ?_⟩ f
  by_cases e : j = i
  · subst e
    have : j < cur.size := by omega
    simp [this]
  · show _ = some (Value.string (if j = i then t else u j))
    rw [Array.getElem?_setIfInBounds_ne (fun h => e h.symm), if_neg e]; exact h3 j hj

/-- A reference's disk at its blocks. -/
structure RefD.At (d : RefD) (s : St) (h : Heap) : Prop where
  cells : h[d.p]? = some (d.obj s)
  firm : Strs h d.gf s.many.toNat fun i => s.firm i
  waits : Strs h d.gw s.many.toNat fun i => (s.waits i).getD ⟨#[]⟩
  ap1 : d.p ≠ d.gf
  ap2 : d.p ≠ d.gw
  ap3 : d.gf ≠ d.gw
def RefD.blocks (d : RefD) : List Nat := [d.p, d.gf, d.gw]
theorem RefD.At.frm {d : RefD} {s : St} {h h' : Heap} {L : List Nat} (hd : d.At s h) (f : Frm L h h') (h1 : d.p ∉ L) (h2 : d.gf ∉ L) (h3 : d.gw ∉ L) : d.At s h' :=
  ⟨f.get hd.cells h1, hd.firm.frm f h2, hd.waits.frm f h3, hd.ap1, hd.ap2, hd.ap3⟩
theorem RefD.At.turn {d : RefD} {s s' : St} {h h' : Heap} (hd : d.At s h) (f : Frm [d.p] h h') (hp : h'[d.p]? = some (d.obj s')) (hm : s'.many = s.many) (hw : s'.waits = s.waits) (hf : s'.firm = s.firm) : d.At s' h' := by
  have e1 : d.gf ∉ [d.p] := by simp; exact fun e => hd.ap1 e.symm
  have e2 : d.gw ∉ [d.p] := by simp; exact fun e => hd.ap2 e.symm
  exact ⟨hp, by rw [hm, hf]; exact hd.firm.frm f e1, by rw [hm, hw]; exact hd.waits.frm f e2, hd.ap1, hd.ap2, hd.ap3⟩

theorem rsectors_ok {d : RefD} {s : St} {h : Heap} (hd : d.At s h) (hm : 0 ≤ s.many) :
    CallsH Try.prog 14 #[.pointer (some ⟨d.p, 0, none⟩)] h (fun e h' => ∃ v, e = .returned v ∧ v = .int .i64 s.many ∧ h' = h) := by
  refine c14 _ _ _ ?_
  simp only [cl_at hd.cells]
  refine ⟨some ⟨d.gf, 0, none⟩, s.many.toNat, d.cf, by simp, ?_⟩
  simp [Int.toNat_of_nonneg hm]
theorem racts_ok {d : RefD} {s : St} {h : Heap} (hd : d.At s h) :
    CallsH Try.prog 43 #[.pointer (some ⟨d.p, 0, none⟩)] h (fun e h' => ∃ v, e = .returned v ∧ v = .int .i64 s.acts ∧ h' = h) := by
  refine c43 _ _ _ ?_
  simp only [add_at, cl_at hd.cells]
  exact ⟨s.acts, by simp, by simp⟩
theorem risOn_ok {d : RefD} {s : St} {h : Heap} (hd : d.At s h) :
    CallsH Try.prog 44 #[.pointer (some ⟨d.p, 0, none⟩)] h (fun e h' => ∃ v, e = .returned v ∧ v = .bool (!s.off) ∧ h' = h) := by
  refine c44 _ _ _ ?_
  simp only [add_at, cl_at hd.cells]
  exact ⟨s.off, by simp, by simp⟩
theorem rfuse_ok {d : RefD} {s : St} {h : Heap} (hd : d.At s h) (n : Int) :
    CallsH Try.prog 40 #[.pointer (some ⟨d.p, 0, none⟩), .int .i64 n] h (fun e h' => ∃ v, e = .returned v ∧ v = .tuple #[] ∧ d.At { s with fuse := mx n (-1) } h' ∧ Frm d.blocks h h') := by
  refine c40 _ _ _ _ ?_
  rw [add_at]
  refine st1_at hd.cells (by simp) rfl fun h' _ hp f _ => ?_
  exact ⟨_, rfl, rfl, hd.turn f (by simpa [RefD.obj] using hp) rfl rfl rfl, f.mono (by simp [RefD.blocks])⟩

theorem st1_mono {h : Heap} {a : Addr} {v : Value} {K K' : Heap → Prop} (hk : St1 h a v K) (hkk : ∀ h', K h' → K' h') : St1 h a v K' := by
  obtain ⟨hb, x, y, z⟩ := chk_of hk
  show chk _ _
  rw [hb]
  exact ⟨x, y, fun h' e => hkk h' (z h' e)⟩

theorem ract_ok {d : RefD} {s : St} {h : Heap} (hd : d.At s h) (hs : s.fits) :
    CallsH Try.prog 60 #[.pointer (some ⟨d.p, 0, none⟩)] h (fun e h' => ∃ v, e = .returned v ∧ v = .bool (s.fuse != 0) ∧ d.At s.act h' ∧ Frm d.blocks h h') := by
  obtain ⟨hf1, hf2, ha1, ha2⟩ := hs
  refine c60 _ _ _ ?_
  simp only [add_at, cl_at hd.cells, cnd_if]
  refine ⟨s.fuse, by simp, ?_⟩
  by_cases h0 : s.fuse = 0
  · rw [if_pos (by simpa using h0)]
    refine st1_at hd.cells (by simp) rfl fun h' _ hp f _ => ⟨_, rfl, by simp [h0], ?_, f.mono (by simp [RefD.blocks])⟩
    rw [St.act, if_pos h0]
    exact hd.turn f (by simpa [RefD.obj] using hp) rfl rfl rfl
  · rw [if_neg (by simpa using h0)]
    refine ⟨fun _ h1 => d.At { s with fuse := if 0 < s.fuse then s.fuse - 1 else s.fuse } h1 ∧ Frm d.blocks h h1, ?_, ?_⟩
    · refine ⟨s.fuse, by simp, ?_⟩
      by_cases h1 : 0 < s.fuse
      · rw [if_pos (by simpa using h1)]
        refine ⟨s.fuse, by simp, in64 (by omega) (by omega), st1_at hd.cells (by simp) rfl fun h' _ hp f _ => ⟨?_, f.mono (by simp [RefD.blocks])⟩⟩
        refine hd.turn f ?_ rfl rfl rfl
        simpa [RefD.obj, h1] using hp
      · rw [if_neg (by simpa using h1)]
        refine ⟨?_, Frm.refl _ _⟩
        rw [if_neg h1]
        exact hd
    · rintro _ h1 ⟨hd1, f1⟩
      simp only [cl_at hd1.cells]
      refine ⟨s.acts, by simp, in64 (by omega) (by omega), st1_at hd1.cells (by simp) rfl fun h' _ hp f _ => ⟨_, rfl, by simp [h0], ?_, f1.trans (f.mono (by simp [RefD.blocks]))⟩⟩
      rw [St.act, if_neg h0]
      exact hd1.turn f (by simpa [RefD.obj] using hp) rfl rfl rfl
theorem toList_nil (b : ByteArray) : (b.toList == (⟨#[]⟩ : ByteArray).toList) = decide (b.size = 0) := by
  rw [ByteArray.toList_eq, ByteArray.toList_eq, Bool.eq_iff_iff]
  simp only [beq_iff_eq, decide_eq_true_eq]
  constructor
  · intro h
    have := congrArg List.length h
    simpa using this
  · intro h
    exact List.eq_nil_of_length_eq_zero (by rw [Array.length_toList]; exact h)
theorem waits_nil {s : St} (ho : s.Ok) (k : Int) : (((s.waits k).getD ⟨#[]⟩).toList == (⟨#[]⟩ : ByteArray).toList) = (s.waits k).isNone := by
  rw [toList_nil]
  cases h : s.waits k with
  | none => rfl
  | some t =>
    have := (ho.waits k t h).2.2
    simp only [Option.getD_some, Option.isNone_some, decide_eq_false_iff_not]
    omega

theorem rwrite_ok {d : RefD} {s : St} {h : Heap} (hd : d.At s h) (hs : s.fits) (i : Int) {a : Option Addr} {l c : Nat} {b : ByteArray} (hb : SlRow h a l (bv b)) (hsp : ∀ ad, a = some ad → ad.spot = none)
    (hap : ∀ ad, a = some ad → ad.block ∉ d.blocks) :
    CallsH Try.prog 37 #[.pointer (some ⟨d.p, 0, none⟩), .int .i64 i, .slice a l c] h (fun e h' => ∃ v, e = .returned v ∧ v = .int .i64 (s.writeCode i b) ∧ d.At (s.write i b) h' ∧ Frm d.blocks h h') := by
  have hl : b.size = l := by rw [← bv_length]; exact hb.1
  refine c37 _ _ _ _ _ _ _ ?_
  simp only [add_at, cl_at hd.cells, cnd_if]
  refine ⟨s.off, by simp, ?_⟩
  by_cases hoff : s.off = true
  · rw [if_pos hoff]
    have : s.refused i = 160 := by simp [St.refused, hoff]
    exact ⟨_, rfl, by simp [St.writeCode, this], by simpa [St.write, this] using hd, Frm.refl _ _⟩
  · rw [if_neg hoff]
    have hoff' : s.off = false := by simpa using hoff
    refine ⟨fun _ h1 => h1 = h ∧ s.refused i = 0, ?_, ?_⟩
    · by_cases h1 : i < 0
      · rw [if_pos (by simpa using h1)]
        have : s.refused i = 4 := by simp [St.refused, hoff', h1]
        exact ⟨_, rfl, by simp [St.writeCode, this], by simpa [St.write, this] using hd, Frm.refl _ _⟩
      · rw [if_neg (by simpa using h1)]
        refine ⟨some ⟨d.gf, 0, none⟩, s.many.toNat, d.cf, by simp, ?_⟩
        by_cases h2 : s.many ≤ i
        · rw [if_pos (by simp; omega)]
          have : s.refused i = 4 := by simp [St.refused, hoff', h2]
          exact ⟨_, rfl, by simp [St.writeCode, this], by simpa [St.write, this] using hd, Frm.refl _ _⟩
        · rw [if_neg (by simp; omega)]
          exact ⟨rfl, by simp [St.refused, hoff', h1, h2]⟩
    · rintro _ h1 ⟨rfl, hc⟩
      obtain ⟨_, i0, i1⟩ := refused_zero hc
      by_cases h4 : l = 4096
      · rw [if_neg (by simp [h4])]
        refine (ract_ok hd hs).ret ?_
        rintro _ h1 ⟨rfl, hd1, f1⟩
        refine ⟨_, rfl, ?_⟩
        by_cases h0 : s.fuse = 0
        · rw [if_pos (by simp [h0])]
          exact ⟨_, rfl, by simp [St.writeCode, hc, hl, h4, St.actCode, h0], by simpa [St.write, hc, hl, h4, h0] using hd1, f1⟩
        · rw [if_neg (by simp [h0])]
          simp only [cl_at hd1.cells]
          have hmn : s.act.many = s.many := by unfold St.act; split <;> rfl
          have hw : s.act.waits = s.waits := by unfold St.act; split <;> rfl
          refine ⟨some ⟨d.gw, 0, none⟩, s.act.many.toNat, d.cw, by simp, ?_⟩
          refine conv_bytes_string Try.underlying31 Try.underlying5 Try.underlying9 (slrow_frm f1 hb hap) hsp ?_
          refine ⟨b, rfl, ⟨some ⟨d.gw, 0, none⟩, s.act.many.toNat, d.cw, by simp [cl_at hd1.cells], rfl⟩, ?_⟩
          refine ⟨i0, by rw [hmn]; omega, ?_⟩
          refine (show onSome _ _ from ?_)
          simp only [onSome_some', add_at, Nat.zero_add, Nat.mul_one]
          refine hd1.waits.store (by rw [hmn]; omega) ?_
          intro h2 hs2 f2
          refine ⟨_, rfl, by simp [St.writeCode, hc, hl, h4, St.actCode, h0], ?_, f1.trans (f2.mono (by simp [RefD.blocks]))⟩
          rw [show s.write i b = { s.act with waits := fun y => if i = y then some b else s.waits y } by simp [St.write, hc, hl, h4, h0]]
          refine ⟨f2.get hd1.cells (by simp; exact hd1.ap2), hd1.firm.frm f2 (by simp; exact hd1.ap3), hs2.congr ?_, hd1.ap1, hd1.ap2, hd1.ap3⟩
          intro j hj
          show ((if i = (j : Int) then some b else s.waits j).getD ⟨#[]⟩) = if j = i.toNat then b else (s.act.waits j).getD ⟨#[]⟩
          rw [hw]
          by_cases e : i = (j : Int)
          · rw [if_pos e, if_pos (by omega)]; rfl
          · rw [if_neg e, if_neg (by omega)]
      · rw [if_pos (by simp; omega)]
        exact ⟨_, rfl, by simp [St.writeCode, hc, hl, h4], by simpa [St.write, hc, hl, h4] using hd, Frm.refl _ _⟩

theorem rread_ok {d : RefD} {s : St} {h : Heap} (hd : d.At s h) (ho : s.Ok) (i : Int) :
    CallsH Try.prog 39 #[.pointer (some ⟨d.p, 0, none⟩), .int .i64 i] h (fun e h' => ∃ v, e = .returned v ∧ Frm [] h h' ∧
      ((s.refused i ≠ 0 ∧ v = .tuple #[.slice none 0 0, .int .i64 (s.refused i)]) ∨
       (s.refused i = 0 ∧ ∃ a n c, v = .tuple #[.slice a n c, .int .i64 0] ∧ SlRow h' a n (bv (s.read i)) ∧ (∀ ad, a = some ad → ad.spot = none)))) := by
  refine c39 _ _ _ _ ?_
  simp only [add_at, cl_at hd.cells, cnd_if]
  refine ⟨s.off, by simp, ?_⟩
  by_cases hoff : s.off = true
  · rw [if_pos hoff]
    have : s.refused i = 160 := by simp [St.refused, hoff]
    exact ⟨_, rfl, Frm.refl _ _, .inl ⟨by simp [this], by simp [this]⟩⟩
  · rw [if_neg hoff]
    have hoff' : s.off = false := by simpa using hoff
    refine ⟨fun _ h1 => h1 = h ∧ s.refused i = 0, ?_, ?_⟩
    · by_cases h1 : i < 0
      · rw [if_pos (by simpa using h1)]
        have : s.refused i = 4 := by simp [St.refused, hoff', h1]
        exact ⟨_, rfl, Frm.refl _ _, .inl ⟨by simp [this], by simp [this]⟩⟩
      · rw [if_neg (by simpa using h1)]
        refine ⟨some ⟨d.gf, 0, none⟩, s.many.toNat, d.cf, by simp, ?_⟩
        by_cases h2 : s.many ≤ i
        · rw [if_pos (by simp; omega)]
          have : s.refused i = 4 := by simp [St.refused, hoff', h2]
          exact ⟨_, rfl, Frm.refl _ _, .inl ⟨by simp [this], by simp [this]⟩⟩
        · rw [if_neg (by simp; omega)]
          exact ⟨rfl, by simp [St.refused, hoff', h1, h2]⟩
    · rintro _ h ⟨e1, hc⟩
      subst e1
      obtain ⟨_, i0, i1⟩ := refused_zero hc
      obtain ⟨k, rfl⟩ : ∃ k : Nat, i = (k : Int) := ⟨i.toNat, by omega⟩
      have hk : k < s.many.toNat := by omega
      simp only [cl_at hd.cells]
      have fin : ∀ (t : ByteArray), t = s.read k → RunH Try.prog (convert 9 31 (.string t)) h fun u19 h20 => ∃ (a21 : Option Addr) (l22 c23 : Nat), u19 = (.slice a21 l22 c23) ∧
          ∃ v, Ending.returned (.tuple #[(.slice a21 l22 c23), (.int .i64 (0 : Int))]) = .returned v ∧ Frm [] h h20 ∧ ((s.refused k ≠ 0 ∧ v = .tuple #[.slice none 0 0, .int .i64 (s.refused k)]) ∨
            (s.refused k = 0 ∧ ∃ a n c, v = .tuple #[.slice a n c, .int .i64 0] ∧ SlRow h20 a n (bv (s.read k)) ∧ (∀ ad, a = some ad → ad.spot = none))) := by
        rintro t rfl
        refine conv_string_bytes Try.underlying9 Try.underlying31 Try.underlying5 fun c hcc => ?_
        refine ⟨_, _, _, rfl, _, rfl, Frm.push _ _ _, .inr ⟨hc, _, _, _, rfl, ⟨bv_length _, .inr ⟨_, rfl, bytesRow_row _ _ _ _ _ _ (get_push_new _ _)⟩⟩, ?_⟩⟩
        intro ad e; cases e; rfl
      refine ⟨some ⟨d.gw, 0, none⟩, s.many.toNat, d.cw, by simp, i0, by omega, (show onSome _ _ from ?_)⟩
      simp only [onSome_some', add_at, Nat.zero_add, Nat.mul_one, Int.toNat_natCast]
      refine ⟨_, hd.waits.load hk, ?_⟩
      rw [waits_nil ho]
      by_cases hw : s.waits k = none
      · rw [if_neg (by simp [hw])]
        refine ⟨some ⟨d.gf, 0, none⟩, s.many.toNat, d.cf, by simp, i0, by omega, (show onSome _ _ from ?_)⟩
        simp only [onSome_some', add_at, Nat.zero_add]
        exact ⟨_, hd.firm.load hk, fin _ (by simp [St.read, hw])⟩
      · rw [if_pos (by cases h : s.waits k <;> simp_all)]
        refine ⟨some ⟨d.gw, 0, none⟩, s.many.toNat, d.cw, by simp, i0, by omega, (show onSome _ _ from ?_)⟩
        simp only [onSome_some', add_at, Nat.zero_add]
        refine ⟨_, hd.waits.load hk, fin _ ?_⟩
        cases h : s.waits k with
        | none => exact absurd h hw
        | some t => simp [St.read, h]

theorem rflush_ok {d : RefD} {s : St} {h : Heap} (hd : d.At s h) (hs : s.fits) (ho : s.Ok) :
    CallsH Try.prog 38 #[.pointer (some ⟨d.p, 0, none⟩)] h (fun e h' => ∃ v, e = .returned v ∧ v = .int .i64 s.flushCode ∧ d.At s.flush h' ∧ Frm d.blocks h h') := by
  refine c38 _ _ _ ?_
  have h00 : s.refused 0 = if s.off then 160 else 0 := by
    have := ho.many
    unfold St.refused
    split
    · rfl
    · rw [if_neg (by omega)]
  refine ⟨fun _ h1 => d.At s.act h1 ∧ Frm d.blocks h h1 ∧ s.refused 0 = 0 ∧ s.fuse ≠ 0, ?_, ?_⟩
  · simp only [add_at, cl_at hd.cells, cnd_if]
    refine ⟨s.off, by simp, ?_⟩
    by_cases hoff : s.off = true
    · rw [if_pos hoff]
      have : s.refused 0 = 160 := by rw [h00, if_pos hoff]
      exact ⟨_, rfl, by simp [St.flushCode, this], by simpa [St.flush, this] using hd, Frm.refl _ _⟩
    · rw [if_neg hoff]
      have hc : s.refused 0 = 0 := by rw [h00, if_neg hoff]
      refine (ract_ok hd hs).ret ?_
      rintro _ h1 ⟨rfl, hd1, f1⟩
      refine ⟨_, rfl, ?_⟩
      by_cases h0 : s.fuse = 0
      · rw [if_pos (by simp [h0])]
        exact ⟨_, rfl, by simp [St.flushCode, hc, St.actCode, h0], by simpa [St.flush, hc, h0] using hd1, f1⟩
      · rw [if_neg (by simp [h0])]
        exact ⟨hd1, f1, hc, h0⟩
  · rintro _ h1 ⟨hd1, f1, hc, h0⟩
    have hmn : s.act.many = s.many := by unfold St.act; split <;> rfl
    have hwt : s.act.waits = s.waits := by unfold St.act; split <;> rfl
    have hfm : s.act.firm = s.firm := by unfold St.act; split <;> rfl
    have hmm := ho.many
    simp only [add_at, cl_at hd1.cells]
    refine ⟨some ⟨d.gw, 0, none⟩, s.many.toNat, d.cw, by simp [hmn], ?_⟩
    refine ⟨fun vs h2 => ∃ n : Nat, vs = [.int .i64 (n : Int)] ∧ n ≤ s.many.toNat ∧ Frm d.blocks h h2 ∧
        d.At { s.act with firm := fun i => if i < (n : Int) then s.read i else s.firm i, waits := fun i => if i < (n : Int) then none else s.waits i } h2,
      fun vs _ => match vs with | [.int _ n] => s.many.toNat - n.toNat | _ => 0, ?_, ?_⟩
    · refine ⟨0, rfl, Nat.zero_le _, f1, ⟨hd1.cells, hd1.firm.congr fun i _ => ?_, hd1.waits.congr fun i _ => ?_, hd1.ap1, hd1.ap2, hd1.ap3⟩⟩
      · show (if (i : Int) < ((0 : Nat) : Int) then s.read i else s.firm i) = s.act.firm i
        rw [if_neg (by omega), hfm]
      · show ((if (i : Int) < ((0 : Nat) : Int) then none else s.waits i).getD ⟨#[]⟩) = (s.act.waits i).getD ⟨#[]⟩
        rw [if_neg (by omega), hwt]
    · rintro n' _ h2 ⟨n, e, hn, f2, hd2⟩
      simp only [List.cons.injEq, Value.int.injEq, true_and, and_true] at e
      subst e
      rw [cnd_if]
      by_cases hlt : n < s.many.toNat
      · rw [if_pos (by simp; omega)]
        refine ⟨by omega, by omega, (show onSome _ _ from ?_)⟩
        simp only [onSome_some', add_at, Int.toNat_natCast, Nat.mul_one, Nat.zero_add]
        have hl := hd2.waits.load (i := n) (by show n < s.act.many.toNat; rw [hmn]; exact hlt)
        simp only [show ¬ ((n : Int) < (n : Int)) by omega, if_false] at hl
        refine ⟨_, hl, ?_⟩
        rw [waits_nil ho, cnd_if]
        have hn63 : In64 ((n : Int) + 1) := in64 (by omega) (by omega)
        have hmu : s.many.toNat - ((n : Int) + 1).toNat < s.many.toNat - ((n : Int)).toNat := by omega
        by_cases hw : s.waits n = none
        · rw [if_neg (by simp [hw])]
          refine ⟨hn63, ⟨n + 1, rfl, hlt, f2, hd2.cells, hd2.firm.congr fun i _ => ?_, hd2.waits.congr fun i _ => ?_, hd2.ap1, hd2.ap2, hd2.ap3⟩, hmu⟩
          · show (if (i : Int) < ((n + 1 : Nat) : Int) then s.read i else s.firm i) = if (i : Int) < (n : Int) then s.read i else s.firm i
            by_cases e : i = n
            · subst e; rw [if_pos (by omega), if_neg (by omega)]; simp [St.read, hw]
            · by_cases e2 : i < n
              · rw [if_pos (by omega), if_pos (by omega)]
              · rw [if_neg (by omega), if_neg (by omega)]
          · show ((if (i : Int) < ((n + 1 : Nat) : Int) then none else s.waits i).getD ⟨#[]⟩) = (if (i : Int) < (n : Int) then none else s.waits i).getD ⟨#[]⟩
            by_cases e : i = n
            · subst e; rw [if_pos (by omega), if_neg (by omega), hw]
            · by_cases e2 : i < n
              · rw [if_pos (by omega), if_pos (by omega)]
              · rw [if_neg (by omega), if_neg (by omega)]
        · rw [if_pos (by cases h : s.waits n <;> simp_all)]
          simp only [cl_at hd2.cells]
          refine ⟨some ⟨d.gf, 0, none⟩, s.act.many.toNat, d.cf, by simp, by omega, by rw [hmn]; omega, (show onSome _ _ from ?_)⟩
          simp only [onSome_some', add_at, Int.toNat_natCast, Nat.mul_one, Nat.zero_add]
          refine hd2.firm.store (by show n < s.act.many.toNat; rw [hmn]; exact hlt) ?_
          intro h3 hf3 f3
          have hc3 := f3.get hd2.cells (by simp; exact hd2.ap1)
          have hw3 := hd2.waits.frm f3 (by simp; exact fun e => hd2.ap3 e.symm)
          simp only [cl_at hc3]
          refine ⟨some ⟨d.gw, 0, none⟩, s.act.many.toNat, d.cw, by simp, by omega, by rw [hmn]; omega, (show onSome _ _ from ?_)⟩
          simp only [onSome_some', add_at, Int.toNat_natCast, Nat.mul_one, Nat.zero_add]
          refine hw3.store (by show n < s.act.many.toNat; rw [hmn]; exact hlt) ?_
          intro h4 hw4 f4
          refine ⟨hn63, ⟨n + 1, rfl, hlt, f2.trans ((f3.mono (by simp [RefD.blocks])).trans (f4.mono (by simp [RefD.blocks]))), f4.get hc3 (by simp; exact hd2.ap2), (hf3.frm f4 (by simp; exact hd2.ap3)).congr fun i _ => ?_, hw4.congr fun i _ => ?_, hd2.ap1, hd2.ap2, hd2.ap3⟩, hmu⟩
          · show (if (i : Int) < ((n + 1 : Nat) : Int) then s.read i else s.firm i) = if i = n then _ else if (i : Int) < (n : Int) then s.read i else s.firm i
            by_cases e : i = n
            · subst e; rw [if_pos (by omega), if_pos rfl]
              cases h : s.waits i with
              | none => exact absurd h hw
              | some t => simp [St.read, h]
            · rw [if_neg e]
              by_cases e2 : i < n
              · rw [if_pos (by omega), if_pos (by omega)]
              · rw [if_neg (by omega), if_neg (by omega)]
          · show ((if (i : Int) < ((n + 1 : Nat) : Int) then none else s.waits i).getD ⟨#[]⟩) = if i = n then ⟨#[]⟩ else (if (i : Int) < (n : Int) then none else s.waits i).getD ⟨#[]⟩
            by_cases e : i = n
            · subst e; rw [if_pos (by omega), if_pos rfl]; rfl
            · rw [if_neg e]
              by_cases e2 : i < n
              · rw [if_pos (by omega), if_pos (by omega)]
              · rw [if_neg (by omega), if_neg (by omega)]
      · rw [if_neg (by simp; omega)]
        refine ⟨_, rfl, by simp [St.flushCode, hc, St.actCode, h0], ?_, f2⟩
        rw [show s.flush = { s.act with firm := s.read, waits := fun _ => none } by simp [St.flush, hc, h0]]
        refine ⟨hd2.cells, hd2.firm.congr fun i hi => ?_, hd2.waits.congr fun i hi => ?_, hd2.ap1, hd2.ap2, hd2.ap3⟩
        · show s.read i = if (i : Int) < (n : Int) then s.read i else s.firm i
          have : i < s.act.many.toNat := hi
          rw [hmn] at this
          rw [if_pos (by omega)]
        · show ((none : Option ByteArray).getD ⟨#[]⟩) = (if (i : Int) < (n : Int) then none else s.waits i).getD ⟨#[]⟩
          have : i < s.act.many.toNat := hi
          rw [hmn] at this
          rw [if_pos (by omega)]
theorem wlN_wl (s : St) : s.wlN s.many.toNat = s.wl := rfl

theorem int_info : (Try.prog.info? 3).map (fun i => (i.zero, i.size, i.bytes)) = some (some (.int .i64 0), 1, 8) := by kernel_rfl
theorem str_info : (Try.prog.info? 9).map (fun i => (i.zero, i.size, i.bytes)) = some (some (.string ⟨#[]⟩), 1, 16) := by kernel_rfl

theorem rwaiting_ok {d : RefD} {s : St} {h : Heap} (hd : d.At s h) (ho : s.Ok) :
    CallsH Try.prog 42 #[.pointer (some ⟨d.p, 0, none⟩)] h (fun e h' => ∃ v, e = .returned v ∧ Own h' h.size 3 1 v s.wl.length (s.wl.map KI) ∧ Frm [] h h') := by
  have hmm := ho.many
  refine c42 _ _ _ ?_
  simp only [add_at, cl_at hd.cells]
  refine ⟨some ⟨d.gw, 0, none⟩, s.many.toNat, d.cw, by simp, ?_⟩
  refine ⟨fun vs h1 => ∃ (n : Nat) (v : Value), vs = [v, .int .i64 (n : Int)] ∧ n ≤ s.many.toNat ∧ Own h1 h.size 3 1 v (s.wlN n).length ((s.wlN n).map KI) ∧ Frm [] h h1,
    fun vs _ => match vs with | [_, .int _ n] => s.many.toNat - n.toNat | _ => 0, ?_, ?_⟩
  · exact ⟨0, _, rfl, Nat.zero_le _, Own.nil _ _ _ _, Frm.refl _ _⟩
  · rintro a l c n' _ h1 ⟨n, v, e, hn, ho1, f1⟩
    simp only [List.cons.injEq, Value.int.injEq, true_and, and_true] at e
    obtain ⟨rfl, rfl⟩ := e
    rw [cnd_if]
    by_cases hlt : n < s.many.toNat
    · rw [if_pos (by simp; omega)]
      refine ⟨by omega, by omega, (show onSome _ _ from ?_)⟩
      simp only [onSome_some', add_at, Int.toNat_natCast, Nat.mul_one, Nat.zero_add]
      refine ⟨_, (hd.frm f1 (by simp) (by simp) (by simp)).waits.load hlt, ?_⟩
      rw [waits_nil ho, cnd_if]
      have hn63 : In64 ((n : Int) + 1) := in64 (by omega) (by omega)
      have hmu : s.many.toNat - ((n : Int) + 1).toNat < s.many.toNat - ((n : Int)).toNat := by omega
      have hl1 := s.wl_length n
      by_cases hw : (s.waits n).isSome = true
      · rw [if_pos (by cases h : s.waits n <;> simp_all)]
        obtain ⟨_, _, hsl⟩ := ho1.slice
        simp only [Value.slice.injEq] at hsl
        refine append_elem (t := 44) (us := [.int .i64 (n : Int)]) Try.underlying44 int_info rfl (by omega) ho1 rfl (by simp [Value.oneCell']) (by omega) (by simp only [maxLen]; omega) f1.1 ?_
        intro v' h2 ho2 f2 hb2
        obtain ⟨a', c', rfl⟩ := ho2.slice
        refine ⟨a', _, c', rfl, hn63, ⟨n + 1, _, rfl, hlt, ?_, f1.young f2 ?_⟩, hmu⟩
        · rw [St.wlN_succ, if_pos hw, List.length_append, List.map_append]; exact ho2
        · intro x hx
          simp only [blockOf, Option.mem_toList] at hx
          exact .inr (ho1.lt hx).1
      · rw [if_neg (by cases h : s.waits n <;> simp_all)]
        refine ⟨hn63, ⟨n + 1, _, rfl, hlt, ?_, f1⟩, hmu⟩
        rw [St.wlN_succ, if_neg hw, List.append_nil]; exact ho1
    · rw [if_neg (by simp; omega)]
      obtain rfl : n = s.many.toNat := by omega
      exact ⟨_, rfl, ho1, f1⟩

theorem rcut_ok {d : RefD} {s : St} {h : Heap} (hd : d.At s h) (ho : s.Ok) {a : Option Addr} {l c : Nat} {mask : ByteArray} (hb : SlRow h a l (bv mask)) (hap : 0 < l → ∀ ad, a = some ad → ad.block ∉ d.blocks) :
    CallsH Try.prog 41 #[.pointer (some ⟨d.p, 0, none⟩), .slice a l c] h (fun e h' => ∃ v, e = .returned v ∧ v = .tuple #[] ∧ d.At (s.cut s.wl mask.data.toList) h' ∧ Frm d.blocks h h') := by
  have hmm := ho.many
  have hlm : mask.size = l := by rw [← bv_length]; exact hb.1
  refine c41 _ _ _ _ _ _ ?_
  refine (rwaiting_ok hd ho).ret ?_
  rintro v h1 ⟨how, f1⟩
  obtain ⟨wa, wc, rfl⟩ := how.slice
  refine ⟨wa, s.wl.length, wc, rfl, ?_⟩
  have hd1 := hd.frm f1 (by simp) (by simp) (by simp)
  have hpl := lt_of_get hd.cells
  obtain ⟨_, hgf, _⟩ := hd.firm
  obtain ⟨_, hgw, _⟩ := hd.waits
  have hlf := lt_of_get hgf
  have hlw := lt_of_get hgw
  have young : ∀ b, Value.ownBlock (.slice wa s.wl.length wc) = some b → b ∉ d.blocks := by
    intro b hbb hm
    have := (how.lt hbb).1
    simp only [RefD.blocks, List.mem_cons, List.not_mem_nil, or_false] at hm
    omega
  let W : Nat → Int → Option ByteArray := fun n k => if k ∈ s.wl.take n then none else s.waits k
  have W0 : ∀ k, W 0 k = s.waits k := fun k => by simp [W]
  refine ⟨fun vs h2 => ∃ n : Nat, vs = [.int .i64 (n : Int)] ∧ n ≤ s.wl.length ∧ ∃ f, d.At { s with firm := f, waits := W n } h2 ∧ Frm d.blocks h1 h2 ∧ cutF s.waits (s.wl.drop n) (mask.data.toList.drop n) f = cutF s.waits s.wl mask.data.toList s.firm,
    fun vs _ => match vs with | [.int _ n] => s.wl.length - n.toNat | _ => 0, ?_, ?_⟩
  · exact ⟨0, rfl, Nat.zero_le _, s.firm, ⟨hd1.cells, hd1.firm, hd1.waits.congr fun i _ => by show (W 0 i).getD _ = _; rw [W0], hd1.ap1, hd1.ap2, hd1.ap3⟩, Frm.refl _ _, by simp⟩
  · rintro n' _ h2 ⟨n, e, hn, f, hd2, f2, hcut⟩
    simp only [List.cons.injEq, Value.int.injEq, true_and, and_true] at e
    subst e
    rw [cnd_if]
    by_cases hlt : n < s.wl.length
    · rw [if_pos (by simpa using hlt)]
      refine ⟨by omega, by omega, ?_⟩
      have how2 := how.frm f2 young
      obtain ⟨g, rfl, hbg, v, hv, hcl⟩ := own_row how2 hlt
      obtain ⟨i, hi, rfl⟩ : ∃ i, s.wl[n]? = some i ∧ v = KI i := by
        rw [List.getElem?_map] at hv
        cases hw : s.wl[n]? with
        | none => rw [hw] at hv; cases hv
        | some i => rw [hw] at hv; exact ⟨i, rfl, by simpa using hv.symm⟩
      refine (show onSome _ _ from ?_)
      simp only [onSome_some', add_at, Int.toNat_natCast, Nat.mul_one, Nat.zero_add]
      refine ⟨i, hcl, ?_⟩
      have hin : 0 ≤ i ∧ i < s.many := ho.inside.2 i ((ho.waiting.2 i).1 (List.mem_of_getElem? hi))
      have hll := s.wl_length s.many.toNat
      rw [wlN_wl] at hll
      have hn63 : In64 ((n : Int) + 1) := in64 (by omega) (by omega)
      obtain ⟨k, rfl⟩ : ∃ k : Nat, i = (k : Int) := ⟨i.toNat, by omega⟩
      have hnot : (k : Int) ∉ s.wl.take n := by
        intro hm
        obtain ⟨j, hj, e⟩ := List.getElem_of_mem hm
        have hj' : j < n := by rw [List.length_take] at hj; omega
        obtain ⟨hn1, e2⟩ := List.getElem?_eq_some_iff.1 hi
        have := List.pairwise_iff_getElem.1 (s.asc_wlN s.many.toNat) j n (by rw [wlN_wl]; omega) hn1 hj'
        rw [List.getElem_take] at e
        simp only [wlN_wl] at this
        omega
      have hwk : W n k = s.waits k := if_neg hnot
      have Wn : ∀ y, W (n + 1) y = if y = (k : Int) then none else W n y := by
        intro y
        show (if y ∈ s.wl.take (n + 1) then none else s.waits y) = if y = (k : Int) then none else if y ∈ s.wl.take n then none else s.waits y
        rw [List.take_add_one, hi]
        simp only [Option.toList, List.mem_append, List.mem_singleton]
        by_cases e1 : y = (k : Int) <;> by_cases e2 : y ∈ s.wl.take n <;> simp [e1, e2]
      refine ⟨fun vs h3 => h3 = h2 ∧ vs = [.bool (match mask.data.toList[n]? with | some m => decide (m.toNat % 2 = 1) | none => false)], ?_, ?_⟩
      · rw [cnd_if]
        by_cases hm : n < l
        · rw [if_pos (by simpa using hm)]
          refine ⟨by omega, by omega, ?_⟩
          obtain ⟨m, hm1, hm2⟩ := bv_at (s := mask) (i := n) (by omega)
          rcases hb.2 with h0 | ⟨ad, rfl, hrow⟩
          · omega
          · refine ⟨(m.toNat : Int), ?_, by decide, rfl, ?_⟩
            · have := hrow n _ hm2
              exact f2.cl (f1.cl this (by simp)) (by rw [add_block]; exact hap (by omega) ad rfl)
            · rw [hm1]; simp only [odd_rem]
        · rw [if_neg (by simpa using hm)]
          refine ⟨rfl, ?_⟩
          rw [List.getElem?_eq_none (by rw [Array.length_toList]; show mask.size ≤ n; omega)]
      · rintro b _ h3 ⟨e0, e⟩
        rw [e0]; clear e0 h3
        simp only [List.cons.injEq, Value.bool.injEq, and_true] at e
        rw [cutF_step _ hi] at hcut
        rw [cnd_if]
        have hmu : s.wl.length - ((n : Int) + 1).toNat < s.wl.length - ((n : Int)).toNat := by omega
        have fin : ∀ (f' : Int → ByteArray) (h4 : Heap), d.At { s with firm := f', waits := W n } h4 → Frm d.blocks h2 h4 →
            cutF s.waits (s.wl.drop (n + 1)) (mask.data.toList.drop (n + 1)) f' = cutF s.waits s.wl mask.data.toList s.firm →
            St1 h4 ⟨d.gw, k, none⟩ (.string ⟨#[]⟩) fun h5 => In64 ((n : Int) + 1) ∧ (∃ j : Nat, [Value.int .i64 ((n : Int) + 1)] = [.int .i64 (j : Int)] ∧ j ≤ s.wl.length ∧ ∃ f, d.At { s with firm := f, waits := W j } h5 ∧ Frm d.blocks h1 h5 ∧ cutF s.waits (s.wl.drop j) (mask.data.toList.drop j) f = cutF s.waits s.wl mask.data.toList s.firm) ∧
              s.wl.length - ((n : Int) + 1).toNat < s.wl.length - ((n : Int)).toNat := by
          intro f' h4 hd4 f4 hc4
          refine hd4.waits.store (by show k < s.many.toNat; omega) fun h5 hw5 f5 => ⟨hn63, ⟨n + 1, rfl, hlt, f', ⟨f5.get hd4.cells (by simp; exact hd4.ap2), hd4.firm.frm f5 (by simp; exact hd4.ap3), hw5.congr fun j _ => ?_, hd4.ap1, hd4.ap2, hd4.ap3⟩, f2.trans (f4.trans (f5.mono (by simp [RefD.blocks]))), hc4⟩, hmu⟩
          show (W (n + 1) j).getD ⟨#[]⟩ = if j = k then ⟨#[]⟩ else (W n j).getD ⟨#[]⟩
          rw [Wn]
          by_cases e : j = k
          · subst e; simp
          · rw [if_neg (by omega), if_neg e]
        by_cases hbt : b = true
        · rw [if_pos hbt]
          obtain ⟨m, hm, hodd⟩ : ∃ m, mask.data.toList[n]? = some m ∧ m.toNat % 2 = 1 := by
            cases hm : mask.data.toList[n]? with
            | none => rw [hm, hbt] at e; cases e
            | some m => rw [hm, hbt] at e; exact ⟨m, rfl, by simpa using e.symm⟩
          simp only [hm, if_pos hodd] at hcut
          simp only [cl_at hd2.cells]
          refine ⟨some ⟨d.gf, 0, none⟩, s.many.toNat, d.cf, by simp, some ⟨d.gw, 0, none⟩, s.many.toNat, d.cw, by simp, by omega, by omega, (show onSome _ _ from ?_)⟩
          simp only [onSome_some', add_at, Int.toNat_natCast, Nat.zero_add, Nat.mul_one]
          refine ⟨_, hd2.waits.load (by show k < s.many.toNat; omega), by omega, by omega, ?_⟩
          refine hd2.firm.store (by show k < s.many.toNat; omega) ?_
          intro h3 hf3 f3
          have hc3 := f3.get hd2.cells (by simp; exact hd2.ap1)
          simp only [cl_at hc3]
          refine ⟨some ⟨d.gw, 0, none⟩, s.many.toNat, d.cw, by simp, by omega, by omega, (show onSome _ _ from ?_)⟩
          simp only [onSome_some', add_at, Int.toNat_natCast, Nat.zero_add, Nat.mul_one]
          refine fin (fun y => if (k : Int) = y then (s.waits k).getD ⟨#[]⟩ else f y) h3 ⟨hc3, hf3.congr fun j _ => ?_, hd2.waits.frm f3 (by simp; exact fun e => hd2.ap3 e.symm), hd2.ap1, hd2.ap2, hd2.ap3⟩ (f3.mono (by simp [RefD.blocks])) hcut
          show (if (k : Int) = j then (s.waits k).getD ⟨#[]⟩ else f j) = if j = k then (W n k).getD ⟨#[]⟩ else f j
          rw [hwk]
          by_cases e : j = k
          · rw [if_pos (by omega), if_pos e]
          · rw [if_neg (by omega), if_neg e]
        · rw [if_neg hbt]
          simp only [cl_at hd2.cells]
          refine ⟨some ⟨d.gw, 0, none⟩, s.many.toNat, d.cw, by simp, by omega, by omega, (show onSome _ _ from ?_)⟩
          simp only [onSome_some', add_at, Int.toNat_natCast, Nat.zero_add, Nat.mul_one]
          refine fin f h2 hd2 (Frm.refl _ _) ?_
          rw [← hcut]
          cases hm : mask.data.toList[n]? with
          | none => rfl
          | some m =>
            rw [hm] at e
            have : ¬ m.toNat % 2 = 1 := fun h => hbt (by rw [e]; simpa using h)
            simp only [if_neg this]
    · rw [if_neg (by simpa using hlt)]
      have hwn : s.wl.length ≤ n := by omega
      rw [cutF_end _ hwn] at hcut
      simp only [add_at]
      refine st1_at hd2.cells (by simp) rfl fun h4 e4 hc4 f4 s4 => ?_
      refine st1_at hc4 (by simp) rfl fun h5 e5 hc5 f5 s5 => ?_
      have ff := f4.trans f5
      refine ⟨_, rfl, rfl, ⟨by simpa [RefD.obj, St.cut] using hc5, ?_, ?_, hd2.ap1, hd2.ap2, hd2.ap3⟩, (f1.mono (by simp)).trans (f2.trans (ff.mono (by simp [RefD.blocks])))⟩
      · refine (hd2.firm.frm ff (by simp; exact fun e => hd2.ap1 e.symm)).congr fun i _ => ?_
        show cutF s.waits s.wl mask.data.toList s.firm i = f i
        rw [← hcut]
      · refine (hd2.waits.frm ff (by simp; exact fun e => hd2.ap2 e.symm)).congr fun i hi => ?_
        show (none : Option ByteArray).getD ⟨#[]⟩ = (W n i).getD ⟨#[]⟩
        have : W n i = none := by
          show (if (i : Int) ∈ s.wl.take n then none else s.waits i) = none
          rw [List.take_of_length_le hwn]
          split
          · rfl
          · rename_i hni
            cases hw : s.waits i with
            | none => rfl
            | some t => exact absurd ((ho.waiting.2 i).2 (by rw [hw]; simp)) hni
        rw [this]

theorem slRow_nil (h : Heap) (c : Nat) : SlRow h none 0 (bv ⟨#[]⟩) := ⟨rfl, .inl rfl⟩

theorem ron_ok {d : RefD} {s : St} {h : Heap} (hd : d.At s h) (ho : s.Ok) :
    CallsH Try.prog 13 #[.pointer (some ⟨d.p, 0, none⟩)] h (fun e h' => ∃ v, e = .returned v ∧ v = .tuple #[] ∧ d.At s.on h' ∧ Frm d.blocks h h') := by
  refine c13 _ _ _ ?_
  simp only [add_at, cl_at hd.cells, cnd_if]
  refine ⟨s.off, by simp, ?_⟩
  by_cases hoff : s.off = true
  · rw [if_pos hoff]
    refine (rcut_ok hd ho (slRow_nil h 0) (by intro _ ad e; cases e)).ret ?_
    rintro _ h1 ⟨rfl, hd1, f1⟩
    refine ⟨rfl, ?_⟩
    refine st1_at hd1.cells (by simp) rfl fun h2 _ hc2 f2 _ => ⟨_, rfl, rfl, ?_, f1.trans (f2.mono (by simp [RefD.blocks]))⟩
    rw [St.on, if_pos hoff]
    exact hd1.turn f2 (by simpa [RefD.obj] using hc2) rfl rfl rfl
  · rw [if_neg hoff]
    exact ⟨_, rfl, rfl, by rw [St.on, if_neg hoff]; exact hd, Frm.refl _ _⟩
theorem zrow {h : Heap} {k : Nat} (hb : h[k]? = some (.cells (madeCells #[.int .u8 0] 4096) 5 (0, 0))) : SlRow h (some ⟨k, 0, none⟩) 4096 (bv zeros) := by
  refine ⟨by rw [bv_length, zeros_size], .inr ⟨_, rfl, fun j v hj => ?_⟩⟩
  rw [add_at, cl_at hb, Nat.zero_add]
  rw [← made_zeros] at hj
  simpa using hj

theorem rnew_ok (n : Int) (h : Heap) :
    CallsH Try.prog 10 #[.int .i64 n] h (fun e h' => ∃ v, e = .returned v ∧ Frm [] h h' ∧
      ((¬ (1 ≤ n ∧ n ≤ 2048) ∧ v = .tuple #[.pointer none, .int .i64 1]) ∨
       (1 ≤ n ∧ n ≤ 2048 ∧ ∃ d : RefD, v = .tuple #[.pointer (some ⟨d.p, 0, none⟩), .int .i64 0] ∧ d.At (St.new n) h' ∧ h.size ≤ d.p ∧ h.size ≤ d.gf ∧ h.size ≤ d.gw))) := by
  refine c10 _ _ _ ?_
  refine ⟨fun _ h1 => h1 = h ∧ 1 ≤ n ∧ n ≤ 2048, ?_, ?_⟩
  · simp only [cnd_if]
    by_cases h1 : n < 1
    · rw [if_pos (by simpa using h1)]
      exact ⟨_, rfl, Frm.refl _ _, .inl ⟨by omega, rfl⟩⟩
    · rw [if_neg (by simpa using h1)]
      by_cases h2 : n > 2048
      · rw [if_pos (by simpa using h2)]
        exact ⟨_, rfl, Frm.refl _ _, .inl ⟨by omega, rfl⟩⟩
      · rw [if_neg (by simpa using h2)]
        exact ⟨trivial, by omega, by omega⟩
  · rintro _ h1 ⟨e1, hn1, hn2⟩
    rw [e1]; clear e1 h1
    refine al_intro fun ha ea ga fa sa => ?_
    refine ⟨by decide, by decide, by decide, al_intro fun hb eb gb fb sb => ?_⟩
    refine conv_bytes_string Try.underlying31 Try.underlying5 Try.underlying9 (zrow gb) (fun ad e => by cases e; rfl) ?_
    refine ⟨zeros, rfl, ?_⟩
    refine ⟨fun vs h2 => ∃ (k : Nat) (vF vW : Value), vs = [.int .i64 (k : Int)] ∧ (k : Int) ≤ n ∧ h2[h.size]? = some (.cells #[vF, vW, .bool false, .int .i64 (-1), .int .i64 0] 77 (0, 0)) ∧
        Own h2 (h.size + 1) 9 1 vF k (List.replicate k (.string zeros)) ∧ Own h2 (h.size + 1) 9 1 vW k (List.replicate k (.string ⟨#[]⟩)) ∧ (∀ b, vF.ownBlock = some b → vW.ownBlock ≠ some b) ∧ Frm [] h h2,
      fun vs _ => match vs with | [.int _ k] => n.toNat - k.toNat | _ => 0, ?_, ?_⟩
    · exact ⟨0, _, _, rfl, by omega, fb.get ga (by simp), Own.nil _ _ _ _, Own.nil _ _ _ _, (by intro b hb; simp [Value.ownBlock] at hb), fa.trans fb⟩
    · rintro k' _ h2 ⟨k, vF, vW, e, hk, hc, hF, hW, hne, f2⟩
      simp only [List.cons.injEq, Value.int.injEq, true_and, and_true] at e
      subst e
      rw [cnd_if]
      by_cases hlt : (k : Int) < n
      · rw [if_pos (by simpa using hlt)]
        obtain ⟨aF, cF, rfl⟩ := hF.slice
        simp only [cl_at hc]
        refine ⟨aF, k, cF, by simp, ?_⟩
        have hs2 : h.size + 1 ≤ h2.size := lt_of_get hc
        refine append_elem (t := 62) (us := [.string zeros]) Try.underlying62 str_info rfl (by omega) hF rfl (by simp [Value.oneCell']) (by omega) (by simp only [maxLen]; omega) hs2 ?_
        intro vF' h3 hF3 f3 hb3
        obtain ⟨aF', cF', rfl⟩ := hF3.slice
        refine ⟨aF', _, cF', rfl, ?_⟩
        have kF : ∀ b, (Value.slice aF k cF).ownBlock = some b → b ≠ h.size := fun b hb => by have := (hF.lt hb).1; omega
        have kW : ∀ b, vW.ownBlock = some b → b ≠ h.size := fun b hb => by have := (hW.lt hb).1; omega
        have kF3 : ∀ b, (Value.slice aF' (k + 1) cF').ownBlock = some b → b ≠ h.size := fun b hb => by have := (hF3.lt hb).1; omega
        have hc3 := f3.get hc (by simp only [blockOf, Option.mem_toList]; exact fun e => kF _ e rfl)
        refine st1_at hc3 (by simp) rfl fun h4 e4 hc4 f4 s4 => ?_
        simp only [add_at, cl_at hc4]
        have hW4 : Own h4 (h.size + 1) 9 1 vW k (List.replicate k (.string ⟨#[]⟩)) :=
          (hW.frm f3 (fun b hb => by simp only [blockOf, Option.mem_toList]; exact fun e => hne b e hb)).frm f4 (fun b hb => by simp; exact kW b hb)
        have hF4 := hF3.frm f4 (fun b hb => by simp; exact kF3 b hb)
        obtain ⟨aW, cW, rfl⟩ := hW.slice
        refine ⟨aW, k, cW, by simp, ?_⟩
        have hs4 : h.size + 1 ≤ h4.size := lt_of_get hc4
        refine append_elem (t := 62) (us := [.string ⟨#[]⟩]) Try.underlying62 str_info rfl (by omega) hW4 rfl (by simp [Value.oneCell']) (by omega) (by simp only [maxLen]; omega) hs4 ?_
        intro vW' h5 hW5 f5 hb5
        obtain ⟨aW', cW', rfl⟩ := hW5.slice
        refine ⟨aW', _, cW', rfl, ?_⟩
        have kW5 : ∀ b, (Value.slice aW' (k + 1) cW').ownBlock = some b → b ≠ h.size := fun b hb => by have := (hW5.lt hb).1; omega
        have hc5 := f5.get hc4 (by simp only [blockOf, Option.mem_toList]; exact fun e => kW _ e rfl)
        have dis3 : ∀ b, (Value.slice aF' (k + 1) cF').ownBlock = some b → (Value.slice aW k cW).ownBlock ≠ some b := by
          intro b hb hb'
          rcases hb3 b hb with h6 | h6
          · exact hne b h6 hb'
          · have := (hW.lt hb').2; omega
        refine st1_at hc5 (by simp) rfl fun h6 e6 hc6 f6 s6 => ⟨in64 (by omega) (by omega), ⟨k + 1, .slice aF' (k + 1) cF', .slice aW' (k + 1) cW', rfl, by omega, ?_, ?_, ?_, ?_, ?_⟩, ?_⟩
        · simpa using hc6
        · rw [List.replicate_succ']
          exact (hF4.frm f5 (fun b hb => by simp only [blockOf, Option.mem_toList]; exact dis3 b hb)).frm f6 (fun b hb => by simp; exact kF3 b hb)
        · rw [List.replicate_succ']
          exact hW5.frm f6 (fun b hb => by simp; exact kW5 b hb)
        · intro b hb hb'
          rcases hb5 b hb' with h7 | h7
          · exact dis3 b hb h7
          · have := (hF4.lt hb).2; omega
        · refine ⟨by have := f2.1; have := f3.1; have := f4.1; have := f5.1; have := f6.1; omega, fun b hb _ => ?_⟩
          have s2 := f2.1
          have s3 := f3.1
          have s4' := f4.1
          have s5 := f5.1
          rw [f6.2 b (by omega) (by simp; omega), f5.2 b (by omega) ?_, f4.2 b (by omega) (by simp; omega), f3.2 b (by omega) ?_, f2.2 b hb (by simp)]
          · simp only [blockOf, Option.mem_toList]; exact fun e => by have := (hF.lt e).1; omega
          · simp only [blockOf, Option.mem_toList]; exact fun e => by have := (hW.lt e).1; omega
        · show n.toNat - ((k : Int) + 1).toNat < n.toNat - ((k : Int)).toNat
          omega
      · rw [if_neg (by simpa using hlt)]
        obtain rfl : n = (k : Int) := by omega
        rcases hF.2 with ⟨_, h0⟩ | ⟨gF, cF, curF, rfl, hF1, hF2, hF3, hF4, hF5, hF6⟩
        · omega
        rcases hW.2 with ⟨_, h0⟩ | ⟨gW, cW, curW, rfl, hW1, hW2, hW3, hW4, hW5, hW6⟩
        · omega
        have strs : ∀ (cur : Array Value) (t : ByteArray) (g : Nat) (c : Nat), h2[g]? = some (.cells cur 9 (0, 0)) → k ≤ c → cur.size = c * 1 → cur.toList.take (k * 1) = List.replicate k (.string t) → ∀ u : Nat → ByteArray, (∀ i, i < k → u i = t) → Strs h2 g k u := by
          intro cur t g c h1 h2' h3 h4 u hu
          refine ⟨cur, h1, by omega, fun i hi => ?_⟩
          rw [hu i hi]
          have h5 : (cur.toList.take (k * 1))[i]? = some (.string t) := by rw [h4]; simp [hi]
          rw [List.getElem?_take_of_lt (by omega)] at h5
          simpa using h5
        refine ⟨_, rfl, f2, .inr ⟨hn1, hn2, ⟨h.size, gF, cF, gW, cW⟩, rfl, ⟨hc, strs curF zeros gF cF hF2 hF3 hF5 hF6 _ fun i _ => rfl, strs curW ⟨#[]⟩ gW cW hW2 hW3 hW5 hW6 _ fun i _ => rfl, ?_, ?_, ?_⟩, by simp, by simp; omega, by simp; omega⟩⟩
        · show h.size ≠ gF; omega
        · show h.size ≠ gW; omega
        · show gF ≠ gW; exact fun e => hne gF rfl (by simp [Value.ownBlock, e])
end Go.Proofs.Ytpekdeeagnfecaa
