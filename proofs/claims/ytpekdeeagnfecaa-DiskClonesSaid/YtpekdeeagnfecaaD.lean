/- The disk. -/
import Derived.Test.YtpekdeeagnfecaaW
import Derived.Shelf.SlMaps.Clone
namespace Go.Proofs.Ytpekdeeagnfecaa
open Go Go.Proofs.Ytpekdeeagnfecaa.V
/-! ## The disk's state, apart from any heap -/
structure Impl where
  p : Nat
  mf : Nat
  mw : Nat
def Impl.cellsOf (d : Impl) (s : St) : Obj := .cells #[.int .i64 s.many, .int .i64 s.acts, .int .i64 s.fuse, .map (some d.mf), .map (some d.mw), .bool s.off] 75 (0, 0)
/-- A disk at its blocks. -/
structure Impl.At (d : Impl) (s : St) (h : Heap) : Prop where
  cells : h[d.p]? = some (d.cellsOf s)
  apart : d.mf ≠ d.mw
  waits : MapAt h d.mw KI VS s.waits
  firm : ∃ f : Int → Option ByteArray, MapAt h d.mf KI VS f ∧ ∀ i, 0 ≤ i → i < s.many → s.firm i = (f i).getD zeros
def Impl.blocks (d : Impl) : List Nat := [d.p, d.mf, d.mw]
theorem Impl.At.frm {d : Impl} {s : St} {h h' : Heap} {L : List Nat} (hd : d.At s h) (f : Frm L h h') (h1 : d.p ∉ L) (h2 : d.mf ∉ L) (h3 : d.mw ∉ L) : d.At s h' := by
  obtain ⟨g, hg, hf⟩ := hd.firm
  exact ⟨f.get hd.cells h1, hd.apart, hd.waits.frm f h3, g, hg.frm f h2, hf⟩
/-- The struct's block is turned, the maps stand. -/
theorem Impl.At.turn {d : Impl} {s s' : St} {h h' : Heap} (hd : d.At s h) (f : Frm [d.p] h h') (hp : h'[d.p]? = some (d.cellsOf s')) (hm : s'.many = s.many) (hw : s'.waits = s.waits) (hf : s'.firm = s.firm) : d.At s' h' := by
  obtain ⟨g, hg, hfg⟩ := hd.firm
  have e1 : d.mf ∉ [d.p] := fun h => (map_ne_cells hg hd.cells) (List.mem_singleton.1 h).symm
  have e2 : d.mw ∉ [d.p] := fun h => (map_ne_cells hd.waits hd.cells) (List.mem_singleton.1 h).symm
  exact ⟨hp, hd.apart, hw ▸ hd.waits.frm f e2, g, hg.frm f e1, by rw [hf, hm]; exact hfg⟩
theorem refused_ok {d : Impl} {s : St} {h : Heap} (hd : d.At s h) (i : Int) :
    CallsH Try.prog 45 #[.pointer (some ⟨d.p, 0, none⟩), .int .i64 i] h (fun e h' => ∃ v, e = .returned v ∧ v = .int .i64 (s.refused i) ∧ h' = h) := by
  have hp := hd.cells
  refine c45 _ _ _ _ ?_
  simp only [add_at, cl_at hp, cnd_if]
  cases ho : s.off
  · refine ⟨false, by simp, ?_⟩
    rw [if_neg (by simp)]
    by_cases h1 : i < 0
    · simp [h1, St.refused, ho]
    · rw [if_neg (by simpa using h1)]
      refine ⟨s.many, by simp, ?_⟩
      by_cases h2 : s.many ≤ i
      · rw [if_pos (by simpa using h2)]; simp [St.refused, ho, h2]
      · rw [if_neg (by simpa using h2)]; simp [St.refused, ho, h1, h2]
  · exact ⟨true, by simp, by simp [St.refused, ho]⟩
theorem isOn_ok {d : Impl} {s : St} {h : Heap} (hd : d.At s h) :
    CallsH Try.prog 21 #[.pointer (some ⟨d.p, 0, none⟩)] h (fun e h' => ∃ v, e = .returned v ∧ v = .bool (!s.off) ∧ h' = h) := by
  refine c21 _ _ _ ?_
  simp only [add_at, cl_at hd.cells]
  exact ⟨s.off, by simp, by simp⟩
theorem acts_ok {d : Impl} {s : St} {h : Heap} (hd : d.At s h) :
    CallsH Try.prog 23 #[.pointer (some ⟨d.p, 0, none⟩)] h (fun e h' => ∃ v, e = .returned v ∧ v = .int .i64 s.acts ∧ h' = h) := by
  refine c23 _ _ _ ?_
  simp only [add_at, cl_at hd.cells]
  exact ⟨s.acts, by simp, by simp⟩
theorem sectors_ok {d : Impl} {s : St} {h : Heap} (hd : d.At s h) :
    CallsH Try.prog 36 #[.pointer (some ⟨d.p, 0, none⟩)] h (fun e h' => ∃ v, e = .returned v ∧ v = .int .i64 s.many ∧ h' = h) := by
  refine c36 _ _ _ ?_
  simp only [cl_at hd.cells]
  exact ⟨s.many, by simp, by simp⟩
theorem fuse_ok {d : Impl} {s : St} {h : Heap} (hd : d.At s h) (n : Int) :
    CallsH Try.prog 35 #[.pointer (some ⟨d.p, 0, none⟩), .int .i64 n] h (fun e h' => ∃ v, e = .returned v ∧ v = .tuple #[] ∧ d.At { s with fuse := mx n (-1) } h' ∧ Frm d.blocks h h') := by
  refine c35 _ _ _ _ ?_
  rw [add_at]
  refine st1_at hd.cells (by simp) rfl fun h' _ hp f _ => ?_
  exact ⟨_, rfl, rfl, hd.turn f (by simpa [Impl.cellsOf] using hp) rfl rfl rfl, f.mono (by simp [Impl.blocks])⟩
theorem act_ok {d : Impl} {s : St} {h : Heap} (hd : d.At s h) (hs : s.fits) :
    CallsH Try.prog 46 #[.pointer (some ⟨d.p, 0, none⟩)] h (fun e h' => ∃ v, e = .returned v ∧ v = .int .i64 s.actCode ∧ d.At s.act h' ∧ Frm d.blocks h h') := by
  obtain ⟨hf1, hf2, ha1, ha2⟩ := hs
  have tail : ∀ (s1 : St) (h1 : Heap), d.At s1 h1 → s1.acts = s.acts → ∃ n9 : Int, cl h1 ((⟨d.p, 0, none⟩ : Addr).add 1) = some (.int .i64 n9) ∧ In64 (n9 + 1) ∧
      St1 h1 ((⟨d.p, 0, none⟩ : Addr).add 1) (.int .i64 (n9 + 1)) fun h10 => d.At { s1 with acts := s1.acts + 1 } h10 ∧ Frm [d.p] h1 h10 := by
    intro s1 h1 hd1 e
    simp only [add_at, cl_at hd1.cells]
    refine ⟨s1.acts, by simp, in64 (by omega) (by omega), st1_at hd1.cells (by simp) rfl fun h' _ hp f _ => ⟨?_, f⟩⟩
    exact hd1.turn f (by simpa [Impl.cellsOf] using hp) rfl rfl rfl
  refine c46 _ _ _ ?_
  refine ⟨fun _ h1 => d.At { s with fuse := if 0 < s.fuse then s.fuse - 1 else s.fuse } h1 ∧ Frm d.blocks h h1 ∧ s.fuse ≠ 0, ?_, ?_⟩
  · simp only [add_at, cl_at hd.cells, cnd_if]
    refine ⟨s.fuse, by simp, ?_⟩
    by_cases h0 : s.fuse = 0
    · rw [if_pos (by simpa using h0)]
      refine st1_at hd.cells (by simp) rfl fun h' _ hp f _ => ⟨_, rfl, by simp [St.actCode, h0], ?_, f.mono (by simp [Impl.blocks])⟩
      rw [St.act, if_pos h0]
      exact hd.turn f (by simpa [Impl.cellsOf] using hp) rfl rfl rfl
    · rw [if_neg (by simpa using h0)]
      refine ⟨s.fuse, by simp, ?_⟩
      by_cases h1 : 0 < s.fuse
      · rw [if_pos (by simpa using h1)]
        refine ⟨s.fuse, by simp, in64 (by omega) (by omega), st1_at hd.cells (by simp) rfl fun h' _ hp f _ => ⟨?_, f.mono (by simp [Impl.blocks]), h0⟩⟩
        refine hd.turn f ?_ rfl rfl rfl
        simpa [Impl.cellsOf, h1] using hp
      · rw [if_neg (by simpa using h1)]
        refine ⟨?_, Frm.refl _ _, h0⟩
        rw [if_neg h1]
        exact hd
  · rintro _ h1 ⟨hd1, f1, h0⟩
    obtain ⟨n9, e1, e2, e3⟩ := tail _ h1 hd1 rfl
    refine ⟨n9, e1, e2, ?_⟩
    have mono : ∀ {h : Heap} {a : Addr} {v : Value} {K K' : Heap → Prop}, St1 h a v K → (∀ h', K h' → K' h') → St1 h a v K' := by
      intro h a v K K' hk hkk
      obtain ⟨hb, x, y, z⟩ := chk_of hk
      show chk _ _
      rw [hb]
      exact ⟨x, y, fun h' e => hkk h' (z h' e)⟩
    refine mono e3 fun h' ⟨hd2, f2⟩ => ⟨_, rfl, by simp [St.actCode, h0], ?_, f1.trans (f2.mono (by simp [Impl.blocks]))⟩
    rw [St.act, if_neg h0]
    exact hd2
theorem waiting_ok {d : Impl} {s : St} {h : Heap} (hd : d.At s h) (hw : s.inside) :
    CallsH Try.prog 20 #[.pointer (some ⟨d.p, 0, none⟩)] h (fun e h' => ∃ v, e = .returned v ∧ ∃ l, s.waiting l ∧ Own h' h.size 3 1 v l.length (l.map KI) ∧ Frm [] h h') := by
  refine c20 _ _ _ ?_
  simp only [add_at, cl_at hd.cells]
  refine ⟨some d.mw, by simp, ?_⟩
  refine (keys_ok _ _).ret ?_
  rintro v h1 ⟨rfl, rfl⟩
  refine ⟨_, rfl, ?_⟩
  have hf : Frm [] h (h.push (.cells #[.map (some d.mw)] 73 (0, 0))) := Frm.push _ _ _
  refine (sorted_ok (N := s.many.toNat) (get_push_new h _) (hd.waits.frm hf (by simp)) (by have := hw.1; omega) (fun k hk => by have := hw.2 k hk; omega)).ret ?_
  rintro v h2 ⟨l, ha, hl, hn, ho, f2⟩
  obtain ⟨a, c, rfl⟩ := own_slice ho
  exact ⟨a, _, c, rfl, _, rfl, l, ⟨ha, hl⟩, own_base ho (by simp), hf.trans f2⟩
/-! ## New, Read, Write -/
theorem new_ok (n : Int) (h : Heap) :
    CallsH Try.prog 9 #[.int .i64 n] h (fun e h' => ∃ v, e = .returned v ∧ Frm [] h h' ∧
      ((¬ (1 ≤ n ∧ n ≤ 2048) ∧ v = .tuple #[.pointer none, .int .i64 1]) ∨
       (1 ≤ n ∧ n ≤ 2048 ∧ ∃ d : Impl, v = .tuple #[.pointer (some ⟨d.p, 0, none⟩), .int .i64 0] ∧ d.At (St.new n) h' ∧ h.size ≤ d.p ∧ h.size ≤ d.mf ∧ h.size ≤ d.mw))) := by
  refine c9 _ _ _ ?_
  refine ⟨fun _ h1 => h1 = h ∧ 1 ≤ n ∧ n ≤ 2048, ?_, ?_⟩
  · simp only [cnd_if]
    by_cases h1 : n < 1
    · rw [if_pos (by simpa using h1)]
      exact ⟨_, rfl, Frm.refl _ _, .inl ⟨by omega, rfl⟩⟩
    · rw [if_neg (by simpa using h1)]
      by_cases h2 : n > 2048
      · rw [if_pos (by simpa using h2)]
        exact ⟨_, rfl, Frm.refl _ _, .inl ⟨by omega, rfl⟩⟩
      · rw [if_neg (by simpa using h2)]
        exact ⟨trivial, by omega, by omega⟩
  · rintro _ _ ⟨rfl, h1, h2⟩
    rename_i h
    refine al_intro fun ha ea ga fa sa => al_intro fun hb eb gb fb sb => al_intro fun hc ec gc fc sc => ?_
    refine ⟨_, rfl, (fa.trans fb).trans fc, .inr ⟨h1, h2, ⟨hb.size, h.size, ha.size⟩, rfl, ⟨gc, by simp [sa], ?_, ?_⟩, by simp; omega, by simp, by simp; omega⟩⟩
    · exact MapAt.empty (fc.get gb (by simp))
    · exact ⟨fun _ => none, MapAt.empty (fc.get (fb.get ga (by simp)) (by simp)), fun i _ _ => rfl⟩
theorem read_ok {d : Impl} {s : St} {h : Heap} (hd : d.At s h) (ho : s.Ok) (i : Int) :
    CallsH Try.prog 16 #[.pointer (some ⟨d.p, 0, none⟩), .int .i64 i] h (fun e h' => ∃ v, e = .returned v ∧ Frm [] h h' ∧
      ((s.refused i ≠ 0 ∧ v = .tuple #[.slice none 0 0, .int .i64 (s.refused i)]) ∨
       (s.refused i = 0 ∧ ∃ g, v = .tuple #[.slice (some ⟨g, 0, none⟩) 4096 4096, .int .i64 0] ∧ Own h' h.size 5 1 (.slice (some ⟨g, 0, none⟩) 4096 4096) 4096 (bv (s.read i))))) := by
  refine c16 _ _ _ _ ?_
  refine (refused_ok hd i).ret ?_
  rintro _ _ ⟨rfl, rfl⟩
  rename_i h
  refine ⟨_, rfl, ?_⟩
  rw [cnd_if]
  by_cases hc : s.refused i = 0
  · rw [if_neg (by simp [hc])]
    obtain ⟨_, h0, h1⟩ := refused_zero hc
    refine ⟨by decide, by decide, by decide, ?_⟩
    refine al_intro fun ha ea ga fa sa => ?_
    have hda := hd.frm fa (by simp) (by simp) (by simp)
    obtain ⟨f, hf, hff⟩ := hda.firm
    simp only [add_at, cl_at hda.cells]
    refine ⟨some d.mw, by simp, ?_⟩
    refine lookup_run (keyInt Try.underlying3) Try.underlying73 (z := .string ⟨#[]⟩) (by kernel_rfl) hda.waits i true ?_
    refine ⟨(s.waits i).getD ⟨#[]⟩, (s.waits i).isSome, by cases s.waits i <;> rfl, ?_⟩
    -- what is read: the bytes, or none where the sector has none of its own
    refine ⟨fun vs h1 => h1 = ha ∧ ∃ t, vs = [.string t] ∧ (t = s.read i ∨ t = ⟨#[]⟩ ∧ s.read i = zeros), ?_, ?_⟩
    · rw [cnd_if]
      cases hw : s.waits i with
      | some t => exact ⟨rfl, t, rfl, .inl (by simp [St.read, hw])⟩
      | none =>
        refine ⟨some d.mf, by simp, ?_⟩
        refine lookup_run (keyInt Try.underlying3) Try.underlying73 (z := .string ⟨#[]⟩) (by kernel_rfl) hf i false ?_
        refine ⟨(f i).getD ⟨#[]⟩, by cases f i <;> rfl, rfl, _, rfl, ?_⟩
        have hr : s.read i = (f i).getD zeros := by rw [St.read, hw]; exact hff i h0 h1
        cases hfi : f i with
        | some t => exact .inl (by rw [hr, hfi]; rfl)
        | none => exact .inr ⟨rfl, by rw [hr, hfi]; rfl⟩
    · rintro t _ h1' ⟨e1, t', e, ht⟩
      rw [e1]
      simp only [List.cons.injEq, Value.string.injEq, and_true] at e
      subst e
      have hga : ha[h.size]? = some (.cells (madeCells #[.int .u8 0] 4096) 5 (0, 0)) := ga
      have hsz := St.read_size ho h0 h1
      refine copy_string (t := 5) (cur := madeCells #[.int .u8 0] 4096) Try.underlying31 (by kernel_rfl) hga (by rw [size_madeCells, Nat.zero_add]; exact Nat.min_le_right _ _) ?_
      intro hb eb fb sb
      refine ⟨_, rfl, _, rfl, fa.young fb (by simp), .inr ⟨hc, h.size, rfl, ?_⟩⟩
      have hgb : hb[h.size]? = some (.cells (bv (s.read i)).toArray 5 (0, 0)) := by
        rw [eb, get_set (lt_of_get hga)]
        congr 3
        rw [List.take_zero, List.nil_append, Nat.zero_add, made_zeros]
        rcases ht with rfl | ⟨rfl, hz⟩
        · rw [List.take_of_length_le (by rw [bv_length, hsz]; exact Nat.le_refl _), bv_length, hsz, List.drop_of_length_le (by rw [bv_length, zeros_size]; exact Nat.le_refl _), List.append_nil]
        · rw [hz]; rfl
      exact ⟨by rw [bv_length, hsz], .inr ⟨_, _, _, rfl, Nat.le_refl _, hgb, Nat.le_refl _, by decide, by rw [List.size_toArray, bv_length, hsz], by
        rw [Nat.mul_one]; exact List.take_of_length_le (by rw [bv_length, hsz]; exact Nat.le_refl _)⟩⟩
  · rw [if_pos (by simpa using hc)]
    exact ⟨_, rfl, Frm.refl _ _, .inl ⟨hc, rfl⟩⟩
/-! ## Write -/
theorem write_ok {d : Impl} {s : St} {h : Heap} (hd : d.At s h) (hs : s.fits) (i : Int) {a : Option Addr} {l c : Nat} {b : ByteArray} (hb : SlRow h a l (bv b)) (hsp : ∀ ad, a = some ad → ad.spot = none)
    (hap : ∀ ad, a = some ad → ad.block ∉ d.blocks) :
    CallsH Try.prog 17 #[.pointer (some ⟨d.p, 0, none⟩), .int .i64 i, .slice a l c] h (fun e h' => ∃ v, e = .returned v ∧ v = .int .i64 (s.writeCode i b) ∧ d.At (s.write i b) h' ∧ Frm d.blocks h h') := by
  have hl : b.size = l := by rw [← bv_length]; exact hb.1
  refine c17 _ _ _ _ _ _ _ ?_
  refine (refused_ok hd i).ret ?_
  rintro _ _ ⟨rfl, rfl⟩
  rename_i h
  refine ⟨_, rfl, ?_⟩
  simp only [cnd_if]
  by_cases hc : s.refused i = 0
  · rw [if_neg (by simp [hc])]
    by_cases h4 : l = 4096
    · rw [if_neg (by simp [h4])]
      refine (act_ok hd hs).ret ?_
      rintro _ h1 ⟨rfl, hd1, f1⟩
      refine ⟨_, rfl, ?_⟩
      by_cases h0 : s.fuse = 0
      · rw [if_neg (by simp [St.actCode, h0])]
        exact ⟨_, rfl, by simp [St.writeCode, hc, hl, h4], by simpa [St.write, hc, hl, h4, h0] using hd1, f1⟩
      · rw [if_pos (by simp [St.actCode, h0])]
        simp only [add_at, cl_at hd1.cells]
        refine ⟨some d.mw, by simp, ?_⟩
        refine conv_bytes_string Try.underlying31 Try.underlying5 Try.underlying9 (slrow_frm f1 hb hap) hsp ?_
        refine ⟨b, rfl, ⟨some d.mw, by simp [cl_at hd1.cells], rfl⟩, ?_⟩
        refine update_run (keyInt Try.underlying3) Try.underlying73 hd1.waits i b ?_
        intro h2 hm2 f2 s2
        refine ⟨_, rfl, by simp [St.writeCode, hc, hl, h4], ?_, f1.trans (f2.mono (by simp [Impl.blocks]))⟩
        obtain ⟨g, hg, hgf⟩ := hd1.firm
        rw [show s.write i b = { s.act with waits := fun y => if i = y then some b else s.waits y } by simp [St.write, hc, hl, h4, h0]]
        have hw : s.act.waits = s.waits := by unfold St.act; split <;> rfl
        refine ⟨f2.get hd1.cells ?_, hd.apart, ?_, g, hg.frm f2 ?_, hgf⟩
        · simp only [List.mem_singleton]; exact map_ne_cells hd1.waits hd1.cells
        · rw [← hw]; exact hm2
        · simp only [List.mem_singleton]; exact hd.apart
    · rw [if_pos (by simp; omega)]
      exact ⟨_, rfl, by simp [St.writeCode, hc, hl, h4], by simpa [St.write, hc, hl, h4] using hd, Frm.refl _ _⟩
  · rw [if_pos (by simpa using hc)]
    exact ⟨_, rfl, by simp [St.writeCode, hc], by simpa [St.write, hc] using hd, Frm.refl _ _⟩
/-! ## Flush -/
/-- maps.Copy, at two maps of sectors. -/
theorem copy_ok {h : Heap} {a b : Nat} {f g : Int → Option ByteArray} (ha : MapAt h a KI VS f) (hb : MapAt h b KI VS g) (hne : a ≠ b) :
    CallsH Try.prog 47 #[.map (some a), .map (some b)] h (fun e h' => ∃ v, e = .returned v ∧ v = .tuple #[] ∧ MapAt h' a KI VS (fun k => (g k).or (f k)) ∧ Frm [a] h h') := by
  obtain ⟨es, clock, kvs, e1, e2, e3, e4, e5, e6⟩ := hb
  -- an entry says what g says
  have ent : ∀ x ∈ es.toList, ∃ k s, x.key = KI k ∧ x.val = VS s ∧ g k = some s := by
    intro x hx
    have h1 : (x.key, x.val) ∈ kvs.map fun p => (KI p.1, VS p.2) := by
      rw [← show es.toList.map (fun e => (e.key, e.val)) = _ from e2]
      exact List.mem_map.2 ⟨x, hx, rfl⟩
    obtain ⟨p, hp, e⟩ := List.mem_map.1 h1
    simp only [Prod.mk.injEq] at e
    exact ⟨p.1, p.2, e.1.symm, e.2.symm, by rw [e6]; exact get_of_mem e3 hp⟩
  have ent' : ∀ k s, g k = some s → ∃ x ∈ es.toList, x.key = KI k ∧ x.val = VS s := by
    intro k s hk
    rw [e6] at hk
    have h1 : (KI k, VS s) ∈ es.toList.map fun e => (e.key, e.val) := by
      rw [show es.toList.map (fun e => (e.key, e.val)) = _ from e2]
      exact List.mem_map.2 ⟨(k, s), mem_of_get hk, rfl⟩
    obtain ⟨x, hx, e⟩ := List.mem_map.1 h1
    simp only [Prod.mk.injEq] at e
    exact ⟨x, hx, e.1, e.2⟩
  refine c47 _ _ _ _ ?_
  refine range_run Try.underlying73 e1 e4 e5 ?_
  intro h1 hi f1 s1
  refine ⟨_, rfl, ?_⟩
  -- behind some rounds: the entries D are copied
  refine ⟨fun _ h2 => ∃ (seen : Array Nat) (D : List MapEntry) (u : Int → Option ByteArray), IterAt h2 h.size b es clock seen ∧ seen.toList = D.map (·.born) ∧ (∀ x ∈ D, x ∈ es.toList) ∧
      MapAt h2 a KI VS u ∧ (∀ k, KI k ∈ D.map (·.key) → u k = g k) ∧ (∀ k, KI k ∉ D.map (·.key) → u k = f k) ∧ Frm [a] h h2,
    fun _ h2 => match h2[h.size]? with | some (.mapIter _ _ s _) => (leftOf es s).size | _ => 0, ?_, ?_⟩
  · exact ⟨#[], [], f, hi, rfl, by simp, ha.frm f1 (by simp), by simp, by simp, f1.mono (by simp)⟩
  · rintro _ h2 ⟨seen, D, u, hi2, hsD, hD, hma, hu1, hu2, f2⟩
    have hlta := ha.lt
    refine next_run hi2 ?_ ?_
    · intro hz
      refine .inl ⟨rfl, _, rfl, rfl, hma.congr fun k => ?_, f2⟩
      have hall := all_seen es seen hz
      have hkeys : ∀ x ∈ es.toList, x ∈ D := by
        intro x hx
        have h1 := hall x hx
        rw [Array.contains_iff_mem] at h1
        have h2 : x.born ∈ D.map (·.born) := by rw [← hsD]; simpa using h1
        obtain ⟨y, hy, e⟩ := List.mem_map.1 h2
        rw [born_inj e5 hx (hD y hy) e.symm]; exact hy
      cases hg : g k with
      | some s =>
        obtain ⟨x, hx, hxk, _⟩ := ent' k s hg
        rw [hu1 k (List.mem_map.2 ⟨x, hkeys x hx, hxk⟩), hg]; rfl
      | none =>
        rw [hu2 k ?_]
        · rfl
        · intro hm
          obtain ⟨x, hx, hxk⟩ := List.mem_map.1 hm
          obtain ⟨k', s, h1, _, h3⟩ := ent x (hD x hx)
          rw [hxk] at h1
          simp only [Value.int.injEq, true_and] at h1
          subst h1
          rw [hg] at h3; cases h3
    · intro e he h3 hi3 f3 s3
      refine .inr ⟨e.key, e.val, rfl, ?_⟩
      obtain ⟨hee, hns⟩ := mem_left he
      refine entry_run hi3 hee ?_
      refine ⟨e.key, e.val, rfl, ?_⟩
      obtain ⟨k, s, hk, hv, hg⟩ := ent e hee
      rw [hk, hv]
      have hma3 : MapAt h3 a KI VS u := hma.frm f3 (by simp; omega)
      refine update_run (K := KI) (V := VS) (keyInt Try.underlying3) Try.underlying73 hma3 k s ?_
      intro h4 hm4 f4 s4
      have hi4 : IterAt h4 h.size b es clock (seen.push e.born) := ⟨f4.get hi3.1 (by simp; omega), f4.get hi3.2.1 (by simp; exact fun e => hne e.symm), hi3.2.2⟩
      refine ⟨⟨seen.push e.born, D ++ [e], _, hi4, by simp [hsD], ?_, hm4, ?_, ?_, ?_⟩, ?_⟩
      · intro x hx
        rcases List.mem_append.1 hx with hx | hx
        · exact hD x hx
        · rw [List.mem_singleton.1 hx]; exact hee
      · intro k' hk'
        show (if k = k' then some s else u k') = g k'
        by_cases e' : k = k'
        · subst e'; rw [if_pos rfl, hg]
        · rw [if_neg e']
          refine hu1 k' ?_
          simp only [List.map_append, List.map_cons, List.map_nil, List.mem_append, List.mem_singleton] at hk'
          refine hk'.resolve_right fun h => e' ?_
          rw [hk] at h
          simp only [Value.int.injEq, true_and] at h
          exact h.symm
      · intro k' hk'
        show (if k = k' then some s else u k') = f k'
        simp only [List.map_append, List.map_cons, List.map_nil, List.mem_append, List.mem_singleton, not_or] at hk'
        rw [if_neg fun h => hk'.2 (by rw [hk, h])]
        exact hu2 k' hk'.1
      · exact (f2.young f3 (by simp)).trans f4
      · show (match h4[h.size]? with | some (.mapIter _ _ s _) => (leftOf es s).size | _ => 0) < (match h2[h.size]? with | some (.mapIter _ _ s _) => (leftOf es s).size | _ => 0)
        rw [hi4.1, hi2.1]
        exact left_shrinks es seen e he
theorem flush_ok {d : Impl} {s : St} {h : Heap} (hd : d.At s h) (hs : s.fits) :
    CallsH Try.prog 15 #[.pointer (some ⟨d.p, 0, none⟩)] h (fun e h' => ∃ v, e = .returned v ∧ v = .int .i64 s.flushCode ∧ d.At s.flush h' ∧ Frm d.blocks h h') := by
  refine c15 _ _ _ ?_
  refine (refused_ok hd 0).ret ?_
  rintro _ _ ⟨rfl, rfl⟩
  rename_i h
  refine ⟨_, rfl, ?_⟩
  rw [cnd_if]
  by_cases hc : s.refused 0 = 0
  · rw [if_neg (by simp [hc])]
    refine (act_ok hd hs).ret ?_
    rintro _ h1 ⟨rfl, hd1, f1⟩
    refine ⟨_, rfl, ?_⟩
    rw [cnd_if]
    have hw : s.act.waits = s.waits := by unfold St.act; split <;> rfl
    have hfm : s.act.firm = s.firm := by unfold St.act; split <;> rfl
    have hmn : s.act.many = s.many := by unfold St.act; split <;> rfl
    by_cases h0 : s.fuse = 0
    · rw [if_neg (by simp [St.actCode, h0])]
      exact ⟨_, rfl, by simp [St.flushCode, hc], by simpa [St.flush, hc, h0] using hd1, f1⟩
    · rw [if_pos (by simp [St.actCode, h0])]
      obtain ⟨g, hg, hgf⟩ := hd1.firm
      simp only [add_at, cl_at hd1.cells]
      refine ⟨some d.mf, by simp, some d.mw, by simp, ?_⟩
      refine (copy_ok hg hd1.waits hd.apart).ret ?_
      rintro _ h2 ⟨rfl, hm2, f2⟩
      have hc2 := f2.get hd1.cells (by simp; exact map_ne_cells hg hd1.cells)
      have hw2 := hd1.waits.frm f2 (by simp; exact fun e => hd.apart e.symm)
      refine ⟨rfl, some d.mw, by simp [cl_at hc2, Impl.cellsOf], ?_⟩
      refine clear_run Try.underlying73 hw2 ?_
      intro h3 hm3 f3 s3
      refine ⟨_, rfl, by simp [St.flushCode, hc], ?_, f1.trans ((f2.mono (by simp [Impl.blocks])).trans (f3.mono (by simp [Impl.blocks])))⟩
      rw [show s.flush = { s.act with firm := s.read, waits := fun _ => none } by simp [St.flush, hc, h0]]
      refine ⟨f3.get hc2 (by simp; exact map_ne_cells hd1.waits hd1.cells), hd.apart, hm3, _, hm2.frm f3 (by simp; exact hd.apart), ?_⟩
      intro i i0 i1
      have := hgf i i0 i1
      rw [hfm] at this
      show s.read i = ((s.act.waits i).or (g i)).getD zeros
      rw [hw, St.read, this]
      cases s.waits i <;> rfl
  · rw [if_pos (by simpa using hc)]
    exact ⟨_, rfl, by simp [St.flushCode, hc], by simpa [St.flush, hc] using hd, Frm.refl _ _⟩
/-! ## Cut, On -/
theorem cut_ok {d : Impl} {s : St} {h : Heap} (hd : d.At s h) (ho : s.Ok) {a : Option Addr} {l c : Nat} {mask : ByteArray} (hb : SlRow h a l (bv mask)) (hap : 0 < l → ∀ ad, a = some ad → ad.block ∉ d.blocks) :
    CallsH Try.prog 19 #[.pointer (some ⟨d.p, 0, none⟩), .slice a l c] h (fun e h' => ∃ v, e = .returned v ∧ v = .tuple #[] ∧ ∃ wl, s.waiting wl ∧ d.At (s.cut wl mask.data.toList) h' ∧ Frm d.blocks h h') := by
  have hlm : mask.size = l := by rw [← bv_length]; exact hb.1
  refine c19 _ _ _ _ _ _ ?_
  refine (waiting_ok hd ho.inside).ret ?_
  rintro v h1 ⟨wl, hwl, how, f1⟩
  obtain ⟨wa, wc, rfl⟩ := own_slice how
  refine ⟨wa, wl.length, wc, rfl, ?_⟩
  have hd1 := hd.frm f1 (by simp) (by simp) (by simp)
  have hpl := lt_of_get hd.cells
  have hmwl := hd.waits.lt
  obtain ⟨g0, hg0, _⟩ := hd.firm
  have hmfl := hg0.lt
  -- the row of those that wait is young
  have young : ∀ b, Value.ownBlock (.slice wa wl.length wc) = some b → b ∉ d.blocks := by
    intro b hbb hm
    rcases how.2 with ⟨e, _⟩ | ⟨g, cap, cur, e, hbg, _⟩
    · simp only [Value.slice.injEq] at e; rw [e.1] at hbb; simp [Value.ownBlock] at hbb
    · simp only [Value.slice.injEq] at e
      rw [e.1] at hbb
      simp only [Value.ownBlock, Option.some.injEq] at hbb
      subst hbb
      simp only [Impl.blocks, List.mem_cons, List.not_mem_nil, or_false] at hm
      omega
  refine ⟨fun vs h2 => ∃ n : Nat, vs = [.int .i64 (n : Int)] ∧ n ≤ wl.length ∧ ∃ f, d.At { s with firm := f } h2 ∧ Frm d.blocks h1 h2 ∧ cutF s.waits (wl.drop n) (mask.data.toList.drop n) f = cutF s.waits wl mask.data.toList s.firm,
    fun vs _ => match vs with | [.int _ n] => wl.length - n.toNat | _ => 0, ?_, ?_⟩
  · exact ⟨0, rfl, Nat.zero_le _, s.firm, hd1, Frm.refl _ _, by simp⟩
  · rintro n' _ h2 ⟨n, e, hn, f, hd2, f2, hcut⟩
    simp only [List.cons.injEq, Value.int.injEq, true_and, and_true] at e
    subst e
    rw [cnd_if]
    by_cases hlt : n < wl.length
    · rw [if_pos (by simpa using hlt)]
      refine ⟨by omega, by omega, ?_⟩
      have how2 := own_frm f2 how young
      obtain ⟨g, rfl, hbg, v, hv, hcl⟩ := own_row how2 hlt
      obtain ⟨i, hi, rfl⟩ : ∃ i, wl[n]? = some i ∧ v = KI i := by
        rw [List.getElem?_map] at hv
        cases hw : wl[n]? with
        | none => rw [hw] at hv; cases hv
        | some i => rw [hw] at hv; exact ⟨i, rfl, by simpa using hv.symm⟩
      refine (show onSome _ _ from ?_)
      simp only [onSome_some', add_at, Int.toNat_natCast, Nat.mul_one, Nat.zero_add]
      refine ⟨i, hcl, ?_⟩
      have hin : 0 ≤ i ∧ i < s.many := ho.inside.2 i ((hwl.2 i).1 (List.mem_of_getElem? hi))
      have h63 : wl.length ≤ maxLen := by
        rcases how.2 with ⟨_, h0⟩ | ⟨_, cap, _, _, _, _, h1, h2, _⟩
        · rw [h0]; simp [maxLen]
        · omega
      have hn63 : In64 ((n : Int) + 1) := by simp only [maxLen] at h63; exact in64 (by omega) (by omega)
      refine ⟨fun vs h3 => h3 = h2 ∧ vs = [.bool (match mask.data.toList[n]? with | some m => decide (m.toNat % 2 = 1) | none => false)], ?_, ?_⟩
      · rw [cnd_if]
        by_cases hm : n < l
        · rw [if_pos (by simpa using hm)]
          refine ⟨by omega, by omega, ?_⟩
          obtain ⟨m, hm1, hm2⟩ := bv_at (s := mask) (i := n) (by omega)
          rcases hb.2 with h0 | ⟨ad, rfl, hrow⟩
          · omega
          · refine ⟨(m.toNat : Int), ?_, rfl, ?_⟩
            · have := hrow n _ hm2
              exact f2.cl (f1.cl this (by simp)) (by rw [add_block]; exact hap (by omega) ad rfl)
            · rw [hm1]; simp only [odd_and]
        · rw [if_neg (by simpa using hm)]
          refine ⟨rfl, ?_⟩
          rw [List.getElem?_eq_none (by rw [Array.length_toList]; show mask.size ≤ n; omega)]
      · rintro b _ h3 ⟨e0, e⟩
        rw [e0]; clear e0 h3
        simp only [List.cons.injEq, Value.bool.injEq, and_true] at e
        rw [cutF_step _ hi] at hcut
        rw [cnd_if]
        have go : ∀ (f' : Int → ByteArray) (h4 : Heap), d.At { s with firm := f' } h4 → Frm d.blocks h2 h4 →
            cutF s.waits (wl.drop (n + 1)) (mask.data.toList.drop (n + 1)) f' = cutF s.waits wl mask.data.toList s.firm →
            ∃ k : Nat, [Value.int .i64 ((n : Int) + 1)] = [.int .i64 (k : Int)] ∧ k ≤ wl.length ∧ ∃ f, d.At { s with firm := f } h4 ∧ Frm d.blocks h1 h4 ∧ cutF s.waits (wl.drop k) (mask.data.toList.drop k) f = cutF s.waits wl mask.data.toList s.firm :=
          fun f' h4 hd4 f4 hc4 => ⟨n + 1, rfl, hlt, f', hd4, f2.trans f4, hc4⟩
        have hmu : wl.length - ((n : Int) + 1).toNat < wl.length - ((n : Int)).toNat := by omega
        by_cases hbt : b = true
        · rw [if_pos hbt]
          obtain ⟨m, hm, hodd⟩ : ∃ m, mask.data.toList[n]? = some m ∧ m.toNat % 2 = 1 := by
            cases hm : mask.data.toList[n]? with
            | none => rw [hm, hbt] at e; cases e
            | some m => rw [hm, hbt] at e; exact ⟨m, rfl, by simpa using e.symm⟩
          simp only [hm, if_pos hodd] at hcut
          obtain ⟨u, hu, hfu⟩ := hd2.firm
          simp only [add_at, cl_at hd2.cells]
          refine ⟨some d.mf, by simp, some d.mw, by simp, ?_⟩
          refine lookup_run (keyInt Try.underlying3) Try.underlying73 (z := .string ⟨#[]⟩) (by kernel_rfl) hd2.waits i false ?_
          refine ⟨(s.waits i).getD ⟨#[]⟩, by cases s.waits i <;> rfl, ?_⟩
          refine update_run (keyInt Try.underlying3) Try.underlying73 hu i _ ?_
          intro h4 hm4 f4 s4
          refine ⟨hn63, go (fun y => if i = y then (s.waits i).getD ⟨#[]⟩ else f y) h4 ⟨f4.get hd2.cells ?_, hd.apart, hd2.waits.frm f4 ?_, _, hm4, ?_⟩ (f4.mono (by simp [Impl.blocks])) hcut, hmu⟩
          · simp only [List.mem_singleton]; exact map_ne_cells hu hd2.cells
          · simp only [List.mem_singleton]; exact fun e => hd.apart e.symm
          · intro y y0 y1
            show (if i = y then (s.waits i).getD ⟨#[]⟩ else f y) = _
            by_cases hy : i = y
            · rw [if_pos hy, if_pos hy]; rfl
            · rw [if_neg hy, if_neg hy]; exact hfu y y0 y1
        · rw [if_neg hbt]
          refine ⟨hn63, go f h2 hd2 (Frm.refl _ _) ?_, hmu⟩
          rw [← hcut]
          cases hm : mask.data.toList[n]? with
          | none => rfl
          | some m =>
            rw [hm] at e
            have : ¬ m.toNat % 2 = 1 := fun h => hbt (by rw [e]; simpa using h)
            simp only [if_neg this]
    · rw [if_neg (by simpa using hlt)]
      have hwn : wl.length ≤ n := by omega
      rw [cutF_end _ hwn] at hcut
      simp only [add_at, cl_at hd2.cells]
      refine ⟨some d.mw, by simp, ?_⟩
      refine clear_run Try.underlying73 hd2.waits ?_
      intro h3 hm3 f3 s3
      have hc3 := f3.get hd2.cells (by simp; exact map_ne_cells hd2.waits hd2.cells)
      refine st1_at hc3 (by simp) rfl fun h4 e4 hc4 f4 s4 => ?_
      refine st1_at hc4 (by simp) rfl fun h5 e5 hc5 f5 s5 => ?_
      obtain ⟨u, hu, hfu⟩ := hd2.firm
      have hne : d.mf ∉ [d.mw] := by simp; exact hd.apart
      have hnp : d.mf ∉ [d.p] := by simp; exact fun e => map_ne_cells hu hd2.cells e.symm
      have hnw : d.mw ∉ [d.p] := by simp; exact fun e => map_ne_cells hd2.waits hd2.cells e.symm
      refine ⟨_, rfl, rfl, wl, hwl, ⟨by simpa [Impl.cellsOf, St.cut] using hc5, hd.apart, (hm3.frm f4 hnw).frm f5 hnw, u, ((hu.frm f3 hne).frm f4 hnp).frm f5 hnp, ?_⟩, ?_⟩
      · show ∀ i, 0 ≤ i → i < s.many → cutF s.waits wl mask.data.toList s.firm i = (u i).getD zeros
        rw [← hcut]; exact hfu
      · exact (f1.mono (by simp)).trans (f2.trans ((f3.mono (by simp [Impl.blocks])).trans ((f4.mono (by simp [Impl.blocks])).trans (f5.mono (by simp [Impl.blocks])))))
/-! ## On, Clone -/

theorem cut_ok' {d : Impl} {s : St} {h : Heap} (hd : d.At s h) (ho : s.Ok) {a : Option Addr} {l c : Nat} {mask : ByteArray} (hb : SlRow h a l (bv mask)) (hap : 0 < l → ∀ ad, a = some ad → ad.block ∉ d.blocks) :
    CallsH Try.prog 19 #[.pointer (some ⟨d.p, 0, none⟩), .slice a l c] h (fun e h' => ∃ v, e = .returned v ∧ v = .tuple #[] ∧ d.At (s.cut s.wl mask.data.toList) h' ∧ Frm d.blocks h h') := by
  refine (cut_ok hd ho hb hap).mono ?_
  rintro e h' ⟨v, rfl, rfl, wl, hw, hd', f⟩
  rw [ho.wl_eq hw] at hd'
  exact ⟨_, rfl, rfl, hd', f⟩

theorem on_ok {d : Impl} {s : St} {h : Heap} (hd : d.At s h) (ho : s.Ok) :
    CallsH Try.prog 12 #[.pointer (some ⟨d.p, 0, none⟩)] h (fun e h' => ∃ v, e = .returned v ∧ v = .tuple #[] ∧ d.At s.on h' ∧ Frm d.blocks h h') := by
  refine c12 _ _ _ ?_
  simp only [add_at, cl_at hd.cells, cnd_if]
  refine ⟨s.off, by simp, ?_⟩
  by_cases hoff : s.off = true
  · rw [if_pos hoff]
    refine (cut_ok' (mask := ⟨#[]⟩) hd ho ⟨rfl, .inl rfl⟩ (by intro _ ad e; cases e)).ret ?_
    rintro _ h1 ⟨rfl, hd1, f1⟩
    refine ⟨rfl, ?_⟩
    refine st1_at hd1.cells (by simp) rfl fun h2 _ hc2 f2 _ => ⟨_, rfl, rfl, ?_, f1.trans (f2.mono (by simp [Impl.blocks]))⟩
    rw [St.on, if_pos hoff]
    exact hd1.turn f2 (by simpa [Impl.cellsOf] using hc2) rfl rfl rfl
  · rw [if_neg hoff]
    exact ⟨_, rfl, rfl, by rw [St.on, if_neg hoff]; exact hd, Frm.refl _ _⟩

theorem waiting_ok' {d : Impl} {s : St} {h : Heap} (hd : d.At s h) (ho : s.Ok) :
    CallsH Try.prog 20 #[.pointer (some ⟨d.p, 0, none⟩)] h (fun e h' => ∃ v, e = .returned v ∧ Own h' h.size 3 1 v s.wl.length (s.wl.map KI) ∧ Frm [] h h') := by
  refine (waiting_ok hd ho.inside).mono ?_
  rintro e h' ⟨v, rfl, l, hl, hown, f⟩
  rw [ho.wl_eq hl] at hown
  exact ⟨_, rfl, hown, f⟩

/-- maps.Clone: the same entries in a new block. -/
theorem clone_map {h : Heap} {m : Nat} {f : Int → Option ByteArray} (hm : MapAt h m KI VS f) :
    CallsH Try.prog 50 #[.map (some m)] h (fun e h' => ∃ v, e = .returned v ∧ v = .map (some h.size) ∧ MapAt h' h.size KI VS f ∧ Frm [] h h' ∧ h'.size = h.size + 1) := by
  refine c50 _ _ _ ?_
  simp only [cnd_if]
  rw [if_neg (by simp)]
  obtain ⟨es, clock, kvs, e1, e2, e3, e4, e5, e6⟩ := hm
  intro w hw
  subst hw
  have hrun : (do let d ← Deferred.ofValue (.func (.func 64) #[] #[]) #[.iface 73 (.map (some m))]; invoke d.target d.args : Sem Next).run Try.prog w = .ok (.value (.iface 73 (.map (some w.heap.size)))) (w.alloc (.map es clock)) := by
    simp only [Deferred.ofValue, Sem.run_bind, Sem.run_pure, Result.andThen_ok, invoke]
    rw [show (#[] : Array Value) ++ #[.iface 73 (.map (some m))] ++ #[] = #[.iface 73 (.map (some m))] from rfl]
    rw [run_callFunc_extern (P := Try.prog) (f := 64) Try.func64 (by kernel_rfl) (by kernel_rfl) (by kernel_rfl) (e := Extern.MapsClone.clone) (by kernel_rfl), run_maps_clone_sl w 73 e1]
    rfl
  rw [hrun]
  refine ⟨⟨rfl, rfl, rfl, Kept.push _ _⟩, _, rfl, ?_⟩
  intro w2 hw2
  have f : Frm [] w.heap (w.heap.push (.map es clock)) := Frm.push _ _ _
  refine ⟨.map (some w.heap.size), w2, run_typeAssert_map_sl w2 73 20 _ _ _ Try.underlying73, Same.refl _, some w.heap.size, rfl, _, rfl, rfl, ?_, ?_, ?_⟩
  · rw [hw2]
    exact ⟨es, clock, kvs, get_push_new _ _, e2, e3, e4, e5, e6⟩
  · rw [hw2]; exact f
  · rw [hw2]; show (w.heap.push _).size = _; simp

theorem stn_at {h : Heap} {b : Nat} {c : Array Value} {t : TypeId} {vs : List Value} {K : Heap → Prop} (hb : h[b]? = some (.cells c t (0, 0))) (hk : vs.length = c.size) (hv : vs.all nonAgg = true)
    (hK : ∀ h', h'[b]? = some (.cells vs.toArray t (0, 0)) → Frm [b] h h' → h'.size = h.size → K h') : StN h ⟨b, 0, none⟩ vs K := by
  show chk _ _
  rw [hv]
  refine ⟨fun i hi => ⟨?_, ?_⟩, ?_⟩
  · rw [add_at, Nat.zero_add, cl_at hb, Array.getElem?_eq_getElem (by omega)]; exact ⟨_, rfl⟩
  · rw [add_at]; exact fz_at hb
  · rintro h' rfl
    have key : ∀ (vs pre rest : List Value) (h : Heap), h[b]? = some (.cells (pre ++ rest).toArray t (0, 0)) → vs.length = rest.length → (stN h ⟨b, 0, none⟩ pre.length vs)[b]? = some (.cells (pre ++ vs).toArray t (0, 0)) ∧ Frm [b] h (stN h ⟨b, 0, none⟩ pre.length vs) ∧ (stN h ⟨b, 0, none⟩ pre.length vs).size = h.size := by
      intro vs
      induction vs with
      | nil =>
        intro pre rest h hb hl
        obtain rfl : rest = [] := List.eq_nil_of_length_eq_zero hl.symm
        exact ⟨hb, Frm.refl _ _, rfl⟩
      | cons v vs ih =>
        intro pre rest h hb hl
        cases rest with
        | nil => cases hl
        | cons r rest =>
          simp only [stN, add_at, Nat.zero_add]
          have hst := st_at (k := pre.length) v hb
          have hb2 : (st h ⟨b, pre.length, none⟩ v)[b]? = some (.cells ((pre ++ [v]) ++ rest).toArray t (0, 0)) := by
            rw [hst, get_set (lt_of_get hb)]
            simp
          have := ih (pre ++ [v]) rest _ hb2 (by simpa using hl)
          rw [List.length_append, List.length_singleton] at this
          obtain ⟨h1, h2, h3⟩ := this
          have f1 : Frm [b] h (st h ⟨b, pre.length, none⟩ v) := by rw [hst]; exact Frm.set _ (by simp)
          refine ⟨by simpa using h1, f1.trans h2, h3.trans ?_⟩
          rw [hst]; simp
    obtain ⟨h1, h2, h3⟩ := key vs [] c.toList h (by simpa using hb) (by simpa using hk)
    exact hK _ (by simpa using h1) h2 h3

theorem clone_ok {d : Impl} {s : St} {h : Heap} (hd : d.At s h) :
    CallsH Try.prog 22 #[.pointer (some ⟨d.p, 0, none⟩)] h (fun e h' => ∃ v, e = .returned v ∧ ∃ c : Impl, v = .pointer (some ⟨c.p, 0, none⟩) ∧ c.At s h' ∧ Frm [] h h' ∧ h.size ≤ c.p ∧ h.size ≤ c.mf ∧ h.size ≤ c.mw) := by
  refine c22 _ _ _ ?_
  simp only [add_at, cl_at hd.cells]
  refine ⟨s.many, s.acts, s.fuse, some d.mf, some d.mw, s.off, by simp, ?_⟩
  refine al_intro fun ha ea ga fa sa => ?_
  refine stn_at ga (by simp) rfl fun hb gb fb sb => ?_
  have fab : Frm [] h hb := fa.young fb (by simp)
  have hdb := hd.frm fab (by simp) (by simp) (by simp)
  simp only [cl_at hdb.cells]
  refine ⟨some d.mf, by simp, some d.mw, by simp, ?_⟩
  obtain ⟨g, hg, hgf⟩ := hdb.firm
  refine (clone_map hg).ret ?_
  rintro _ hc ⟨rfl, hmc, fc, sc⟩
  have hdc := hdb.frm fc (by simp) (by simp) (by simp)
  simp only [cl_at hdc.cells]
  refine ⟨some hb.size, rfl, ⟨some d.mw, by simp, rfl⟩, ?_⟩
  refine (clone_map hdc.waits).ret ?_
  rintro _ he ⟨rfl, hme, fe, se⟩
  refine ⟨some hc.size, rfl, ?_⟩
  have g1 := fe.get (fc.get gb (by simp)) (by simp)
  refine st1_at g1 (by simp) rfl fun h4 e4 g4 f4 s4 => ?_
  refine st1_at g4 (by simp) rfl fun h5 e5 g5 f5 s5 => ?_
  have ff := f4.trans f5
  refine ⟨_, rfl, ⟨h.size, hb.size, hc.size⟩, rfl, ⟨by simpa [Impl.cellsOf] using g5, ?_, ?_, g, ?_, hgf⟩, ?_, by simp, ?_, ?_⟩
  · show hb.size ≠ hc.size; omega
  · exact hme.frm ff (by simp; omega)
  · exact (hmc.frm fe (by simp)).frm ff (by simp; omega)
  · exact (fab.trans (fc.trans fe)).young ff (by simp)
  · show h.size ≤ hb.size; omega
  · show h.size ≤ hc.size; omega
end Go.Proofs.Ytpekdeeagnfecaa
