/- States of a disk. -/
import Derived.Test.YtpekdeeagnfecaaC1
namespace Go.Proofs.Ytpekdeeagnfecaa
open Go Go.Proofs Go.Proofs.Ytpekdeeagnfecaa.V
abbrev KI : Int → Value := fun n => Value.int .i64 n
abbrev VS : ByteArray → Value := fun s => Value.string s
/-- An ascending list of numbers, none twice. -/
def Asc (l : List Int) : Prop := l.Pairwise (· < ·)
structure St where
  many : Int
  acts : Int
  fuse : Int
  off : Bool
  firm : Int → ByteArray
  waits : Int → Option ByteArray
def St.refused (s : St) (i : Int) : Int := if s.off then 160 else if i < 0 ∨ s.many ≤ i then 4 else 0
def St.actCode (s : St) : Int := if s.fuse = 0 then 160 else 0
def St.act (s : St) : St :=
  if s.fuse = 0 then { s with off := true } else { s with fuse := if 0 < s.fuse then s.fuse - 1 else s.fuse, acts := s.acts + 1 }
/-- What may be asked of the numbers. -/
def St.fits (s : St) : Prop := -9223372036854775808 < s.fuse ∧ s.fuse ≤ 9223372036854775807 ∧ 0 ≤ s.acts ∧ s.acts < 1000000000
def zeros : ByteArray := ⟨Array.replicate 4096 0⟩
theorem map_ne_cells {α β : Type} [DecidableEq α] {h : Heap} {m b : Nat} {K : α → Value} {V : β → Value} {f : α → Option β} {c : Array Value} {t : TypeId} {fr : Nat × Nat}
    (hm : MapAt h m K V f) (hb : h[b]? = some (.cells c t fr)) : b ≠ m := by
  rintro rfl
  obtain ⟨es, c', e⟩ := hm.is
  rw [hb] at e; cases e
theorem own_slice {h : Heap} {base : Nat} {e : TypeId} {size : Nat} {v : Value} {n : Nat} {xs : List Value} (ho : Own h base e size v n xs) : ∃ a c, v = .slice a n c := by
  rcases ho.2 with ⟨rfl, rfl⟩ | ⟨g, cap, cur, rfl, _⟩
  · exact ⟨none, 0, rfl⟩
  · exact ⟨_, cap, rfl⟩
theorem own_base {h : Heap} {b b' : Nat} {e : TypeId} {size : Nat} {v : Value} {n : Nat} {xs : List Value} (ho : Own h b e size v n xs) (hb : b' ≤ b) : Own h b' e size v n xs := by
  refine ⟨ho.1, ho.2.imp id ?_⟩
  rintro ⟨g, cap, cur, h1, h2, h3⟩
  exact ⟨g, cap, cur, h1, Nat.le_trans hb h2, h3⟩
/-- What waits, told of a state: ascending. -/
def St.waiting (s : St) (l : List Int) : Prop := Asc l ∧ ∀ k, k ∈ l ↔ s.waits k ≠ none
/-- The sectors that wait are sectors. -/
def St.inside (s : St) : Prop := s.many ≤ 100000 ∧ ∀ k, s.waits k ≠ none → 0 ≤ k ∧ k < s.many
/-- A new disk's state. -/
def St.new (n : Int) : St := { many := n, acts := 0, fuse := -1, off := false, firm := fun _ => zeros, waits := fun _ => none }
/-- A state that is one: sectors of 4096 bytes. -/
structure St.Ok (s : St) : Prop where
  many : 1 ≤ s.many ∧ s.many ≤ 2048
  waits : ∀ k t, s.waits k = some t → 0 ≤ k ∧ k < s.many ∧ t.size = 4096
  firm : ∀ k, 0 ≤ k → k < s.many → (s.firm k).size = 4096
theorem St.Ok.inside {s : St} (ho : s.Ok) : s.inside := ⟨by have := ho.many; omega, fun k hk => by
  cases h : s.waits k with
  | none => exact absurd h hk
  | some t => have := ho.waits k t h; exact ⟨this.1, this.2.1⟩⟩
theorem zeros_size : zeros.size = 4096 := by simp [zeros, ByteArray.size]
theorem made_one (v : Value) (n : Nat) : madeCells #[v] n = Array.replicate n v := by
  apply Array.ext
  · simp [madeCells]
  · intro i h1 h2
    simp [madeCells, Nat.mod_one]
theorem bv_replicate (n : Nat) : bv ⟨Array.replicate n 0⟩ = List.replicate n (.int .u8 0) := by
  simp only [bv, Array.toList_replicate, List.map_replicate]
  rfl
theorem made_zeros : (madeCells #[.int .u8 0] 4096).toList = bv zeros := by
  rw [made_one, Array.toList_replicate]
  exact (bv_replicate 4096).symm
def St.read (s : St) (i : Int) : ByteArray := (s.waits i).getD (s.firm i)
theorem St.read_size {s : St} (ho : s.Ok) {i : Int} (h0 : 0 ≤ i) (h1 : i < s.many) : (s.read i).size = 4096 := by
  unfold St.read
  cases h : s.waits i with
  | none => exact ho.firm i h0 h1
  | some t => exact (ho.waits i t h).2.2
theorem refused_zero {s : St} {i : Int} (h : s.refused i = 0) : s.off = false ∧ 0 ≤ i ∧ i < s.many := by
  unfold St.refused at h
  split at h
  · simp at h
  · split at h
    · simp at h
    · rename_i h1 h2
      exact ⟨by simpa using h1, by omega, by omega⟩
def St.writeCode (s : St) (i : Int) (b : ByteArray) : Int := if s.refused i ≠ 0 then s.refused i else if b.size ≠ 4096 then 2 else s.actCode
def St.write (s : St) (i : Int) (b : ByteArray) : St :=
  if s.refused i ≠ 0 then s else if b.size ≠ 4096 then s else if s.fuse = 0 then s.act else { s.act with waits := fun y => if i = y then some b else s.waits y }
theorem slrow_frm {L : List Nat} {h h' : Heap} (f : Frm L h h') {a : Option Addr} {n : Nat} {xs : List Value} (r : SlRow h a n xs) (hn : ∀ ad, a = some ad → ad.block ∉ L) : SlRow h' a n xs :=
  ⟨r.1, r.2.imp id fun ⟨ad, e, hr⟩ => ⟨ad, e, hr.frm f (hn ad e)⟩⟩
theorem get_of_mem {α β : Type} [DecidableEq α] : ∀ {kvs : List (α × β)} {k : α} {v : β}, (kvs.map (·.1)).Nodup → (k, v) ∈ kvs → get? kvs k = some v
  | [], _, _, _, h => by cases h
  | (a, b) :: r, k, v, hn, h => by
    simp only [List.map_cons, List.nodup_cons] at hn
    simp only [get?]
    rcases List.mem_cons.1 h with h | h
    · simp only [Prod.mk.injEq] at h
      rw [if_pos h.1.symm, h.2]
    · rw [if_neg ?_]
      · exact get_of_mem hn.2 h
      · rintro rfl
        exact hn.1 (List.mem_map.2 ⟨(a, v), h, rfl⟩)
theorem mem_of_get {α β : Type} [DecidableEq α] : ∀ {kvs : List (α × β)} {k : α} {v : β}, get? kvs k = some v → (k, v) ∈ kvs
  | [], _, _, h => by cases h
  | (a, b) :: r, k, v, h => by
    simp only [get?] at h
    split at h
    · rename_i e
      simp only [Option.some.injEq] at h
      rw [e, h]; exact List.mem_cons_self
    · exact List.mem_cons_of_mem _ (mem_of_get h)
def St.flushCode (s : St) : Int := if s.refused 0 ≠ 0 then s.refused 0 else s.actCode
def St.flush (s : St) : St := if s.refused 0 ≠ 0 then s else if s.fuse = 0 then s.act else { s.act with firm := s.read, waits := fun _ => none }
/-- What a cut makes firm. -/
def cutF (w : Int → Option ByteArray) : List Int → List UInt8 → (Int → ByteArray) → Int → ByteArray
  | i :: l, m :: ms, f => cutF w l ms (if m.toNat % 2 = 1 then fun y => if i = y then (w i).getD f' else f y else f)
  | _, _, f => f
where f' : ByteArray := ⟨#[]⟩
def St.cut (s : St) (l : List Int) (mask : List UInt8) : St := { s with firm := cutF s.waits l mask s.firm, waits := fun _ => none, off := true, fuse := -1 }
theorem odd_all : ∀ n : Fin 256, (ibit .and .u8 ((n.val : Nat) : Int) 1 == 1) = decide (n.val % 2 = 1) := by decide +kernel
theorem odd_and (m : UInt8) : (ibit .and .u8 (m.toNat : Int) 1 == 1) = decide (m.toNat % 2 = 1) := odd_all ⟨m.toNat, m.toNat_lt⟩
theorem odd_rem (m : UInt8) : (Int.tmod (m.toNat : Int) 2 == 1) = decide (m.toNat % 2 = 1) := by
  rw [Int.tmod_eq_emod_of_nonneg (by omega), Bool.eq_iff_iff]
  simp only [beq_iff_eq, decide_eq_true_eq]
  omega
theorem own_row {h : Heap} {base : Nat} {e : TypeId} {a : Option Addr} {n c : Nat} {xs : List Value} (ho : Own h base e 1 (.slice a n c) n xs) {i : Nat} (hi : i < n) :
    ∃ g, a = some ⟨g, 0, none⟩ ∧ base ≤ g ∧ ∃ v, xs[i]? = some v ∧ cl h ⟨g, i, none⟩ = some v := by
  rcases ho.2 with ⟨h1, h2⟩ | ⟨g, cap, cur, h1, hb, hg, hc, _, hs, ht⟩
  · omega
  · simp only [Value.slice.injEq] at h1
    refine ⟨g, h1.1, hb, ?_⟩
    have hlt : i < cur.size := by omega
    refine ⟨cur[i], ?_, by rw [cl_at hg, Array.getElem?_eq_getElem hlt]⟩
    rw [← ht, List.getElem?_take_of_lt (by omega), List.getElem?_eq_getElem (by rw [Array.length_toList]; exact hlt)]
    simp
theorem own_frm {L : List Nat} {h h' : Heap} (f : Frm L h h') {base : Nat} {e : TypeId} {size : Nat} {v : Value} {n : Nat} {xs : List Value} (ho : Own h base e size v n xs) (hn : ∀ b, v.ownBlock = some b → b ∉ L) : Own h' base e size v n xs := by
  refine ⟨ho.1, ho.2.imp id ?_⟩
  rintro ⟨g, cap, cur, rfl, h2, h3, h4⟩
  exact ⟨g, cap, cur, rfl, h2, f.get h3 (hn g rfl), h4⟩
theorem cutF_step (w : Int → Option ByteArray) {wl : List Int} {ms : List UInt8} {n : Nat} {i : Int} (hn : wl[n]? = some i) (f : Int → ByteArray) :
    cutF w (wl.drop n) (ms.drop n) f = cutF w (wl.drop (n + 1)) (ms.drop (n + 1))
      (match ms[n]? with | some m => if m.toNat % 2 = 1 then fun y => if i = y then (w i).getD ⟨#[]⟩ else f y else f | none => f) := by
  obtain ⟨hl, e⟩ := List.getElem?_eq_some_iff.1 hn
  rw [List.drop_eq_getElem_cons hl, e]
  rcases Nat.lt_or_ge n ms.length with hm | hm
  · rw [List.drop_eq_getElem_cons hm, List.getElem?_eq_getElem hm]
    simp only [cutF]
    split <;> rfl
  · rw [List.drop_of_length_le hm, List.drop_of_length_le (Nat.le_succ_of_le hm), List.getElem?_eq_none hm]
    have : ∀ l : List Int, cutF w l [] f = f := fun l => by cases l <;> rfl
    rw [this, this]
theorem cutF_end (w : Int → Option ByteArray) {wl : List Int} {ms : List UInt8} {n : Nat} (hn : wl.length ≤ n) (f : Int → ByteArray) : cutF w (wl.drop n) (ms.drop n) f = f := by
  rw [List.drop_of_length_le hn]; rfl
theorem bv_at {s : ByteArray} {i : Nat} (hi : i < s.size) : ∃ m, s.data.toList[i]? = some m ∧ (bv s)[i]? = some (.int .u8 (m.toNat : Int)) := by
  have hl : i < s.data.toList.length := by rw [Array.length_toList]; exact hi
  exact ⟨s.data.toList[i], List.getElem?_eq_getElem hl, by simp only [bv, List.getElem?_map, List.getElem?_eq_getElem hl]; rfl⟩
theorem asc_unique : ∀ {l l' : List Int}, Asc l → Asc l' → (∀ k, k ∈ l ↔ k ∈ l') → l = l'
  | [], [], _, _, _ => rfl
  | [], b :: _, _, _, h => by have := (h b).2 List.mem_cons_self; simp at this
  | a :: _, [], _, _, h => by have := (h a).1 List.mem_cons_self; simp at this
  | a :: l, b :: l', h1, h2, h => by
    obtain ⟨a1, a2⟩ := List.pairwise_cons.1 h1
    obtain ⟨b1, b2⟩ := List.pairwise_cons.1 h2
    have hab : a = b := by
      rcases List.mem_cons.1 ((h a).1 List.mem_cons_self) with e | e
      · exact e
      · rcases List.mem_cons.1 ((h b).2 List.mem_cons_self) with e' | e'
        · exact e'.symm
        · have := a1 b e'; have := b1 a e; omega
    subst hab
    rw [asc_unique a2 b2 fun k => ?_]
    constructor
    · intro hk
      rcases List.mem_cons.1 ((h k).1 (List.mem_cons_of_mem _ hk)) with e | e
      · have := a1 k hk; omega
      · exact e
    · intro hk
      rcases List.mem_cons.1 ((h k).2 (List.mem_cons_of_mem _ hk)) with e | e
      · have := b1 k hk; omega
      · exact e

/-- What waits among the first n sectors; what waits. -/
def St.wlN (s : St) (n : Nat) : List Int := ((List.range n).map fun k : Nat => (k : Int)).filter fun k => (s.waits k).isSome
def St.wl (s : St) : List Int := s.wlN s.many.toNat
theorem St.wlN_succ (s : St) (n : Nat) : s.wlN (n + 1) = s.wlN n ++ if (s.waits n).isSome then [(n : Int)] else [] := by
  simp only [St.wlN, List.range_succ, List.map_append, List.map_cons, List.map_nil, List.filter_append, List.filter_cons, List.filter_nil]
theorem St.mem_wlN {s : St} {n : Nat} {k : Int} : k ∈ s.wlN n ↔ (0 ≤ k ∧ k < n) ∧ s.waits k ≠ none := by
  simp only [St.wlN, List.mem_filter, List.mem_map, List.mem_range]
  constructor
  · rintro ⟨⟨j, hj, rfl⟩, h⟩
    exact ⟨⟨by omega, by omega⟩, by intro e; rw [e] at h; cases h⟩
  · rintro ⟨⟨h0, h1⟩, h⟩
    exact ⟨⟨k.toNat, by omega, by omega⟩, by cases e : s.waits k; exact absurd e h; rfl⟩
theorem St.asc_wlN (s : St) (n : Nat) : Asc (s.wlN n) := by
  unfold St.wlN Asc
  refine List.Pairwise.filter _ (List.pairwise_map.2 ?_)
  exact List.pairwise_lt_range.imp fun h => by omega
theorem St.wl_length (s : St) (n : Nat) : (s.wlN n).length ≤ n := by
  unfold St.wlN
  exact Nat.le_trans (List.length_filter_le _ _) (by simp)
theorem St.Ok.waiting {s : St} (ho : s.Ok) : s.waiting s.wl := by
  refine ⟨s.asc_wlN _, fun k => ?_⟩
  rw [St.wl, St.mem_wlN]
  refine ⟨fun h => h.2, fun h => ⟨?_, h⟩⟩
  have := ho.inside.2 k h
  have := ho.many
  omega
theorem St.Ok.wl_eq {s : St} (ho : s.Ok) {l : List Int} (h : s.waiting l) : l = s.wl :=
  asc_unique h.1 ho.waiting.1 fun k => (h.2 k).trans (ho.waiting.2 k).symm

theorem act_ok' {s : St} (ho : s.Ok) : s.act.Ok := by
  unfold St.act
  split
  · exact ⟨ho.many, ho.waits, ho.firm⟩
  · exact ⟨ho.many, ho.waits, ho.firm⟩
theorem St.Ok.write {s : St} (ho : s.Ok) (i : Int) (b : ByteArray) : (s.write i b).Ok := by
  unfold St.write
  split
  · exact ho
  · rename_i hc
    split
    · exact ho
    · rename_i hb
      split
      · exact act_ok' ho
      · have hc' : s.refused i = 0 := by simpa using hc
        obtain ⟨_, i0, i1⟩ := refused_zero hc'
        have ha := act_ok' ho
        have hm : s.act.many = s.many := by unfold St.act; split <;> rfl
        refine ⟨ha.many, fun k t hk => ?_, ha.firm⟩
        have hk' : (if i = k then some b else s.waits k) = some t := hk
        show 0 ≤ k ∧ k < s.act.many ∧ t.size = 4096
        rw [hm]
        split at hk'
        · rename_i e
          simp only [Option.some.injEq] at hk'
          subst hk' e
          exact ⟨i0, i1, by simpa using hb⟩
        · exact ho.waits k t hk'
theorem St.Ok.flush {s : St} (ho : s.Ok) : s.flush.Ok := by
  unfold St.flush
  split
  · exact ho
  · split
    · exact act_ok' ho
    · have ha := act_ok' ho
      have hm : s.act.many = s.many := by unfold St.act; split <;> rfl
      exact ⟨ha.many, fun k t hk => (by cases hk), fun k h0 h1 => St.read_size ho h0 (by rw [← hm]; exact h1)⟩
/-- A cut makes firm what waits, or leaves a sector. -/
theorem cutF_is (w : Int → Option ByteArray) : ∀ (l : List Int) (ms : List UInt8) (f : Int → ByteArray) (k : Int), cutF w l ms f k = f k ∨ (k ∈ l ∧ cutF w l ms f k = (w k).getD ⟨#[]⟩)
  | [], _, f, k => .inl rfl
  | _ :: _, [], f, k => .inl rfl
  | i :: l, m :: ms, f, k => by
    simp only [cutF]
    rcases cutF_is w l ms (if m.toNat % 2 = 1 then fun y => if i = y then (w i).getD ⟨#[]⟩ else f y else f) k with h | ⟨h1, h2⟩
    · have h' : cutF w l ms (if m.toNat % 2 = 1 then fun y => if i = y then (w i).getD cutF.f' else f y else f) k = (if m.toNat % 2 = 1 then fun y => if i = y then (w i).getD ⟨#[]⟩ else f y else f) k := h
      rw [h']
      split
      · by_cases e : i = k
        · subst e; exact .inr ⟨List.mem_cons_self, by simp⟩
        · left; simp [e]
      · exact .inl rfl
    · exact .inr ⟨List.mem_cons_of_mem _ h1, h2⟩
theorem St.Ok.cut {s : St} (ho : s.Ok) (mask : List UInt8) : (s.cut s.wl mask).Ok := by
  refine ⟨ho.many, fun k t hk => (by cases hk), fun k h0 h1 => ?_⟩
  show (cutF s.waits s.wl mask s.firm k).size = 4096
  rcases cutF_is s.waits s.wl mask s.firm k with h | ⟨hm, h⟩
  · rw [h]; exact ho.firm k h0 h1
  · rw [h]
    cases hw : s.waits k with
    | none => exact absurd hw ((ho.waiting.2 k).1 hm)
    | some t => exact (ho.waits k t hw).2.2
/-- On. -/
def St.on (s : St) : St := if s.off then { s.cut s.wl [] with off := false } else s
theorem St.Ok.on {s : St} (ho : s.Ok) : s.on.Ok := by
  unfold St.on
  split
  · exact ⟨ho.many, fun k t hk => (by cases hk), (ho.cut []).firm⟩
  · exact ho
theorem St.Ok.fuse {s : St} (ho : s.Ok) (n : Int) : ({ s with fuse := n } : St).Ok := ⟨ho.many, ho.waits, ho.firm⟩
theorem St.Ok.new {n : Int} (h : 1 ≤ n ∧ n ≤ 2048) : (St.new n).Ok := ⟨h, fun k t hk => (by cases hk), fun k _ _ => zeros_size⟩
end Go.Proofs.Ytpekdeeagnfecaa
