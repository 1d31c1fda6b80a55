/- ScopeOnce: the walk. -/
import Derived.Test.YtoldgeolocfmiaaS13
import Derived.DataElems
namespace Go.Proofs.Ytoldgeolocfmiaa
open Go Go.Proofs Go.Proofs.Ytoldgeolocfmiaa.V
/-! ## Places of names -/

/-- Where a name stands, from 1 on; 0: nowhere. -/
def pos : List ByteArray → ByteArray → Nat
  | [], _ => 0
  | a :: r, s => if a = s then 1 else if pos r s = 0 then 0 else pos r s + 1
theorem pos_zero : ∀ {l : List ByteArray} {s : ByteArray}, pos l s = 0 ↔ s ∉ l
  | [], s => by simp [pos]
  | a :: r, s => by
    have ih := pos_zero (l := r) (s := s)
    simp only [pos, List.mem_cons, not_or]
    by_cases e : a = s
    · simp [e]
    · rw [if_neg e]
      by_cases z : pos r s = 0
      · rw [if_pos z]; simp [Ne.symm e, ih.1 z]
      · rw [if_neg z]; simp only [Nat.add_eq_zero_iff, Nat.one_ne_zero, and_false, false_iff, not_and]
        intro _ h; exact z (ih.2 h)
theorem pos_snoc : ∀ {l : List ByteArray} {s : ByteArray} (_ : s ∉ l) (t : ByteArray), pos (l ++ [s]) t = if s = t then l.length + 1 else pos l t
  | [], s, _, t => by simp [pos]
  | a :: r, s, h, t => by
    simp only [List.mem_cons, not_or] at h
    have ih := pos_snoc h.2 t
    simp only [List.cons_append, pos, ih]
    by_cases e : s = t
    · subst e
      rw [if_neg (Ne.symm h.1)]
      simp
    · simp [e]
theorem pos_get : ∀ {l : List ByteArray} (_ : l.Nodup) {i : Nat} {s : ByteArray}, l[i]? = some s → pos l s = i + 1
  | [], _, i, s, h => by simp at h
  | a :: r, hnd, 0, s, h => by
    simp at h; subst h; simp [pos]
  | a :: r, hnd, i + 1, s, h => by
    simp only [List.getElem?_cons_succ] at h
    have hn := List.nodup_cons.1 hnd
    have hm := List.mem_of_getElem? h
    have ne : a ≠ s := fun e => hn.1 (e ▸ hm)
    have ih := pos_get hn.2 h
    simp [pos, ne, ih]
def placesOf (l : List ByteArray) (s : ByteArray) : Option Int := if pos l s = 0 then none else some (pos l s : Int)
theorem places_get (l : List ByteArray) (s : ByteArray) : ((placesOf l s).map fun n => Value.int .i64 n).getD (.int .i64 0) = .int .i64 (pos l s : Int) := by
  unfold placesOf
  split
  · rename_i h; rw [h]; rfl
  · rfl
theorem adds_ext : ∀ (l out : List ByteArray), ∃ t, adds out l = out ++ t
  | [], out => ⟨[], by simp [adds]⟩
  | s :: l, out => by
    rw [adds_cons]
    obtain ⟨t, e⟩ := adds_ext l (addN out s)
    rw [e]
    unfold addN
    split
    · exact ⟨t, rfl⟩
    · exact ⟨[s] ++ t, by simp⟩

theorem nodes_take {h : Heap} {a : Option Addr} {n c : Nat} {l : List ND} (hl : NodesAt h a n l) {m : Nat} (hm : m ≤ n) : NodesAt h (sla a c 0 6) m (l.take m) := by
  refine ⟨by rw [List.length_take, hl.1]; omega, fun i k hi => ?_⟩
  have hlt := (List.getElem?_eq_some_iff.1 hi).1
  rw [List.length_take] at hlt
  rw [List.getElem?_take_of_lt (by omega)] at hi
  obtain ⟨ad, y, e, h1, h2⟩ := hl.2 i k hi
  refine ⟨ad, y, ?_, h1, h2⟩
  unfold sla
  split
  · exact e
  · rw [e]; simp [Addr.add]
theorem nodes_drop {h : Heap} {a : Option Addr} {n c : Nat} {l : List ND} (hl : NodesAt h a n l) (hc : n ≤ c) {m : Nat} (hm : m ≤ n) : NodesAt h (sla a c m 6) (n - m) (l.drop m) := by
  refine ⟨by rw [List.length_drop, hl.1], fun i k hi => ?_⟩
  have hlt := (List.getElem?_eq_some_iff.1 hi).1
  rw [List.length_drop, hl.1] at hlt
  rw [List.getElem?_drop] at hi
  obtain ⟨ad, y, e, h1, h2⟩ := hl.2 (m + i) k hi
  have eq : (ad.add (m * 6)).add (i * 6) = ad.add ((m + i) * 6) := by rw [Addr.add_add]; congr 1; omega
  refine ⟨ad.add (m * 6), y, ?_, by rw [eq]; exact h1, h2⟩
  rw [sla, if_neg (by omega), e]; rfl

/-- What statements declare. -/
def declsOf (l : List ND) : List ByteArray := decls (ND.deepAll l + 1) l
theorem declsOf_append (l l' : List ND) : declsOf (l ++ l') = declsOf l ++ declsOf l' := by
  have h := deepAll_append l l'
  unfold declsOf
  rw [decls_succ, List.flatMap_append, ← decls_succ, ← decls_succ]
  rw [decls_more (ND.deepAll (l ++ l') + 1) (ND.deepAll l + 1) l (by omega) (by omega), decls_more (ND.deepAll (l ++ l') + 1) (ND.deepAll l' + 1) l' (by omega) (by omega)]
def varsOf (l : List ND) : List ByteArray := adds [] (declsOf l)
theorem varsOf_nodup (l : List ND) : (varsOf l).Nodup := adds_nodup _ _ (by simp)
theorem varsOf_length (l : List ND) : (varsOf l).length ≤ ND.sizeAll l := by
  have h1 := adds_length (declsOf l) []
  have h2 := decls_length (ND.deepAll l + 1) l
  simp only [List.length_nil, Nat.zero_add] at h1
  exact Nat.le_trans h1 h2
theorem varsL_ok {h : Heap} {a : Option Addr} {n c : Nat} {l : List ND} (hl : NodesAt h a n l) (hs : ND.sizeAll l ≤ 4398046511104) :
    CallsH Try.prog 16 #[.slice a n c] h fun e h' => ∃ v, e = .returned v ∧ OutAt h' h.size v (varsOf l) ∧ Frm [] h h' := vars_ok _ hl (Nat.le_refl _) hs

abbrev KS : ByteArray → Value := fun s => .string s
abbrev VN : Int → Value := fun n => .int .i64 n

theorem deepAll_take (l : List ND) (m : Nat) : ND.sizeAll (l.take m) ≤ ND.sizeAll l ∧ ND.sizeAll (l.drop m) ≤ ND.sizeAll l := by
  have := sizeAll_append (l.take m) (l.drop m)
  rw [List.take_append_drop] at this
  omega

theorem at_range (n3 : Int) {n : Nat} (hn : 0 < n) : -(n : Int) < Int.tmod n3 n ∧ Int.tmod n3 n < n ∧ 0 ≤ Int.tmod (Int.tmod n3 n + n) n ∧ Int.tmod (Int.tmod n3 n + n) n < n := by
  have hpos : (0 : Int) < n := by omega
  have h1 : -(n : Int) < Int.tmod n3 n := Int.lt_tmod_of_pos _ hpos
  have h2 : Int.tmod n3 n < n := Int.tmod_lt_of_pos _ hpos
  refine ⟨h1, h2, Int.tmod_nonneg _ (by omega), Int.tmod_lt_of_pos _ hpos⟩

/-- A map that tells the places of names. -/
theorem place_read {h : Heap} {m : Nat} {L : List ByteArray} (hm : MapAt h m KS VN (placesOf L)) (s : ByteArray) {G : Value → Prop} (hk : G (.int .i64 (pos L s : Int))) :
    ReadH Try.prog (Instr.lookup 32 (.map (some m)) (.string s) false) h G := by
  refine lookup_run (K := KS) (V := VN) (keyStr (kt := 9) (by kernel_rfl)) (et := 3) (z := .int .i64 0) (by kernel_rfl) (by kernel_rfl) hm s false ?_
  simp only [Bool.false_eq_true, if_false]
  rw [places_get]; exact hk
theorem place_write {h : Heap} {m : Nat} {L : List ByteArray} (hm : MapAt h m KS VN (placesOf L)) {s : ByteArray} (hs : s ∉ L) {G : Unit → Heap → Prop}
    (hk : ∀ h', MapAt h' m KS VN (placesOf (L ++ [s])) → Frm [m] h h' → G () h') :
    RunH Try.prog (Instr.mapUpdate 32 (.map (some m)) (.string s) (.int .i64 ((L.length : Int) + 1))) h G := by
  refine update_run (K := KS) (V := VN) (keyStr (kt := 9) (by kernel_rfl)) (et := 3) (by kernel_rfl) hm s ((L.length : Int) + 1) fun h' hm' f _ => hk h' (hm'.congr fun y => ?_) f
  unfold placesOf
  rw [pos_snoc hs]
  by_cases e : s = y
  · simp [e]
  · simp [e]

set_option maxRecDepth 20000 in
set_option maxHeartbeats 1000000 in
theorem once_ok {h : Heap} (hm : MaxOk h) {a : Option Addr} {n c : Nat} {l : List ND} (hl : NodesAt h a n l) (hc : n ≤ c) (hs : ND.sizeAll l ≤ 1099511627776) (n3 : Int) :
    Ret Try.prog 4 #[.slice a n c, .int .i64 n3] h (.bool true) := by
  refine .mk fun R hR => c4 _ _ _ _ _ _ ?_
  have hn : n ≤ 1099511627776 := by have := ND.length_le l; have := hl.1; omega
  refine (live_ok hm).use fun h1 f1 => ⟨_, rfl, ?_⟩
  refine (varsL_ok (hl.frm f1) (by omega)).mono ?_
  rintro e h2 ⟨v, rfl, o2, f2⟩
  have hV := varsOf_length l
  have hnd := varsOf_nodup l
  generalize hVe : varsOf l = V at *
  obtain ⟨a2, c2, rfl⟩ := o2.slice
  have F2 := f1.trans f2
  refine endH_ret ⟨_, _, _, rfl, fun k h3 hk e3 => ?_⟩
  subst hk
  have f3 : Frm [] h2 h3 := e3 ▸ Frm.push _ _ _
  have m3 : MapAt h3 h2.size KS VN (placesOf []) := by rw [e3]; exact (MapAt.new h2 KS VN).congr fun y => rfl
  have F3 := F2.trans f3
  have hb2 := own_block_old o2 (Frm.refl _ _)
  refine loop_nat (N := V.length) (X := fun k h' => Frm [] h h' ∧ Frm [h2.size] h3 h' ∧ MapAt h' h2.size KS VN (placesOf (V.take k))) ⟨F3, Frm.refl _ _, m3⟩ ?_
  rintro k h4 hk ⟨F4, f34, m4⟩ I μ step
  have o4 : OutAt h4 h1.size (.slice a2 V.length c2) V := Go.Proofs.Ytoldgeolocfmiaa.V.Own.frm f34 (o2.frm f3) fun b hb hm' => by
    have := (hb2 b (by simpa [blockOf] using hb)).2
    rw [List.mem_singleton.1 hm'] at this
    omega
  rw [cnd_if]
  by_cases hlt : k < V.length
  · rw [if_pos (by simpa using hlt)]
    have hi : V[k]? = some (V[k]'hlt) := List.getElem?_eq_getElem _
    generalize V[k]'hlt = s at hi
    obtain ⟨ad, rfl, hcl⟩ := o4.strs.2 k s hi
    refine ⟨by omega, by omega, (show onSome _ _ from ?_)⟩
    simp only [onSome_some', Int.toNat_natCast, Nat.mul_one]
    have hnot : s ∉ V.take k := by
      intro hmem
      obtain ⟨i, hi'⟩ := List.getElem?_of_mem hmem
      have h1 := (List.getElem?_eq_some_iff.1 hi').1
      rw [List.length_take] at h1
      rw [List.getElem?_take_of_lt (by omega)] at hi'
      have := pos_get hnd hi
      have := pos_get hnd hi'
      omega
    refine ⟨s, hcl, place_read m4 s ⟨_, rfl, ?_⟩⟩
    rw [pos_zero.2 hnot, cnd_if, if_neg (by simp)]
    refine ⟨in64 (by omega) (by omega), ?_⟩
    have hlen : (V.take k).length = k := by rw [List.length_take]; omega
    have := place_write m4 hnot (G := fun _ h24 => In64 ((k : Int) + 1) ∧ I [.int .i64 ((k : Int) + 1)] h24 ∧ μ [.int .i64 ((k : Int) + 1)] h24 < μ [.int .i64 (k : Int)] h4) fun h5 m5 f5 => ⟨in64 (by omega) (by omega), step h5 hlt ⟨F4.young f5 (by have := F2.1; simpa using this), f34.trans f5, ?_⟩⟩
    · rw [hlen] at this; exact this
    · rw [List.take_add_one, hi]; exact m5
  · rw [if_neg (by simpa using hlt)]
    rw [List.take_of_length_le (by omega)] at m4
    rw [cnd_if]
    have fin : ∀ h', Frm [] h4 h' → R (.returned (.bool true)) h' := fun h' f' => hR h' (F4.trans f')
    by_cases zn : n = 0
    · rw [if_pos (by simp [zn]), cnd_if, if_pos rfl]
      refine fin_bool ?_ (fin _ (Frm.refl _ _))
      have : l = [] := List.length_eq_zero_iff.1 (by have := hl.1; omega)
      subst this
      have : V = [] := by rw [← hVe]; rfl
      subst this; rfl
    rw [if_neg (by simpa using zn)]
    obtain ⟨r1, r2, r3, r4⟩ := at_range n3 (show 0 < n by omega)
    generalize hat : Int.tmod (Int.tmod n3 n + n) n = atI at r3 r4 ⊢
    obtain ⟨at_, rfl⟩ : ∃ m : Nat, atI = (m : Int) := ⟨atI.toNat, by omega⟩
    have hat' : at_ ≤ n := by omega
    refine ⟨by omega, in64 (by omega) (by omega), by omega, by omega, by omega, by omega, ?_⟩
    simp only [Int.toNat_natCast, Int.toNat_zero, Nat.sub_zero]
    have hst := deepAll_take l at_
    have happ : declsOf l = declsOf (l.take at_) ++ declsOf (l.drop at_) := by rw [← declsOf_append, List.take_append_drop]
    refine (varsL_ok (nodes_take (c := c) (hl.frm F4) hat') (by omega)).mono ?_
    rintro e h5 ⟨v5, rfl, o5, f5⟩
    obtain ⟨a5, c5, rfl⟩ := o5.slice
    have hA := varsOf_length (l.take at_)
    obtain ⟨t, ht⟩ := adds_ext (declsOf (l.drop at_)) (varsOf (l.take at_))
    have hVA : V = varsOf (l.take at_) ++ t := by rw [← ht, ← hVe, varsOf, happ, adds_append]; rfl
    refine endH_ret ⟨_, _, _, rfl, ?_⟩
    refine loop_two (N := (varsOf (l.take at_)).length) (a0 := 0) (X := fun k x h' => h' = h5 ∧ x = (k : Int)) ⟨rfl, rfl⟩ ?_
    rintro k x h6 hk' ⟨rfl, rfl⟩ I' μ' step'
    have m6 := m4.frm f5 (by simp)
    rw [cnd_if]
    by_cases hlt' : k < (varsOf (l.take at_)).length
    · rw [if_pos (by simpa using hlt')]
      have hi : (varsOf (l.take at_))[k]? = some ((varsOf (l.take at_))[k]'hlt') := List.getElem?_eq_getElem _
      generalize (varsOf (l.take at_))[k]'hlt' = s at hi
      obtain ⟨ad, eb, hcl⟩ := o5.strs.2 k s hi
      have hp : pos V s = k + 1 := pos_get hnd (by rw [hVA, List.getElem?_append_left hlt']; exact hi)
      refine ⟨by omega, by omega, ?_⟩
      rw [eb]
      refine (show onSome _ _ from ?_)
      simp only [onSome_some', Int.toNat_natCast, Nat.mul_one]
      refine ⟨s, hcl, place_read m6 s ⟨_, rfl, ?_⟩⟩
      rw [hp, cnd_if, if_neg (by simp only [decide_eq_true_eq]; omega)]
      refine place_read m6 s ⟨_, rfl, in64 (by omega) (by omega), step' _ h6 hlt' ⟨rfl, by rw [hp]⟩⟩
    · rw [if_neg (by simpa using hlt')]
      refine ⟨by omega, by omega, by omega, ?_⟩
      refine (varsL_ok (nodes_drop (hl.frm (F4.trans f5)) hc hat') (by omega)).mono ?_
      rintro e h7 ⟨v7, rfl, o7, f7⟩
      obtain ⟨a7, c7, rfl⟩ := o7.slice
      refine endH_ret ⟨_, _, _, rfl, ?_⟩
      refine loop_nat (N := (varsOf (l.drop at_)).length) (X := fun k h' => h' = h7) rfl ?_
      rintro j h8 hj rfl I2 μ2 step2
      have m8 := m6.frm f7 (by simp)
      have hB := varsOf_length (l.drop at_)
      rw [cnd_if]
      by_cases hlt2 : j < (varsOf (l.drop at_)).length
      · rw [if_pos (by simpa using hlt2)]
        have hi : (varsOf (l.drop at_))[j]? = some ((varsOf (l.drop at_))[j]'hlt2) := List.getElem?_eq_getElem _
        have hmem := List.mem_of_getElem? hi
        generalize (varsOf (l.drop at_))[j]'hlt2 = s at hi hmem
        obtain ⟨ad, eb, hcl⟩ := o7.strs.2 j s hi
        have hp : pos V s ≠ 0 := by
          rw [ne_eq, pos_zero, Classical.not_not, ← hVe, varsOf, mem_adds, happ]
          rcases mem_adds.1 hmem with h | h
          · simp at h
          · exact .inr (List.mem_append_right _ h)
        refine ⟨by omega, by omega, ?_⟩
        rw [eb]
        refine (show onSome _ _ from ?_)
        simp only [onSome_some', Int.toNat_natCast, Nat.mul_one]
        refine ⟨s, hcl, place_read m8 s ⟨_, rfl, ?_⟩⟩
        rw [cnd_if, if_neg (by simpa using hp)]
        exact ⟨in64 (by omega) (by omega), step2 h8 hlt2 rfl⟩
      · rw [if_neg (by simpa using hlt2)]
        exact fin _ (f5.trans f7)
end Go.Proofs.Ytoldgeolocfmiaa
