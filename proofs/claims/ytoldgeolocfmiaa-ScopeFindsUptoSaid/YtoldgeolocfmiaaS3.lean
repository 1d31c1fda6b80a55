/- Words, names, lists of texts. -/
import Derived.Test.YtoldgeolocfmiaaS2
import Derived.Lib.IndexLaws
import Derived.KernelRfl
namespace Go.Proofs.Ytoldgeolocfmiaa
open Go Go.Proofs Go.Proofs.Ytoldgeolocfmiaa.V
theorem contains_iff (t sub : List UInt8) : Lib.contains t sub = true ↔ sub <:+: t := by
  unfold Lib.contains
  rw [decide_eq_true_eq]
  constructor
  · intro h
    rcases Lib.index_spec t sub with ⟨h1, _⟩ | ⟨i, h1, h2, h3, _⟩
    · omega
    · unfold Lib.occAt at h3
      exact (List.isPrefixOf_iff_prefix.1 h3).isInfix.trans (List.drop_suffix i t).isInfix
  · rintro ⟨p, q, e⟩
    rcases Lib.index_spec t sub with ⟨_, h2⟩ | ⟨i, h1, _⟩
    · have h3 := h2 p.length (by rw [← e]; simp)
      unfold Lib.occAt at h3
      rw [← e, List.append_assoc, List.drop_left] at h3
      have : sub.isPrefixOf (sub ++ q) = true := List.isPrefixOf_iff_prefix.2 ⟨q, rfl⟩
      rw [this] at h3; cases h3
    · omega
theorem indexByte_iff (l : List UInt8) (c : UInt8) : decide (0 ≤ Lib.indexByte l c) = l.any (· == c) := by
  rw [Bool.eq_iff_iff, decide_eq_true_eq, List.any_eq_true]
  constructor
  · intro h
    obtain ⟨o, ho⟩ : ∃ o : Nat, Lib.indexByte l c = o := ⟨(Lib.indexByte l c).toNat, by omega⟩
    exact ⟨c, List.mem_of_getElem? (Lib.indexByte_some ho).1, by simp⟩
  · rintro ⟨x, hx, e⟩
    have e' : x = c := by simpa using e
    subst e'
    have := Lib.indexByte_ge l x
    rcases Int.lt_or_le (Lib.indexByte l x) 0 with h | h
    · obtain ⟨i, hi, e2⟩ := List.getElem_of_mem hx
      exact absurd (by rw [List.getElem?_eq_getElem hi, e2]) (Lib.indexByte_none (l := l) (c := x) (by omega) i)
    · exact h

theorem textOf_cons (w : List UInt8) (ws : List (List UInt8)) : textOf (w :: ws) = 32 :: (w ++ textOf ws) := by simp [textOf]
theorem textOf_head (ws : List (List UInt8)) : ∃ t, textOf ws = 32 :: t := by cases ws <;> simp [textOf]
theorem skip_word {y t : List UInt8} : ∀ {w : List UInt8}, (32 : UInt8) ∉ w → (32 :: y <:+: w ++ t ↔ 32 :: y <:+: t)
  | [], _ => Iff.rfl
  | a :: w, h => by
    rw [List.cons_append, List.infix_cons_iff, skip_word (w := w) fun h1 => h (List.mem_cons_of_mem _ h1)]
    refine ⟨fun h1 => h1.resolve_left fun h2 => ?_, .inr⟩
    rw [List.cons_prefix_cons] at h2
    exact h (by rw [h2.1]; exact List.mem_cons_self)
theorem word_eq {t : List UInt8} : ∀ {s w : List UInt8}, (32 : UInt8) ∉ s → (32 : UInt8) ∉ w → (s ++ [32] <+: w ++ 32 :: t ↔ s = w)
  | [], [], _, _ => by simp
  | [], a :: w, _, h => by
    simp only [List.nil_append, List.cons_append, List.cons_prefix_cons]
    refine ⟨fun h1 => absurd (by rw [← h1.1]; exact List.mem_cons_self) h, fun h1 => by cases h1⟩
  | a :: s, [], h, _ => by
    simp only [List.nil_append, List.cons_append, List.cons_prefix_cons]
    refine ⟨fun h1 => absurd (by rw [h1.1]; exact List.mem_cons_self) h, fun h1 => by cases h1⟩
  | a :: s, b :: w, h1, h2 => by
    simp only [List.cons_append, List.cons_prefix_cons]
    rw [word_eq (s := s) (w := w) (fun h => h1 (List.mem_cons_of_mem _ h)) (fun h => h2 (List.mem_cons_of_mem _ h))]
    simp
theorem text_iff {s : List UInt8} (hs : (32 : UInt8) ∉ s) (hne : s ≠ []) : ∀ {ws : List (List UInt8)}, (∀ w ∈ ws, (32 : UInt8) ∉ w) → (32 :: (s ++ [32]) <:+: textOf ws ↔ s ∈ ws)
  | [], _ => by
    refine ⟨fun h => ?_, fun h => by cases h⟩
    have := h.length_le
    have h1 : 0 < s.length := List.length_pos_iff.2 hne
    simp [textOf] at this
  | w :: ws, h => by
    obtain ⟨t, ht⟩ := textOf_head ws
    have ih := text_iff hs hne (ws := ws) fun x hx => h x (List.mem_cons_of_mem _ hx)
    rw [textOf_cons, List.infix_cons_iff, List.cons_prefix_cons, skip_word (h w List.mem_cons_self), ih, ht, word_eq hs (h w List.mem_cons_self)]
    simp
/-- 'among' in a list of pieces. -/
theorem amongB_eq {ws : List (List UInt8)} (h : ∀ w ∈ ws, (32 : UInt8) ∉ w ∧ w ≠ []) (s : List UInt8) : amongB (textOf ws) s = decide (s ∈ ws) := by
  unfold amongB
  rw [indexByte_iff, Bool.eq_iff_iff]
  simp only [Bool.and_eq_true, decide_eq_true_eq, Bool.not_eq_true', List.isEmpty_eq_false_iff, List.any_eq_false, beq_iff_eq]
  rw [contains_iff]
  constructor
  · rintro ⟨h1, h2, h3⟩
    exact (text_iff (fun hm => h2 _ hm rfl) h1 fun w hw => (h w hw).1).1 h3
  · intro hm
    exact ⟨(h s hm).2, fun x hx e => (h s hm).1 (e ▸ hx), (text_iff (h s hm).1 (h s hm).2 fun w hw => (h w hw).1).2 hm⟩

theorem beq_str (s t : ByteArray) : (s.toList == t.toList) = decide (s = t) := by
  rw [ByteArray.toList_eq, ByteArray.toList_eq, Bool.eq_iff_iff]
  simp only [beq_iff_eq, decide_eq_true_eq]
  constructor
  · intro h
    exact ba_ext (Array.ext' h)
  · rintro rfl; rfl
theorem str_mk (l : List UInt8) : (⟨l.toArray⟩ : ByteArray).data.toList = l := by simp
theorem str_eq_iff (s : ByteArray) (l : List UInt8) : s = ⟨l.toArray⟩ ↔ s.data.toList = l := by
  constructor
  · rintro rfl; simp
  · rintro rfl; exact ba_ext (by simp)

/-- Whether a text is among some. -/
def memB (l : List ByteArray) (s : ByteArray) : Bool := l.any fun t => decide (t = s)
theorem memB_iff (l : List ByteArray) (s : ByteArray) : memB l s = true ↔ s ∈ l := by simp [memB]
theorem memB_take {l : List ByteArray} {k : Nat} {t s : ByteArray} (hk : l[k]? = some t) (h0 : memB (l.take k) s = false) : memB (l.take (k + 1)) s = decide (t = s) := by
  unfold memB at *
  rw [List.take_add_one, hk, List.any_append, h0]
  simp

theorem among_gen {f : FuncId} {h : Heap} (hm : MaxOk h) {t s : ByteArray} (ht : t.size < 4294967281) (hs : s.size ≤ 281474976710656)
    (c : ∀ R : Ending → Heap → Prop, (cnd (!(s.toList == (⟨#[]⟩ : ByteArray).toList)) (CallsH Try.prog 82 #[(.string s), (.string (⟨#[32]⟩ : ByteArray))] h (endH (fun u2 h3 => ∃ (b4 : Bool), u2 = (.bool b4) ∧ cnd (!b4) (((⟨#[32]⟩ : ByteArray).size + s.size ≤ 9223372036854775807 ∧ (((⟨#[32]⟩ : ByteArray) ++ s).size + (⟨#[32]⟩ : ByteArray).size ≤ 9223372036854775807 ∧ CallsH Try.prog 82 #[(.string t), (.string (((⟨#[32]⟩ : ByteArray) ++ s) ++ (⟨#[32]⟩ : ByteArray)))] h3 (endH (fun u5 h6 => ∃ (b7 : Bool), u5 = (.bool b7) ∧ R (.returned (.bool b7)) h6) (fun c h => R (.panicked c) h))))) (R (.returned (.bool false)) h3)) (fun c h => R (.panicked c) h))) (R (.returned (.bool false)) h)) → CallsH Try.prog f #[.string t, .string s] h R) :
    Pur Try.prog f #[.string t, .string s] h (.bool (amongB t.data.toList s.data.toList)) := by
  refine .mk fun R hR => c R ?_
  rw [nil_size]
  have e0 : s.data.toList.isEmpty = decide (s.size = 0) := by
    rw [Bool.eq_iff_iff, List.isEmpty_iff, decide_eq_true_eq, ← List.length_eq_zero_iff, Array.length_toList]
    exact Iff.rfl
  simp only [cnd_if]
  by_cases h0 : s.size = 0
  · rw [if_neg (by simp [h0])]
    exact fin_bool (by simp [amongB, e0, h0]) hR
  · rw [if_pos (by simp [h0])]
    refine contains_one.use ⟨_, rfl, ?_⟩
    have h1 : (⟨#[32]⟩ : ByteArray).size = 1 := rfl
    by_cases h2 : 0 ≤ Lib.indexByte s.data.toList 32
    · rw [if_neg (by simpa using h2)]
      exact fin_bool (by simp [amongB, h2]) hR
    · rw [if_pos (by simpa using h2)]
      refine ⟨by rw [h1]; omega, by rw [ByteArray.size_append, h1]; omega, (contains_ok hm ht).use ⟨_, rfl, fin_bool ?_ hR⟩⟩
      have e : (((⟨#[32]⟩ : ByteArray) ++ s) ++ (⟨#[32]⟩ : ByteArray)).data.toList = 32 :: (s.data.toList ++ [32]) := by simp
      rw [e]
      simp only [amongB, e0, decide_eq_false h0, decide_eq_false h2]
      simp
theorem tamong_ok {h : Heap} (hm : MaxOk h) {t s : ByteArray} (ht : t.size < 4294967281) (hs : s.size ≤ 281474976710656) :
    Pur Try.prog 68 #[.string t, .string s] h (.bool (amongB t.data.toList s.data.toList)) := among_gen hm ht hs fun R hyp => c68 _ _ _ R hyp
theorem kamong_ok {h : Heap} (hm : MaxOk h) {t s : ByteArray} (ht : t.size < 4294967281) (hs : s.size ≤ 281474976710656) :
    Pur Try.prog 83 #[.string t, .string s] h (.bool (amongB t.data.toList s.data.toList)) := among_gen hm ht hs fun R hyp => c83 _ _ _ R hyp

theorem wordL_ok : ∀ w ∈ wordL, (32 : UInt8) ∉ w ∧ w ≠ [] := by decide +kernel
def wordB (s : ByteArray) : Bool := decide (s.data.toList ∈ wordL)
theorem tword_ok {h : Heap} (hm : MaxOk h) {s : ByteArray} (hs : s.size ≤ 281474976710656) : Pur Try.prog 69 #[.string s] h (.bool (wordB s)) := by
  refine .mk fun R hR => c69 _ _ _ ?_
  refine (kamong_ok hm (by decide +kernel) hs).use ⟨_, rfl, fin_bool ?_ hR⟩
  unfold wordB
  rw [← amongB_eq wordL_ok]
  refine congrArg (fun t => amongB t s.data.toList) ?_
  kernel_rfl

theorem rwords_ok (h : Heap) : CallsH Try.prog 78 #[] h fun e h' => ∃ u, e = .returned u ∧ ∃ a, u = .slice a 45 45 ∧ StrsAt h' a 45 (wordL.map fun w => ⟨w.toArray⟩) ∧ Frm [] h h' := by
  refine c78 _ _ ?_
  refine al_intro fun h1 e1 g1 f1 s1 => ⟨_, rfl, _, rfl, ⟨rfl, fun i s hi => ⟨_, rfl, ?_⟩⟩, f1⟩
  rw [add_at, cl_at g1, Nat.zero_add]
  have e : (wordL.map fun w => Value.string ⟨w.toArray⟩)[i]? = some (.string s) := by
    rw [List.getElem?_map] at hi ⊢
    cases hw : wordL[i]? with
    | none => rw [hw] at hi; cases hi
    | some w => rw [hw] at hi; simp only [Option.map_some, Option.some.injEq] at hi ⊢; rw [hi]
  rw [← e, ← Array.getElem?_toList]
  refine congrArg (fun l : List Value => l[i]?) ?_
  kernel_rfl
theorem rword_ok (s : ByteArray) (h : Heap) : Ret Try.prog 58 #[.string s] h (.bool (wordB s)) := by
  refine .mk fun R hR => c58 _ _ _ ?_
  refine (rwords_ok h).ret ?_
  rintro _ h1 ⟨a, rfl, hs, f1⟩
  refine ⟨a, 45, 45, rfl, ?_⟩
  generalize hW : (wordL.map fun w => (⟨w.toArray⟩ : ByteArray)) = W at hs
  have hw : wordB s = memB W s := by
    rw [wordB, Bool.eq_iff_iff, decide_eq_true_eq, memB_iff, ← hW, List.mem_map]
    constructor
    · intro h; exact ⟨_, h, ((str_eq_iff s _).2 rfl).symm⟩
    · rintro ⟨w, h1, h2⟩; rw [(str_eq_iff s w).1 h2.symm]; exact h1
  refine loop_nat (N := 45) (X := fun k h' => h' = h1 ∧ memB (W.take k) s = false) ⟨rfl, rfl⟩ ?_
  rintro k h' hk ⟨rfl, ha⟩ I μ step
  rw [cnd_if]
  by_cases hlt : k < 45
  · rw [if_pos (by simp; omega)]
    have hi := List.getElem?_eq_getElem (l := W) (i := k) (by rw [hs.1]; exact hlt)
    obtain ⟨ad, rfl, hc⟩ := hs.2 k _ hi
    refine ⟨by omega, by omega, (show onSome _ _ from ?_)⟩
    simp only [onSome_some', Int.toNat_natCast, Nat.mul_one]
    refine ⟨_, hc, ?_⟩
    rw [beq_str, cnd_if]
    by_cases e : s = W[k]'(by rw [hs.1]; exact hlt)
    · rw [if_pos (by simpa using e)]
      refine fin_bool ?_ (hR _ f1)
      rw [hw, eq_comm, memB_iff, e]
      exact List.getElem_mem _
    · rw [if_neg (by simpa using e)]
      exact ⟨in64 (by omega) (by omega), step h' hlt ⟨rfl, by rw [memB_take hi ha]; simpa using fun h => e h.symm⟩⟩
  · rw [if_neg (by simp; omega)]
    refine fin_bool ?_ (hR _ f1)
    rw [hw, ← ha, List.take_of_length_le (by rw [hs.1]; omega)]

def nameB (s : ByteArray) : Bool := ident s && !wordB s
theorem ident_size {s : ByteArray} (h : ident s = true) : s.size ≤ 32 := by
  simp only [ident, Bool.and_eq_true, decide_eq_true_eq] at h; exact h.2.1
theorem tname_ok {h : Heap} (hm : MaxOk h) (s : ByteArray) : Pur Try.prog 48 #[.string s] h (.bool (nameB s)) := by
  refine .mk fun R hR => c48 _ _ _ ?_
  refine (tident_ok s h).use ⟨_, rfl, ?_⟩
  rw [cnd_if]
  by_cases hi : ident s = true
  · rw [if_pos hi]
    refine (tword_ok hm (by have := ident_size hi; omega)).use ⟨_, rfl, fin_bool ?_ hR⟩
    simp [nameB, hi]
  · rw [if_neg hi]
    exact fin_bool (by simp [nameB, hi]) hR
theorem rname_ok (s : ByteArray) (h : Heap) : Ret Try.prog 41 #[.string s] h (.bool (nameB s)) := by
  refine .mk fun R hR => c41 _ _ _ ?_
  refine (rident_ok s h).use ⟨_, rfl, ?_⟩
  rw [cnd_if]
  by_cases hi : ident s = true
  · rw [if_pos hi]
    refine (rword_ok s h).use fun h1 f1 => ⟨_, rfl, fin_bool ?_ (hR _ f1)⟩
    simp [nameB, hi]
  · rw [if_neg hi]
    exact fin_bool (by simp [nameB, hi]) (hR _ (Frm.refl _ _))
theorem tnot_ok {h : Heap} (hm : MaxOk h) (s : ByteArray) : Pur Try.prog 47 #[.string s] h (.bool (!nameB s)) := by
  refine .mk fun R hR => c47 _ _ _ ?_
  exact (tname_ok hm s).use ⟨_, rfl, hR⟩

/-- What strict code bans. -/
def bannedB (s : ByteArray) : Bool := decide (s = ⟨#[101, 118, 97, 108]⟩) || decide (s = ⟨#[97, 114, 103, 117, 109, 101, 110, 116, 115]⟩)
theorem banned_ok (s : ByteArray) (h : Heap) : Pur Try.prog 35 #[.string s] h (.bool (bannedB s)) := by
  refine .mk fun R hR => c35 _ _ _ ?_
  rw [beq_str, beq_str, cnd_or]
  exact hR

theorem callV_of {P : Program} {g : Nat} {first cap : Array Value} {args : List Value} {h : Heap} {E : Ending → Heap → Prop} (hb : ((P.funcs.toList[g]?).bind (·.body)).isSome = true)
    (hc : CallsH P g ((first.toList ++ args) ++ cap.toList).toArray h E) : callV P (.func (.func g) first cap) args h E := by
  unfold callV
  obtain ⟨b, e⟩ := Option.isSome_iff_exists.1 hb
  simp only [e]
  exact hc

/-- A test of texts that makes nothing. -/
def Test (v : Value) (p : ByteArray → Bool) (h : Heap) : Prop := ∀ (s : ByteArray) (K : Value → Heap → Prop) (Q : List PanicEntry → Heap → Prop), K (.bool (p s)) h → callV Try.prog v [.string s] h (endH K Q)
theorem test_banned (h : Heap) : Test (.func (.func 35) #[] #[]) bannedB h := fun s _ _ hk => callV_of (by kernel_rfl) ((banned_ok s h).use hk)
theorem test_name {h : Heap} (hm : MaxOk h) : Test (.func (.func 47) #[] #[]) (fun s => !nameB s) h := fun s _ _ hk => callV_of (by kernel_rfl) ((tnot_ok hm s).use hk)

theorem indexFunc_ok {h : Heap} {a : Option Addr} {n c : Nat} {l : List ByteArray} (hs : StrsAt h a n l) (hn : n ≤ 281474976710656) {v : Value} {p : ByteArray → Bool} (hp : Test v p h) :
    CallsH Try.prog 52 #[.slice a n c, v] h fun e h' => ∃ u, e = .returned u ∧ (∃ r : Int, u = .int .i64 r ∧ decide (r ≥ 0) = l.any p) ∧ h' = h := by
  refine c52 _ _ _ _ _ _ ?_
  refine loop_nat (N := n) (X := fun k h' => h' = h ∧ (l.take k).any p = false) ⟨rfl, rfl⟩ ?_
  rintro k h' hk ⟨e1, ha⟩ I μ step
  rw [e1] at step ⊢
  rw [cnd_if]
  by_cases hlt : k < n
  · rw [if_pos (by simpa using hlt)]
    have hi := List.getElem?_eq_getElem (l := l) (i := k) (by rw [hs.1]; exact hlt)
    obtain ⟨ad, rfl, hc⟩ := hs.2 k _ hi
    refine ⟨by omega, by omega, (show onSome _ _ from ?_)⟩
    simp only [onSome_some', Int.toNat_natCast, Nat.mul_one]
    refine ⟨_, hc, hp _ _ _ ⟨_, rfl, ?_⟩⟩
    rw [cnd_if]
    by_cases e : p (l[k]'(by rw [hs.1]; exact hlt)) = true
    · rw [if_pos e]
      refine ⟨_, rfl, ⟨_, rfl, ?_⟩, rfl⟩
      rw [decide_eq_true (by omega), eq_comm, List.any_eq_true]
      exact ⟨_, List.getElem_mem _, e⟩
    · rw [if_neg e]
      exact ⟨in64 (by omega) (by omega), step h hlt ⟨rfl, by rw [List.take_add_one, hi, List.any_append, ha]; simpa using e⟩⟩
  · rw [if_neg (by simpa using hlt)]
    refine ⟨_, rfl, ⟨_, rfl, ?_⟩, rfl⟩
    rw [show decide ((-1 : Int) ≥ 0) = false from rfl, ← ha, List.take_of_length_le (by rw [hs.1]; omega)]
theorem containsFunc_ok {h : Heap} {a : Option Addr} {n c : Nat} {l : List ByteArray} (hs : StrsAt h a n l) (hn : n ≤ 281474976710656) {v : Value} {p : ByteArray → Bool} (hp : Test v p h) :
    Pur Try.prog 36 #[.slice a n c, v] h (.bool (l.any p)) := by
  refine .mk fun R hR => c36 _ _ _ _ _ _ ?_
  refine (indexFunc_ok hs hn hp).ret ?_
  rintro _ h' ⟨⟨r, rfl, e⟩, e2⟩
  rw [e2]
  exact ⟨_, rfl, fin_bool e hR⟩
theorem index_ok {h : Heap} {a : Option Addr} {n c : Nat} {l : List ByteArray} (hs : StrsAt h a n l) (hn : n ≤ 281474976710656) (s : ByteArray) :
    CallsH Try.prog 43 #[.slice a n c, .string s] h fun e h' => ∃ u, e = .returned u ∧ (∃ r : Int, u = .int .i64 r ∧ decide (r ≥ 0) = memB l s) ∧ h' = h := by
  refine c43 _ _ _ _ _ _ ?_
  refine loop_nat (N := n) (X := fun k h' => h' = h ∧ memB (l.take k) s = false) ⟨rfl, rfl⟩ ?_
  rintro k h' hk ⟨e1, ha⟩ I μ step
  rw [e1] at step ⊢
  rw [cnd_if]
  by_cases hlt : k < n
  · rw [if_pos (by simpa using hlt)]
    have hi := List.getElem?_eq_getElem (l := l) (i := k) (by rw [hs.1]; exact hlt)
    obtain ⟨ad, rfl, hc⟩ := hs.2 k _ hi
    refine ⟨by omega, by omega, (show onSome _ _ from ?_)⟩
    simp only [onSome_some', Int.toNat_natCast, Nat.mul_one]
    refine ⟨_, hc, ?_⟩
    rw [beq_str, cnd_if]
    by_cases e : s = l[k]'(by rw [hs.1]; exact hlt)
    · rw [if_pos (by simpa using e)]
      refine ⟨_, rfl, ⟨_, rfl, ?_⟩, trivial⟩
      rw [decide_eq_true (by omega), eq_comm, memB_iff, e]
      exact List.getElem_mem _
    · rw [if_neg (by simpa using e)]
      exact ⟨in64 (by omega) (by omega), step h hlt ⟨rfl, by rw [memB_take hi ha]; simpa using fun h => e h.symm⟩⟩
  · rw [if_neg (by simpa using hlt)]
    refine ⟨_, rfl, ⟨_, rfl, ?_⟩, rfl⟩
    rw [show decide ((-1 : Int) ≥ 0) = false from rfl, ← ha, List.take_of_length_le (by rw [hs.1]; omega)]
theorem scontains_ok {h : Heap} {a : Option Addr} {n c : Nat} {l : List ByteArray} (hs : StrsAt h a n l) (hn : n ≤ 281474976710656) (s : ByteArray) :
    Pur Try.prog 28 #[.slice a n c, .string s] h (.bool (memB l s)) := by
  refine .mk fun R hR => c28 _ _ _ _ _ _ ?_
  refine (index_ok hs hn s).ret ?_
  rintro _ h' ⟨⟨r, rfl, e⟩, e2⟩
  rw [e2]
  exact ⟨_, rfl, fin_bool e hR⟩
theorem has_gen {f : FuncId} {h : Heap} {a : Option Addr} {n c : Nat} {l : List ByteArray} (hs : StrsAt h a n l) (hn : n ≤ 281474976710656) (s : ByteArray)
    (hc : ∀ R : Ending → Heap → Prop, (∃ (I4 : List Value → Heap → Prop) (μ5 : List Value → Heap → Nat), I4 [(.int .i64 (0 : Int))] h ∧ ∀ (n6 : Int) (_D7 : Nat → Value) (h8 : Heap), I4 [(.int .i64 n6)] h8 → cnd (decide (n6 < ((n : Nat) : Int))) ((0 ≤ n6 ∧ n6 < ((n : Nat) : Int) ∧ onSome a fun q9 => ∃ (s10 : ByteArray), cl h8 (q9.add ((n6 : Int).toNat * 1)) = some (.string s10) ∧ cnd (s10.toList == s.toList) (R (.returned (.bool true)) h8) ((In64 (n6 + (1 : Int)) ∧ (I4 [(.int .i64 (n6 + (1 : Int)))] h8 ∧ μ5 [(.int .i64 (n6 + (1 : Int)))] h8 < μ5 [(.int .i64 n6)] h8))))) (R (.returned (.bool false)) h8)) → CallsH Try.prog f #[.slice a n c, .string s] h R) :
    Pur Try.prog f #[.slice a n c, .string s] h (.bool (memB l s)) := by
  refine .mk fun R hR => hc R ?_
  refine loop_nat (N := n) (X := fun k h' => h' = h ∧ memB (l.take k) s = false) ⟨rfl, rfl⟩ ?_
  rintro k h' hk ⟨e1, ha⟩ I μ step
  rw [e1] at step ⊢
  rw [cnd_if]
  by_cases hlt : k < n
  · rw [if_pos (by simpa using hlt)]
    have hi := List.getElem?_eq_getElem (l := l) (i := k) (by rw [hs.1]; exact hlt)
    obtain ⟨ad, rfl, hc⟩ := hs.2 k _ hi
    refine ⟨by omega, by omega, (show onSome _ _ from ?_)⟩
    simp only [onSome_some', Int.toNat_natCast, Nat.mul_one]
    refine ⟨_, hc, ?_⟩
    rw [beq_str, cnd_if]
    by_cases e : l[k]'(by rw [hs.1]; exact hlt) = s
    · rw [if_pos (by simpa using e)]
      refine fin_bool ?_ hR
      rw [eq_comm, memB_iff, ← e]
      exact List.getElem_mem _
    · rw [if_neg (by simpa using e)]
      exact ⟨in64 (by omega) (by omega), step h hlt ⟨rfl, by rw [memB_take hi ha]; simpa using e⟩⟩
  · rw [if_neg (by simpa using hlt)]
    refine fin_bool ?_ hR
    rw [← ha, List.take_of_length_le (by rw [hs.1]; omega)]
theorem rhas_ok {h : Heap} {a : Option Addr} {n c : Nat} {l : List ByteArray} (hs : StrsAt h a n l) (hn : n ≤ 281474976710656) (s : ByteArray) :
    Pur Try.prog 77 #[.slice a n c, .string s] h (.bool (memB l s)) := has_gen hs hn s fun R hyp => c77 _ _ _ _ _ R hyp
theorem shas_ok {h : Heap} {a : Option Addr} {n c : Nat} {l : List ByteArray} (hs : StrsAt h a n l) (hn : n ≤ 281474976710656) (s : ByteArray) :
    Pur Try.prog 30 #[.slice a n c, .string s] h (.bool (memB l s)) := has_gen hs hn s fun R hyp => c30 _ _ _ _ _ R hyp
end Go.Proofs.Ytoldgeolocfmiaa
