/- Bytes, identifiers. -/
import Derived.Test.YtoldgeolocfmiaaK
namespace Go.Proofs.Ytoldgeolocfmiaa
open Go Go.Proofs Go.Proofs.Ytoldgeolocfmiaa.V
theorem Pur.mk {P : Program} {f : FuncId} {args : Array Value} {h : Heap} {v : Value} (H : ∀ R : Ending → Heap → Prop, R (.returned v) h → CallsH P f args h R) : Pur P f args h v :=
  H _ ⟨v, rfl, rfl, rfl⟩
theorem Ret.mk {P : Program} {f : FuncId} {args : Array Value} {h : Heap} {v : Value} (H : ∀ R : Ending → Heap → Prop, (∀ h', Frm [] h h' → R (.returned v) h') → CallsH P f args h R) : Ret P f args h v :=
  H _ fun h' f => ⟨v, rfl, rfl, f⟩
theorem fin_bool {R : Ending → Heap → Prop} {h : Heap} {a b : Bool} (e : a = b) (hR : R (.returned (.bool b)) h) : R (.returned (.bool a)) h := e ▸ hR
theorem fin_int {R : Ending → Heap → Prop} {h : Heap} {k : IntKind} {a b : Int} (e : a = b) (hR : R (.returned (.int k b)) h) : R (.returned (.int k a)) h := e ▸ hR
theorem cnd_or {R : Ending → Heap → Prop} {h : Heap} {b x : Bool} : cnd b (R (.returned (.bool true)) h) (R (.returned (.bool x)) h) = R (.returned (.bool (b || x))) h := by cases b <;> rfl
theorem cnd_and {R : Ending → Heap → Prop} {h : Heap} {b x : Bool} : cnd b (R (.returned (.bool x)) h) (R (.returned (.bool false)) h) = R (.returned (.bool (b && x))) h := by cases b <;> rfl
theorem cnd_ite {R : Ending → Heap → Prop} {h : Heap} {b x y : Bool} : cnd b (R (.returned (.bool x)) h) (R (.returned (.bool y)) h) = R (.returned (.bool (bif b then x else y))) h := by cases b <;> rfl

/-! ## Bytes, identifiers, words -/

def digN (n : Nat) : Bool := decide (48 ≤ n) && decide (n ≤ 57)
def letN (n : Nat) : Bool := (decide (97 ≤ n) && decide (n ≤ 122)) || ((decide (65 ≤ n) && decide (n ≤ 90)) || (n == 95 || n == 36))
def okN (n : Nat) : Bool := letN n || digN n
theorem sb_at {s : ByteArray} {i : Nat} {c : UInt8} (h : s.data.toList[i]? = some c) : sb s (i : Int) = (c.toNat : Int) := by
  have h1 : s.data[i]? = some c := by rw [← h]; simp
  show (((s[((i : Int)).toNat]?).getD 0).toNat : Int) = _
  rw [Int.toNat_natCast]
  have h2 : s[i]? = some c := by
    obtain ⟨hl, e⟩ := Array.getElem?_eq_some_iff.1 h1
    rw [getElem?_pos s i hl]
    exact congrArg some e
  rw [h2]; rfl
theorem at_lt {s : ByteArray} {i : Nat} (h : i < s.size) : ∃ c, s.data.toList[i]? = some c := ⟨s.data.toList[i]'(by rw [Array.length_toList]; exact h), List.getElem?_eq_getElem _⟩

theorem tletter_all : ∀ n : Fin 256, ((decide ((ibit .or .u8 ((n.val : Nat) : Int) (32 : Int)) ≥ (97 : Int)) && (decide ((ibit .or .u8 ((n.val : Nat) : Int) (32 : Int)) ≤ (122 : Int)) || ((((n.val : Nat) : Int) == (95 : Int)) || (((n.val : Nat) : Int) == (36 : Int))))) || (!(decide ((ibit .or .u8 ((n.val : Nat) : Int) (32 : Int)) ≥ (97 : Int))) && ((((n.val : Nat) : Int) == (95 : Int)) || (((n.val : Nat) : Int) == (36 : Int))))) = letN n.val := by decide +kernel
theorem tletter_ok (c : UInt8) (h : Heap) : Pur Try.prog 80 #[.int .u8 (c.toNat : Int)] h (.bool (letN c.toNat)) := by
  refine .mk fun R hR => c80 _ _ _ ?_
  simp only [cnd_or, cnd_ite]
  refine fin_bool ?_ hR
  rw [← tletter_all ⟨c.toNat, c.toNat_lt⟩]
  cases decide ((ibit .or .u8 (c.toNat : Int) (32 : Int)) ≥ (97 : Int)) <;> simp
theorem tdigit_ok (c : UInt8) (h : Heap) : Pur Try.prog 88 #[.int .u8 (c.toNat : Int)] h (.bool (digN c.toNat)) := by
  refine .mk fun R hR => c88 _ _ _ ?_
  simp only [cnd_and]
  refine fin_bool ?_ hR
  rw [digN, Bool.eq_iff_iff]; simp only [Bool.and_eq_true, decide_eq_true_eq]; omega
theorem rdigit_ok (c : UInt8) (h : Heap) : Pur Try.prog 75 #[.int .u8 (c.toNat : Int)] h (.bool (digN c.toNat)) := by
  refine .mk fun R hR => c75 _ _ _ ?_
  simp only [cnd_and]
  refine fin_bool ?_ hR
  rw [digN, Bool.eq_iff_iff]; simp only [Bool.and_eq_true, decide_eq_true_eq]; omega
theorem rletter_ok (c : UInt8) (h : Heap) : Pur Try.prog 76 #[.int .u8 (c.toNat : Int)] h (.bool (letN c.toNat)) := by
  refine .mk fun R hR => c76 _ _ _ ?_
  simp only [cnd_or, cnd_ite]
  refine fin_bool ?_ hR
  have e1 : decide ((c.toNat : Int) ≥ 97) = decide (97 ≤ c.toNat) := by rw [Bool.eq_iff_iff]; simp only [decide_eq_true_eq]; omega
  have e2 : decide ((c.toNat : Int) ≤ 122) = decide (c.toNat ≤ 122) := by rw [Bool.eq_iff_iff]; simp only [decide_eq_true_eq]; omega
  have e3 : decide ((c.toNat : Int) ≥ 65) = decide (65 ≤ c.toNat) := by rw [Bool.eq_iff_iff]; simp only [decide_eq_true_eq]; omega
  have e4 : decide ((c.toNat : Int) ≤ 90) = decide (c.toNat ≤ 90) := by rw [Bool.eq_iff_iff]; simp only [decide_eq_true_eq]; omega
  have e5 : ((c.toNat : Int) == 95) = (c.toNat == 95) := by rw [Bool.eq_iff_iff]; simp only [beq_iff_eq]; omega
  have e6 : ((c.toNat : Int) == 36) = (c.toNat == 36) := by rw [Bool.eq_iff_iff]; simp only [beq_iff_eq]; omega
  rw [e1, e2, e3, e4, e5, e6, letN]
  cases decide (97 ≤ c.toNat) <;> cases decide (c.toNat ≤ 122) <;> cases decide (65 ≤ c.toNat) <;> cases decide (c.toNat ≤ 90) <;> simp

def okB (c : UInt8) : Bool := okN c.toNat
theorem take_all {s : ByteArray} {k : Nat} {c : UInt8} (hc : s.data.toList[k]? = some c) (h : (s.data.toList.take k).all okB = true) : (s.data.toList.take (k + 1)).all okB = okB c := by
  rw [List.take_add_one, hc, List.all_append, h]; simp
theorem tw_len : ∀ {l : List UInt8} {k : Nat} {c : UInt8}, (l.take k).all okB = true → l[k]? = some c → okB c = false → (l.takeWhile okB).length = k
  | [], k, c, _, h, _ => by simp at h
  | a :: l, 0, c, _, h, hc => by
    simp only [List.getElem?_cons_zero, Option.some.injEq] at h
    subst h
    rw [List.takeWhile_cons, hc]; rfl
  | a :: l, k + 1, c, h0, h, hc => by
    simp only [List.take_succ_cons, List.all_cons, Bool.and_eq_true] at h0
    rw [List.takeWhile_cons, h0.1]
    simp only [if_true, List.length_cons]
    rw [tw_len h0.2 (by simpa using h) hc]
theorem tw_all : ∀ {l : List UInt8}, l.all okB = true → l.takeWhile okB = l
  | [], _ => rfl
  | a :: l, h => by
    simp only [List.all_cons, Bool.and_eq_true] at h
    rw [List.takeWhile_cons, h.1]
    simp only [if_true]
    rw [tw_all h.2]
theorem tw_full : ∀ (l : List UInt8), decide ((l.takeWhile okB).length = l.length) = l.all okB
  | [] => rfl
  | a :: l => by
    rw [List.takeWhile_cons, List.all_cons]
    cases h : okB a
    · simp
    · simp only [if_true, List.length_cons, Bool.true_and]
      rw [← tw_full l, Bool.eq_iff_iff]; simp

theorem row_ok (s : ByteArray) (hs : s.size ≤ 281474976710656) (h : Heap) : Pur Try.prog 81 #[.string s] h (.int .i64 ((s.data.toList.takeWhile okB).length : Int)) := by
  refine .mk fun R hR => c81 _ _ _ ?_
  refine loop_nat (N := s.size) (X := fun k h' => h' = h ∧ (s.data.toList.take k).all okB = true) ⟨rfl, rfl⟩ ?_
  rintro k h' hk ⟨rfl, ha⟩ I μ step
  rw [cnd_if]
  by_cases hlt : k < s.size
  · rw [if_pos (by simpa using hlt)]
    obtain ⟨c, hc⟩ := at_lt hlt
    rw [sb_at hc]
    refine ⟨by omega, by omega, (tletter_ok c _).use ⟨_, rfl, ?_⟩⟩
    have fin : okB c = true → In64 ((k : Int) + 1) ∧ I [.int .i64 ((k : Int) + 1)] h' ∧ μ [.int .i64 ((k : Int) + 1)] h' < μ [.int .i64 (k : Int)] h' := fun ho =>
      ⟨in64 (by omega) (by omega), step h' hlt ⟨rfl, by rw [take_all hc ha]; exact ho⟩⟩
    rw [cnd_if]
    by_cases h1 : letN c.toNat = true
    · rw [if_neg (by simp [h1])]
      exact fin (by simp [okB, okN, h1])
    · rw [if_pos (by simpa using h1)]
      refine ⟨by omega, by omega, (tdigit_ok c _).use ⟨_, rfl, ?_⟩⟩
      rw [cnd_if]
      by_cases h2 : digN c.toNat = true
      · rw [if_neg (by simp [h2])]
        exact fin (by simp [okB, okN, h2])
      · rw [if_pos (by simpa using h2)]
        refine fin_int ?_ hR
        rw [tw_len ha hc (by simp [okB, okN, h1, h2])]
  · rw [if_neg (by simpa using hlt)]
    refine fin_int ?_ hR
    rw [List.take_of_length_le (by rw [Array.length_toList]; show s.size ≤ k; omega)] at ha
    rw [tw_all ha, Array.length_toList]
    rfl

/-- An identifier. -/
def ident (s : ByteArray) : Bool := decide (1 ≤ s.size) && (decide (s.size ≤ 32) && ((match s.data.toList with | c :: _ => letN c.toNat | [] => false) && s.data.toList.all okB))
theorem nil_size (s : ByteArray) : (s.toList == (⟨#[]⟩ : ByteArray).toList) = decide (s.size = 0) := by
  rw [ByteArray.toList_eq, ByteArray.toList_eq, Bool.eq_iff_iff]
  simp only [beq_iff_eq, decide_eq_true_eq]
  constructor
  · intro h
    have := congrArg List.length h
    simpa using this
  · intro h
    exact List.eq_nil_of_length_eq_zero (by rw [Array.length_toList]; exact h)
theorem tident_ok (s : ByteArray) (h : Heap) : Pur Try.prog 67 #[.string s] h (.bool (ident s)) := by
  refine .mk fun R hR => c67 _ _ _ ?_
  rw [nil_size]
  simp only [cnd_if]
  by_cases h0 : s.size = 0
  · rw [if_neg (by simp [h0])]
    exact fin_bool (by simp [ident, h0]) hR
  rw [if_pos (by simp [h0])]
  by_cases h1 : s.size ≤ 32
  · rw [if_pos (by simp; omega)]
    obtain ⟨c, hc⟩ := at_lt (s := s) (i := 0) (by omega)
    have := sb_at hc
    rw [show ((0 : Nat) : Int) = 0 from rfl] at this
    rw [this]
    have hd : s.data.toList = c :: s.data.toList.tail := by
      cases hl : s.data.toList with
      | nil => rw [hl] at hc; simp at hc
      | cons a l => rw [hl] at hc; simp at hc; rw [hc]; rfl
    refine ⟨by omega, by omega, (tletter_ok c _).use ⟨_, rfl, ?_⟩⟩
    by_cases h2 : letN c.toNat = true
    · rw [if_pos h2]
      refine (row_ok s (by omega) _).use ⟨_, rfl, fin_bool ?_ hR⟩
      have : (((s.data.toList.takeWhile okB).length : Int) == (s.size : Int)) = decide ((s.data.toList.takeWhile okB).length = s.data.toList.length) := by
        rw [Bool.eq_iff_iff, Array.length_toList]; simp only [beq_iff_eq, decide_eq_true_eq]; show _ ↔ _ = s.size; omega
      rw [this, tw_full]
      have h1' : 1 ≤ s.size := by omega
      simp only [ident, decide_eq_true h1', decide_eq_true h1, Bool.true_and]
      rw [hd]; simp [h2]
    · rw [if_neg h2]
      refine fin_bool ?_ hR
      simp only [ident]
      rw [hd]; simp [h2]
  · rw [if_neg (by simp; omega)]
    exact fin_bool (by simp [ident, h1]) hR

theorem all_drop {l : List UInt8} : l.all okB = true → l.all okB = true := id
theorem rident_ok (s : ByteArray) (h : Heap) : Pur Try.prog 56 #[.string s] h (.bool (ident s)) := by
  refine .mk fun R hR => c56 _ _ _ ?_
  refine ⟨fun _ h' => h' = h ∧ 1 ≤ s.size ∧ s.size ≤ 32 ∧ ∃ c, s.data.toList[0]? = some c ∧ digN c.toNat = false, ?_, ?_⟩
  · simp only [cnd_if]
    by_cases h0 : s.size < 1
    · rw [if_pos (by simp; omega)]
      exact fin_bool (by simp [ident]; omega) hR
    rw [if_neg (by simp; omega)]
    by_cases h1 : s.size ≤ 32
    · rw [if_neg (by simp; omega)]
      obtain ⟨c, hc⟩ := at_lt (s := s) (i := 0) (by omega)
      have := sb_at hc
      rw [show ((0 : Nat) : Int) = 0 from rfl] at this
      rw [this]
      refine ⟨by omega, by omega, (rdigit_ok c _).use ⟨_, rfl, ?_⟩⟩
      by_cases h2 : digN c.toNat = true
      · rw [if_pos h2]
        refine fin_bool ?_ hR
        have hd : s.data.toList = c :: s.data.toList.tail := by
          cases hl : s.data.toList with
          | nil => rw [hl] at hc; simp at hc
          | cons a l => rw [hl] at hc; simp at hc; rw [hc]; rfl
        have h3 : letN c.toNat = false := by
          simp only [digN, Bool.and_eq_true, decide_eq_true_eq] at h2
          simp [letN]; omega
        simp only [ident]
        rw [hd]; simp [h3]
      · rw [if_neg h2]
        exact ⟨rfl, by omega, h1, c, hc, by simpa using h2⟩
    · rw [if_pos (by simp; omega)]
      exact fin_bool (by simp [ident, h1]) hR
  · rintro _ h' ⟨rfl, h0, h1, c0, hc0, hd0⟩
    refine loop_nat (N := s.size) (X := fun k h'' => h'' = h' ∧ (s.data.toList.take k).all okB = true) ⟨rfl, rfl⟩ ?_
    rintro k h' hk ⟨rfl, ha⟩ I μ step
    rw [cnd_if]
    by_cases hlt : k < s.size
    · rw [if_pos (by simpa using hlt)]
      obtain ⟨c, hc⟩ := at_lt hlt
      rw [sb_at hc]
      refine ⟨by omega, by omega, (rletter_ok c _).use ⟨_, rfl, ?_⟩⟩
      have fin : okB c = true → In64 ((k : Int) + 1) ∧ I [.int .i64 ((k : Int) + 1)] h' ∧ μ [.int .i64 ((k : Int) + 1)] h' < μ [.int .i64 (k : Int)] h' := fun ho =>
        ⟨in64 (by omega) (by omega), step h' hlt ⟨rfl, by rw [take_all hc ha]; exact ho⟩⟩
      rw [cnd_if]
      by_cases h2 : letN c.toNat = true
      · rw [if_neg (by simp [h2])]
        exact fin (by simp [okB, okN, h2])
      · rw [if_pos (by simpa using h2)]
        refine ⟨by omega, by omega, (rdigit_ok c _).use ⟨_, rfl, ?_⟩⟩
        rw [cnd_if]
        by_cases h3 : digN c.toNat = true
        · rw [if_neg (by simp [h3])]
          exact fin (by simp [okB, okN, h3])
        · rw [if_pos (by simpa using h3)]
          refine fin_bool ?_ hR
          have : s.data.toList.all okB = false := by
            rw [List.all_eq_false]
            exact ⟨c, List.mem_of_getElem? hc, by simp [okB, okN, h2, h3]⟩
          simp [ident, this]
    · rw [if_neg (by simpa using hlt)]
      refine fin_bool ?_ hR
      rw [List.take_of_length_le (by rw [Array.length_toList]; show s.size ≤ k; omega)] at ha
      have hd : s.data.toList = c0 :: s.data.toList.tail := by
        cases hl : s.data.toList with
        | nil => rw [hl] at hc0; simp at hc0
        | cons a l => rw [hl] at hc0; simp at hc0; rw [hc0]; rfl
      have h2 : letN c0.toNat = true := by
        have : okB c0 = true := by
          rw [List.all_eq_true] at ha
          exact ha c0 (List.mem_of_getElem? hc0)
        simpa [okB, okN, hd0] using this
      simp only [ident, ha, decide_eq_true h0, decide_eq_true h1]
      rw [hd]; simp [h2]

def wordL : List (List UInt8) := [[98, 114, 101, 97, 107],
  [99, 97, 115, 101],
  [99, 97, 116, 99, 104],
  [99, 108, 97, 115, 115],
  [99, 111, 110, 115, 116],
  [99, 111, 110, 116, 105, 110, 117, 101],
  [100, 101, 98, 117, 103, 103, 101, 114],
  [100, 101, 102, 97, 117, 108, 116],
  [100, 101, 108, 101, 116, 101],
  [100, 111],
  [101, 108, 115, 101],
  [101, 110, 117, 109],
  [101, 120, 112, 111, 114, 116],
  [101, 120, 116, 101, 110, 100, 115],
  [102, 97, 108, 115, 101],
  [102, 105, 110, 97, 108, 108, 121],
  [102, 111, 114],
  [102, 117, 110, 99, 116, 105, 111, 110],
  [105, 102],
  [105, 109, 112, 108, 101, 109, 101, 110, 116, 115],
  [105, 109, 112, 111, 114, 116],
  [105, 110],
  [105, 110, 115, 116, 97, 110, 99, 101, 111, 102],
  [105, 110, 116, 101, 114, 102, 97, 99, 101],
  [108, 101, 116],
  [110, 101, 119],
  [110, 117, 108, 108],
  [112, 97, 99, 107, 97, 103, 101],
  [112, 114, 105, 118, 97, 116, 101],
  [112, 114, 111, 116, 101, 99, 116, 101, 100],
  [112, 117, 98, 108, 105, 99],
  [114, 101, 116, 117, 114, 110],
  [115, 116, 97, 116, 105, 99],
  [115, 117, 112, 101, 114],
  [115, 119, 105, 116, 99, 104],
  [116, 104, 105, 115],
  [116, 104, 114, 111, 119],
  [116, 114, 117, 101],
  [116, 114, 121],
  [116, 121, 112, 101, 111, 102],
  [118, 97, 114],
  [118, 111, 105, 100],
  [119, 104, 105, 108, 101],
  [119, 105, 116, 104],
  [121, 105, 101, 108, 100]]
/-- A list of pieces, as a text: a blank ahead of each, one behind all. -/
def textOf (ws : List (List UInt8)) : List UInt8 := ws.flatMap (fun w => 32 :: w) ++ [32]
/-- What 'among' answers. -/
def amongB (t s : List UInt8) : Bool := !s.isEmpty && (!(decide (0 ≤ Lib.indexByte s 32)) && Lib.contains t (32 :: (s ++ [32])))
end Go.Proofs.Ytoldgeolocfmiaa
