/- What may be: tree.may. -/
import Derived.Test.YtoldgeolocfmiaaS5
import Derived.KernelRfl
namespace Go.Proofs.Ytoldgeolocfmiaa
open Go Go.Proofs Go.Proofs.Ytoldgeolocfmiaa.V
def evenB (s : ByteArray) : Bool := decide (s.size % 2 = 0)
theorem and_one (n : Nat) (h : n ≤ 281474976710656) : (ibit .and .i64 (n : Int) (1 : Int) == 0) = decide (n % 2 = 0) := by
  have e : (BitVec.ofInt IntKind.i64.bits (n : Int) &&& BitVec.ofInt IntKind.i64.bits (1 : Int)).toNat = n % 2 := by
    show (BitVec.ofInt 64 (n : Int) &&& BitVec.ofInt 64 (1 : Int)).toNat = n % 2
    rw [BitVec.ofInt_natCast, show BitVec.ofInt 64 (1 : Int) = BitVec.ofNat 64 1 from rfl, BitVec.toNat_and, BitVec.toNat_ofNat, BitVec.toNat_ofNat]
    rw [Nat.mod_eq_of_lt (show n < 2 ^ 64 by omega)]
    exact Nat.and_one_is_mod n
  have e3 : ibit .and .i64 (n : Int) (1 : Int) = ((n % 2 : Nat) : Int) := by
    show IntKind.i64.wrap ((BitVec.ofInt IntKind.i64.bits (n : Int) &&& BitVec.ofInt IntKind.i64.bits (1 : Int)).toNat : Int) = _
    rw [e, wrap_in64 (in64 (by omega) (by omega))]
  rw [e3, Bool.eq_iff_iff]
  simp only [beq_iff_eq, decide_eq_true_eq]
  omega
theorem tunits_ok (s : ByteArray) (hs : s.size ≤ 281474976710656) (h : Heap) : Pur Try.prog 46 #[.string s] h (.bool (evenB s)) := by
  refine .mk fun R hR => c46 _ _ _ ?_
  rw [and_one _ hs]; exact hR
theorem runits_ok (s : ByteArray) (h : Heap) : Pur Try.prog 40 #[.string s] h (.bool (evenB s)) := by
  refine .mk fun R hR => c40 _ _ _ ⟨by decide, fin_bool ?_ hR⟩
  rw [Int.tmod_eq_emod_of_nonneg (by omega), evenB, Bool.eq_iff_iff]
  simp only [beq_iff_eq, decide_eq_true_eq]
  omega

/-! ## What stands in a form's letters -/

def fixL (l : ByteArray) : List UInt8 := (Lib.cut l.data.toList [42]).1
def oftL (l : ByteArray) : List UInt8 := (Lib.cut l.data.toList [42]).2.1
def manyL (l : ByteArray) : Bool := (Lib.cut l.data.toList [42]).2.2
def letters (l : ByteArray) : List UInt8 := fixL l ++ oftL l
def kidLetter (l : ByteArray) (i : Nat) : Int := (((letters l).getD (min i ((letters l).length - 1)) 0).toNat : Int)
def emptyK (n k : ND) : Bool := (n.kind == 35 && k.kind == 42) || (n.kind == 36 && (k.kind == 37 && (match k.l with | a :: _ => a.kind == 42 | [] => false)))
def kidsFrom (p : Nat → ND → Bool) : Nat → List ND → Bool
  | _, [] => true
  | i, k :: r => p i k && kidsFrom p (i + 1) r
theorem kidsFrom_iff (p : Nat → ND → Bool) : ∀ (l : List ND) (i : Nat), kidsFrom p i l = true ↔ ∀ j k, l[j]? = some k → p (i + j) k = true
  | [], i => by simp [kidsFrom]
  | a :: r, i => by
    simp only [kidsFrom, Bool.and_eq_true, kidsFrom_iff p r (i + 1)]
    constructor
    · rintro ⟨h1, h2⟩ j k hj
      cases j with
      | zero => simp at hj; subst hj; exact h1
      | succ j => rw [show i + (j + 1) = i + 1 + j by omega]; exact h2 j k (by simpa using hj)
    · intro h
      refine ⟨by simpa using h 0 a rfl, fun j k hj => ?_⟩
      rw [show i + 1 + j = i + (j + 1) by omega]; exact h (j + 1) k (by simpa using hj)
def may : Nat → ND → Bool
  | 0, _ => false
  | d + 1, n =>
    let f := formOf n.kind n.l.length
    f.2 && (namedB n f.1.nm && (decide (0 ≤ n.num) && (decide (n.num ≤ f.1.num) && (evenB n.text && ((emptyB n.text || f.1.tx) && ((n.names.isEmpty || f.1.ns) && (!(n.names.any fun s => !nameB s) &&
      (decide ((fixL f.1.l).length ≤ n.l.length) && ((manyL f.1.l || decide (n.l.length ≤ (fixL f.1.l).length)) &&
        (kidsFrom (fun i k => fitKind k (kidLetter f.1.l i) && may d k) 0 n.l && decide (n.l.countP (emptyK n) < 2)))))))))))

def forms : List ByteArray := [⟨#[]⟩, ⟨#[42, 101]⟩, ⟨#[42, 112]⟩, ⟨#[101]⟩, ⟨#[42, 120]⟩, ⟨#[101, 101]⟩, ⟨#[101, 42, 101]⟩, ⟨#[116]⟩, ⟨#[101, 101, 101]⟩, ⟨#[116, 101]⟩,
  ⟨#[100, 42, 100]⟩, ⟨#[42, 115]⟩, ⟨#[101, 98]⟩, ⟨#[101, 98, 98]⟩, ⟨#[98, 101]⟩, ⟨#[118, 102, 102, 98]⟩, ⟨#[119, 101, 98]⟩, ⟨#[98, 99, 99]⟩, ⟨#[101, 42, 107]⟩, ⟨#[102, 42, 115]⟩, ⟨#[115]⟩]
theorem cut1_mem (m : Nat) : cut1 m ∈ forms := by unfold cut1; split <;> simp [forms]
theorem cut3_mem (m : Nat) : cut3 m ∈ forms := by unfold cut3; split <;> simp [forms]
theorem ite_some {α : Type} {c : Prop} [Decidable c] {a f : α} {b : Option α} (h : (if c then some a else b) = some f) : (c ∧ f = a) ∨ (¬c ∧ b = some f) := by
  by_cases hc : c
  · rw [if_pos hc] at h; exact .inl ⟨hc, (Option.some.inj h).symm⟩
  · rw [if_neg hc] at h; exact .inr ⟨hc, h⟩
theorem ite_case {α : Type} {P : α → Prop} {c : Prop} [Decidable c] {a b : α} (h1 : P a) (h2 : P b) : P (if c then a else b) := by
  by_cases hc : c
  · rw [if_pos hc]; exact h1
  · rw [if_neg hc]; exact h2
theorem expr_mem {k : Int} {f : FV} (h : exprForm k = some f) : f.l ∈ forms ∧ f.nm.size < 1000 := by
  unfold exprForm at h
  repeat (rcases ite_some h with ⟨_, rfl⟩ | ⟨_, h⟩; · exact ⟨by simp [forms], by decide +kernel⟩)
  cases h
theorem stmt_mem (k : Int) (m : Nat) : (stmtForm k m).1.l ∈ forms ∧ (stmtForm k m).1.nm.size < 1000 := by
  unfold stmtForm
  repeat (refine ite_case (P := fun r : FV × Bool => r.1.l ∈ forms ∧ r.1.nm.size < 1000) ?_ ?_; · first
    | exact ⟨cut1_mem m, by dsimp only; decide +kernel⟩
    | exact ⟨cut3_mem m, by dsimp only; decide +kernel⟩
    | exact ⟨by simp [forms], by decide +kernel⟩)
  exact ⟨by simp [forms], by decide +kernel⟩
theorem form_mem (k : Int) (m : Nat) : (formOf k m).1.l ∈ forms ∧ (formOf k m).1.nm.size < 1000 := by
  unfold formOf
  cases h : exprForm k with
  | some f => exact expr_mem h
  | none => exact stmt_mem k m
theorem forms_ok : ∀ l ∈ forms, l.size < 1000 ∧ (manyL l = true → letters l ≠ []) ∧ (letters l).length < 1000 := by decide +kernel
theorem form37 (m : Nat) : (formOf 37 m).1.l = ⟨#[102, 42, 115]⟩ := by
  have : exprForm 37 = none := by decide
  rw [formOf, this]
  simp [stmtForm]
theorem may_case {d : Nat} {k : ND} (h : may d k = true) (hk : k.kind = 37) : k.l ≠ [] := by
  cases d with
  | zero => cases h
  | succ d =>
    simp only [may, Bool.and_eq_true, decide_eq_true_eq] at h
    obtain ⟨_, _, _, _, _, _, _, _, h9, _⟩ := h
    rw [hk, form37] at h9
    intro e
    rw [e] at h9
    exact absurd h9 (by decide +kernel)

theorem mn_nat (i n : Nat) (h : 1 ≤ n) : mn (i : Int) ((n : Int) - 1) = ((min i (n - 1) : Nat) : Int) := by
  unfold mn
  split <;> omega

set_option maxHeartbeats 4000000 in
set_option maxRecDepth 20000 in
theorem may_ok : ∀ (d : Nat) {h : Heap} {x : NV} {n : ND}, MaxOk h → NodeAt h x n → n.deep ≤ d → n.Ok → Ret Try.prog 31 #[x.val] h (.bool (may d n))
  | 0, _, _, n, _, _, hd, _ => by have := n.deep_eq; omega
  | d + 1, h, x, n, hm, hx, hd, ho => by
    refine .mk fun R hR => c31 _ _ _ _ _ _ _ _ _ _ _ _ (al_intro fun h1 e1 g1 f1 s1 => ?_)
    obtain ⟨o1, o2, o3, o4, o5, o6⟩ := hx.open
    have hlen := ho.len
    have hnlen := ho.nlen
    have oln : n.l.length = x.m := o6.1
    have onn : n.names.length = x.n := o5.1
    refine ⟨_, _, _, _, _, _, _, _, _, _, box6 g1, ?_⟩
    refine (of_ok x).use fun h2 f2 => ⟨_, _, _, _, _, _, rfl, ?_⟩
    have ef : formOf n.kind n.l.length = formOf x.k x.m := by rw [o1, oln]
    obtain ⟨fl1, fl2⟩ := form_mem x.k x.m
    obtain ⟨fo1, fo2, fo3⟩ := forms_ok _ fl1
    have emay : may (d + 1) n = ((formOf x.k x.m).2 && (namedB n (formOf x.k x.m).1.nm && (decide (0 ≤ n.num) && (decide (n.num ≤ (formOf x.k x.m).1.num) && (evenB n.text && ((emptyB n.text || (formOf x.k x.m).1.tx) && ((n.names.isEmpty || (formOf x.k x.m).1.ns) && (!(n.names.any fun s => !nameB s) &&
      (decide ((fixL (formOf x.k x.m).1.l).length ≤ n.l.length) && ((manyL (formOf x.k x.m).1.l || decide (n.l.length ≤ (fixL (formOf x.k x.m).1.l).length)) &&
        (kidsFrom (fun i k => fitKind k (kidLetter (formOf x.k x.m).1.l i) && may d k) 0 n.l && decide (n.l.countP (emptyK n) < 2)))))))))))) := by rw [may, ef]
    generalize hform : formOf x.k x.m = form at emay fl1 fl2 fo1 fo2 fo3 ⊢
    obtain ⟨F, is⟩ := form
    dsimp only at emay fl1 fl2 fo1 fo2 fo3
    refine al_intro fun h3 e3 g3 f3 s3 => stn_at g3 rfl rfl fun h4 g4 f4 s4 => ?_
    have F4 : Frm [] h h4 := (f1.trans (f2.trans f3)).young f4 (by
      intro y hy
      rw [List.mem_singleton.1 hy]
      have := f1.1; have := f2.1
      exact .inr (by omega))
    have gb : h4[h.size]? = some (.cells x.cells 26 (0, 0)) := f4.get ((f2.trans f3).get g1 (by simp)) (by simp; have := f2.1; omega)
    have gf : h4[h2.size]? = some (.cells F.cells 58 (0, 0)) := g4
    -- a world behind: the two boxes, the node
    have at' : ∀ {h' : Heap}, Frm [] h4 h' → MaxOk h' ∧ NodeAt h' x n ∧ h'[h.size]? = some (.cells x.cells 26 (0, 0)) ∧ h'[h2.size]? = some (.cells F.cells 58 (0, 0)) ∧ Frm [] h h' := fun f =>
      ⟨hm.frm (F4.trans f), hx.frm (F4.trans f), f.get gb (by simp), f.get gf (by simp), F4.trans f⟩
    have no : ∀ {h' : Heap}, Frm [] h4 h' → may (d + 1) n = false → R (.returned (.bool false)) h' := fun f e => by
      have := hR _ (F4.trans f); rwa [e] at this
    clear hform
    obtain ⟨p1, p2, p3, p4, p5, p6⟩ := box6 gb
    obtain ⟨q1, q2, q3, q4, q5⟩ := form_at gf
    refine ⟨fun _ h' => Frm [] h4 h' ∧ is = true ∧ namedB n F.nm = true ∧ 0 ≤ n.num ∧ n.num ≤ F.num ∧ evenB n.text = true ∧ (emptyB n.text || F.tx) = true ∧ (n.names.isEmpty || F.ns) = true, ?_, ?_⟩
    · simp only [cnd_if]
      by_cases z1 : is = true
      case neg => rw [if_pos (by simpa using z1)]; exact no (Frm.refl _ _) (by rw [emay]; simp [z1])
      rw [if_neg (by simp [z1])]
      refine ⟨_, _, _, _, _, _, _, _, _, _, ⟨p1, p2, p3, p4, p5, p6⟩, _, q1, ?_⟩
      obtain ⟨m4, n4, _, _, _⟩ := at' (Frm.refl _ _)
      refine (named_ok m4 n4 ho.name (by omega)).use fun h5 f5 => ⟨_, rfl, ?_⟩
      obtain ⟨m5, n5, gb5, gf5, F5⟩ := at' f5
      obtain ⟨p1, p2, p3, p4, p5, p6⟩ := box6 gb5
      obtain ⟨q1, q2, q3, q4, q5⟩ := form_at gf5
      by_cases z2 : namedB n F.nm = true
      case neg => rw [if_pos (by simpa using z2)]; exact no f5 (by rw [emay]; simp [z2])
      rw [if_neg (by simp [z2])]
      refine ⟨_, p3, ?_⟩
      by_cases z3 : 0 ≤ n.num
      case neg => rw [if_pos (by rw [← o3]; simpa using z3)]; exact no f5 (by rw [emay]; simp [z3])
      rw [if_neg (by rw [← o3]; simpa using z3)]
      refine ⟨_, p3, _, by rw [add_at]; exact q2, ?_⟩
      by_cases z4 : n.num ≤ F.num
      case neg => rw [if_pos (by rw [← o3]; simpa using z4)]; exact no f5 (by rw [emay]; simp [z4])
      rw [if_neg (by rw [← o3]; simpa using z4)]
      refine ⟨_, p4, (tunits_ok _ (by rw [← o4]; exact ho.text) _).use ⟨_, rfl, ?_⟩⟩
      rw [← o4]
      by_cases z5 : evenB n.text = true
      case neg => rw [if_pos (by simpa using z5)]; exact no f5 (by rw [emay]; simp [z5])
      rw [if_neg (by simp [z5])]
      refine ⟨_, p4, ?_⟩
      rw [nil_size, ← o4]
      have names : (emptyB n.text || F.tx) = true → ∃ (a61 : Option Addr) (l62 c63 : Nat), cl h5 ((⟨h.size, 0, none⟩ : Addr).add 4) = some (.slice a61 l62 c63) ∧ if decide (((l62 : Nat) : Int) > (0 : Int)) = true then (∃ (b64 : Bool), cl h5 ((⟨h2.size, 0, none⟩ : Addr).add 3) = some (.bool b64) ∧ if (!b64) = true then (R (.returned (.bool false)) h5) else (Frm [] h4 h5 ∧ is = true ∧ namedB n F.nm = true ∧ 0 ≤ n.num ∧ n.num ≤ F.num ∧ evenB n.text = true ∧ (emptyB n.text || F.tx) = true ∧ (n.names.isEmpty || F.ns) = true)) else (Frm [] h4 h5 ∧ is = true ∧ namedB n F.nm = true ∧ 0 ≤ n.num ∧ n.num ≤ F.num ∧ evenB n.text = true ∧ (emptyB n.text || F.tx) = true ∧ (n.names.isEmpty || F.ns) = true) := by
        intro z6
        refine ⟨_, _, _, p5, ?_⟩
        by_cases z7 : x.n = 0
        · rw [if_neg (by simp [z7])]
          exact ⟨f5, z1, z2, z3, z4, z5, z6, by rw [List.length_eq_zero_iff.1 (onn.trans z7)]; rfl⟩
        · rw [if_pos (by simp; omega)]
          refine ⟨_, by rw [add_at]; exact q4, ?_⟩
          have z8 : n.names.isEmpty = false := by
            cases hl : n.names with
            | nil => rw [hl] at onn; exact absurd onn.symm z7
            | cons a r => rfl
          by_cases z9 : F.ns = true
          · rw [if_neg (by simp [z9])]
            exact ⟨f5, z1, z2, z3, z4, z5, z6, by rw [z9]; simp⟩
          · rw [if_pos (by simpa using z9)]
            exact no f5 (by rw [emay]; simp [z8, z9])
      by_cases z6 : n.text.size = 0
      · rw [if_neg (by simp [z6])]
        exact names (by simp [emptyB, z6])
      · rw [if_pos (by simp [z6])]
        refine ⟨_, by rw [add_at]; exact q3, ?_⟩
        by_cases z7 : F.tx = true
        · rw [if_neg (by simp [z7])]
          exact names (by simp [z7])
        · rw [if_pos (by simpa using z7)]
          exact no f5 (by rw [emay]; simp [emptyB, z6, z7])
    rintro _ h6 ⟨f6, z1, z2, z3, z4, z5, z6, z7⟩
    obtain ⟨m6, n6, gb6, gf6, F6⟩ := at' f6
    obtain ⟨p1, p2, p3, p4, p5, p6⟩ := box6 gb6
    refine ⟨_, _, _, p5, ?_⟩
    refine (containsFunc_ok n6.open.2.2.2.2.1 (by omega) (test_name m6)).use ⟨_, rfl, ?_⟩
    rw [cnd_if]
    by_cases z8 : (n.names.any fun s => !nameB s) = true
    · rw [if_pos z8]; exact no f6 (by rw [emay]; simp only [z8]; simp)
    rw [if_neg z8]
    have z8' : (n.names.any fun s => !nameB s) = false := by simpa using z8
    obtain ⟨q1, q2, q3, q4, q5⟩ := form_at gf6
    refine ⟨_, by rw [add_at]; exact q5, ?_⟩
    refine (cut_ok m6 (s := F.l) (sep := ⟨#[42]⟩) (by omega)).use ⟨_, _, _, rfl, ?_⟩
    rw [show (⟨#[42]⟩ : ByteArray).data.toList = [42] from rfl]
    change ∃ J79 : List Value → Heap → Prop, _
    have eS1 : ((⟨(Lib.cut F.l.data.toList [42]).1.toArray⟩ : ByteArray).size : Int) = ((fixL F.l).length : Int) := by show (((Lib.cut F.l.data.toList [42]).1.toArray.size : Nat) : Int) = _; simp [fixL]
    have eS : (⟨(Lib.cut F.l.data.toList [42]).1.toArray⟩ ++ ⟨(Lib.cut F.l.data.toList [42]).2.1.toArray⟩ : ByteArray).data.toList = letters F.l := by simp [letters, fixL, oftL]
    have eM : (Lib.cut F.l.data.toList [42]).2.2 = manyL F.l := rfl
    have zS : (⟨(Lib.cut F.l.data.toList [42]).1.toArray⟩ : ByteArray).size + (⟨(Lib.cut F.l.data.toList [42]).2.1.toArray⟩ : ByteArray).size = (letters F.l).length := by
      rw [← eS, Array.length_toList]; show _ = (_ : ByteArray).size; rw [ByteArray.size_append]
    have zS2 : (⟨(Lib.cut F.l.data.toList [42]).1.toArray⟩ ++ ⟨(Lib.cut F.l.data.toList [42]).2.1.toArray⟩ : ByteArray).size = (letters F.l).length := by rw [← eS, Array.length_toList]; rfl
    rw [eS1, eM]
    generalize (⟨(Lib.cut F.l.data.toList [42]).1.toArray⟩ : ByteArray) = s76 at eS zS zS2 ⊢
    generalize (⟨(Lib.cut F.l.data.toList [42]).2.1.toArray⟩ : ByteArray) = s77 at eS zS zS2 ⊢
    refine ⟨fun _ h' => h' = h6 ∧ (fixL F.l).length ≤ n.l.length ∧ (manyL F.l || decide (n.l.length ≤ (fixL F.l).length)) = true, ?_, ?_⟩
    · refine ⟨_, _, _, p6, ?_⟩
      simp only [cnd_if]
      by_cases y1 : (fixL F.l).length ≤ n.l.length
      case neg => rw [if_pos (by rw [← oln]; simpa using y1)]; exact no f6 (by rw [emay]; simp [y1])
      rw [if_neg (by rw [← oln]; simpa using y1)]
      by_cases y2 : manyL F.l = true
      · rw [if_neg (by simp [y2])]; exact ⟨trivial, y1, by simp [y2]⟩
      · rw [if_pos (by simpa using y2)]
        refine ⟨_, _, _, p6, ?_⟩
        by_cases y3 : n.l.length ≤ (fixL F.l).length
        · rw [if_neg (by rw [← oln]; simpa using y3)]; exact ⟨trivial, y1, by simp [y3]⟩
        · rw [if_pos (by rw [← oln]; simpa using y3)]; exact no f6 (by rw [emay]; simp [y2, y3])
    rintro _ h7 ⟨e7, y1, y2⟩
    rw [e7]; clear e7 h7
    have lne : n.l ≠ [] → 1 ≤ (letters F.l).length := fun hne => by
      have h1 : 0 < n.l.length := List.length_pos_iff.2 hne
      rw [Bool.or_eq_true, decide_eq_true_eq] at y2
      rcases y2 with y2 | y2
      · exact List.length_pos_iff.2 (fo2 y2)
      · rw [letters, List.length_append]; omega
    refine ⟨_, _, _, p6, ?_⟩
    refine loop_two (N := x.m) (a0 := 0) (X := fun k a h' => Frm [] h6 h' ∧ a = ((n.l.take k).countP (emptyK n) : Int) ∧ ∀ i kd, i < k → n.l[i]? = some kd → (fitKind kd (kidLetter F.l i) && may d kd) = true) ⟨Frm.refl _ _, by simp, fun i kd hi => by omega⟩ ?_
    rintro k a h8 hk ⟨f8, rfl, hall⟩ I μ step
    obtain ⟨m8, n8, gb8, gf8, F8⟩ := at' (f6.trans f8)
    rw [cnd_if]
    have hcnt : (n.l.take k).countP (emptyK n) ≤ k := Nat.le_trans List.countP_le_length (List.length_take_le _ _)
    by_cases hlt : k < x.m
    · rw [if_pos (by simpa using hlt)]
      have hi : n.l[k]? = some (n.l[k]'(by omega)) := List.getElem?_eq_getElem _
      have hmem := List.mem_of_getElem? hi
      have hl1 := lne (by intro e; rw [e] at oln; simp at oln; omega)
      generalize n.l[k]'(by omega) = kd at hi hmem
      refine ⟨by omega, by omega, node_round n8.open.2.2.2.2.2 hi fun kk y h9 g9 k9 f9 n9 => ?_⟩
      have mnl := mn_nat k (letters F.l).length hl1
      rw [zS2, zS]
      have hlen2 : (letters F.l).length < 1000 := fo3
      refine ⟨by omega, by omega, in64 (by omega) (by omega), ?_⟩
      rw [mnl]
      refine ⟨by omega, by omega, _, _, _, _, _, _, _, _, _, _, box6 g9, ?_⟩
      obtain ⟨cc, hcc⟩ : ∃ cc, (letters F.l)[min k ((letters F.l).length - 1)]? = some cc := ⟨_, List.getElem?_eq_getElem (by omega)⟩
      rw [sb_at (by rw [eS]; exact hcc)]
      have ekl : ((cc.toNat : Nat) : Int) = kidLetter F.l k := by
        rw [kidLetter, List.getD_eq_getElem?_getD, hcc]; rfl
      rw [ekl]
      have hkd := ND.kid_deep hmem
      refine (fits_ok n9 (fun h' f' => may_ok d (((m8.frm f9)).frm f') (n9.frm f') (by omega) (ho.kid hmem)) _).use fun h10 f10 => ⟨_, rfl, ?_⟩
      have f10' : Frm [] h4 h10 := f6.trans (f8.trans (f9.trans f10))
      have g10 := f10.get g9 (by simp)
      obtain ⟨m10, n10, gb10, gf10, F10⟩ := at' f10'
      obtain ⟨p1, p2, p3, p4, p5, p6⟩ := box6 gb10
      obtain ⟨r1, r2, r3, r4, r5, r6⟩ := box6 g10
      simp only [cnd_if]
      by_cases w1 : (fitKind kd (kidLetter F.l k) && may d kd) = true
      case neg =>
        rw [if_pos (by rw [Bool.not_eq_true']; exact Bool.eq_false_iff.2 w1)]
        refine no f10' ?_
        have : kidsFrom (fun i k => fitKind k (kidLetter F.l i) && may d k) 0 n.l = false := by
          rw [Bool.eq_false_iff]
          intro h'
          rw [kidsFrom_iff] at h'
          have := h' k kd hi
          rw [Nat.zero_add] at this
          exact w1 this
        rw [emay, this]; simp
      rw [if_neg (by rw [w1]; decide)]
      have hmk : may d kd = true := by rw [Bool.and_eq_true] at w1; exact w1.2
      have hall' : ∀ i kd', i < k + 1 → n.l[i]? = some kd' → (fitKind kd' (kidLetter F.l i) && may d kd') = true := fun i kd' hi' hk' => by
        by_cases e : i = k
        · subst e; rw [hi] at hk'; simp only [Option.some.injEq] at hk'; rw [← hk']; exact w1
        · exact hall i kd' (by omega) hk'
      have more : emptyK n kd = true → In64 (((n.l.take k).countP (emptyK n) : Int) + 1) ∧ In64 ((k : Int) + 1) ∧ I [.int .i64 (((n.l.take k).countP (emptyK n) : Int) + 1), .int .i64 ((k : Int) + 1)] h10 ∧ μ [.int .i64 (((n.l.take k).countP (emptyK n) : Int) + 1), .int .i64 ((k : Int) + 1)] h10 < μ [.int .i64 ((n.l.take k).countP (emptyK n) : Int), .int .i64 (k : Int)] h8 := fun he => by
        refine ⟨in64 (by omega) (by omega), in64 (by omega) (by omega), step _ h10 hlt ⟨f8.trans (f9.trans f10), ?_, hall'⟩⟩
        rw [List.take_add_one, hi, List.countP_append]
        simp [he]
      have same : emptyK n kd = false → In64 ((k : Int) + 1) ∧ I [.int .i64 ((n.l.take k).countP (emptyK n) : Int), .int .i64 ((k : Int) + 1)] h10 ∧ μ [.int .i64 ((n.l.take k).countP (emptyK n) : Int), .int .i64 ((k : Int) + 1)] h10 < μ [.int .i64 ((n.l.take k).countP (emptyK n) : Int), .int .i64 (k : Int)] h8 := fun he => by
        refine ⟨in64 (by omega) (by omega), step _ h10 hlt ⟨f8.trans (f9.trans f10), ?_, hall'⟩⟩
        rw [List.take_add_one, hi, List.countP_append]
        simp [he]
      have eyk : kd.kind = y.k := n9.kind
      have tail : x.k ≠ 35 ∨ y.k ≠ 42 → ∃ (n126 : Int), cl h10 (⟨h.size, 0, none⟩ : Addr) = some (.int .i64 n126) ∧ if (n126 == (36 : Int)) = true then (∃ (n127 : Int), cl h10 (⟨kk, 0, none⟩ : Addr) = some (.int .i64 n127) ∧ if (n127 == (37 : Int)) = true then (∃ (a128 : Option Addr) (l129 c130 : Nat), cl h10 ((⟨kk, 0, none⟩ : Addr).add 5) = some (.slice a128 l129 c130) ∧ (0 ≤ (0 : Int) ∧ (0 : Int) < ((l129 : Nat) : Int) ∧ onSome a128 fun q131 => ∃ (n132 : Int), cl h10 (q131.add (((0 : Int) : Int).toNat * 6)) = some (.int .i64 n132) ∧ if (n132 == (42 : Int)) = true then ((In64 (((n.l.take k).countP (emptyK n) : Int) + (1 : Int)) ∧ (In64 ((k : Int) + (1 : Int)) ∧ (I [(.int .i64 (((n.l.take k).countP (emptyK n) : Int) + (1 : Int))), (.int .i64 ((k : Int) + (1 : Int)))] h10 ∧ μ [(.int .i64 (((n.l.take k).countP (emptyK n) : Int) + (1 : Int))), (.int .i64 ((k : Int) + (1 : Int)))] h10 < μ [(.int .i64 ((n.l.take k).countP (emptyK n) : Int)), (.int .i64 (k : Int))] h8)))) else ((In64 ((k : Int) + (1 : Int)) ∧ (I [(.int .i64 ((n.l.take k).countP (emptyK n) : Int)), (.int .i64 ((k : Int) + (1 : Int)))] h10 ∧ μ [(.int .i64 ((n.l.take k).countP (emptyK n) : Int)), (.int .i64 ((k : Int) + (1 : Int)))] h10 < μ [(.int .i64 ((n.l.take k).countP (emptyK n) : Int)), (.int .i64 (k : Int))] h8))))) else ((In64 ((k : Int) + (1 : Int)) ∧ (I [(.int .i64 ((n.l.take k).countP (emptyK n) : Int)), (.int .i64 ((k : Int) + (1 : Int)))] h10 ∧ μ [(.int .i64 ((n.l.take k).countP (emptyK n) : Int)), (.int .i64 ((k : Int) + (1 : Int)))] h10 < μ [(.int .i64 ((n.l.take k).countP (emptyK n) : Int)), (.int .i64 (k : Int))] h8)))) else ((In64 ((k : Int) + (1 : Int)) ∧ (I [(.int .i64 ((n.l.take k).countP (emptyK n) : Int)), (.int .i64 ((k : Int) + (1 : Int)))] h10 ∧ μ [(.int .i64 ((n.l.take k).countP (emptyK n) : Int)), (.int .i64 ((k : Int) + (1 : Int)))] h10 < μ [(.int .i64 ((n.l.take k).countP (emptyK n) : Int)), (.int .i64 (k : Int))] h8))) := by
        intro h35
        have e35 : (n.kind == 35 && kd.kind == 42) = false := by rw [o1, eyk]; rcases h35 with h | h <;> simp [h]
        refine ⟨_, p1, ?_⟩
        by_cases w4 : x.k = 36
        · rw [if_pos (by simpa using w4)]
          refine ⟨_, r1, ?_⟩
          by_cases w5 : y.k = 37
          · rw [if_pos (by simpa using w5)]
            have hne := may_case hmk (eyk.trans w5)
            obtain ⟨k0, kr, ek⟩ : ∃ k0 kr, kd.l = k0 :: kr := by
              cases hl : kd.l with
              | nil => exact absurd hl hne
              | cons k0 kr => exact ⟨k0, kr, rfl⟩
            have n10' := n9.frm f10
            have ym : kd.l.length = y.m := n10'.open.2.2.2.2.2.1
            refine ⟨_, _, _, r6, by omega, by rw [ek] at ym; simp at ym; omega, ?_⟩
            obtain ⟨ad, y0, eb, hv, hn0⟩ := n10'.open.2.2.2.2.2.2 0 k0 (by rw [ek]; rfl)
            rw [eb]
            refine (show onSome _ _ from ?_)
            simp only [onSome_some']
            refine ⟨_, hv.k, ?_⟩
            by_cases w6 : y0.k = 42
            · rw [if_pos (by simpa using w6)]
              exact more (by simp [emptyK, o1, w4, eyk, w5, ek, hn0.kind, w6])
            · rw [if_neg (by simpa using w6)]
              exact same (by simp [emptyK, o1, w4, eyk, w5, ek, hn0.kind, w6])
          · rw [if_neg (by simpa using w5)]
            exact same (by rw [emptyK, e35, eyk]; simp [w5])
        · rw [if_neg (by simpa using w4)]
          exact same (by rw [emptyK, e35, o1]; simp [w4])
      refine ⟨_, p1, ?_⟩
      by_cases w2 : x.k = 35
      · rw [if_pos (by simpa using w2)]
        refine ⟨_, r1, ?_⟩
        by_cases w3 : y.k = 42
        · rw [if_pos (by simpa using w3)]
          exact more (by simp [emptyK, o1, w2, eyk, w3])
        · rw [if_neg (by simpa using w3)]
          exact tail (.inr w3)
      · rw [if_neg (by simpa using w2)]
        exact tail (.inl w2)
    · rw [if_neg (by simpa using hlt)]
      have hk' : k = x.m := by omega
      have hkf : kidsFrom (fun i k => fitKind k (kidLetter F.l i) && may d k) 0 n.l = true := by
        rw [kidsFrom_iff]
        intro j kd hj
        rw [Nat.zero_add]
        exact hall j kd (by have := (List.getElem?_eq_some_iff.1 hj).1; omega) hj
      have hfin := hR h8 F8
      refine fin_bool ?_ hfin
      rw [List.take_of_length_le (by omega), emay, z1, z2, z5, z6, z7, z8', hkf, y2, decide_eq_true z3, decide_eq_true z4, decide_eq_true y1]
      simp only [Bool.true_and, Bool.not_false]
      rw [Bool.eq_iff_iff, decide_eq_true_eq, decide_eq_true_eq]
      omega
end Go.Proofs.Ytoldgeolocfmiaa
