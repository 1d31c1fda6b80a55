/- Names and letters. -/
import Derived.Test.YtoldgeolocfmiaaS4
import Derived.KernelRfl
namespace Go.Proofs.Ytoldgeolocfmiaa
open Go Go.Proofs Go.Proofs.Ytoldgeolocfmiaa.V
/-! ## Nodes read and handed on -/

theorem loop_two {h : Heap} {N : Nat} {a0 : Int} {X : Nat → Int → Heap → Prop} {Bd : Int → Int → Heap → (List Value → Heap → Prop) → (List Value → Heap → Nat) → Prop} (h0 : X 0 a0 h)
    (hb : ∀ (k : Nat) (a : Int) (h' : Heap), k ≤ N → X k a h' → ∀ (I : List Value → Heap → Prop) (μ : List Value → Heap → Nat),
      (∀ a' h'', k < N → X (k + 1) a' h'' → I [.int .i64 a', .int .i64 ((k : Int) + 1)] h'' ∧ μ [.int .i64 a', .int .i64 ((k : Int) + 1)] h'' < μ [.int .i64 a, .int .i64 (k : Int)] h') → Bd a (k : Int) h' I μ) :
    ∃ (I : List Value → Heap → Prop) (μ : List Value → Heap → Nat), I [.int .i64 a0, .int .i64 0] h ∧ ∀ (n m : Int) (_D : Nat → Value) (h' : Heap), I [.int .i64 n, .int .i64 m] h' → Bd n m h' I μ := by
  refine ⟨fun vs h' => ∃ (k : Nat) (a : Int), vs = [.int .i64 a, .int .i64 (k : Int)] ∧ k ≤ N ∧ X k a h', fun vs _ => match vs with | [_, .int _ k] => N - k.toNat | _ => 0, ⟨0, a0, rfl, Nat.zero_le _, h0⟩, ?_⟩
  rintro n m _ h' ⟨k, a, e, hk, hx⟩
  simp only [List.cons.injEq, Value.int.injEq, true_and, and_true] at e
  obtain ⟨rfl, rfl⟩ := e
  refine hb k n h' hk hx _ _ fun a' h'' hlt hx' => ⟨⟨k + 1, a', rfl, hlt, hx'⟩, ?_⟩
  show N - ((k : Int) + 1).toNat < N - ((k : Int)).toNat
  omega

theorem box6 {h : Heap} {b : Nat} {x : NV} (hb : h[b]? = some (.cells x.cells 26 (0, 0))) :
    cl h (⟨b, 0, none⟩ : Addr) = some (.int .i64 x.k) ∧ cl h ((⟨b, 0, none⟩ : Addr).add 1) = some (.string x.nm) ∧ cl h ((⟨b, 0, none⟩ : Addr).add 2) = some (.int .i64 x.num) ∧ cl h ((⟨b, 0, none⟩ : Addr).add 3) = some (.string x.tx) ∧
      cl h ((⟨b, 0, none⟩ : Addr).add 4) = some (.slice x.a x.n x.c) ∧ cl h ((⟨b, 0, none⟩ : Addr).add 5) = some (.slice x.b x.m x.d) :=
  let y := box_at hb; ⟨y.k, y.nm, y.num, y.tx, y.names, y.l⟩

/-- A round's copy of a node. -/
theorem node_round {h : Heap} {b : Option Addr} {m : Nat} {l : List ND} (hl : NodesAt h b m l) {i : Nat} {k : ND} (hi : l[i]? = some k) {X : Nat → Heap → Prop}
    (hX : ∀ kk (y : NV) h', h'[kk]? = some (.cells y.cells 26 (0, 0)) → h.size ≤ kk → Frm [] h h' → NodeAt h' y k → X kk h') :
    onSome b fun q => ∃ (n22 : Int) (s23 : ByteArray) (n24 : Int) (s25 : ByteArray) (a26 : Option Addr) (l27 c28 : Nat) (a29 : Option Addr) (l30 c31 : Nat), (cl h (q.add ((i : Int).toNat * 6)) = some (.int .i64 n22) ∧ cl h ((q.add ((i : Int).toNat * 6)).add 1) = some (.string s23) ∧ cl h ((q.add ((i : Int).toNat * 6)).add 2) = some (.int .i64 n24) ∧ cl h ((q.add ((i : Int).toNat * 6)).add 3) = some (.string s25) ∧ cl h ((q.add ((i : Int).toNat * 6)).add 4) = some (.slice a26 l27 c28) ∧ cl h ((q.add ((i : Int).toNat * 6)).add 5) = some (.slice a29 l30 c31)) ∧
      Al h (.cells #[(.int .i64 (0 : Int)), (.string (⟨#[]⟩ : ByteArray)), (.int .i64 (0 : Int)), (.string (⟨#[]⟩ : ByteArray)), (.slice none 0 0), (.slice none 0 0)] 26) fun k32 h33 => StN h33 (⟨k32, 0, none⟩ : Addr) [(.int .i64 n22), (.string s23), (.int .i64 n24), (.string s25), (.slice a26 l27 c28), (.slice a29 l30 c31)] fun h34 => X k32 h34 := by
  obtain ⟨ad, y, rfl, hv, hn⟩ := hl.2 i k hi
  refine (show onSome _ _ from ?_)
  simp only [onSome_some', Int.toNat_natCast]
  refine ⟨y.k, y.nm, y.num, y.tx, y.a, y.n, y.c, y.b, y.m, y.d, ⟨hv.k, hv.nm, hv.num, hv.tx, hv.names, hv.l⟩, al_intro fun hA _ gA fA sA => stn_at gA rfl rfl fun hB gB fB sB => ?_⟩
  have f : Frm [] h hB := fA.young fB (by simp)
  exact hX _ y hB gB (Nat.le_refl _) f (hn.frm f)

theorem target_gen {f : FuncId} {h : Heap} (x : NV)
    (hc : ∀ R : Ending → Heap → Prop, (Al h (.cells #[(.int .i64 x.k), (.string x.nm), (.int .i64 x.num), (.string x.tx), (.slice x.a x.n x.c), (.slice x.b x.m x.d)] 26) fun k10 h11 => ∃ (n12 : Int), cl h11 (⟨k10, 0, none⟩ : Addr) = some (.int .i64 n12) ∧ cnd (n12 == (3 : Int)) (R (.returned (.bool true)) h11) (∃ (n13 : Int), cl h11 (⟨k10, 0, none⟩ : Addr) = some (.int .i64 n13) ∧ cnd (n13 == (11 : Int)) (R (.returned (.bool true)) h11) (∃ (n14 : Int), cl h11 (⟨k10, 0, none⟩ : Addr) = some (.int .i64 n14) ∧ R (.returned (.bool (n14 == (12 : Int)))) h11))) → CallsH Try.prog f #[x.val] h R) :
    Ret Try.prog f #[x.val] h (.bool (x.k == 3 || (x.k == 11 || x.k == 12))) := by
  refine .mk fun R hR => hc R (al_intro fun h1 e1 g1 f1 s1 => ?_)
  have := hR h1 f1
  obtain ⟨b1, _⟩ := box6 g1
  refine ⟨_, b1, ?_⟩
  rw [cnd_if]
  by_cases k3 : x.k = 3
  · rw [if_pos (by simp [k3])]; exact fin_bool (by simp [k3]) this
  rw [if_neg (by simp [k3])]
  refine ⟨_, b1, ?_⟩
  rw [cnd_if]
  by_cases k4 : x.k = 11
  · rw [if_pos (by simp [k4])]; exact fin_bool (by simp [k4]) this
  rw [if_neg (by simp [k4])]
  refine ⟨_, b1, fin_bool ?_ this⟩
  have e3 : (x.k == 3) = false := by simpa using k3
  have e4 : (x.k == 11) = false := by simpa using k4
  rw [e3, e4]; rfl
def targetK (k : Int) : Bool := k == 3 || (k == 11 || k == 12)
theorem ttarget_ok {h : Heap} (x : NV) : Ret Try.prog 71 #[x.val] h (.bool (targetK x.k)) := target_gen x fun R hyp => c71 _ _ _ _ _ _ _ _ _ _ _ R hyp
theorem rtarget_ok {h : Heap} (x : NV) : Ret Try.prog 79 #[x.val] h (.bool (targetK x.k)) := target_gen x fun R hyp => c79 _ _ _ _ _ _ _ _ _ _ _ R hyp
def loopK (k : Int) : Bool := decide (27 ≤ k) && decide (k ≤ 30)
theorem loop_ok {h : Heap} (x : NV) : Ret Try.prog 51 #[x.val] h (.bool (loopK x.k)) := by
  refine .mk fun R hR => c51 _ _ _ _ _ _ _ _ _ _ _ _ (al_intro fun h1 e1 g1 f1 s1 => ?_)
  have := hR h1 f1
  obtain ⟨b1, _⟩ := box6 g1
  refine ⟨_, b1, ?_⟩
  rw [cnd_if]
  by_cases k3 : 27 ≤ x.k
  · rw [if_pos (by simpa using k3)]; exact ⟨_, b1, fin_bool (by simp [loopK, k3]) this⟩
  · rw [if_neg (by simpa using k3)]; exact fin_bool (by simp [loopK, k3]) this

def emptyB (s : ByteArray) : Bool := decide (s.size = 0)
/-- Whether a Name fits what is asked for. -/
def namedB (n : ND) (want : ByteArray) : Bool :=
  if want.size = 0 then emptyB n.name else if want = ⟨#[110]⟩ then nameB n.name else if want = ⟨#[109]⟩ then emptyB n.name || nameB n.name else if want = ⟨#[105]⟩ then ident n.name
  else if want = ⟨#[99]⟩ then (match n.l with | _ :: k :: _ => if k.kind = 25 then nameB n.name else emptyB n.name | _ => emptyB n.name) else amongB want.data.toList n.name.data.toList

theorem named_ok {h : Heap} (hm : MaxOk h) {x : NV} {n : ND} (hx : NodeAt h x n) (hs : n.name.size ≤ 281474976710656) {want : ByteArray} (hw : want.size < 4294967281) :
    Ret Try.prog 45 #[x.val, .string want] h (.bool (namedB n want)) := by
  refine .mk fun R hR => c45 _ _ _ _ _ _ _ _ _ _ _ _ _ (al_intro fun h1 e1 g1 f1 s1 => ?_)
  have hR1 := hR h1 f1
  have hm1 := hm.frm f1
  obtain ⟨b1, b2, b3, b4, b5, b6⟩ := box6 g1
  obtain ⟨o1, o2, o3, o4, o5, o6⟩ := (hx.frm f1).open
  rw [o2] at hs
  rw [nil_size, beq_str, beq_str, beq_str, beq_str]
  simp only [cnd_if]
  by_cases w0 : want.size = 0
  · rw [if_pos (by simpa using w0)]
    exact ⟨_, b2, fin_bool (by rw [nil_size]; simp [namedB, w0, emptyB, o2]) hR1⟩
  rw [if_neg (by simpa using w0)]
  by_cases w1 : want = ⟨#[110]⟩
  · rw [if_pos (by simpa using w1)]
    exact ⟨_, b2, (tname_ok hm1 _).use ⟨_, rfl, fin_bool (by rw [namedB, if_neg w0, if_pos w1, o2]) hR1⟩⟩
  rw [if_neg (by simpa using w1)]
  by_cases w2 : want = ⟨#[109]⟩
  · rw [if_pos (by simpa using w2)]
    refine ⟨_, b2, ?_⟩
    rw [nil_size]
    by_cases z : x.nm.size = 0
    · rw [if_pos (by simpa using z)]
      exact fin_bool (by rw [namedB, if_neg w0, if_neg w1, if_pos w2, o2]; simp [emptyB, z]) hR1
    · rw [if_neg (by simpa using z)]
      exact ⟨_, b2, (tname_ok hm1 _).use ⟨_, rfl, fin_bool (by rw [namedB, if_neg w0, if_neg w1, if_pos w2, o2]; simp [emptyB, z]) hR1⟩⟩
  rw [if_neg (by simpa using w2)]
  by_cases w3 : want = ⟨#[105]⟩
  · rw [if_pos (by simpa using w3)]
    exact ⟨_, b2, (tident_ok _ _).use ⟨_, rfl, fin_bool (by rw [namedB, if_neg w0, if_neg w1, if_neg w2, if_pos w3, o2]) hR1⟩⟩
  rw [if_neg (by simpa using w3)]
  by_cases w4 : want = ⟨#[99]⟩
  · rw [if_pos (by simpa using w4)]
    refine ⟨_, _, _, b6, ?_⟩
    have e : namedB n want = (match n.l with | _ :: k :: _ => if k.kind = 25 then nameB n.name else emptyB n.name | _ => emptyB n.name) := by rw [namedB, if_neg w0, if_neg w1, if_neg w2, if_neg w3, if_pos w4]
    by_cases z : 1 < x.m
    · rw [if_pos (by simp; omega)]
      refine ⟨_, _, _, b6, by omega, by omega, ?_⟩
      obtain ⟨ad, y, eb, hv, hn⟩ := o6.2 1 _ (List.getElem?_eq_getElem (by rw [o6.1]; exact z))
      rw [eb]
      refine (show onSome _ _ from ?_)
      simp only [onSome_some']
      refine ⟨_, hv.k, ?_⟩
      obtain ⟨k0, k1, kr, el⟩ : ∃ k0 k1 kr, n.l = k0 :: k1 :: kr := by
        cases hl : n.l with
        | nil => have := o6.1; rw [hl] at this; simp at this; omega
        | cons k0 r =>
          cases r with
          | nil => have := o6.1; rw [hl] at this; simp at this; omega
          | cons k1 kr => exact ⟨k0, k1, kr, rfl⟩
      have ek : k1.kind = y.k := by
        have := hn.kind
        simp only [el, List.getElem_cons_succ, List.getElem_cons_zero] at this
        exact this
      rw [el] at e
      by_cases k25 : y.k = 25
      · rw [if_pos (by simpa using k25)]
        exact ⟨_, b2, (tname_ok hm1 _).use ⟨_, rfl, fin_bool (by rw [e]; simp [ek, k25, o2]) hR1⟩⟩
      · rw [if_neg (by simpa using k25)]
        exact ⟨_, b2, fin_bool (by rw [e, nil_size]; simp [ek, k25, o2, emptyB]) hR1⟩
    · rw [if_neg (by simp; omega)]
      have e2 : (match n.l with | _ :: k :: _ => if k.kind = 25 then nameB n.name else emptyB n.name | _ => emptyB n.name) = emptyB n.name := by
        cases hl : n.l with
        | nil => rfl
        | cons k0 r =>
          cases r with
          | nil => rfl
          | cons k1 kr => have := o6.1; rw [hl] at this; simp at this; omega
      exact ⟨_, b2, fin_bool (by rw [e, e2, nil_size, o2]; rfl) hR1⟩
  rw [if_neg (by simpa using w4)]
  exact ⟨_, b2, (tamong_ok hm1 hw hs).use ⟨_, rfl, fin_bool (by rw [namedB, if_neg w0, if_neg w1, if_neg w2, if_neg w3, if_neg w4, o2]) hR1⟩⟩

def exprK (k : Int) : Bool := decide (1 ≤ k) && (decide (k ≤ 21) && (k != 9))
/-- Whether a node is what a letter says. -/
def fitKind (n : ND) (c : Int) : Bool :=
  if c = 101 then exprK n.kind else if c = 116 then targetK n.kind else if c = 102 then exprK n.kind || n.kind == 42 else if c = 98 then n.kind == 25 else if c = 99 then n.kind == 25 || n.kind == 42
  else if c = 112 then n.kind == 9 else if c = 100 then n.kind == 23 else if c = 118 then exprK n.kind || (n.kind == 42 || n.kind == 22)
  else if c = 119 then targetK n.kind || (n.kind == 22 && (match n.l with | [d] => d.l.isEmpty | _ => false)) else if c = 107 then n.kind == 37
  else if c = 115 ∨ c = 120 then decide (22 ≤ n.kind) && (decide (n.kind ≤ 40) && (n.kind != 23 && (n.kind != 37 && (n.kind != 39 || c == 120)))) else false

theorem mayEnd {R : Ending → Heap → Prop} {Q : List PanicEntry → Heap → Prop} {kb : Nat} {h1 : Heap} {x : NV} {m : Bool} (gb : h1[kb]? = some (.cells x.cells 26 (0, 0))) (hm : Ret Try.prog 31 #[x.val] h1 (.bool m))
    (hR : ∀ h', Frm [] h1 h' → R (.returned (.bool m)) h') :
    ∃ (n22 : Int) (s23 : ByteArray) (n24 : Int) (s25 : ByteArray) (a26 : Option Addr) (l27 c28 : Nat) (a29 : Option Addr) (l30 c31 : Nat), (cl h1 (⟨kb, 0, none⟩ : Addr) = some (.int .i64 n22) ∧ cl h1 ((⟨kb, 0, none⟩ : Addr).add 1) = some (.string s23) ∧ cl h1 ((⟨kb, 0, none⟩ : Addr).add 2) = some (.int .i64 n24) ∧ cl h1 ((⟨kb, 0, none⟩ : Addr).add 3) = some (.string s25) ∧ cl h1 ((⟨kb, 0, none⟩ : Addr).add 4) = some (.slice a26 l27 c28) ∧ cl h1 ((⟨kb, 0, none⟩ : Addr).add 5) = some (.slice a29 l30 c31)) ∧
      CallsH Try.prog 31 #[(.agg #[(.int .i64 n22), (.string s23), (.int .i64 n24), (.string s25), (.slice a26 l27 c28), (.slice a29 l30 c31)])] h1 (endH (fun u32 h33 => ∃ (b34 : Bool), u32 = (.bool b34) ∧ R (.returned (.bool b34)) h33) Q) :=
  ⟨_, _, _, _, _, _, _, _, _, _, box6 gb, hm.use fun h' f => ⟨_, rfl, hR h' f⟩⟩

set_option maxHeartbeats 2000000 in
theorem fits_ok {h : Heap} {x : NV} {n : ND} (hx : NodeAt h x n) {m : Bool} (hmay : ∀ h', Frm [] h h' → Ret Try.prog 31 #[x.val] h' (.bool m)) (c : Int) :
    Ret Try.prog 50 #[x.val, .int .u8 c] h (.bool (fitKind n c && m)) := by
  refine .mk fun R hR => c50 _ _ _ _ _ _ _ _ _ _ _ _ _ (al_intro fun h1 e1 g1 f1 s1 => ?_)
  obtain ⟨b1, b2, b3, b4, b5, b6⟩ := box6 g1
  obtain ⟨o1, o2, o3, o4, o5, o6⟩ := (hx.frm f1).open
  refine ⟨fun vs h' => vs = [.int .i64 x.k, .bool (exprK x.k)] ∧ h' = h1, ?_, ?_⟩
  · refine ⟨_, b1, _, b1, ?_⟩
    rw [cnd_if]
    by_cases z1 : 1 ≤ x.k
    · rw [if_pos (by simpa using z1)]
      refine ⟨_, b1, ?_⟩
      rw [cnd_if]
      by_cases z2 : x.k ≤ 21
      · rw [if_pos (by simpa using z2)]
        exact ⟨_, b1, by simp [exprK, z1, z2], rfl⟩
      · rw [if_neg (by simpa using z2)]
        exact ⟨by simp [exprK, z2], rfl⟩
    · rw [if_neg (by simpa using z1)]
      exact ⟨by simp [exprK, z1], rfl⟩
  rintro k b _ h' ⟨e1, e2⟩
  rw [e2]; clear e2 h'
  simp only [List.cons.injEq, Value.int.injEq, Value.bool.injEq, true_and, and_true] at e1
  obtain ⟨rfl, rfl⟩ := e1
  have yes : fitKind n c = true → ∀ {h2 : Heap}, Frm [] h1 h2 → ∀ h', Frm [] h2 h' → R (.returned (.bool m)) h' := fun e h2 f2 h' f => by
    have := hR h' (f1.trans (f2.trans f))
    rwa [e, Bool.true_and] at this
  have no : fitKind n c = false → ∀ {h2 : Heap}, Frm [] h1 h2 → R (.returned (.bool false)) h2 := fun e h2 f2 => by
    have := hR h2 (f1.trans f2)
    rwa [e, Bool.false_and] at this
  have call : ∀ {h2 : Heap}, Frm [] h1 h2 → fitKind n c = true → ∀ {Q : List PanicEntry → Heap → Prop}, _ := fun {h2} f2 e {Q} => mayEnd (Q := Q) (f2.get g1 (by simp)) (hmay h2 (f1.trans f2)) (yes e f2)
  simp only [cnd_if]
  have fk : ∀ (b : Bool), (fitKind n c = b) → fitKind n c = b := fun _ h => h
  by_cases c1 : c = 101
  · rw [if_pos (by simpa using c1)]
    have e : fitKind n c = exprK x.k := by rw [fitKind, if_pos c1, o1]
    by_cases z : exprK x.k = true
    · rw [if_pos z]; exact call (Frm.refl _ _) (by rw [e, z])
    · rw [if_neg z]; exact no (by rw [e]; simpa using z) (Frm.refl _ _)
  rw [if_neg (by simpa using c1)]
  by_cases c2 : c = 116
  · rw [if_pos (by simpa using c2)]
    have e : fitKind n c = targetK x.k := by rw [fitKind, if_neg c1, if_pos c2, o1]
    refine ⟨_, _, _, _, _, _, _, _, _, _, box6 g1, (ttarget_ok x).use fun h2 f2 => ⟨_, rfl, ?_⟩⟩
    by_cases z : targetK x.k = true
    · rw [if_pos z]; exact call f2 (by rw [e, z])
    · rw [if_neg z]; exact no (by rw [e]; simpa using z) f2
  rw [if_neg (by simpa using c2)]
  by_cases c3 : c = 102
  · rw [if_pos (by simpa using c3)]
    have e : fitKind n c = (exprK x.k || x.k == 42) := by rw [fitKind, if_neg c1, if_neg c2, if_pos c3, o1]
    by_cases z : exprK x.k = true
    · rw [if_pos z]; exact call (Frm.refl _ _) (by rw [e, z]; rfl)
    · rw [if_neg z]
      by_cases z2 : x.k = 42
      · rw [if_pos (by simpa using z2)]; exact call (Frm.refl _ _) (by rw [e]; simp [z2])
      · rw [if_neg (by simpa using z2)]; exact no (by rw [e]; simp [z, z2]) (Frm.refl _ _)
  rw [if_neg (by simpa using c3)]
  by_cases c4 : c = 98
  · rw [if_pos (by simpa using c4)]
    have e : fitKind n c = (x.k == 25) := by rw [fitKind, if_neg c1, if_neg c2, if_neg c3, if_pos c4, o1]
    by_cases z : x.k = 25
    · rw [if_pos (by simpa using z)]; exact call (Frm.refl _ _) (by rw [e]; simp [z])
    · rw [if_neg (by simpa using z)]; exact no (by rw [e]; simp [z]) (Frm.refl _ _)
  rw [if_neg (by simpa using c4)]
  by_cases c5 : c = 99
  · rw [if_pos (by simpa using c5)]
    have e : fitKind n c = (x.k == 25 || x.k == 42) := by rw [fitKind, if_neg c1, if_neg c2, if_neg c3, if_neg c4, if_pos c5, o1]
    by_cases z : x.k = 25
    · rw [if_pos (by simpa using z)]; exact call (Frm.refl _ _) (by rw [e]; simp [z])
    · rw [if_neg (by simpa using z)]
      by_cases z2 : x.k = 42
      · rw [if_pos (by simpa using z2)]; exact call (Frm.refl _ _) (by rw [e]; simp [z2])
      · rw [if_neg (by simpa using z2)]; exact no (by rw [e]; simp [z, z2]) (Frm.refl _ _)
  rw [if_neg (by simpa using c5)]
  by_cases c6 : c = 112
  · rw [if_pos (by simpa using c6)]
    have e : fitKind n c = (x.k == 9) := by rw [fitKind, if_neg c1, if_neg c2, if_neg c3, if_neg c4, if_neg c5, if_pos c6, o1]
    by_cases z : x.k = 9
    · rw [if_pos (by simpa using z)]; exact call (Frm.refl _ _) (by rw [e]; simp [z])
    · rw [if_neg (by simpa using z)]; exact no (by rw [e]; simp [z]) (Frm.refl _ _)
  rw [if_neg (by simpa using c6)]
  by_cases c7 : c = 100
  · rw [if_pos (by simpa using c7)]
    have e : fitKind n c = (x.k == 23) := by rw [fitKind, if_neg c1, if_neg c2, if_neg c3, if_neg c4, if_neg c5, if_neg c6, if_pos c7, o1]
    by_cases z : x.k = 23
    · rw [if_pos (by simpa using z)]; exact call (Frm.refl _ _) (by rw [e]; simp [z])
    · rw [if_neg (by simpa using z)]; exact no (by rw [e]; simp [z]) (Frm.refl _ _)
  rw [if_neg (by simpa using c7)]
  by_cases c8 : c = 118
  · rw [if_pos (by simpa using c8)]
    have e : fitKind n c = (exprK x.k || (x.k == 42 || x.k == 22)) := by rw [fitKind, if_neg c1, if_neg c2, if_neg c3, if_neg c4, if_neg c5, if_neg c6, if_neg c7, if_pos c8, o1]
    by_cases z : exprK x.k = true
    · rw [if_pos z]; exact call (Frm.refl _ _) (by rw [e, z]; rfl)
    · rw [if_neg z]
      by_cases z2 : x.k = 42
      · rw [if_pos (by simpa using z2)]; exact call (Frm.refl _ _) (by rw [e]; simp [z2])
      · rw [if_neg (by simpa using z2)]
        by_cases z3 : x.k = 22
        · rw [if_pos (by simpa using z3)]; exact call (Frm.refl _ _) (by rw [e]; simp [z3])
        · rw [if_neg (by simpa using z3)]; exact no (by rw [e]; simp [z, z2, z3]) (Frm.refl _ _)
  rw [if_neg (by simpa using c8)]
  by_cases c9 : c = 119
  · rw [if_pos (by simpa using c9)]
    have e : fitKind n c = (targetK x.k || (x.k == 22 && (match n.l with | [d] => d.l.isEmpty | _ => false))) := by rw [fitKind, if_neg c1, if_neg c2, if_neg c3, if_neg c4, if_neg c5, if_neg c6, if_neg c7, if_neg c8, if_pos c9, o1]
    refine ⟨_, _, _, _, _, _, _, _, _, _, box6 g1, (ttarget_ok x).use fun h2 f2 => ⟨_, rfl, ?_⟩⟩
    have g2 := f2.get g1 (by simp)
    obtain ⟨_, _, _, _, _, d6⟩ := box6 g2
    by_cases z : targetK x.k = true
    · rw [if_pos z]; exact call f2 (by rw [e, z]; rfl)
    · rw [if_neg z]
      have z' : targetK x.k = false := by simpa using z
      by_cases z2 : x.k = 22
      · rw [if_pos (by simpa using z2)]
        refine ⟨_, _, _, d6, ?_⟩
        by_cases z3 : x.m = 1
        · rw [if_pos (by simp [z3])]
          refine ⟨_, _, _, d6, by omega, by omega, ?_⟩
          obtain ⟨ad, y, eb, hv, hn⟩ := o6.2 0 _ (List.getElem?_eq_getElem (by rw [o6.1]; omega))
          rw [eb]
          refine (show onSome _ _ from ?_)
          simp only [onSome_some']
          refine ⟨_, _, _, (hv.frm f2).l, ?_⟩
          obtain ⟨k0, el⟩ : ∃ k0, n.l = [k0] := List.length_eq_one_iff.1 (by rw [o6.1, z3])
          have ek : k0.l.length = y.m := by
            have := hn.open.2.2.2.2.2.1
            simp only [el, List.getElem_cons_zero] at this
            exact this
          rw [el] at e
          by_cases z4 : y.m = 0
          · rw [if_pos (by simp [z4])]
            refine call f2 ?_
            rw [e]; simp [z2, List.length_eq_zero_iff.1 (ek.trans z4)]
          · rw [if_neg (by simpa using z4)]
            refine no ?_ f2
            rw [e, z']
            have : k0.l.isEmpty = false := by
              cases hl : k0.l with
              | nil => rw [hl] at ek; exact absurd ek.symm z4
              | cons a r => rfl
            simp [this]
        · rw [if_neg (by simp; omega)]
          refine no ?_ f2
          rw [e, z']
          have : (match n.l with | [d] => d.l.isEmpty | _ => false) = false := by
            cases hl : n.l with
            | nil => rfl
            | cons a r =>
              cases r with
              | nil => have := o6.1; rw [hl] at this; simp at this; omega
              | cons a' r' => rfl
          simp [this]
      · rw [if_neg (by simpa using z2)]
        exact no (by rw [e, z']; simp [z2]) f2
  rw [if_neg (by simpa using c9)]
  by_cases c10 : c = 107
  · rw [if_pos (by simpa using c10)]
    have e : fitKind n c = (x.k == 37) := by rw [fitKind, if_neg c1, if_neg c2, if_neg c3, if_neg c4, if_neg c5, if_neg c6, if_neg c7, if_neg c8, if_neg c9, if_pos c10, o1]
    by_cases z : x.k = 37
    · rw [if_pos (by simpa using z)]; exact call (Frm.refl _ _) (by rw [e]; simp [z])
    · rw [if_neg (by simpa using z)]; exact no (by rw [e]; simp [z]) (Frm.refl _ _)
  rw [if_neg (by simpa using c10)]
  refine ⟨fun vs h' => vs = [.bool (c == 115 || c == 120)] ∧ h' = h1, ?_, ?_⟩
  · by_cases c11 : c = 115
    · rw [if_pos (by simp [c11])]; simp [c11]
    · rw [if_neg (by simp [c11])]; simp [c11]
  rintro b _ h' ⟨e1, e2⟩
  rw [e2]; clear e2 h'
  simp only [List.cons.injEq, Value.bool.injEq, and_true] at e1
  by_cases c11 : c = 115 ∨ c = 120
  · rw [if_pos (by rw [e1]; simpa using c11)]
    have e : fitKind n c = (decide (22 ≤ x.k) && (decide (x.k ≤ 40) && (x.k != 23 && (x.k != 37 && (x.k != 39 || c == 120))))) := by rw [fitKind, if_neg c1, if_neg c2, if_neg c3, if_neg c4, if_neg c5, if_neg c6, if_neg c7, if_neg c8, if_neg c9, if_neg c10, if_pos c11, o1]
    by_cases z1 : 22 ≤ x.k
    · rw [if_pos (by simpa using z1)]
      by_cases z2 : x.k ≤ 40
      · rw [if_pos (by simpa using z2)]
        by_cases z3 : x.k = 23
        · rw [if_neg (by simp [z3])]; exact no (by rw [e]; simp [z3]) (Frm.refl _ _)
        · rw [if_pos (by simpa using z3)]
          by_cases z4 : x.k = 37
          · rw [if_neg (by simp [z4])]; exact no (by rw [e]; simp [z4]) (Frm.refl _ _)
          · rw [if_pos (by simpa using z4)]
            by_cases z5 : x.k = 39
            · rw [if_neg (by simp [z5])]
              by_cases z6 : c = 120
              · rw [if_pos (by simpa using z6)]; exact call (Frm.refl _ _) (by rw [e]; simp [z5, z6])
              · rw [if_neg (by simpa using z6)]; exact no (by rw [e]; simp [z5, z6]) (Frm.refl _ _)
            · rw [if_pos (by simpa using z5)]; exact call (Frm.refl _ _) (by rw [e]; simp [z1, z2, z3, z4, z5])
      · rw [if_neg (by simpa using z2)]; exact no (by rw [e]; simp [z2]) (Frm.refl _ _)
    · rw [if_neg (by simpa using z1)]; exact no (by rw [e]; simp [z1]) (Frm.refl _ _)
  · rw [if_neg (by rw [e1]; simpa using c11)]
    exact no (by rw [fitKind, if_neg c1, if_neg c2, if_neg c3, if_neg c4, if_neg c5, if_neg c6, if_neg c7, if_neg c8, if_neg c9, if_neg c10, if_neg c11]) (Frm.refl _ _)
end Go.Proofs.Ytoldgeolocfmiaa
