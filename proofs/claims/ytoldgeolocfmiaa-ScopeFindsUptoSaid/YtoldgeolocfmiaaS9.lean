/- Labels, places; scope.early. -/
import Derived.Test.YtoldgeolocfmiaaS8
namespace Go.Proofs.Ytoldgeolocfmiaa
open Go Go.Proofs Go.Proofs.Ytoldgeolocfmiaa.V
/-! ## A tree that may be -/

/-- tree.may says yes. -/
def Good (n : ND) : Prop := ∃ d, may d n = true
theorem Good.parts {n : ND} (h : Good n) : ∃ d, (fixL (formOf n.kind n.l.length).1.l).length ≤ n.l.length ∧ ∀ i k, n.l[i]? = some k → (fitKind k (kidLetter (formOf n.kind n.l.length).1.l i) && may d k) = true := by
  obtain ⟨d, h⟩ := h
  cases d with
  | zero => cases h
  | succ d =>
    simp only [may, Bool.and_eq_true, decide_eq_true_eq] at h
    obtain ⟨_, _, _, _, _, _, _, _, h9, _, h11, _⟩ := h
    refine ⟨d, h9, fun i k hi => ?_⟩
    have := (kidsFrom_iff _ _ _).1 h11 i k hi
    rwa [Nat.zero_add] at this
theorem Good.kid {n k : ND} (h : Good n) (hk : k ∈ n.l) : Good k := by
  obtain ⟨d, _, h2⟩ := h.parts
  obtain ⟨i, hi⟩ := List.getElem?_of_mem hk
  have := h2 i k hi
  rw [Bool.and_eq_true] at this
  exact ⟨d, this.2⟩
theorem fix_pos (k : Int) (hk : k = 15 ∨ k = 16 ∨ k = 20 ∨ k = 30 ∨ k = 38) (m : Nat) : 1 ≤ (fixL (formOf k m).1.l).length := by
  rcases hk with rfl | rfl | rfl | rfl | rfl
  · show 1 ≤ (fixL ⟨#[101]⟩).length; decide +kernel
  · show 1 ≤ (fixL ⟨#[116]⟩).length; decide +kernel
  · show 1 ≤ (fixL ⟨#[116, 101]⟩).length; decide +kernel
  · have : exprForm 30 = none := by decide
    have e : (formOf 30 m).1.l = ⟨#[119, 101, 98]⟩ := by rw [formOf, this]; simp [stmtForm]
    rw [e]; decide +kernel
  · have : exprForm 38 = none := by decide
    have e : (formOf 38 m).1.l = ⟨#[115]⟩ := by rw [formOf, this]; simp [stmtForm]
    rw [e]; decide +kernel
theorem Good.head {n : ND} (h : Good n) (hk : n.kind = 15 ∨ n.kind = 16 ∨ n.kind = 20 ∨ n.kind = 30 ∨ n.kind = 38) : ∃ k0 r, n.l = k0 :: r := by
  obtain ⟨d, h1, _⟩ := h.parts
  have := fix_pos n.kind hk n.l.length
  cases e : n.l with
  | nil => rw [e] at h1 this; simp only [List.length_nil] at h1 this; omega
  | cons a r => exact ⟨a, r, rfl⟩

/-! ## Labels -/

abbrev Lab := List (ByteArray × Bool)
def LabelsAt (h : Heap) : Option Addr → Lab → Prop
  | p, [] => p = none
  | p, (s, b) :: r => ∃ q up, p = some q ∧ cl h q = some (.string s) ∧ cl h (q.add 1) = some (.bool b) ∧ cl h (q.add 2) = some (.pointer up) ∧ LabelsAt h up r
theorem LabelsAt.frm {h h' : Heap} (f : Frm [] h h') : ∀ {L : Lab} {p : Option Addr}, LabelsAt h p L → LabelsAt h' p L
  | [], _, hp => hp
  | _ :: _, _, ⟨q, up, e, h1, h2, h3, h4⟩ => ⟨q, up, e, f.cl h1 (by simp), f.cl h2 (by simp), f.cl h3 (by simp), LabelsAt.frm f h4⟩

def findL (L : Lab) (s : ByteArray) : Option Bool := (L.find? fun p => decide (p.1 = s)).map (·.2)
theorem findL_cons (a : ByteArray) (b : Bool) (L : Lab) (s : ByteArray) : findL ((a, b) :: L) s = if a = s then some b else findL L s := by
  unfold findL
  rw [List.find?_cons]
  by_cases e : a = s <;> simp [e]
theorem labels_len {h : Heap} : ∀ {L L' : Lab} {p : Option Addr}, LabelsAt h p L → LabelsAt h p L' → L.length = L'.length
  | [], [], _, _, _ => rfl
  | [], (_, _) :: _, _, h1, ⟨q, up, e, _⟩ => by rw [h1] at e; cases e
  | (_, _) :: _, [], _, ⟨q, up, e, _⟩, h1 => by rw [h1] at e; cases e
  | (_, _) :: _, (_, _) :: _, _, ⟨q, up, e, _, _, h3, h4⟩, ⟨q', up', e', _, _, h3', h4'⟩ => by
    rw [e] at e'; cases e'
    rw [h3] at h3'; cases h3'
    simp [labels_len h4 h4']
open Classical in
noncomputable def labLen (h : Heap) (p : Option Addr) : Nat := if hL : ∃ L, LabelsAt h p L then (Classical.choose hL).length else 0
theorem labLen_eq {h : Heap} {L : Lab} {p : Option Addr} (hL : LabelsAt h p L) : labLen h p = L.length := by
  have h1 : ∃ L, LabelsAt h p L := ⟨L, hL⟩
  rw [labLen, dif_pos h1]
  exact labels_len (Classical.choose_spec h1) hL
theorem find_ok {h : Heap} {p : Option Addr} {L : Lab} (hL : LabelsAt h p L) (s : ByteArray) :
    CallsH Try.prog 38 #[.pointer p, .string s] h fun e h' => ∃ u, e = .returned u ∧ ∃ r, u = .pointer r ∧ h' = h ∧ (match findL L s with | none => r = none | some b => ∃ q, r = some q ∧ cl h (q.add 1) = some (.bool b)) := by
  refine c38 _ _ _ _ ?_
  refine ⟨fun vs h' => ∃ p' L', vs = [.pointer p'] ∧ h' = h ∧ LabelsAt h p' L' ∧ findL L' s = findL L s, fun vs h' => match vs with | [.pointer p'] => labLen h' p' | _ => 0, ⟨p, L, rfl, rfl, hL, rfl⟩, ?_⟩
  rintro p1 _ h1 ⟨p', L', e1, rfl, h2, h3⟩
  simp only [List.cons.injEq, Value.pointer.injEq, and_true] at e1
  subst e1
  rw [cnd_if]
  cases L' with
  | nil =>
    obtain rfl : p1 = none := h2
    rw [if_neg (by simp)]
    refine ⟨_, rfl, _, rfl, by trivial, ?_⟩
    rw [← h3]; rfl
  | cons a r =>
    obtain ⟨nm, b⟩ := a
    have hlen := labLen_eq h2
    obtain ⟨q, up, rfl, k1, k2, k3, k4⟩ := h2
    rw [if_pos (by simp)]
    refine (show onSome _ _ from ?_)
    simp only [onSome_some', cnd_if]
    refine ⟨nm, k1, ?_⟩
    rw [beq_str]
    rw [findL_cons] at h3
    by_cases e : nm = s
    · rw [if_neg (by simp [e])]
      rw [if_pos e] at h3
      refine ⟨_, rfl, _, rfl, trivial, ?_⟩
      rw [← h3]
      exact ⟨q, rfl, k2⟩
    · rw [if_pos (by simp [e])]
      rw [if_neg e] at h3
      refine ⟨up, k3, ⟨up, r, rfl, trivial, k4, h3⟩, ?_⟩
      show labLen h1 up < labLen h1 (some q)
      rw [hlen, labLen_eq k4]
      simp

/-! ## Places -/

/-- A place's fields. -/
structure PV where
  x : NV
  p : Option Addr
  br : Bool
  go : Bool
  ins : Bool
abbrev PV.cells (y : PV) : Array Value := #[.int .i64 y.x.k, .string y.x.nm, .int .i64 y.x.num, .string y.x.tx, .slice y.x.a y.x.n y.x.c, .slice y.x.b y.x.m y.x.d, .pointer y.p, .bool y.br, .bool y.go, .bool y.ins]
abbrev PV.val (y : PV) : Value := .agg #[.int .i64 y.x.k, .string y.x.nm, .int .i64 y.x.num, .string y.x.tx, .slice y.x.a y.x.n y.x.c, .slice y.x.b y.x.m y.x.d, .pointer y.p, .bool y.br, .bool y.go, .bool y.ins]
theorem pbox {h : Heap} {b : Nat} {y : PV} (hb : h[b]? = some (.cells y.cells 45 (0, 0))) :
    (cl h (⟨b, 0, none⟩ : Addr) = some (.int .i64 y.x.k) ∧ cl h ((⟨b, 0, none⟩ : Addr).add 1) = some (.string y.x.nm) ∧ cl h ((⟨b, 0, none⟩ : Addr).add 2) = some (.int .i64 y.x.num) ∧ cl h ((⟨b, 0, none⟩ : Addr).add 3) = some (.string y.x.tx) ∧
      cl h ((⟨b, 0, none⟩ : Addr).add 4) = some (.slice y.x.a y.x.n y.x.c) ∧ cl h ((⟨b, 0, none⟩ : Addr).add 5) = some (.slice y.x.b y.x.m y.x.d)) ∧ cl h ((⟨b, 0, none⟩ : Addr).add 6) = some (.pointer y.p) ∧ cl h ((⟨b, 0, none⟩ : Addr).add 7) = some (.bool y.br) ∧
      cl h ((⟨b, 0, none⟩ : Addr).add 8) = some (.bool y.go) ∧ cl h ((⟨b, 0, none⟩ : Addr).add 9) = some (.bool y.ins) := by
  refine ⟨⟨?_, ?_, ?_, ?_, ?_, ?_⟩, ?_, ?_, ?_, ?_⟩ <;> first
    | (rw [add_at, cl_at hb]; rfl)
    | (rw [cl_at hb]; rfl)
/-- What is around a node. -/
structure Arnd where
  labs : Lab
  br : Bool
  go : Bool
  ins : Bool
structure PlaceAt (h : Heap) (y : PV) (n : ND) (a : Arnd) : Prop where
  node : NodeAt h y.x n
  labs : LabelsAt h y.p a.labs
  br : y.br = a.br
  go : y.go = a.go
  ins : y.ins = a.ins
theorem PlaceAt.frm {h h' : Heap} (f : Frm [] h h') {y : PV} {n : ND} {a : Arnd} (hp : PlaceAt h y n a) : PlaceAt h' y n a := ⟨hp.node.frm f, hp.labs.frm f, hp.br, hp.go, hp.ins⟩

def headB (p : ND → Bool) (l : List ND) : Bool := match l with | k :: _ => p k | [] => false
/-- Whether strict code may not say what stands at a place. -/
def earlyB (n : ND) (a : Arnd) : Bool :=
  if n.kind = 23 ∨ n.kind = 35 then bannedB n.name
  else if n.kind = 39 ∨ n.kind = 10 then bannedB n.name || (n.names.any bannedB || !decide n.names.Nodup)
  else if n.kind = 20 ∨ n.kind = 16 ∨ n.kind = 30 then headB (fun k => decide (k.kind = 3) && bannedB k.name) n.l
  else if n.kind = 15 then decide (n.name = ⟨#[100, 101, 108, 101, 116, 101]⟩) && headB (fun k => decide (k.kind = 3)) n.l
  else if n.kind = 8 then !decide ((n.l.map ND.text).Nodup)
  else if n.kind = 33 then !a.ins
  else if n.kind = 31 then (if n.name.size = 0 then !a.br else (findL a.labs n.name).isNone)
  else if n.kind = 32 then (if n.name.size = 0 then !a.go else match findL a.labs n.name with | none => true | some b => !b)
  else if n.kind = 38 then (findL a.labs n.name).isSome
  else false

theorem own_strs {h : Heap} {base : Nat} {a : Option Addr} {n m c : Nat} {l : List ByteArray} (ho : Own h base 9 1 (.slice a n c) m (strV l)) : StrsAt h a n l := by
  obtain ⟨hr, rfl, _⟩ := ho.slRow
  have hl : l.length = n := by simpa [strV] using hr.1
  refine ⟨hl, fun i s hi => ?_⟩
  have hlt := (List.getElem?_eq_some_iff.1 hi).1
  rcases hr.2 with hz | ⟨ad, e, hr⟩
  · omega
  · exact ⟨ad, e, hr i _ (by simp [strV, hi])⟩

theorem loop_sl {h : Heap} {N : Nat} {v0 : Value} {X : Nat → Value → Heap → Prop} {Bd : Option Addr → Nat → Nat → Int → Heap → (List Value → Heap → Prop) → (List Value → Heap → Nat) → Prop} (h0 : X 0 v0 h)
    (hb : ∀ (k : Nat) (a : Option Addr) (n c : Nat) (h' : Heap), k ≤ N → X k (.slice a n c) h' → ∀ (I : List Value → Heap → Prop) (μ : List Value → Heap → Nat),
      (∀ v' h'', k < N → X (k + 1) v' h'' → I [v', .int .i64 ((k : Int) + 1)] h'' ∧ μ [v', .int .i64 ((k : Int) + 1)] h'' < μ [.slice a n c, .int .i64 (k : Int)] h') → Bd a n c (k : Int) h' I μ) :
    ∃ (I : List Value → Heap → Prop) (μ : List Value → Heap → Nat), I [v0, .int .i64 0] h ∧ ∀ (a : Option Addr) (n c : Nat) (m : Int) (_D : Nat → Value) (h' : Heap), I [.slice a n c, .int .i64 m] h' → Bd a n c m h' I μ := by
  refine ⟨fun vs h' => ∃ (k : Nat) (v : Value), vs = [v, .int .i64 (k : Int)] ∧ k ≤ N ∧ X k v h', fun vs _ => match vs with | [_, .int _ k] => N - k.toNat | _ => 0, ⟨0, v0, rfl, Nat.zero_le _, h0⟩, ?_⟩
  rintro a n c m _ h' ⟨k, v, e, hk, hx⟩
  simp only [List.cons.injEq, Value.int.injEq, true_and, and_true] at e
  obtain ⟨rfl, rfl⟩ := e
  refine hb k a n c h' hk hx _ _ fun v' h'' hlt hx' => ⟨⟨k + 1, v', rfl, hlt, hx'⟩, ?_⟩
  show N - ((k : Int) + 1).toNat < N - ((k : Int)).toNat
  omega

theorem orB {a b : Bool} {P Q : Prop} [Decidable P] [Decidable Q] (ha : a = decide P) (hb : b = decide Q) : (a || b) = decide (P ∨ Q) := by rw [ha, hb, Bool.decide_or]

set_option maxHeartbeats 4000000 in
set_option maxRecDepth 20000 in
theorem early_ok {h : Heap} {y : PV} {n : ND} {a : Arnd} (hp : PlaceAt h y n a) (ho : n.Ok) (hg : Good n) : Ret Try.prog 24 #[y.val] h (.bool (earlyB n a)) := by
  refine .mk fun R hR => c24 _ _ _ _ _ _ _ _ _ _ _ _ _ _ _ _ (al_intro fun h1 e1 g1 f1 s1 => ?_)
  obtain ⟨q6, qp, qb, qg, qi⟩ := pbox g1
  refine ⟨_, _, _, _, _, _, _, _, _, _, q6, al_intro fun h2 e2 g2 f2 s2 => stn_at g2 rfl rfl fun h3 g3 f3 s3 => ?_⟩
  have F3 : Frm [] h h3 := (f1.trans f2).young f3 (by simp; have := f1.1; omega)
  have gp : h3[h.size]? = some (.cells y.cells 45 (0, 0)) := f3.get (f2.get g1 (by simp)) (by simp; omega)
  have gx : h3[h1.size]? = some (.cells y.x.cells 26 (0, 0)) := g3
  have hp3 := hp.frm F3
  obtain ⟨q6, qp, qb, qg, qi⟩ := pbox gp
  obtain ⟨b1, b2, b3, b4, b5, b6⟩ := box6 gx
  obtain ⟨o1, o2, o3, o4, o5, o6⟩ := hp3.node.open
  have hlen := ho.len
  have hnlen := ho.nlen
  have onn := o5.1
  have oln := o6.1
  have ok : ∀ {b : Bool} {h' : Heap}, Frm [] h3 h' → b = earlyB n a → R (.returned (.bool b)) h' := fun f e => e ▸ hR _ (F3.trans f)
  have ok0 : ∀ {b : Bool}, b = earlyB n a → R (.returned (.bool b)) h3 := fun e => ok (Frm.refl _ _) e
  refine ⟨_, b1, ?_⟩
  refine ⟨fun vs h' => vs = [.bool (decide (n.kind = 23 ∨ n.kind = 35))] ∧ h' = h3, ?_, ?_⟩
  · rw [cnd_if, o1]
    by_cases z : y.x.k = 23
    · simp [z]
    · by_cases z' : y.x.k = 35 <;> simp [z, z']
  rintro bb _ h' ⟨e, rfl⟩
  simp only [List.cons.injEq, Value.bool.injEq, and_true] at e
  subst e
  rw [cnd_if]
  by_cases z1 : n.kind = 23 ∨ n.kind = 35
  · rw [if_pos (by simpa using z1)]
    refine ⟨_, b2, (banned_ok _ _).use ⟨_, rfl, ok0 ?_⟩⟩
    rw [earlyB, if_pos z1, o2]
  rw [if_neg (by simpa using z1)]
  refine ⟨fun vs h'' => vs = [.bool (decide (n.kind = 39 ∨ n.kind = 10))] ∧ h'' = h', ?_, ?_⟩
  · rw [cnd_if, o1]
    by_cases z : y.x.k = 39
    · simp [z]
    · by_cases z' : y.x.k = 10 <;> simp [z, z']
  rintro bb _ h4 ⟨e, rfl⟩
  simp only [List.cons.injEq, Value.bool.injEq, and_true] at e
  subst e
  rw [cnd_if]
  by_cases z2 : n.kind = 39 ∨ n.kind = 10
  · rw [if_pos (by simpa using z2)]
    have e : earlyB n a = (bannedB n.name || (n.names.any bannedB || !decide n.names.Nodup)) := by rw [earlyB, if_neg z1, if_pos z2]
    refine ⟨_, b2, (banned_ok _ _).use ⟨_, rfl, ?_⟩⟩
    rw [cnd_if]
    by_cases y1 : bannedB y.x.nm = true
    · rw [if_pos y1]; exact ok0 (by rw [e, o2, y1]; rfl)
    rw [if_neg y1]
    refine ⟨_, _, _, b5, (containsFunc_ok o5 (by omega) (test_banned _)).use ⟨_, rfl, ?_⟩⟩
    rw [cnd_if]
    have y1' : bannedB n.name = false := by rw [o2]; simpa using y1
    by_cases y2 : n.names.any bannedB = true
    · rw [if_pos y2]; exact ok0 (by rw [e, y1', y2]; rfl)
    rw [if_neg y2]
    refine ⟨_, _, _, b5, (distinct_ok o5 (by omega)).use fun h5 f5 => ⟨_, rfl, ok f5 ?_⟩⟩
    have y2' : n.names.any bannedB = false := by simpa using y2
    rw [e, y1', y2']; rfl
  rw [if_neg (by simpa using z2)]
  refine ⟨fun vs h'' => vs = [.bool (decide (n.kind = 20 ∨ n.kind = 16 ∨ n.kind = 30))] ∧ h'' = h4, ?_, ?_⟩
  · rw [cnd_if, cnd_if, o1]
    by_cases z : y.x.k = 20
    · simp [z]
    · by_cases z' : y.x.k = 16
      · simp [z, z']
      · by_cases z2 : y.x.k = 30 <;> simp [z, z', z2]
  rintro bb _ h5 ⟨e, rfl⟩
  simp only [List.cons.injEq, Value.bool.injEq, and_true] at e
  subst e
  rw [cnd_if]
  by_cases z3 : n.kind = 20 ∨ n.kind = 16 ∨ n.kind = 30
  · rw [if_pos (by simpa using z3)]
    obtain ⟨k0, kr, ek⟩ := hg.head (by omega)
    have e : earlyB n a = (decide (k0.kind = 3) && bannedB k0.name) := by rw [earlyB, if_neg z1, if_neg z2, if_pos z3, ek]; rfl
    refine ⟨_, _, _, b6, by omega, by rw [ek] at oln; simp at oln; omega, ?_⟩
    obtain ⟨ad, v, eb, hv, hn⟩ := o6.2 0 k0 (by rw [ek]; rfl)
    obtain ⟨n1, n2, _⟩ := hn.open
    rw [eb]
    refine (show onSome _ _ from ?_)
    simp only [onSome_some']
    refine ⟨_, hv.k, ?_⟩
    rw [cnd_if]
    by_cases y1 : v.k = 3
    · rw [if_pos (by simpa using y1)]
      refine ⟨_, _, _, b6, by omega, by rw [ek] at oln; simp at oln; omega, ?_⟩
      rw [eb]
      refine (show onSome _ _ from ?_)
      simp only [onSome_some']
      refine ⟨_, hv.nm, (banned_ok _ _).use ⟨_, rfl, ok0 ?_⟩⟩
      rw [e, n1, n2, y1]; rfl
    · rw [if_neg (by simpa using y1)]
      exact ok0 (by rw [e, n1]; simp [y1])
  rw [if_neg (by simpa using z3), cnd_if]
  by_cases z4 : n.kind = 15
  · rw [if_pos (by rw [← o1]; simpa using z4)]
    obtain ⟨k0, kr, ek⟩ := hg.head (by omega)
    have e : earlyB n a = (decide (n.name = ⟨#[100, 101, 108, 101, 116, 101]⟩) && decide (k0.kind = 3)) := by rw [earlyB, if_neg z1, if_neg z2, if_neg z3, if_pos z4, ek]; rfl
    refine ⟨_, b2, ?_⟩
    rw [beq_str, cnd_if]
    by_cases y1 : y.x.nm = ⟨#[100, 101, 108, 101, 116, 101]⟩
    · rw [if_pos (by simpa using y1)]
      refine ⟨_, _, _, b6, by omega, by rw [ek] at oln; simp at oln; omega, ?_⟩
      obtain ⟨ad, v, eb, hv, hn⟩ := o6.2 0 k0 (by rw [ek]; rfl)
      rw [eb]
      refine (show onSome _ _ from ?_)
      simp only [onSome_some']
      refine ⟨_, hv.k, ok0 ?_⟩
      rw [e, hn.kind, o2, y1, Bool.eq_iff_iff]; simp
    · rw [if_neg (by simpa using y1)]
      exact ok0 (by rw [e, o2]; simp [y1])
  rw [if_neg (by rw [← o1]; simpa using z4), cnd_if]
  by_cases z5 : n.kind = 8
  · rw [if_pos (by rw [← o1]; simpa using z5)]
    have e : earlyB n a = !decide ((n.l.map ND.text).Nodup) := by rw [earlyB, if_neg z1, if_neg z2, if_neg z3, if_neg z4, if_pos z5]
    refine ⟨_, _, _, b6, ?_⟩
    refine loop_sl (N := y.x.m) (v0 := .slice none 0 0) (X := fun k v h' => Frm [] h5 h' ∧ Own h' h5.size 9 1 v k (strV ((n.l.take k).map ND.text))) ⟨Frm.refl _ _, by simpa [strV] using Own.nil h5 h5.size 9 1⟩ ?_
    rintro k a' n' c' h6 hk ⟨f6, ow6⟩ I μ step
    rw [cnd_if]
    by_cases hlt : k < y.x.m
    · rw [if_pos (by simpa using hlt)]
      have hi : n.l[k]? = some (n.l[k]'(by omega)) := List.getElem?_eq_getElem _
      generalize n.l[k]'(by omega) = kd at hi
      refine ⟨by omega, by omega, node_round (o6.frm f6) hi fun kk v h7 g7 k7 f7 n7 => ?_⟩
      obtain ⟨r1, r2, r3, r4, r5, r6⟩ := box6 g7
      refine ⟨_, r4, ?_⟩
      have ow7 := Own.frm f7 ow6 (by simp)
      refine append_elem (z := .string ⟨#[]⟩) (size := 1) (bytes := 16) (by kernel_rfl) (by kernel_rfl) rfl (by omega) ow7 (us := [.string v.tx]) rfl (fun u hu => by rw [List.mem_singleton.1 hu]; rfl) (by omega) (by simp only [maxLen]; omega) (by have := f6.1; have := f7.1; omega) ?_
      intro v' h8 o8 f8 hb8
      obtain ⟨a8, c8, rfl⟩ := o8.slice
      refine ⟨_, _, _, rfl, in64 (by omega) (by omega), step _ h8 hlt ⟨(f6.trans f7).young f8 fun x hx => .inr (ow7.lt (by simpa [blockOf] using hx)).1, ?_⟩⟩
      rw [List.take_add_one, hi]
      have : kd.text = v.tx := n7.open.2.2.2.1
      simpa [strV, this] using o8
    · rw [if_neg (by simpa using hlt)]
      have hk' : k = y.x.m := by omega
      rw [List.take_of_length_le (by omega)] at ow6
      obtain rfl : n' = k := by obtain ⟨_, hh, _⟩ := ow6.slRow; exact hh
      refine (distinct_ok (own_strs ow6) (by omega)).use fun h7 f7 => ⟨_, rfl, ok (f6.trans f7) ?_⟩
      rw [e]
  rw [if_neg (by rw [← o1]; simpa using z5), cnd_if]
  by_cases z6 : n.kind = 33
  · rw [if_pos (by rw [← o1]; simpa using z6)]
    exact ⟨_, qi, ok0 (by rw [earlyB, if_neg z1, if_neg z2, if_neg z3, if_neg z4, if_neg z5, if_pos z6, hp.ins])⟩
  rw [if_neg (by rw [← o1]; simpa using z6), cnd_if]
  by_cases z7 : n.kind = 31
  · rw [if_pos (by rw [← o1]; simpa using z7)]
    have e : earlyB n a = (if n.name.size = 0 then !a.br else (findL a.labs n.name).isNone) := by rw [earlyB, if_neg z1, if_neg z2, if_neg z3, if_neg z4, if_neg z5, if_neg z6, if_pos z7]
    refine ⟨_, b2, ?_⟩
    rw [nil_size, cnd_if]
    by_cases y1 : y.x.nm.size = 0
    · rw [if_pos (by simpa using y1)]
      refine ⟨_, qb, ?_⟩
      rw [o2, if_pos y1, ← hp.br] at e
      rw [cnd_if]
      by_cases y2 : y.br = true
      · rw [if_neg (by simp [y2])]
        refine ⟨_, b2, ?_⟩
        rw [nil_size, cnd_if, if_neg (by simp [y1])]
        exact ok0 (by rw [e, y2]; rfl)
      · rw [if_pos (by simpa using y2)]
        exact ok0 (by rw [e]; simpa using y2)
    · rw [if_neg (by simpa using y1)]
      refine ⟨_, b2, ?_⟩
      rw [o2, if_neg y1] at e
      rw [nil_size, cnd_if, if_pos (by simpa using y1)]
      refine ⟨_, qp, _, b2, (find_ok hp3.labs _).ret ?_⟩
      rintro _ h6 ⟨r, rfl, rfl, hr⟩
      refine ⟨_, rfl, ok0 ?_⟩
      rw [e]
      revert hr
      cases findL a.labs y.x.nm with
      | none => rintro rfl; rfl
      | some b => rintro ⟨q, rfl, _⟩; rfl
  rw [if_neg (by rw [← o1]; simpa using z7), cnd_if]
  by_cases z8 : n.kind = 32
  · rw [if_pos (by rw [← o1]; simpa using z8)]
    have e : earlyB n a = (if n.name.size = 0 then !a.go else match findL a.labs n.name with | none => true | some b => !b) := by rw [earlyB, if_neg z1, if_neg z2, if_neg z3, if_neg z4, if_neg z5, if_neg z6, if_neg z7, if_pos z8]
    refine ⟨_, b2, ?_⟩
    rw [nil_size, cnd_if]
    by_cases y1 : y.x.nm.size = 0
    · rw [if_pos (by simpa using y1)]
      rw [o2, if_pos y1, ← hp.go] at e
      exact ⟨_, qg, ok0 e.symm⟩
    · rw [if_neg (by simpa using y1)]
      rw [o2, if_neg y1] at e
      refine ⟨_, qp, _, b2, (find_ok hp3.labs _).ret ?_⟩
      rintro _ h6 ⟨r, rfl, rfl, hr⟩
      refine ⟨_, rfl, ?_⟩
      rw [cnd_if]
      revert hr e
      cases findL a.labs y.x.nm with
      | none =>
        rintro e rfl
        rw [if_pos (by simp)]
        exact ok0 e.symm
      | some b =>
        rintro e ⟨q, rfl, hq⟩
        rw [if_neg (by simp)]
        refine (show onSome _ _ from ?_)
        simp only [onSome_some']
        exact ⟨_, hq, ok0 e.symm⟩
  rw [if_neg (by rw [← o1]; simpa using z8), cnd_if]
  by_cases z9 : n.kind = 38
  · rw [if_pos (by rw [← o1]; simpa using z9)]
    have e : earlyB n a = (findL a.labs n.name).isSome := by rw [earlyB, if_neg z1, if_neg z2, if_neg z3, if_neg z4, if_neg z5, if_neg z6, if_neg z7, if_neg z8, if_pos z9]
    refine ⟨_, qp, _, b2, (find_ok hp3.labs _).ret ?_⟩
    rintro _ h6 ⟨r, rfl, rfl, hr⟩
    refine ⟨_, rfl, ok0 ?_⟩
    rw [e, o2]
    revert hr
    cases findL a.labs y.x.nm with
    | none => rintro rfl; rfl
    | some b => rintro ⟨q, rfl, _⟩; rfl
  · rw [if_neg (by rw [← o1]; simpa using z9)]
    exact ok0 (by rw [earlyB, if_neg z1, if_neg z2, if_neg z3, if_neg z4, if_neg z5, if_neg z6, if_neg z7, if_neg z8, if_neg z9])
end Go.Proofs.Ytoldgeolocfmiaa
