/- A walk through a tree. -/
import Derived.Test.YtoldgeolocfmiaaS9
namespace Go.Proofs.Ytoldgeolocfmiaa
open Go Go.Proofs Go.Proofs.Ytoldgeolocfmiaa.V
/-! ## A walk through a tree -/

/-- Cells stored at a block's head. -/
theorem stn_pre {h : Heap} {b : Nat} {us ws : List Value} {t : TypeId} {vs : List Value} {K : Heap → Prop} (hb : h[b]? = some (.cells (us ++ ws).toArray t (0, 0))) (hk : vs.length = us.length) (hv : vs.all nonAgg = true)
    (hK : ∀ h', h'[b]? = some (.cells (vs ++ ws).toArray t (0, 0)) → Frm [b] h h' → h'.size = h.size → K h') : StN h ⟨b, 0, none⟩ vs K := by
  show chk _ _
  rw [hv]
  refine ⟨fun i hi => ⟨?_, ?_⟩, ?_⟩
  · rw [add_at, Nat.zero_add, cl_at hb, Array.getElem?_eq_getElem (by simp; omega)]; exact ⟨_, rfl⟩
  · rw [add_at]; exact fz_at hb
  · rintro h' rfl
    have key : ∀ (vs pre rest : List Value) (h : Heap), h[b]? = some (.cells (pre ++ (rest ++ ws)).toArray t (0, 0)) → vs.length = rest.length → (stN h ⟨b, 0, none⟩ pre.length vs)[b]? = some (.cells (pre ++ (vs ++ ws)).toArray t (0, 0)) ∧ Frm [b] h (stN h ⟨b, 0, none⟩ pre.length vs) ∧ (stN h ⟨b, 0, none⟩ pre.length vs).size = h.size := by
      intro vs
      induction vs with
      | nil =>
        intro pre rest h hb hl
        obtain rfl : rest = [] := List.eq_nil_of_length_eq_zero hl.symm
        exact ⟨hb, Frm.refl _ _, rfl⟩
      | cons v vs ih =>
        intro pre rest h hb hl
        cases rest with
        | nil => cases hl
        | cons r rest =>
          simp only [stN, add_at, Nat.zero_add]
          have hst := st_at (k := pre.length) v hb
          have hb2 : (st h ⟨b, pre.length, none⟩ v)[b]? = some (.cells ((pre ++ [v]) ++ (rest ++ ws)).toArray t (0, 0)) := by
            rw [hst, get_set (lt_of_get hb)]
            simp
          have := ih (pre ++ [v]) rest _ hb2 (by simpa using hl)
          rw [List.length_append, List.length_singleton] at this
          obtain ⟨h1, h2, h3⟩ := this
          have f1 : Frm [b] h (st h ⟨b, pre.length, none⟩ v) := by rw [hst]; exact Frm.set _ (by simp)
          refine ⟨by simpa using h1, f1.trans h2, h3.trans ?_⟩
          rw [hst]; simp
    obtain ⟨h1, h2, h3⟩ := key vs [] us h (by simpa using hb) hk
    exact hK _ (by simpa using h1) h2 h3

theorem strs_uniq {h : Heap} {a : Option Addr} {n : Nat} {l l' : List ByteArray} (h1 : StrsAt h a n l) (h2 : StrsAt h a n l') : l = l' := by
  refine List.ext_getElem (h1.1.trans h2.1.symm) fun i hi hi' => ?_
  obtain ⟨ad, e, hc⟩ := h1.2 i _ (List.getElem?_eq_getElem hi)
  obtain ⟨ad', e', hc'⟩ := h2.2 i _ (List.getElem?_eq_getElem hi')
  rw [e] at e'; cases e'
  rw [hc] at hc'
  simpa using hc'
theorem NVAt.uniq {h : Heap} {ad : Addr} {x y : NV} (h1 : NVAt h ad x) (h2 : NVAt h ad y) : x = y := by
  obtain ⟨a1, a2, a3, a4, a5, a6⟩ := h1
  obtain ⟨b1, b2, b3, b4, b5, b6⟩ := h2
  rw [a1] at b1; rw [a2] at b2; rw [a3] at b3; rw [a4] at b4; rw [a5] at b5; rw [a6] at b6
  cases x; cases y
  simp_all
theorem NodeAt.uniq {h : Heap} {x : NV} {n n' : ND} (h1 : NodeAt h x n) (h2 : NodeAt h x n') : n = n' := by
  induction h1 generalizing n' with
  | @mk x kids names vs hn hl hv hk ih =>
    obtain ⟨p1, p2, p3, p4, p5, p6⟩ := h2.open
    have e1 : names = n'.names := strs_uniq hn p5
    have e2 : kids = n'.l := by
      refine List.ext_getElem (hl.trans p6.1.symm) fun i hi hi' => ?_
      obtain ⟨ad, e, hv1⟩ := hv i (by omega)
      obtain ⟨ad', y, e', hv2, hn2⟩ := p6.2 i _ (List.getElem?_eq_getElem hi')
      rw [e] at e'; cases e'
      obtain rfl := hv1.uniq hv2
      exact ih i _ (List.getElem?_eq_getElem hi) hn2
    cases n'
    simp only [ND.kind, ND.name, ND.num, ND.text, ND.names, ND.l] at p1 p2 p3 p4 e1 e2
    subst e1 e2 p1 p2 p3 p4
    rfl
open Classical in
/-- How deep the node is that a box holds. -/
noncomputable def boxDeep (h : Heap) (b : Nat) : Nat := if hx : ∃ (x : NV) (n : ND), h[b]? = some (.cells x.cells 26 (0, 0)) ∧ NodeAt h x n then (Classical.choose (Classical.choose_spec hx)).deep else 0
theorem boxDeep_eq {h : Heap} {b : Nat} {x : NV} {n : ND} (hb : h[b]? = some (.cells x.cells 26 (0, 0))) (hn : NodeAt h x n) : boxDeep h b = n.deep := by
  have hx : ∃ (x : NV) (n : ND), h[b]? = some (.cells x.cells 26 (0, 0)) ∧ NodeAt h x n := ⟨x, n, hb, hn⟩
  rw [boxDeep, dif_pos hx]
  have hs := Classical.choose_spec (Classical.choose_spec hx)
  generalize Classical.choose (Classical.choose_spec hx) = m at hs
  generalize Classical.choose hx = z at hs
  obtain ⟨h1, h2⟩ := hs
  rw [hb] at h1
  have e : x = z := by
    cases x; cases z
    simpa [and_assoc] using h1
  subst e
  rw [hn.uniq h2]

/-- Behind a label's labels. -/
def chain : Nat → ND → ND
  | 0, n => n
  | d + 1, n => if n.kind = 38 then (match n.l with | k :: _ => chain d k | [] => n) else n
theorem chain_more : ∀ (d e : Nat) (n : ND), n.deep ≤ d → n.deep ≤ e → chain d n = chain e n
  | 0, _, n, h, _ => by have := n.deep_eq; omega
  | _, 0, n, _, h => by have := n.deep_eq; omega
  | d + 1, e + 1, n, h1, h2 => by
    simp only [chain]
    split
    · cases hl : n.l with
      | nil => rfl
      | cons k r =>
        have := ND.kid_deep (n := n) (k := k) (by rw [hl]; simp)
        exact chain_more d e k (by omega) (by omega)
    · rfl
def inner (n : ND) (a : Arnd) : Arnd :=
  if n.kind = 39 ∨ n.kind = 10 then ⟨[], false, false, true⟩
  else if loopK n.kind then { a with br := true, go := true }
  else if n.kind = 36 then { a with br := true }
  else if n.kind = 38 then { a with labs := (n.name, loopK (chain n.deep n).kind) :: a.labs }
  else a
def earlyAll : Nat → ND → Arnd → Bool
  | 0, _, _ => false
  | d + 1, n, a => earlyB n a || n.l.any fun k => earlyAll d k (inner n a)
theorem earlyAll_more : ∀ (d e : Nat) (n : ND) (a : Arnd), n.deep ≤ d → n.deep ≤ e → earlyAll d n a = earlyAll e n a
  | 0, _, n, _, h, _ => by have := n.deep_eq; omega
  | _, 0, n, _, _, h => by have := n.deep_eq; omega
  | d + 1, e + 1, n, a, h1, h2 => by
    simp only [earlyAll]
    congr 1
    rw [Bool.eq_iff_iff, List.any_eq_true, List.any_eq_true]
    constructor
    · rintro ⟨k, hk, he⟩; have := ND.kid_deep hk; exact ⟨k, hk, by rw [← earlyAll_more d e k _ (by omega) (by omega)]; exact he⟩
    · rintro ⟨k, hk, he⟩; have := ND.kid_deep hk; exact ⟨k, hk, by rw [earlyAll_more d e k _ (by omega) (by omega)]; exact he⟩

theorem pcells (y : PV) : y.cells = (y.x.cells.toList ++ [Value.pointer y.p, Value.bool y.br, Value.bool y.go, Value.bool y.ins]).toArray := rfl

/-- What a round of the caller's does at a place. -/
def Rounds (h0 : Heap) (l : Nat) (X : Heap → Prop) : Prop := ∀ (h' : Heap) (y : PV) (n : ND) (a : Arnd), Frm [] h0 h' → PlaceAt h' y n a → n.Ok → Good n →
  CallVal Try.prog (.func (.yield l) #[] #[]) #[y.val] h' fun e h'' => (earlyB n a = false ∧ e = .returned (.bool true) ∧ Frm [] h' h'') ∨ (earlyB n a = true ∧ e = .returned (.bool false) ∧ X h'')

/-- A round's copy of a node that lay there before. -/
theorem node_round2 {hB h : Heap} {b : Option Addr} {m : Nat} {l : List ND} (hl : NodesAt hB b m l) (fB : Frm [] hB h) {i : Nat} {k : ND} (hi : l[i]? = some k) {X : Nat → Heap → Prop}
    (hX : ∀ kk (y : NV) h', h'[kk]? = some (.cells y.cells 26 (0, 0)) → h.size ≤ kk → Frm [] h h' → NodeAt hB y k → X kk h') :
    onSome b fun q => ∃ (n22 : Int) (s23 : ByteArray) (n24 : Int) (s25 : ByteArray) (a26 : Option Addr) (l27 c28 : Nat) (a29 : Option Addr) (l30 c31 : Nat), (cl h (q.add ((i : Int).toNat * 6)) = some (.int .i64 n22) ∧ cl h ((q.add ((i : Int).toNat * 6)).add 1) = some (.string s23) ∧ cl h ((q.add ((i : Int).toNat * 6)).add 2) = some (.int .i64 n24) ∧ cl h ((q.add ((i : Int).toNat * 6)).add 3) = some (.string s25) ∧ cl h ((q.add ((i : Int).toNat * 6)).add 4) = some (.slice a26 l27 c28) ∧ cl h ((q.add ((i : Int).toNat * 6)).add 5) = some (.slice a29 l30 c31)) ∧
      Al h (.cells #[(.int .i64 (0 : Int)), (.string (⟨#[]⟩ : ByteArray)), (.int .i64 (0 : Int)), (.string (⟨#[]⟩ : ByteArray)), (.slice none 0 0), (.slice none 0 0)] 26) fun k32 h33 => StN h33 (⟨k32, 0, none⟩ : Addr) [(.int .i64 n22), (.string s23), (.int .i64 n24), (.string s25), (.slice a26 l27 c28), (.slice a29 l30 c31)] fun h34 => X k32 h34 := by
  obtain ⟨ad, y, rfl, hv, hn⟩ := hl.2 i k hi
  have hv := hv.frm fB
  refine (show onSome _ _ from ?_)
  simp only [onSome_some', Int.toNat_natCast]
  refine ⟨y.k, y.nm, y.num, y.tx, y.a, y.n, y.c, y.b, y.m, y.d, ⟨hv.k, hv.nm, hv.num, hv.tx, hv.names, hv.l⟩, al_intro fun hA _ gA fA sA => stn_at gA rfl rfl fun hC gC fC sC => ?_⟩
  exact hX _ y hC gC (Nat.le_refl _) (fA.young fC (by simp)) hn

set_option maxHeartbeats 4000000 in
set_option maxRecDepth 20000 in
theorem walk_ok {h0 : Heap} {l : Nat} {X : Heap → Prop} (hy : Rounds h0 l X) : ∀ (d : Nat) {h : Heap} {y : PV} {n : ND} {a : Arnd}, Frm [] h0 h → PlaceAt h y n a → n.deep ≤ d → n.Ok → Good n →
    CallsH Try.prog 34 #[y.val, .func (.yield l) #[] #[]] h fun e h' => (earlyAll d n a = false ∧ e = .returned (.bool true) ∧ Frm [] h h') ∨ (earlyAll d n a = true ∧ e = .returned (.bool false) ∧ X h')
  | 0, _, _, n, _, _, _, hd, _, _ => by have := n.deep_eq; omega
  | d + 1, h, y, n, a, f0, hp, hd, ho, hg => by
    refine c34 _ _ _ _ _ _ _ _ _ _ _ _ _ _ _ _ _ (al_intro fun h1 e1 g1 f1 s1 => ?_)
    obtain ⟨⟨q0, q1, q2, q3, q4, q5⟩, q6, q7, q8, q9⟩ := pbox g1
    refine ⟨_, _, _, _, _, _, _, _, _, _, _, _, _, _, ⟨q0, q1, q2, q3, q4, q5, q6, q7, q8, q9⟩, (show CallVal _ _ _ _ _ from ?_)⟩
    refine (hy h1 y n a (f0.trans f1) (hp.frm f1) ho hg).mono ?_
    rintro e h2 (⟨e0, rfl, f2⟩ | ⟨e0, rfl, hx⟩)
    rotate_left
    · refine endH_ret ⟨false, rfl, ?_⟩
      rw [cnd_if, if_pos (by decide)]
      exact .inr ⟨by simp [earlyAll, e0], rfl, hx⟩
    refine endH_ret ⟨true, rfl, ?_⟩
    rw [cnd_if, if_neg (by decide)]
    have F2 : Frm [] h h2 := f1.trans f2
    have g2 := f2.get g1 (by simp)
    have hp2 := hp.frm F2
    obtain ⟨o1, o2, o3, o4, o5, o6⟩ := hp2.node.open
    have hlen := ho.len
    obtain ⟨⟨q0, q1, q2, q3, q4, q5⟩, q6, q7, q8, q9⟩ := pbox g2
    refine ⟨_, _, _, _, _, _, _, _, _, _, _, _, _, _, ⟨q0, q1, q2, q3, q4, q5, q6, q7, q8, q9⟩, al_intro fun h3 e3 g3 f3 s3 => stn_at g3 rfl rfl fun h4 g4 f4 s4 => ?_⟩
    have F4 : Frm [] h2 h4 := f3.young f4 (by simp)
    have gy : h4[h2.size]? = some (.cells y.cells 45 (0, 0)) := g4
    have p4 : h4[h.size]? = some (.cells y.cells 45 (0, 0)) := F4.get g2 (by simp)
    -- labels that lay there before
    have old : ∀ {hJ : Heap}, Frm [] h2 hJ → ∀ h'', Frm [h2.size] hJ h'' → LabelsAt h'' y.p a.labs := fun fJ h'' f'' => hp2.labs.frm (fJ.young f'' (by simp))
    refine ⟨fun vs h' => vs = [] ∧ Frm [] h2 h' ∧ ∃ z : PV, h'[h2.size]? = some (.cells z.cells 45 (0, 0)) ∧ (∀ h'', Frm [h2.size] h' h'' → LabelsAt h'' z.p (inner n a).labs) ∧ z.br = (inner n a).br ∧ z.go = (inner n a).go ∧ z.ins = (inner n a).ins, ?_, ?_⟩
    · obtain ⟨⟨q0, q1, q2, q3, q4, q5⟩, q6, q7, q8, q9⟩ := pbox p4
      refine ⟨_, q0, ?_⟩
      refine ⟨fun vs h' => vs = [.bool (decide (n.kind = 39 ∨ n.kind = 10))] ∧ h' = h4, ?_, ?_⟩
      · rw [cnd_if, o1]
        by_cases z : y.x.k = 39
        · simp [z]
        · by_cases z' : y.x.k = 10 <;> simp [z, z']
      rintro bb _ hh ⟨e, rfl⟩
      simp only [List.cons.injEq, Value.bool.injEq, and_true] at e
      subst e
      rw [cnd_if]
      by_cases z1 : n.kind = 39 ∨ n.kind = 10
      · rw [if_pos (by simpa using z1)]
        have ei : inner n a = ⟨[], false, false, true⟩ := by rw [inner, if_pos z1]
        refine stn_at gy rfl rfl fun h5 g5 f5 s5 => ⟨rfl, F4.young f5 (by simp), ⟨⟨0, ⟨#[]⟩, 0, ⟨#[]⟩, none, 0, 0, none, 0, 0⟩, none, false, false, true⟩, g5, ?_, ?_, ?_, ?_⟩
        · rw [ei]; intro _ _; rfl
        all_goals rw [ei]
      rw [if_neg (by simpa using z1)]
      refine ⟨_, _, _, _, _, _, _, _, _, _, ⟨q0, q1, q2, q3, q4, q5⟩, (loop_ok y.x).use fun h5 f5 => ⟨_, rfl, ?_⟩⟩
      have F5 := F4.trans f5
      have gy5 := f5.get gy (by simp)
      have p5 := f5.get p4 (by simp)
      obtain ⟨⟨q0, q1, q2, q3, q4, q5⟩, q6, q7, q8, q9⟩ := pbox p5
      rw [cnd_if]
      by_cases z2 : loopK n.kind = true
      · rw [if_pos (by rw [← o1]; exact z2)]
        have ei : inner n a = { a with br := true, go := true } := by rw [inner, if_neg z1, if_pos z2]
        rw [add_at]
        refine st1_at gy5 (by simp) rfl fun h6 e6 g6 f6 s6 => ?_
        rw [add_at]
        refine st1_at g6 (by simp) rfl fun h7 e7 g7 f7 s7 => ⟨rfl, (F5.young f6 (by simp)).young f7 (by simp), ⟨y.x, y.p, true, true, y.ins⟩, g7, ?_, ?_, ?_, ?_⟩
        · rw [ei]; exact old ((F5.young f6 (by simp)).young f7 (by simp))
        · rw [ei]
        · rw [ei]
        · rw [ei]; exact hp.ins
      rw [if_neg (by rw [← o1]; exact z2), cnd_if]
      by_cases z3 : n.kind = 36
      · rw [if_pos (by rw [← o1]; simpa using z3)]
        have ei : inner n a = { a with br := true } := by rw [inner, if_neg z1, if_neg z2, if_pos z3]
        rw [add_at]
        refine st1_at gy5 (by simp) rfl fun h6 e6 g6 f6 s6 => ⟨rfl, F5.young f6 (by simp), ⟨y.x, y.p, true, y.go, y.ins⟩, g6, ?_, ?_, ?_, ?_⟩
        · rw [ei]; exact old (F5.young f6 (by simp))
        · rw [ei]
        · rw [ei]; exact hp.go
        · rw [ei]; exact hp.ins
      rw [if_neg (by rw [← o1]; simpa using z3), cnd_if]
      by_cases z4 : n.kind = 38
      rotate_left
      · rw [if_neg (by rw [← o1]; simpa using z4)]
        have ei : inner n a = a := by rw [inner, if_neg z1, if_neg z2, if_neg z3, if_neg z4]
        refine ⟨rfl, F5, y, gy5, ?_, ?_, ?_, ?_⟩
        · rw [ei]; exact old F5
        · rw [ei]; exact hp.br
        · rw [ei]; exact hp.go
        · rw [ei]; exact hp.ins
      rw [if_pos (by rw [← o1]; simpa using z4)]
      have ei : inner n a = { a with labs := (n.name, loopK (chain n.deep n).kind) :: a.labs } := by rw [inner, if_neg z1, if_neg z2, if_neg z3, if_pos z4]
      refine ⟨_, _, _, _, _, _, _, _, _, _, ⟨q0, q1, q2, q3, q4, q5⟩, al_intro fun h6 e6 g6 f6 s6 => stn_at g6 rfl rfl fun h7 g7 f7 s7 => ?_⟩
      have hp5 := hp2.frm F5
      have F7 : Frm [] h5 h7 := f6.young f7 (by simp)
      refine ⟨fun vs h' => vs = [] ∧ Frm [] h5 h' ∧ ∃ (v : NV) (m : ND), h'[h5.size]? = some (.cells v.cells 26 (0, 0)) ∧ NodeAt h5 v m ∧ Good m ∧ chain m.deep m = chain n.deep n, fun _ h' => boxDeep h' h5.size, ⟨rfl, F7, y.x, n, g7, hp5.node, hg, rfl⟩, ?_⟩
      rintro _ h8 ⟨_, F8, v, m, g8, hm8, hgm, hch⟩
      obtain ⟨r0, r1, r2, r3, r4, r5⟩ := box6 g8
      have ekv := hm8.kind
      refine ⟨_, r0, ?_⟩
      rw [cnd_if]
      by_cases w1 : m.kind = 38
      · rw [if_pos (by rw [← ekv]; simpa using w1)]
        obtain ⟨k0, kr, ek⟩ := hgm.head (by omega)
        have om := hm8.open.2.2.2.2.2
        have oml := om.1
        refine ⟨_, _, _, r5, by omega, by rw [ek] at oml; simp at oml; omega, ?_⟩
        obtain ⟨ad, v0, eb, hv, hn0⟩ := om.2 0 k0 (by rw [ek]; rfl)
        rw [eb]
        have hv' := hv.frm F8
        refine (show onSome _ _ from ?_)
        simp only [onSome_some']
        refine ⟨_, _, _, _, _, _, _, _, _, _, ⟨hv'.k, hv'.nm, hv'.num, hv'.tx, hv'.names, hv'.l⟩, stn_at g8 rfl rfl fun h9 g9 f9 s9 => ?_⟩
        have F9 : Frm [] h5 h9 := F8.young f9 (by simp)
        have hkm : k0 ∈ m.l := by rw [ek]; simp
        have hkd := ND.kid_deep hkm
        refine ⟨⟨trivial, F9, v0, k0, g9, hn0, hgm.kid hkm, ?_⟩, ?_⟩
        · rw [← hch]
          have : chain m.deep m = chain (m.deep - 1) k0 := by
            obtain ⟨dm, hdm⟩ : ∃ dm, m.deep = dm + 1 := ⟨m.deep - 1, by omega⟩
            rw [hdm, chain, if_pos w1, ek]; rfl
          rw [this]
          exact chain_more _ _ _ (Nat.le_refl _) (by omega)
        · show boxDeep h9 h5.size < boxDeep h8 h5.size
          rw [boxDeep_eq g9 (hn0.frm F9), boxDeep_eq g8 (hm8.frm F8)]
          exact hkd
      rw [if_neg (by rw [← ekv]; simpa using w1)]
      have hcm : chain m.deep m = m := by
        obtain ⟨dm, hdm⟩ : ∃ dm, m.deep = dm + 1 := ⟨m.deep - 1, by have := m.deep_eq; omega⟩
        rw [hdm, chain, if_neg w1]
      have p8 := F8.get p5 (by simp)
      obtain ⟨⟨q0, q1, q2, q3, q4, q5⟩, q6, q7, q8, q9⟩ := pbox p8
      refine ⟨_, q1, _, _, _, _, _, _, _, _, _, _, ⟨r0, r1, r2, r3, r4, r5⟩, _, q6, (loop_ok v).use fun h9 f9 => ⟨_, rfl, ?_⟩⟩
      have p9 := f9.get p8 (by simp)
      obtain ⟨⟨q0, q1, q2, q3, q4, q5⟩, q6, q7, q8, q9⟩ := pbox p9
      refine ⟨⟨_, q6, rfl⟩, ⟨_, q1, rfl⟩, al_intro fun h10 e10 g10 f10 s10 => ?_⟩
      have F10 : Frm [] h5 h10 := F8.trans (f9.trans f10)
      have gy10 := F10.get gy5 (by simp)
      rw [add_at]
      refine st1_at gy10 (by simp) rfl fun h11 e11 g11 f11 s11 => ?_
      have F11 : Frm [] h2 h11 := (F5.trans F10).young f11 (by simp)
      have hne : h2.size < h9.size := by have := lt_of_get gy5; have := F8.1; have := f9.1; omega
      refine ⟨rfl, F11, ⟨y.x, some ⟨h9.size, 0, none⟩, y.br, y.go, y.ins⟩, g11, ?_, ?_, ?_, ?_⟩
      · rw [ei]
        intro h'' f''
        have gl : h''[h9.size]? = some (.cells #[.string y.x.nm, .bool (loopK v.k), .pointer y.p] 55 (0, 0)) := f''.get (f11.get g10 (by simp; omega)) (by simp; omega)
        refine ⟨⟨h9.size, 0, none⟩, y.p, rfl, ?_, ?_, ?_, old F11 h'' f''⟩
        · rw [cl_at gl, o2]; rfl
        · rw [add_at, cl_at gl, ← hch, hcm, ekv]; rfl
        · rw [add_at, cl_at gl]; rfl
      · rw [ei]; exact hp.br
      · rw [ei]; exact hp.go
      · rw [ei]; exact hp.ins
    rintro _ h5 ⟨_, F5, z, gz, hlab, zb, zg, zi⟩
    have p5 := F5.get g2 (by simp)
    obtain ⟨⟨q0, q1, q2, q3, q4, q5⟩, q6, q7, q8, q9⟩ := pbox p5
    refine ⟨_, _, _, q5, ?_⟩
    refine loop_nat (N := y.x.m) (X := fun k h' => Frm [h2.size] h5 h' ∧ (∃ v : NV, h'[h2.size]? = some (.cells (PV.mk v z.p z.br z.go z.ins).cells 45 (0, 0))) ∧ ∀ i kd, i < k → n.l[i]? = some kd → earlyAll d kd (inner n a) = false) ⟨Frm.refl _ _, ⟨z.x, gz⟩, fun i kd hi => by omega⟩ ?_
    rintro k h6 hk ⟨f6, ⟨v, gv⟩, hall⟩ I μ step
    have oln := o6.1
    have F6 : Frm [] h2 h6 := F5.young f6 (by simp)
    rw [cnd_if]
    by_cases hlt : k < y.x.m
    · rw [if_pos (by simpa using hlt)]
      have hi : n.l[k]? = some (n.l[k]'(by omega)) := List.getElem?_eq_getElem _
      have hmem := List.mem_of_getElem? hi
      generalize n.l[k]'(by omega) = kd at hi hmem
      refine ⟨by omega, by omega, node_round2 o6 F6 hi fun kk v7 h7 g7 k7 f7 n7 => ?_⟩
      refine ⟨_, _, _, _, _, _, _, _, _, _, box6 g7, ?_⟩
      have gv7 := f7.get gv (by simp)
      refine stn_pre (us := v.cells.toList) (ws := [Value.pointer z.p, Value.bool z.br, Value.bool z.go, Value.bool z.ins]) gv7 rfl rfl fun h8 g8 f8 s8 => ?_
      have gp8 : h8[h2.size]? = some (.cells (PV.mk v7 z.p z.br z.go z.ins).cells 45 (0, 0)) := g8
      obtain ⟨⟨q0, q1, q2, q3, q4, q5⟩, q6, q7, q8, q9⟩ := pbox gp8
      have f58 : Frm [h2.size] h5 h8 := f6.trans ((Frm.mono f7 (by simp)).trans f8)
      have F8 : Frm [] h2 h8 := F5.young f58 (by simp)
      have hkd := ND.kid_deep hmem
      have hpk : PlaceAt h8 ⟨v7, z.p, z.br, z.go, z.ins⟩ kd (inner n a) := ⟨n7.frm F8, hlab _ f58, zb, zg, zi⟩
      refine ⟨_, _, _, _, _, _, _, _, _, _, _, _, _, _, ⟨q0, q1, q2, q3, q4, q5, q6, q7, q8, q9⟩, ?_⟩
      refine (walk_ok hy d (f0.trans (F2.trans F8)) hpk (by omega) (ho.kid hmem) (hg.kid hmem)).mono ?_
      rintro e h9 (⟨w0, rfl, f9⟩ | ⟨w0, rfl, hx⟩)
      · refine endH_ret ⟨true, rfl, ?_⟩
        rw [cnd_if, if_neg (by decide)]
        refine ⟨in64 (by omega) (by omega), step h9 hlt ⟨f58.trans (Frm.mono f9 (by simp)), ⟨v7, f9.get gp8 (by simp)⟩, fun i kd' hi' hk' => ?_⟩⟩
        by_cases e : i = k
        · subst e; rw [hi] at hk'; cases hk'; exact w0
        · exact hall i kd' (by omega) hk'
      · refine endH_ret ⟨false, rfl, ?_⟩
        rw [cnd_if, if_pos (by decide)]
        refine .inr ⟨?_, rfl, hx⟩
        simp only [earlyAll, Bool.or_eq_true, List.any_eq_true]
        exact .inr ⟨kd, hmem, w0⟩
    · rw [if_neg (by simpa using hlt)]
      refine .inl ⟨?_, rfl, F2.trans F6⟩
      simp only [earlyAll, e0, Bool.false_or]
      rw [Bool.eq_false_iff]
      intro hany
      obtain ⟨kd, hk, he⟩ := List.any_eq_true.1 hany
      obtain ⟨i, hi⟩ := List.getElem?_of_mem hk
      rw [hall i kd (by have := (List.getElem?_eq_some_iff.1 hi).1; omega) hi] at he
      cases he
end Go.Proofs.Ytoldgeolocfmiaa
