/- How deep a tree is; tree.Check. -/
import Derived.Test.YtoldgeolocfmiaaS6
import Derived.KernelRfl
namespace Go.Proofs.Ytoldgeolocfmiaa
open Go Go.Proofs Go.Proofs.Ytoldgeolocfmiaa.V
/-! ## How deep a tree is; tree.Check -/

theorem deepAll_append : ∀ (l l' : List ND), ND.deepAll (l ++ l') = max (ND.deepAll l) (ND.deepAll l')
  | [], l' => by simp [ND.deepAll]
  | a :: r, l' => by simp only [List.cons_append, ND.deepAll, deepAll_append r l']; omega
theorem mx_nat (a b : Nat) : mx (a : Int) (b : Int) = ((max a b : Nat) : Int) := by unfold mx; split <;> omega

theorem deep_gen {f : FuncId} (hf : ∀ (x : NV) (h : Heap) (R : Ending → Heap → Prop), (Al h (.cells x.cells 26) fun k10 h11 => ∃ (a12 : Option Addr) (l13 c14 : Nat), cl h11 ((⟨k10, 0, none⟩ : Addr).add 5) = some (.slice a12 l13 c14) ∧ ∃ (I15 : List Value → Heap → Prop) (μ16 : List Value → Heap → Nat), I15 [(.int .i64 (0 : Int)), (.int .i64 (0 : Int))] h11 ∧ ∀ (n17 : Int) (n18 : Int) (_D19 : Nat → Value) (h20 : Heap), I15 [(.int .i64 n17), (.int .i64 n18)] h20 → cnd (decide (n18 < ((l13 : Nat) : Int))) ((0 ≤ n18 ∧ n18 < ((l13 : Nat) : Int) ∧ onSome a12 fun q21 => ∃ (n22 : Int) (s23 : ByteArray) (n24 : Int) (s25 : ByteArray) (a26 : Option Addr) (l27 c28 : Nat) (a29 : Option Addr) (l30 c31 : Nat), (cl h20 (q21.add ((n18 : Int).toNat * 6)) = some (.int .i64 n22) ∧ cl h20 ((q21.add ((n18 : Int).toNat * 6)).add 1) = some (.string s23) ∧ cl h20 ((q21.add ((n18 : Int).toNat * 6)).add 2) = some (.int .i64 n24) ∧ cl h20 ((q21.add ((n18 : Int).toNat * 6)).add 3) = some (.string s25) ∧ cl h20 ((q21.add ((n18 : Int).toNat * 6)).add 4) = some (.slice a26 l27 c28) ∧ cl h20 ((q21.add ((n18 : Int).toNat * 6)).add 5) = some (.slice a29 l30 c31)) ∧ Al h20 (.cells #[(.int .i64 (0 : Int)), (.string (⟨#[]⟩ : ByteArray)), (.int .i64 (0 : Int)), (.string (⟨#[]⟩ : ByteArray)), (.slice none 0 0), (.slice none 0 0)] 26) fun k32 h33 => StN h33 (⟨k32, 0, none⟩ : Addr) [(.int .i64 n22), (.string s23), (.int .i64 n24), (.string s25), (.slice a26 l27 c28), (.slice a29 l30 c31)] fun h34 => ∃ (n35 : Int) (s36 : ByteArray) (n37 : Int) (s38 : ByteArray) (a39 : Option Addr) (l40 c41 : Nat) (a42 : Option Addr) (l43 c44 : Nat), (cl h34 (⟨k32, 0, none⟩ : Addr) = some (.int .i64 n35) ∧ cl h34 ((⟨k32, 0, none⟩ : Addr).add 1) = some (.string s36) ∧ cl h34 ((⟨k32, 0, none⟩ : Addr).add 2) = some (.int .i64 n37) ∧ cl h34 ((⟨k32, 0, none⟩ : Addr).add 3) = some (.string s38) ∧ cl h34 ((⟨k32, 0, none⟩ : Addr).add 4) = some (.slice a39 l40 c41) ∧ cl h34 ((⟨k32, 0, none⟩ : Addr).add 5) = some (.slice a42 l43 c44)) ∧ CallsH Try.prog f #[(.agg #[(.int .i64 n35), (.string s36), (.int .i64 n37), (.string s38), (.slice a39 l40 c41), (.slice a42 l43 c44)])] h34 (endH (fun u45 h46 => ∃ (n47 : Int), u45 = (.int .i64 n47) ∧ (In64 (n18 + (1 : Int)) ∧ (I15 [(.int .i64 (mx n17 n47)), (.int .i64 (n18 + (1 : Int)))] h46 ∧ μ16 [(.int .i64 (mx n17 n47)), (.int .i64 (n18 + (1 : Int)))] h46 < μ16 [(.int .i64 n17), (.int .i64 n18)] h20))) (fun c h => R (.panicked c) h)))) ((In64 (n17 + (1 : Int)) ∧ R (.returned (.int .i64 (n17 + (1 : Int)))) h20))) → CallsH Try.prog f #[x.val] h R) :
    ∀ (d : Nat) {h : Heap} {x : NV} {n : ND}, NodeAt h x n → n.deep ≤ d → n.Ok → Ret Try.prog f #[x.val] h (.int .i64 n.deep)
  | 0, _, _, n, _, hd, _ => by have := n.deep_eq; omega
  | d + 1, h, x, n, hx, hd, ho => by
    refine .mk fun R hR => hf x h R (al_intro fun h1 e1 g1 f1 s1 => ?_)
    obtain ⟨b1, b2, b3, b4, b5, b6⟩ := box6 g1
    have hn1 := hx.frm f1
    obtain ⟨o1, o2, o3, o4, o5, o6⟩ := hn1.open
    have hlen := ho.len
    have hds := ND.deep_le_size _ n (Nat.le_refl _)
    have hsz := ho.size
    refine ⟨_, _, _, b6, ?_⟩
    refine loop_two (N := x.m) (a0 := 0) (X := fun k a h' => Frm [] h1 h' ∧ a = ((ND.deepAll (n.l.take k) : Nat) : Int)) ⟨Frm.refl _ _, by simp [ND.deepAll]⟩ ?_
    rintro k a h8 hk ⟨f8, rfl⟩ I μ step
    have hle : ND.deepAll (n.l.take k) ≤ ND.deepAll n.l := by
      have := deepAll_append (n.l.take k) (n.l.drop k)
      rw [List.take_append_drop] at this
      omega
    have hde := n.deep_eq
    rw [cnd_if]
    by_cases hlt : k < x.m
    · rw [if_pos (by simpa using hlt)]
      have hi : n.l[k]? = some (n.l[k]'(by have := o6.1; omega)) := List.getElem?_eq_getElem _
      have hmem := List.mem_of_getElem? hi
      generalize n.l[k]'(by have := o6.1; omega) = kd at hi hmem
      refine ⟨by omega, by omega, node_round (o6.frm f8) hi fun kk y h9 g9 k9 f9 n9 => ?_⟩
      have hkd := ND.kid_deep hmem
      refine ⟨_, _, _, _, _, _, _, _, _, _, box6 g9, (deep_gen hf d n9 (by omega) (ho.kid hmem)).use fun h10 f10 => ⟨_, rfl, in64 (by omega) (by have := o6.1; omega), ?_⟩⟩
      rw [mx_nat]
      refine step _ h10 hlt ⟨f8.trans (f9.trans f10), ?_⟩
      rw [List.take_add_one, hi, deepAll_append]
      simp [ND.deepAll]
    · rw [if_neg (by simpa using hlt)]
      have hk' : k = x.m := by omega
      have hfin := hR h8 (f1.trans f8)
      have ol := o6.1
      rw [List.take_of_length_le (by omega)] at *
      refine ⟨in64 (by omega) (by omega), ?_⟩
      rw [show (((ND.deepAll n.l : Nat) : Int) + 1) = ((n.deep : Nat) : Int) by rw [hde]; omega]
      exact hfin
theorem tdeep_ok {h : Heap} {x : NV} {n : ND} (hx : NodeAt h x n) (ho : n.Ok) : Ret Try.prog 32 #[x.val] h (.int .i64 n.deep) :=
  deep_gen (fun x h R hyp => c32 _ _ _ _ _ _ _ _ _ _ h R hyp) _ hx (Nat.le_refl _) ho
theorem rdeep_ok {h : Heap} {x : NV} {n : ND} (hx : NodeAt h x n) (ho : n.Ok) : Ret Try.prog 27 #[x.val] h (.int .i64 n.deep) :=
  deep_gen (fun x h R hyp => c27 _ _ _ _ _ _ _ _ _ _ h R hyp) _ hx (Nat.le_refl _) ho

/-- tree.Check's answer. -/
def checkT (n : ND) : Int := if n.kind ≠ 41 ∨ may n.deep n = false then 70 else if 64 < n.deep then 31 else 0
theorem tcheck_ok {h : Heap} (hm : MaxOk h) {x : NV} {n : ND} (hx : NodeAt h x n) (ho : n.Ok) : Ret Try.prog 22 #[x.val] h (.int .i64 (checkT n)) := by
  refine .mk fun R hR => c22 _ _ _ _ _ _ _ _ _ _ _ _ (al_intro fun h1 e1 g1 f1 s1 => ?_)
  obtain ⟨b1, b2, b3, b4, b5, b6⟩ := box6 g1
  have hn1 := hx.frm f1
  have ek := hn1.kind
  refine ⟨fun vs h' => vs = [.bool (decide (n.kind ≠ 41 ∨ may n.deep n = false))] ∧ Frm [] h1 h', ?_, ?_⟩
  · refine ⟨_, b1, ?_⟩
    rw [cnd_if]
    by_cases z : x.k = 41
    · rw [if_neg (by simp [z])]
      refine ⟨_, _, _, _, _, _, _, _, _, _, box6 g1, (may_ok _ (hm.frm f1) hn1 (Nat.le_refl _) ho).use fun h2 f2 => ⟨_, rfl, ?_, f2⟩⟩
      rw [← ek] at z
      simp [z]
    · rw [if_pos (by simpa using z)]
      exact ⟨by simp [ek, z], Frm.refl _ _⟩
  rintro b _ h2 ⟨e2, f2⟩
  simp only [List.cons.injEq, Value.bool.injEq, and_true] at e2
  rw [cnd_if]
  by_cases z : n.kind ≠ 41 ∨ may n.deep n = false
  · rw [if_pos (by rw [e2]; exact decide_eq_true z)]
    have := hR h2 (f1.trans f2)
    rwa [checkT, if_pos z] at this
  rw [if_neg (by rw [e2]; simpa using z)]
  refine ⟨_, _, _, _, _, _, _, _, _, _, box6 (f2.get g1 (by simp)), (tdeep_ok (hn1.frm f2) ho).use fun h3 f3 => ⟨_, rfl, ?_⟩⟩
  have hfin := hR h3 (f1.trans (f2.trans f3))
  rw [checkT, if_neg z] at hfin
  rw [cnd_if]
  by_cases z2 : 64 < n.deep
  · rw [if_pos (by simp only [decide_eq_true_eq]; omega)]; rwa [if_pos z2] at hfin
  · rw [if_neg (by simp only [decide_eq_true_eq]; omega)]; rwa [if_neg z2] at hfin
end Go.Proofs.Ytoldgeolocfmiaa
