/- live. -/
import Derived.Test.YtoldgeolocfmiaaS12
namespace Go.Proofs.Ytoldgeolocfmiaa
open Go Go.Proofs Go.Proofs.Ytoldgeolocfmiaa.V
/-! ## The law's own program: live -/

theorem nodes1 {h : Heap} {b : Nat} {x : NV} {n : ND} (hb : h[b]? = some (.cells x.cells 26 (0, 0))) (hn : NodeAt h x n) : NodesAt h (some ⟨b, 0, none⟩) 1 [n] := by
  refine ⟨rfl, fun i k hi => ?_⟩
  have : i = 0 := by have := (List.getElem?_eq_some_iff.1 hi).1; simp at this; exact this
  subst this
  simp only [List.getElem?_cons_zero, Option.some.injEq] at hi
  subst hi
  exact ⟨_, x, rfl, box_at hb, hn⟩
theorem nodes2 {h : Heap} {b : Nat} {x y : NV} {n m : ND} (hb : h[b]? = some (.cells (x.cells ++ y.cells) 26 (0, 0))) (hn : NodeAt h x n) (hm : NodeAt h y m) : NodesAt h (some ⟨b, 0, none⟩) 2 [n, m] := by
  refine ⟨rfl, fun i k hi => ?_⟩
  have hlt := (List.getElem?_eq_some_iff.1 hi).1
  simp only [List.length_cons, List.length_nil] at hlt
  rcases (show i = 0 ∨ i = 1 by omega) with rfl | rfl
  · simp only [List.getElem?_cons_zero, Option.some.injEq] at hi
    subst hi
    refine ⟨_, x, rfl, ⟨?_, ?_, ?_, ?_, ?_, ?_⟩, hn⟩ <;> first
      | (rw [add_at, add_at, cl_at hb]; rfl)
      | (rw [add_at, cl_at hb]; rfl)
  · simp only [List.getElem?_cons_succ, List.getElem?_cons_zero, Option.some.injEq] at hi
    subst hi
    refine ⟨_, y, rfl, ⟨?_, ?_, ?_, ?_, ?_, ?_⟩, hm⟩ <;> first
      | (rw [add_at, add_at, cl_at hb]; rfl)
      | (rw [add_at, cl_at hb]; rfl)
/-- A node of no names. -/
theorem node0 {h : Heap} {x : NV} {l : List ND} (hn : x.n = 0) (hl : NodesAt h x.b x.m l) : NodeAt h x (.mk x.k x.nm x.num x.tx [] l) := NodeAt.make (by rw [hn]; exact StrsAt.nil _ _) hl
theorem nodes0 (h : Heap) (b : Option Addr) : NodesAt h b 0 [] := ⟨rfl, fun i k hi => by simp at hi⟩

def leaf (k : Int) (nm : ByteArray) : ND := .mk k nm 0 ⟨#[]⟩ [] []
def liveLoop : ND := .mk 27 ⟨#[]⟩ 0 ⟨#[]⟩ [] [.mk 1 ⟨#[]⟩ 1 ⟨#[]⟩ [] [], .mk 25 ⟨#[]⟩ 0 ⟨#[]⟩ [] [leaf 31 ⟨#[]⟩]]
def liveVar : ND := .mk 22 ⟨#[]⟩ 0 ⟨#[]⟩ [] [leaf 23 ⟨#[120]⟩]
def progOf (l : List ND) : ND := .mk 41 ⟨#[]⟩ 0 ⟨#[]⟩ [] l
theorem live1 : checkS (progOf [liveLoop]) = 0 := by decide +kernel
theorem live2 : checkS (progOf [leaf 31 ⟨#[]⟩]) = 90 := by decide +kernel
theorem live3 : adds [] (decls (ND.deepAll [liveLoop, liveVar] + 1) [liveLoop, liveVar]) = [⟨#[120]⟩] := by decide +kernel

theorem size_leaf (k : Int) (nm : ByteArray) : (leaf k nm).size = 1 := rfl
theorem ok_of {n : ND} (h : n.size ≤ 1099511627776) (hs : n.Str) : n.Ok := ⟨h, hs⟩

set_option maxRecDepth 20000 in
theorem live_ok {h : Heap} (hm : MaxOk h) : Ret Try.prog 8 #[] h (.bool true) := by
  refine .mk fun R hR => c8 _ _ ?_
  -- brk
  refine al_intro fun h1 e1 g1 f1 s1 => stn_at g1 rfl rfl fun h2 g2 f2 s2 => ?_
  have F2 : Frm [] h h2 := f1.young f2 (by simp)
  let xb : NV := ⟨31, ⟨#[]⟩, 0, ⟨#[]⟩, none, 0, 0, none, 0, 0⟩
  have gb2 : h2[h.size]? = some (.cells xb.cells 26 (0, 0)) := g2
  refine ⟨_, _, _, _, _, _, _, _, _, _, box6 gb2, al_intro fun h3 e3 g3 f3 s3 => al_intro fun h4 e4 g4 f4 s4 => al_intro fun h5 e5 g5 f5 s5 => stn_at g5 rfl rfl fun h6 g6 f6 s6 => ?_⟩
  have F6 : Frm [] h4 h6 := f5.young f6 (by simp)
  have F26 : Frm [] h2 h6 := f3.trans (f4.trans F6)
  let xl : NV := ⟨27, ⟨#[]⟩, 0, ⟨#[]⟩, none, 0, 0, some ⟨h3.size, 0, none⟩, 2, 2⟩
  let xn : NV := ⟨1, ⟨#[]⟩, 1, ⟨#[]⟩, none, 0, 0, none, 0, 0⟩
  let xk : NV := ⟨25, ⟨#[]⟩, 0, ⟨#[]⟩, none, 0, 0, some ⟨h2.size, 0, none⟩, 1, 1⟩
  have gl6 : h6[h4.size]? = some (.cells xl.cells 26 (0, 0)) := g6
  have nb : ∀ h', NodeAt h' xb (leaf 31 ⟨#[]⟩) := fun h' => node0 (x := xb) rfl (nodes0 h' none)
  have nk6 : NodeAt h6 xk (.mk 25 ⟨#[]⟩ 0 ⟨#[]⟩ [] [leaf 31 ⟨#[]⟩]) := node0 (x := xk) rfl (nodes1 (x := xb) ((f4.trans F6).get g3 (by simp)) (nb h6))
  have nl6 : NodeAt h6 xl liveLoop := node0 (x := xl) rfl (nodes2 (x := xn) (y := xk) (F6.get g4 (by simp)) (node0 (x := xn) rfl (nodes0 _ none)) nk6)
  -- v
  refine al_intro fun h7 e7 g7 f7 s7 => al_intro fun h8 e8 g8 f8 s8 => stn_at g8 rfl rfl fun h9 g9 f9 s9 => ?_
  have F9 : Frm [] h7 h9 := f8.young f9 (by simp)
  have F69 : Frm [] h6 h9 := f7.trans F9
  let xd : NV := ⟨23, ⟨#[120]⟩, 0, ⟨#[]⟩, none, 0, 0, none, 0, 0⟩
  let xv : NV := ⟨22, ⟨#[]⟩, 0, ⟨#[]⟩, none, 0, 0, some ⟨h6.size, 0, none⟩, 1, 1⟩
  have gv9 : h9[h7.size]? = some (.cells xv.cells 26 (0, 0)) := g9
  have nv9 : NodeAt h9 xv liveVar := node0 (x := xv) rfl (nodes1 (x := xd) (F9.get g7 (by simp)) (node0 (x := xd) rfl (nodes0 _ none)))
  have gl9 := F69.get gl6 (by simp)
  refine ⟨_, _, _, _, _, _, _, _, _, _, box6 gl9, al_intro fun h10 e10 g10 f10 s10 => ?_⟩
  have F10 : Frm [] h h10 := F2.trans (F26.trans (F69.trans f10))
  have p1 : NodeAt h10 ⟨41, ⟨#[]⟩, 0, ⟨#[]⟩, none, 0, 0, some ⟨h9.size, 0, none⟩, 1, 1⟩ (progOf [liveLoop]) := node0 (x := ⟨41, ⟨#[]⟩, 0, ⟨#[]⟩, none, 0, 0, some ⟨h9.size, 0, none⟩, 1, 1⟩) rfl (nodes1 (x := xl) g10 (nl6.frm (F69.trans f10)))
  refine (scheck_ok (hm.frm F10) p1 (ok_of (by decide +kernel) (by simp only [progOf, liveLoop, leaf, ND.Str, ND.StrAll]; decide +kernel))).use fun h11 f11 => ⟨_, rfl, ?_⟩
  rw [live1, cnd_if, if_pos (by decide)]
  have gb11 : h11[h.size]? = some (.cells xb.cells 26 (0, 0)) := (F26.trans (F69.trans (f10.trans f11))).get gb2 (by simp)
  refine ⟨_, _, _, _, _, _, _, _, _, _, box6 gb11, al_intro fun h12 e12 g12 f12 s12 => ?_⟩
  have p2 : NodeAt h12 ⟨41, ⟨#[]⟩, 0, ⟨#[]⟩, none, 0, 0, some ⟨h11.size, 0, none⟩, 1, 1⟩ (progOf [leaf 31 ⟨#[]⟩]) := node0 (x := ⟨41, ⟨#[]⟩, 0, ⟨#[]⟩, none, 0, 0, some ⟨h11.size, 0, none⟩, 1, 1⟩) rfl (nodes1 (x := xb) g12 (nb _))
  refine (scheck_ok (hm.frm (F10.trans (f11.trans f12))) p2 (ok_of (by decide +kernel) (by simp only [progOf, leaf, ND.Str, ND.StrAll]; decide +kernel))).use fun h13 f13 => ⟨_, rfl, ?_⟩
  rw [live2, cnd_if, if_pos (by decide)]
  have F13 : Frm [] h9 h13 := f10.trans (f11.trans (f12.trans f13))
  have gl13 := F13.get gl9 (by simp)
  have gv13 := F13.get gv9 (by simp)
  refine ⟨_, _, _, _, _, _, _, _, _, _, box6 gl13, _, _, _, _, _, _, _, _, _, _, box6 gv13, al_intro fun h14 e14 g14 f14 s14 => ?_⟩
  have p3 : NodesAt h14 (some ⟨h13.size, 0, none⟩) 2 [liveLoop, liveVar] := nodes2 (x := xl) (y := xv) g14 (nl6.frm (F69.trans (F13.trans f14))) (nv9.frm (F13.trans f14))
  refine (vars_ok _ p3 (Nat.le_refl _) (by decide +kernel)).mono ?_
  rintro e h15 ⟨v, rfl, o15, f15⟩
  rw [live3] at o15
  obtain ⟨a, c, rfl⟩ := o15.slice
  refine endH_ret ⟨_, _, _, rfl, al_intro fun h16 e16 g16 f16 s16 => ?_⟩
  refine (same_ok (o15.frm f16).strs (l' := [⟨#[120]⟩]) ⟨rfl, ?_⟩ (by simp)).use ⟨_, rfl, ?_⟩
  · intro i s hi
    have : i = 0 := by have := (List.getElem?_eq_some_iff.1 hi).1; simp at this; exact this
    subst this
    simp only [List.getElem?_cons_zero, Option.some.injEq] at hi
    subst hi
    exact ⟨_, rfl, by rw [add_at, cl_at g16]; rfl⟩
  · exact fin_bool (by simp) (hR _ (F10.trans (f11.trans (f12.trans (f13.trans (f14.trans (f15.trans f16)))))))
end Go.Proofs.Ytoldgeolocfmiaa
