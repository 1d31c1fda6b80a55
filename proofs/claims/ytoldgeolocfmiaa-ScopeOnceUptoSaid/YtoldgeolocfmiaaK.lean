/- The library's functions, by the shelf's contracts. -/
import Derived.Test.YtoldgeolocfmiaaS1
import Derived.Test.YtoldgeolocfmiaaLay
import Derived.Shelf.Lay
import Derived.Shelf.Strings.Search1
import Derived.Shelf.Strings.Search2
import Derived.Shelf.Strings.Search3
import Derived.Shelf.Strings.Cut
import Derived.Shelf.LaysM
import Derived.Shelf.Strings.Shaped
import Derived.Test.YtoldgeolocfmiaaProg
namespace Go.Proofs.Ytoldgeolocfmiaa
open Go Go.Proofs Go.Shelf Go.Proofs.Ytoldgeolocfmiaa.V

/-- internal/bytealg.MaxLen holds some number. -/
def MaxOk (h : Heap) : Prop := ∃ m : Int, cl h ⟨0, 0, none⟩ = some (.int .i64 m)
theorem MaxOk.frm {h h' : Heap} (hm : MaxOk h) (f : Frm [] h h') : MaxOk h' := let ⟨m, e⟩ := hm; ⟨m, f.cl e (by simp)⟩
theorem maxOk_shaped {w : World} (hw : w.ShapedOpen Try.prog) : MaxOk w.heap := by
  obtain ⟨m, hm⟩ := Try.laysM144.s1_3 w hw
  exact ⟨m, hm⟩

theorem contains_ok {h : Heap} (hm : MaxOk h) {s sub : ByteArray} (hs : s.size < 4294967281) : Pur Try.prog 82 #[.string s, .string sub] h (.bool (Lib.contains s.data.toList sub.data.toList)) := by
  obtain ⟨m, hm⟩ := hm
  intro w hw
  subst hw
  refine (Any.strings_Contains Try.lays144 s sub m w hs hm).mono ?_
  rintro e w' ⟨rfl, rfl⟩
  exact ⟨Same.refl _, _, rfl, rfl, rfl⟩
theorem contains_one {h : Heap} {s : ByteArray} {c : UInt8} : Pur Try.prog 82 #[.string s, .string ⟨#[c]⟩] h (.bool (decide (0 ≤ Lib.indexByte s.data.toList c))) := by
  intro w hw
  subst hw
  refine (Any.strings_Contains_one Try.lays144 s c w).mono ?_
  rintro e w' ⟨rfl, rfl⟩
  exact ⟨Same.refl _, _, rfl, rfl, rfl⟩
theorem same_drewN (w : World) (n : Nat) : Same w (w.drewN n) ∧ (w.drewN n).heap = w.heap :=
  ⟨⟨rfl, rfl, rfl, Kept.refl _⟩, rfl⟩
theorem cut_ok {h : Heap} (hm : MaxOk h) {s sep : ByteArray} (hs : s.size < 4294967281) :
    Pur Try.prog 49 #[.string s, .string sep] h (.tuple #[.string ⟨(Lib.cut s.data.toList sep.data.toList).1.toArray⟩, .string ⟨(Lib.cut s.data.toList sep.data.toList).2.1.toArray⟩, .bool (Lib.cut s.data.toList sep.data.toList).2.2]) := by
  obtain ⟨m, hm⟩ := hm
  intro w hw
  subst hw
  refine (Any.strings_Cut Try.lays145 s sep m w hs hm).mono ?_
  rintro e w' ⟨rfl, n, rfl⟩
  obtain ⟨h1, h2⟩ := same_drewN w n
  exact ⟨h1, _, rfl, rfl, h2⟩
end Go.Proofs.Ytoldgeolocfmiaa
