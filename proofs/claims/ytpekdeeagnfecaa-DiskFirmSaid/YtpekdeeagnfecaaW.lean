/- Sorted keys: the shelf's contracts at this dump. -/
import Derived.Test.YtpekdeeagnfecaaS
import Derived.Test.YtpekdeeagnfecaaLay
import Derived.Shelf.SlIterI.Nil
import Derived.Shelf.SortM.Plain
import Derived.Shelf.SortM.SortNone
import Derived.Ground.GgzProg
import Derived.Ground.SlgmProg
namespace Go.Proofs.Ytpekdeeagnfecaa
open Go Go.Proofs Go.Proofs.Ytpekdeeagnfecaa.V
open Go.RowKit Go.Maps Go.Sort Go.Shelf

/-- slices.Sort's two contracts at this dump. -/
theorem Try.sortsA (m : Nat) : AnyZI.SortsIn Try.prog Try.sortedA_ren Fence.wide m :=
  ⟨fun blk off cap ss W hH hblk hsz => callsIn_wide.2 (AnyM.slices_Sort_int Try.sortA blk off cap ss W hH hblk hsz),
   fun p cap W => callsIn_wide.2 (AnyM.slices_Sort_int_none Try.sortA p cap W)⟩

theorem frm_of_below {w w' : World} (hb : Below w.heap.size w w') : Same w w' ∧ Frm [] w.heap w'.heap := by
  have f : Frm [] w.heap w'.heap := ⟨hb.size, fun b hb' _ => hb.block b hb'⟩
  exact ⟨⟨hb.os, hb.output, hb.tape, kept_of f (fun b h => by cases h)⟩, f⟩


theorem asc_of {ss : List Int} (hnd : ss.Nodup) : Asc (ss.mergeSort fun x y => decide (x ≤ y)) ∧ ∀ k, k ∈ (ss.mergeSort fun x y => decide (x ≤ y)) ↔ k ∈ ss := by
  have tr : ∀ a b c : Int, decide (a ≤ b) = true → decide (b ≤ c) = true → decide (a ≤ c) = true := fun a b c h1 h2 => by simp only [decide_eq_true_eq] at *; omega
  have to : ∀ a b : Int, (decide (a ≤ b) || decide (b ≤ a)) = true := fun a b => by simp only [Bool.or_eq_true, decide_eq_true_eq]; omega
  have hp := List.mergeSort_perm ss (fun x y => decide (x ≤ y))
  refine ⟨?_, fun k => hp.mem_iff⟩
  have h1 := List.pairwise_mergeSort tr to ss
  have h2 : (ss.mergeSort fun x y => decide (x ≤ y)).Nodup := hp.nodup_iff.2 hnd
  refine (h1.and h2).imp ?_
  rintro a b ⟨h, hne⟩
  simp only [decide_eq_true_eq] at h
  omega

/-- A map of small numbers, as the shelf has it. -/
theorem owns_of {w : World} {m : Nat} {f : Int → Option ByteArray} {N : Nat} (hm : MapAt w.heap m KI VS f) (hN : N ≤ 100000) (hk : ∀ k, f k ≠ none → 0 ≤ k ∧ k < (N : Int)) :
    ∃ D : DataW Unit, w.ownsMap Try.prog 3 (fun _ => some (.nil, [])) m N D ∧ Maps.size D ≤ N ∧ (intKeys D).Nodup ∧ ∀ k, k ∈ intKeys D ↔ f k ≠ none := by
  obtain ⟨es, clock, kvs, hb, hkv, hnd, hbl, hbn, hf⟩ := hm
  have hmem : ∀ {kvs : List (Int × ByteArray)} {k : Int}, k ∈ kvs.map (·.1) ↔ get? kvs k ≠ none := by
    intro kvs k
    induction kvs with
    | nil => simp [get?]
    | cons p r ih =>
      obtain ⟨a, b⟩ := p
      simp only [List.map_cons, List.mem_cons, get?]
      by_cases e : a = k
      · simp [e]
      · rw [if_neg e, ← ih]
        exact ⟨fun h => h.resolve_left fun h => e h.symm, .inr⟩
  have hrange : ∀ k ∈ kvs.map (·.1), 0 ≤ k ∧ k < (N : Int) := fun k h => hk k (by rw [hf k]; exact hmem.1 h)
  have hlen : kvs.length ≤ N := by
    have h1 : ((kvs.map (·.1)).map Int.toNat).Nodup := by
      refine List.pairwise_map.2 (List.Pairwise.imp_of_mem ?_ hnd)
      intro a b ha hb hne e
      have h1 := hrange a ha
      have h2 := hrange b hb
      omega
    have := List.Nodup.length_le_of_subset (l₂ := List.range N) h1 (fun y hy => by
      obtain ⟨k, hk1, rfl⟩ := List.mem_map.1 hy
      have := hrange k hk1
      rw [List.mem_range]; omega)
    simpa using this
  have hlen2 : es.toList.length = kvs.length := by
    have := congrArg List.length (show es.toList.map (fun e => (e.key, e.val)) = _ from hkv)
    simpa using this
  have hkeys : es.toList.map (·.key) = (kvs.map (·.1)).map KI := by
    have := congrArg (List.map Prod.fst) (show es.toList.map (fun e => (e.key, e.val)) = _ from hkv)
    simpa [List.map_map, Function.comp_def] using this
  have hrd : ∀ x ∈ es.toList, ∃ k : Int, x.key = KI k ∧ Go.WideElems.rd (H := Unit) Try.prog 3 (fun _ => some (.nil, [])) x = some (.int .i64 k, .nil) := by
    intro x hx
    have h1 : x.key ∈ (kvs.map (·.1)).map KI := by rw [← hkeys]; exact List.mem_map.2 ⟨x, hx, rfl⟩
    obtain ⟨k, hk1, hk2⟩ := List.mem_map.1 h1
    have hr := hrange k hk1
    refine ⟨k, hk2.symm, ?_⟩
    have hwf : (Lit.int .i64 k).wf = true := by
      simp only [Lit.wf, Bool.and_eq_true, decide_eq_true_eq]
      have e1 : IntKind.i64.min = -9223372036854775808 := rfl
      have e2 : IntKind.i64.max = 9223372036854775807 := rfl
      omega
    have hko : keyOf Try.prog 3 x.key = some (.int .i64 k) := by
      rw [← hk2]
      simp [keyOf, Try.underlying3, mapKey, hwf]
    simp [Go.WideElems.rd, hko]
  have hst : MapKept.Stamped es clock := ⟨hbl, hbn, by
    rw [hkeys]
    exact List.pairwise_map.2 (hnd.imp fun hne e => hne (by simpa using e))⟩
  have hik : ((es.toList.map (Go.WideElems.rg (H := Unit) Try.prog 3 fun _ => some (.nil, []))).map fun p => Go.intOf p.1) = kvs.map (·.1) := by
    have hinj : ∀ {l l' : List Int}, l.map KI = l'.map KI → l = l' := fun {l l'} h => (List.map_inj_right (fun a b e => by simpa using e)).1 h
    refine hinj ?_
    rw [← hkeys, List.map_map, List.map_map]
    refine List.map_congr_left fun x hx => ?_
    obtain ⟨k, hk1, h⟩ := hrd x hx
    simp only [Function.comp, Go.WideElems.rg, h, Option.getD_some, Go.intOf]
    exact hk1.symm
  have hperm : (intKeys (DataW.map ((es.toList.map (Go.WideElems.rg (H := Unit) Try.prog 3 fun _ => some (.nil, []))).foldr DataW.insert []))).Perm (kvs.map (·.1)) := by
    rw [← hik]
    exact (WideShapes.sorted_perm _).map _
  refine ⟨_, ⟨es, clock, hb, ⟨?_, hst, fun x hx => ?_⟩, ?_, rfl⟩, ?_, ?_, ?_⟩
  · rw [← Array.length_toList, hlen2]; simp only [maxLen]; omega
  · obtain ⟨k, _, h⟩ := hrd x hx; exact ⟨_, h⟩
  · rw [← Array.length_toList, hlen2]; exact hlen
  · rw [Maps.size_eq, (WideShapes.sorted_perm _).length_eq, List.length_map, hlen2]; exact hlen
  · exact hperm.nodup_iff.2 hnd
  · intro k
    rw [hperm.mem_iff, hf k]
    exact hmem

/-- maps.Keys. -/
theorem keys_ok (m : Option Nat) (h : Heap) :
    CallsH Try.prog 49 #[.map m] h (fun e h' => ∃ v, e = .returned v ∧ v = .func (.func 63) #[] #[.pointer (some ⟨h.size, 0, none⟩)] ∧ h' = h.push (.cells #[.map m] 73 (0, 0))) := by
  refine c49 _ _ _ ?_
  exact al_intro fun h' e _ _ _ => ⟨_, rfl, rfl, e⟩

set_option maxRecDepth 10000 in
/-- slices.Sorted, of a map's keys. -/
theorem sorted_ok {h : Heap} {B m : Nat} {f : Int → Option ByteArray} {N : Nat} (hB : h[B]? = some (.cells #[.map (some m)] 73 (0, 0))) (hm : MapAt h m KI VS f) (hN : N ≤ 100000) (hk : ∀ k, f k ≠ none → 0 ≤ k ∧ k < (N : Int)) :
    CallsH Try.prog 48 #[.func (.func 63) #[] #[.pointer (some ⟨B, 0, none⟩)]] h (fun e h' => ∃ v, e = .returned v ∧ ∃ l : List Int, Asc l ∧ (∀ k, k ∈ l ↔ f k ≠ none) ∧ l.length ≤ N ∧ Own h' h.size 3 1 v l.length (l.map KI) ∧ Frm [] h h') := by
  intro w hw
  subst hw
  obtain ⟨D, hown, hsz, hnd, hkeys⟩ := owns_of hm hN hk
  refine (callsIn_wide (n := 6)).1 ?_
  have hseq : SeqGives Fence.wide 3 Try.prog 63 #[.pointer (some ⟨B, 0, none⟩)] encZ (fun ss => ss.Perm (intKeys D)) (Maps.size D) w :=
    AnyZI.keys_gives (ρ := Try.keysA_ren) { Try.keysA with } Fence.wide _ trivial rfl (by omega) B m N D _ (lt_of_get hB) (by rw [cell_cl, cl_at hB]; rfl) hown
  have hmax : Maps.size D ≤ maxLen := by simp only [maxLen]; omega
  have hbytes : Maps.size D * 8 ≤ 140737488355328 := by omega
  have cS := AnyZI.sorted_in Try.sortedA Fence.wide 6 trivial trivial trivial trivial rfl (by omega) (Try.sortsA _) (enters_of Try.func62 (by kernel_rfl) rfl) 63 #[.pointer (some ⟨B, 0, none⟩)] trivial (enters_of Try.func63 (by kernel_rfl) rfl) _ _ hmax hbytes _ hseq
  change CallsIn _ _ Try.prog 48 _ _ _ at cS
  refine cS.mono ?_
  rintro e w' ⟨v, ss, rfl, hS, hrow, hnil, hb⟩
  obtain ⟨hs, hf⟩ := frm_of_below hb
  have hnd' : ss.Nodup := hS.nodup_iff.2 hnd
  obtain ⟨ha, hmm⟩ := asc_of hnd'
  have hl : (ss.mergeSort fun x y => decide (x ≤ y)).length = ss.length := List.length_mergeSort ss
  refine ⟨hs, v, rfl, ss.mergeSort (fun x y => decide (x ≤ y)), ha, fun k => ?_, ?_, ?_, hf⟩
  · rw [hmm k, hS.mem_iff, hkeys k]
  · rw [hl, hS.length_eq]
    have : (intKeys D).length = Maps.size D := by cases D <;> simp [intKeys, Maps.size]
    omega
  · rw [hl]; exact hrow
end Go.Proofs.Ytpekdeeagnfecaa
