/-
  What it is to be sorted, and the middle one: plain, but for what a call of a sort says.
-/
import Derived.Test.YtnmadkallkoadaaEnds
import Derived.WalkKit
import Derived.Deep.AppendLies
namespace Go.Proofs.Ytnmadkallkoadaa
open Go.RowKit Go.GMath

def leP (x y : Nat) : Bool := !decide (place y < place x)
def srt (zs : List Nat) : List Nat := zs.mergeSort leP
def mids (zs : List Nat) : List Nat := (srt zs).filter cntB
def midX (l : List Nat) : Nat := if l.length = 0 then 0 else l.getD ((l.length - 1) / 2) 0
def midE (l : List Nat) : Int := if l.length = 0 then 4 else 0

theorem srt_perm (zs : List Nat) : (srt zs).Perm zs := List.mergeSort_perm _ _
theorem srt_length (zs : List Nat) : (srt zs).length = zs.length := (srt_perm zs).length_eq
theorem srt_mem {zs : List Nat} {x : Nat} : x ∈ srt zs ↔ x ∈ zs := (srt_perm zs).mem_iff
theorem leP_iff {x y : Nat} : leP x y = true ↔ place x ≤ place y := by unfold leP; simp
theorem srt_sorted (zs : List Nat) : (srt zs).Pairwise fun x y => place x ≤ place y := by
  have h := List.pairwise_mergeSort (le := leP) (fun a b c h1 h2 => by rw [leP_iff] at *; omega) (fun a b => by rw [Bool.or_eq_true, leP_iff, leP_iff]; omega) zs
  exact h.imp fun h => leP_iff.1 h
theorem mids_sorted (zs : List Nat) : (mids zs).Pairwise fun x y => place x ≤ place y := (srt_sorted zs).filter _
theorem mids_perm (zs : List Nat) : (mids zs).Perm (zs.filter cntB) := (srt_perm zs).filter _

/-- a call of function fn sorts -/
def SortSays (fn : Nat) : Prop := ∀ (b off n cap : Nat) (zs : List Nat) (w : World), zs.length = n → 0 < n → n ≤ 200 → (∀ x ∈ zs, U64 x) →
  (∀ k, k < n → w.cell? ⟨b, off + k, none⟩ = some (.float .f64 (zs.getD k 0))) →
  Calls Try.prog fn #[.slice (some ⟨b, off, none⟩) n cap] w fun e w' => ∃ g c, e = .returned (.slice (some ⟨g, 0, none⟩) n c) ∧ w.heap.size ≤ g ∧ g < w'.heap.size ∧
    (∀ k, k < n → w'.cell? ⟨g, k, none⟩ = some (.float .f64 ((srt zs).getD k 0))) ∧ Below w.heap.size w w'
/-- .. at no element -/
def SortSays0 (fn : Nat) : Prop := ∀ (o : Option Addr) (cap : Nat) (w : World),
  Calls Try.prog fn #[.slice o 0 cap] w fun e w' => ∃ p c, e = .returned (.slice p 0 c) ∧ Below w.heap.size w w'

theorem info22 : (Try.prog.info? 22).map (fun i => (i.zero, i.size, i.bytes)) = some (some (.float .f64 0), 1, 8) := by kernel_rfl

/-- the first k that count -/
abbrev Kt (ss : List Nat) (k : Nat) : List Nat := (ss.take k).filter cntB
theorem take_succ' (zs : List Nat) (k : Nat) (hk : k < zs.length) : zs.take (k + 1) = zs.take k ++ [zs.getD k 0] := by
  rw [List.take_add_one, List.getElem?_eq_getElem hk, List.getD_eq_getElem?_getD, List.getElem?_eq_getElem hk]; rfl
theorem Kt_hit {zs : List Nat} {k : Nat} (hk : k < zs.length) (hg : cntB (zs.getD k 0) = true) : Kt zs (k + 1) = Kt zs k ++ [zs.getD k 0] := by
  simp only [Kt, take_succ' zs k hk, List.filter_append, List.filter_cons, hg, List.filter_nil, if_true]
theorem Kt_miss {zs : List Nat} {k : Nat} (hk : k < zs.length) (hg : cntB (zs.getD k 0) = false) : Kt zs (k + 1) = Kt zs k := by
  simp only [Kt, take_succ' zs k hk, List.filter_append, List.filter_cons, hg, List.filter_nil]; simp
theorem Kt_le (zs : List Nat) (k : Nat) : (Kt zs k).length ≤ k := Nat.le_trans (List.length_filter_le _ _) (List.length_take_le _ _)
theorem Kt_all {zs : List Nat} {k : Nat} (h : zs.length = k) : Kt zs k = zs.filter cntB := by unfold Kt; rw [List.take_of_length_le (by omega)]
theorem mem_getD {zs : List Nat} {k : Nat} (h : k < zs.length) : zs.getD k 0 ∈ zs := by
  rw [List.getD_eq_getElem?_getD, List.getElem?_eq_getElem h]; exact List.getElem_mem _

theorem rel_keep {B k : Nat} {ss : List Nat} {w wr w1 : World} {v v' : Value} {o : Obj} (hk : k < ss.length) (hg : cntB (ss.getD k 0) = true) (hB : B ≤ wr.heap.size)
    (hown : wr.ownsRow B 22 1 v (Kt ss k).length ((Kt ss k).map (Value.float .f64))) (hnx : Below B w wr)
    (hown' : w1.ownsRow B 22 1 v' ((Kt ss k).length + 1) ((Kt ss k).map (Value.float .f64) ++ [.float .f64 (ss.getD k 0)])) (hgrow : (wr.alloc o).grownBy w1 v.ownBlock) :
    w1.ownsRow B 22 1 v' (Kt ss (k + 1)).length ((Kt ss (k + 1)).map (Value.float .f64)) ∧ Below B w w1 := by
  rw [Kt_hit hk hg]
  refine ⟨by simpa using hown', (hnx.alloc hB o).grown hgrow (by simp; omega) fun j hj => (hown.lt j hj).1⟩
theorem rel_drop {B k : Nat} {ss : List Nat} {wr : World} {v : Value} (hk : k < ss.length) (hg : cntB (ss.getD k 0) = false)
    (hown : wr.ownsRow B 22 1 v (Kt ss k).length ((Kt ss k).map (Value.float .f64))) : wr.ownsRow B 22 1 v (Kt ss (k + 1)).length ((Kt ss (k + 1)).map (Value.float .f64)) := by
  rw [Kt_miss hk hg]; exact hown
end Go.Proofs.Ytnmadkallkoadaa
