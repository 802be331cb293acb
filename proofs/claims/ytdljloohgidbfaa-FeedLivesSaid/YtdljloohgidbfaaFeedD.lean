/-
  The feed in memory: items, rows.
-/
import Derived.Test.YtdljloohgidbfaaChecked
import Derived.Test.YtdljloohgidbfaaMem
import Derived.Maps.RangeWalk
import Derived.Maps.OwnSet
import Derived.Laws.Cover3
namespace Go.Proofs.Ytdljloohgidbfaa
open Go Go.RowKit Go.Mem

/-- an event: its kind, its key's first byte, its version -/
structure Ev where
  a : Int
  b : Int
  v : Int
/-- an item: an event, or a gap of l -/
structure It where
  a : Int
  b : Int
  v : Int
  l : Int
@[reducible] def evC (a b v : Int) : List Value := [.int .i64 a, .int .u8 b, .int .u8 0, .int .u8 0, .int .u8 0, .int .u8 0, .int .u8 0, .int .u8 0, .int .u8 0, .int .u8 0, .int .u8 0, .int .u8 0, .int .u8 0, .int .u8 0, .int .u8 0, .int .u8 0, .int .u8 0, .int .u8 0, .int .u8 0, .int .u8 0, .int .u8 0, .int .u8 0, .int .u8 0, .int .u8 0, .int .u8 0, .int .u8 0, .int .u8 0, .int .u8 0, .int .u8 0, .int .u8 0, .int .u8 0, .int .u8 0, .int .u8 0, .int .u64 v]
@[reducible] def itC (a b v l : Int) : List Value := [.int .i64 a, .int .u8 b, .int .u8 0, .int .u8 0, .int .u8 0, .int .u8 0, .int .u8 0, .int .u8 0, .int .u8 0, .int .u8 0, .int .u8 0, .int .u8 0, .int .u8 0, .int .u8 0, .int .u8 0, .int .u8 0, .int .u8 0, .int .u8 0, .int .u8 0, .int .u8 0, .int .u8 0, .int .u8 0, .int .u8 0, .int .u8 0, .int .u8 0, .int .u8 0, .int .u8 0, .int .u8 0, .int .u8 0, .int .u8 0, .int .u8 0, .int .u8 0, .int .u8 0, .int .u64 v, .int .u64 l]
def Ev.cells (e : Ev) : List Value := evC e.a e.b e.v
def It.cells (e : It) : List Value := itC e.a e.b e.v e.l
theorem Ev.len (e : Ev) : e.cells.length = 34 := rfl
theorem It.len (e : It) : e.cells.length = 35 := rfl
def Ev.it (e : Ev) : It := ⟨e.a, e.b, e.v, 0⟩
def gap (l : Int) : It := ⟨0, 0, 0, l⟩

theorem build38 (a b v : Int) (w : World) : (Instr.build 38 #[(0, .int .i64 a), (1, .agg #[.int .u8 b, .int .u8 0, .int .u8 0, .int .u8 0, .int .u8 0, .int .u8 0, .int .u8 0, .int .u8 0, .int .u8 0, .int .u8 0, .int .u8 0, .int .u8 0, .int .u8 0, .int .u8 0, .int .u8 0, .int .u8 0, .int .u8 0, .int .u8 0, .int .u8 0, .int .u8 0, .int .u8 0, .int .u8 0, .int .u8 0, .int .u8 0, .int .u8 0, .int .u8 0, .int .u8 0, .int .u8 0, .int .u8 0, .int .u8 0, .int .u8 0, .int .u8 0]), (2, .int .u64 v)]).run Try.prog w = .ok (.agg (evC a b v).toArray) w := run_build w 38 _ _ (by kernel_rfl)
theorem build40 (a b v : Int) (w : World) : (Instr.build 40 #[(0, .agg (evC a b v).toArray)]).run Try.prog w = .ok (.agg (itC a b v 0).toArray) w := run_build w 40 _ _ (by kernel_rfl)
theorem build40g (l : Int) (w : World) : (Instr.build 40 #[(1, .int .u64 l)]).run Try.prog w = .ok (.agg (itC 0 0 0 l).toArray) w := run_build w 40 _ _ (by kernel_rfl)
theorem build36 (b : Int) (w : World) : (Instr.build 36 #[(0, .int .u8 b)]).run Try.prog w = .ok (.agg #[.int .u8 b, .int .u8 0, .int .u8 0, .int .u8 0, .int .u8 0, .int .u8 0, .int .u8 0, .int .u8 0, .int .u8 0, .int .u8 0, .int .u8 0, .int .u8 0, .int .u8 0, .int .u8 0, .int .u8 0, .int .u8 0, .int .u8 0, .int .u8 0, .int .u8 0, .int .u8 0, .int .u8 0, .int .u8 0, .int .u8 0, .int .u8 0, .int .u8 0, .int .u8 0, .int .u8 0, .int .u8 0, .int .u8 0, .int .u8 0, .int .u8 0, .int .u8 0]) w := run_build w 36 _ _ (by kernel_rfl)
theorem build74 (w : World) : (Instr.build 74 #[]).run Try.prog w = .ok (.agg #[.slice none 0 0, .int .u64 0]) w := run_build w 74 _ _ (by kernel_rfl)
theorem build70 (m : Nat) (w : World) : (Instr.build 70 #[(0, .map (some m))]).run Try.prog w = .ok (.agg #[.map (some m), .int .u64 0]) w := run_build w 70 _ _ (by kernel_rfl)

/-- a row of a watcher in memory -/
structure RowAt (w : World) (blk : Nat) (sv : Value) (items : List It) (lost : Nat) : Prop where
  cell : w.heap[blk]? = some (.cells #[sv, .int .u64 lost] 74)
  sl : Sl w 40 35 sv (items.map It.cells)

/-- an event behind what there is -/
def pushI (p : List It × Nat) (e : Ev) : List It × Nat :=
  if 0 < p.2 then (if 14 < p.1.length then (p.1, p.2 + 1) else (p.1 ++ [gap p.2, e.it], 0))
  else if 15 < p.1.length then (p.1, 1) else (p.1 ++ [e.it], 0)

theorem info40 : (Try.prog.info? 40).map (fun i => (i.size, i.bytes)) = some (35, 56) := by kernel_rfl

set_option maxRecDepth 100000 in
set_option maxHeartbeats 1000000 in
theorem made_any (fb mb : Nat) (c : Value) (w : World) (h : w.heap[fb]? = some (.cells #[.map (some mb), c] 70)) :
    Calls Try.prog 26 #[.pointer (some ⟨fb, 0, none⟩)] w fun e w' => e = .returned (.bool true) ∧ w' = w := by
  have hc : w.cell? ⟨fb, 0, none⟩ = some (.map (some mb)) := by simp [World.cell?, h]
  have hq : ∀ m w, (binOp .neq 68 (.map (some m)) (.map none)).run Try.prog w = .ok (.bool true) w := fun m w => run_neq_map_nil w 68 _ _ (some m) Try.underlying68
  clear h
  go_enter Try.func26, Try.ntmps26
  go_wp2
  go_ret
  exact ⟨rfl, rfl⟩
end Go.Proofs.Ytdljloohgidbfaa
