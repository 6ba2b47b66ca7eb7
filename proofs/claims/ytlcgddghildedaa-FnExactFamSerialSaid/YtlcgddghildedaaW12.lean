/- Models of the functions, or plain laws about them; each theorem states its own conditions. -/
import Derived.Test.YtlcgddghildedaaW10
import Derived.RegionTactic
import Derived.ChangeAlike
import Derived.BigRegion
set_option linter.unusedVariables false
set_option linter.unusedSimpArgs false
open Go Go.Proofs Go.RowKit PM
namespace X
set_option maxRecDepth 100000
set_option maxHeartbeats 4000000
theorem touch_read {W : World} {gr nR cr gc nC kc x y b11 : Nat} {mv : Value} {z n0 c r : Int} (hx : x < nR) (hy : y < nC) (hr : gr < W.heap.size)
    (d0 : W.cell? ⟨b11, 0, none⟩ = some (.slice (some ⟨gc, 0, none⟩) nC kc)) (d1 : W.cell? ⟨b11, 1, none⟩ = some mv) (d2 : W.cell? ⟨b11, 2, none⟩ = some (.int .i64 n0))
    (hb : b11 < W.heap.size) (hgc : gc < W.heap.size) (rC : W.cell? ⟨gc, y, none⟩ = some (.int .i64 c)) (rR : W.cell? ⟨gr, x, none⟩ = some (.int .i64 r)) (fR : W.frozen? ⟨gr, x, none⟩ = false) :
    Calls Try.prog 296 #[.agg #[.int .i64 5, .int .i64 (x : Int), .int .i64 (y : Int), .int .i64 z], .slice (some ⟨gr, 0, none⟩) nR cr, .pointer (some ⟨b11, 0, none⟩)] W fun e w' => e = .returned (.tuple #[]) ∧
      w' = ((W.setCell ⟨gr, x, none⟩ (.int .i64 c)).alloc (Obj.cells #[Value.int .i64 5, Value.int .i64 (x : Int), Value.int .i64 (y : Int), Value.int .i64 z] 312)).drew := by
  go_enter Try.func296, Try.ntmps296
  go_wp2
  go_region
  all_goals (try go_wp2)
  all_goals (go_end0; exact ⟨rfl, rfl⟩)
theorem touch_write {W : World} {gr nR cr gc nC kc x y b11 : Nat} {mv : Value} {z n0 c r : Int} (hx : x < nC) (hy : y < nR) (hr : gr < W.heap.size)
    (d0 : W.cell? ⟨b11, 0, none⟩ = some (.slice (some ⟨gc, 0, none⟩) nC kc)) (d1 : W.cell? ⟨b11, 1, none⟩ = some mv) (d2 : W.cell? ⟨b11, 2, none⟩ = some (.int .i64 n0))
    (hb : b11 < W.heap.size) (hgc : gc < W.heap.size) (rC : W.cell? ⟨gc, x, none⟩ = some (.int .i64 c)) (rR : W.cell? ⟨gr, y, none⟩ = some (.int .i64 r)) (fR : W.frozen? ⟨gc, x, none⟩ = false) :
    Calls Try.prog 296 #[.agg #[.int .i64 6, .int .i64 (x : Int), .int .i64 (y : Int), .int .i64 z], .slice (some ⟨gr, 0, none⟩) nR cr, .pointer (some ⟨b11, 0, none⟩)] W fun e w' => e = .returned (.tuple #[]) ∧
      w' = ((W.setCell ⟨gc, x, none⟩ (.int .i64 r)).alloc (Obj.cells #[Value.int .i64 6, Value.int .i64 (x : Int), Value.int .i64 (y : Int), Value.int .i64 z] 312)).drew := by
  go_enter Try.func296, Try.ntmps296
  go_wp2
  go_region
  all_goals (try go_wp2)
  all_goals (go_end0; exact ⟨rfl, rfl⟩)
theorem below_drew {w : World} (o : Obj) : Below w.heap.size w (w.alloc o).drew := ⟨rfl, rfl, rfl, ((Below.refl _ w).alloc (Nat.le_refl _) o).size, ((Below.refl _ w).alloc (Nat.le_refl _) o).block⟩
end X
