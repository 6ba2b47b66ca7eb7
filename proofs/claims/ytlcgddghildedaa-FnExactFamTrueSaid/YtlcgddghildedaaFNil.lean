/- Models of the functions, or plain laws about them; each theorem states its own conditions. -/
import Derived.Test.YtlcgddghildedaaL4
import Derived.Test.YtlcgddghildedaaProg
import Derived.ProofKit
import Derived.WalkKit
import Derived.Below
import Derived.KernelRfl
set_option linter.unusedVariables false
set_option linter.unusedSimpArgs false
open Go Go.Proofs Go.RowKit
namespace X
set_option maxRecDepth 100000
set_option maxHeartbeats 4000000
/-! ## FamAt returns nil -/
theorem FamAt_nil1 {w : World} (v0 u0 u1 u2 u3 u4 u5 u6 u7 u8 u9 : Value) (n : Int)
    (hA : ∀ W, Below w.heap.size w W → Calls Try.prog 97 #[v0, .int .i64 8] W fun e w' => e = .returned (.bool false) ∧ Below w.heap.size w w') :
    Calls Try.prog 80 #[v0, .agg #[u0, u1, u2, u3, u4, u5, u6, u7, u8, u9], .int .i64 n] w fun e w' => e = .returned (.slice none 0 0) ∧ Below w.heap.size w w' := by
  obtain ⟨W0, eW0⟩ : ∃ X, X = w.alloc (Obj.cells #[u0, u1, u2, u3, u4, u5, u6, u7, u8, u9] 100) := ⟨_, rfl⟩
  have HW0 : Aside (Below w.heap.size w W0) := by rw [eW0]; exact (Below.refl _ w).alloc (Nat.le_refl _) _
  have EW0 : Aside (W0 = w.alloc (Obj.cells #[u0, u1, u2, u3, u4, u5, u6, u7, u8, u9] 100)) := eW0
  clear eW0
  go_enter Try.func80, Try.ntmps80
  go_wp2_with (first
    | (go_at_call 97; rw [← EW0.out]; refine (hA _ HW0.out).mono fun e w1 hq => ?_; obtain ⟨rfl, hb⟩ := hq; have Hw1 : Aside (Below w.heap.size w w1) := hb; clear hb)
    )
  go_ret
  exact ⟨rfl, Hw1.out⟩
theorem FamAt_nil2 {w : World} (v0 u0 u1 u2 u3 u4 u5 u6 u7 u8 u9 : Value) (n : Int)
    (hA : ∀ W, Below w.heap.size w W → Calls Try.prog 97 #[v0, .int .i64 8] W fun e w' => e = .returned (.bool true) ∧ Below W.heap.size W w')
    (hR : ∀ W, Below w.heap.size w W → Calls Try.prog 128 #[u5] W fun e w' => e = .returned (.bool false) ∧ Below w.heap.size w w') :
    Calls Try.prog 80 #[v0, .agg #[u0, u1, u2, u3, u4, u5, u6, u7, u8, u9], .int .i64 n] w fun e w' => e = .returned (.slice none 0 0) ∧ Below w.heap.size w w' := by
  obtain ⟨W0, eW0⟩ : ∃ X, X = w.alloc (Obj.cells #[u0, u1, u2, u3, u4, u5, u6, u7, u8, u9] 100) := ⟨_, rfl⟩
  have HW0 : Aside (Below w.heap.size w W0) := by rw [eW0]; exact (Below.refl _ w).alloc (Nat.le_refl _) _
  have HB : Aside (∀ (W : World), Below W0.heap.size W0 W → W.cell? ⟨w.heap.size, 5, none⟩ = some u5) := fun W hW => by
    have h0 : W0.heap[w.heap.size]? = some (Obj.cells #[u0, u1, u2, u3, u4, u5, u6, u7, u8, u9] 100) := by rw [eW0]; exact heap_alloc_new w _
    have hlt : w.heap.size < W0.heap.size := by rw [eW0]; simp
    have h1 := (hW.block _ hlt).trans h0
    simp only [World.cell?, h1, Option.isSome_none, Bool.false_eq_true, if_false]
    rfl
  have EW0 : Aside (W0 = w.alloc (Obj.cells #[u0, u1, u2, u3, u4, u5, u6, u7, u8, u9] 100)) := eW0
  clear eW0
  go_enter Try.func80, Try.ntmps80
  go_wp2_with (first
    | (go_at_call 97; rw [← EW0.out]; refine (hA _ HW0.out).mono fun e w1 hq => ?_; obtain ⟨rfl, hb⟩ := hq; have Hw1 : Aside (Below W0.heap.size W0 w1) := hb; clear hb; have cw1 : w1.cell? ⟨w.heap.size, 5, none⟩ = some u5 := HB.out _ Hw1.out)
    | (go_at_call 128; refine (hR _ (HW0.out.trans (Hw1.out.mono HW0.out.size))).mono fun e w2 hq => ?_; obtain ⟨rfl, hb⟩ := hq; have Hw2 : Aside (Below w.heap.size w w2) := hb; clear hb)
    )
  go_ret
  exact ⟨rfl, Hw2.out⟩
end X
