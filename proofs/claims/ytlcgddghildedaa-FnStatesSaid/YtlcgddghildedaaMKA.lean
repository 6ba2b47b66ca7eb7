/- Models of the functions, or plain laws about them; each theorem states its own conditions. -/
import Derived.Test.YtlcgddghildedaaL4
import Derived.Test.YtlcgddghildedaaProg
import Derived.ProofKit
import Derived.WalkKit
import Derived.Below
import Derived.KernelRfl
set_option linter.unusedVariables false
set_option linter.unusedSimpArgs false
open Go Go.Proofs Go.RowKit
namespace X
/-! The functions that mark: what they write, what they count. -/
def SlT (cx : PM.Cx) (u : TypeId) (ak : PM.AK) (sh : List PM.K) : Prop := ∃ ty, PM.find cx u = some ty ∧ ty.elem = some ak ∧ PM.shAK cx ak = some sh
theorem sl_of {cx : PM.Cx} {u : TypeId} {ak : PM.AK} {sh : List PM.K} (h : SlT cx u ak sh) {w : World} {ok : Nat → Prop} {c : PM.C} {v : Value} (hv : PM.ShC cx w ok (.sl u) c v) : PM.ShSl cx w ok sh (PM.asRows c) v := by
  obtain ⟨ty, h1, h2, h3⟩ := h
  exact hv.slice h1 h2 h3
theorem sl_form {cx : PM.Cx} {u : TypeId} {w : World} {ok : Nat → Prop} {c : PM.C} {v : Value} (hv : PM.ShC cx w ok (.sl u) c v) : ∃ b n c, v = .slice b n c := by
  cases hv <;> exact ⟨_, _, _, rfl⟩
theorem int_form {cx : PM.Cx} {w : World} {ok : Nat → Prop} {k : IntKind} {c : PM.C} {v : Value} (hv : PM.ShC cx w ok (.int k) c v) : ∃ m, v = .int k m := by
  cases hv; exact ⟨_, rfl⟩
theorem bool_form {cx : PM.Cx} {w : World} {ok : Nat → Prop} {c : PM.C} {v : Value} (hv : PM.ShC cx w ok .bool c v) : ∃ m, v = .bool m := by
  cases hv; exact ⟨_, rfl⟩
def sumN (f : Nat → Nat) : Nat → Nat
  | 0 => 0
  | n + 1 => sumN f n + f n
theorem sumN_le (f : Nat → Nat) {i n : Nat} (h : i ≤ n) : sumN f i ≤ sumN f n := by
  induction h with
  | refl => exact Nat.le_refl _
  | step _ ih => exact Nat.le_trans ih (Nat.le_add_right _ _)
theorem sumN_len (f : Nat → Nat) (h : ∀ i, 1 ≤ f i) : ∀ n, n ≤ sumN f n
  | 0 => Nat.le_refl _
  | n + 1 => Nat.add_le_add (sumN_len f h n) (h n)
theorem sumN_bd (f : Nat → Nat) (n b : Nat) (h : ∀ i, i < n → f i ≤ b) : sumN f n ≤ n * b := by
  induction n with
  | zero => simp [sumN]
  | succ n ih =>
    have h1 := ih fun i hi => h i (by omega)
    have h2 := h n (by omega)
    rw [Nat.add_mul, Nat.one_mul]
    exact Nat.add_le_add h1 h2
theorem sumN_step (f : Nat → Nat) {i n : Nat} (h : i < n) : sumN f i + f i ≤ sumN f n := sumN_le f (i := i + 1) h
section
variable {ok : Nat → Prop} {w W : World} {b o : Nat}
theorem setI {m u : Int} (h : PM.MarkTo ok w W) (hb : ok b) (hc : w.cell? ⟨b, o, none⟩ = some (.int .i64 m)) : PM.MarkTo ok w (W.setCell ⟨b, o, none⟩ (.int .i64 u)) := by
  obtain ⟨v', h1, h2⟩ := h.cell hc
  refine h.trans (PM.MarkTo.set hb h1 ?_)
  rcases h2 with rfl | ⟨k, m', n, e, rfl⟩ | ⟨x, y, e, _⟩
  · exact .int
  · cases e; exact .int
  · cases e
theorem setB {m u : Bool} (h : PM.MarkTo ok w W) (hb : ok b) (hc : w.cell? ⟨b, o, none⟩ = some (.bool m)) : PM.MarkTo ok w (W.setCell ⟨b, o, none⟩ (.bool u)) := by
  obtain ⟨v', h1, h2⟩ := h.cell hc
  refine h.trans (PM.MarkTo.set hb h1 ?_)
  rcases h2 with rfl | ⟨k, m', n, e, _⟩ | ⟨x, y, e, rfl⟩
  · exact .bool
  · cases e
  · exact .bool
theorem hdr {v : Value} (h : PM.MarkTo ok w W) (hc : w.cell? ⟨b, o, none⟩ = some v) (hs : ∃ b n c, v = .slice b n c) : W.cell? ⟨b, o, none⟩ = some v := by
  obtain ⟨v', h1, h2⟩ := h.cell hc
  obtain ⟨b, n, c, rfl⟩ := hs
  rcases h2 with rfl | ⟨k, m', n, e, _⟩ | ⟨x, y, e, _⟩
  · exact h1
  · cases e
  · cases e
theorem use_mark {P : Program} {f : FuncId} {args : Array Value} {Q : Ending → World → Prop} (HW : PM.MarkTo ok w W) (h : PM.MarkTo ok w W → Calls P f args W Q) : Calls P f args W Q := h HW
end
set_option maxHeartbeats 4000000
def laws_markIntS_e (rows : List (List PM.C)) (i : Nat) : Nat := 1
def laws_markIntS_c (rows : List (List PM.C)) : Nat := sumN (laws_markIntS_e rows) rows.length
theorem laws_markIntS_nil (base : Option Addr) (cap : Nat) (k : Int) (w : World) : Calls Try.prog 54 #[.slice base 0 cap, .int .i64 k] w fun e w' => e = .returned (.int .i64 k) ∧ Below w.heap.size w w' := by
  go_enter Try.func54, Try.ntmps54
  go_wp2
  go_loopg [1, 5] 0 (fun gg s1 s5 wr => s5 = .int .i64 0 ∧ s1 = .int .i64 k ∧ Aside (RowKit.Below w.heap.size w wr))
  case atStart => exact ⟨rfl, rfl, Below.refl _ w⟩
  case round =>
    obtain ⟨rfl, rfl, BW⟩ := hrel
    go_wp2
    go_ret
    exact ⟨rfl, BW.out⟩
theorem laws_markIntS_walk {cx : PM.Cx} (ok : Nat → Prop) (rows : List (List PM.C)) (blk off cap : Nat) (k : Int) (f : Nat → Nat → Value) (w : World) (hu : ∀ b, ok b → PM.Unf w b) (hb : ok blk) (hk : 0 ≤ k) (hk2 : k + (laws_markIntS_c rows : Nat) ≤ 4611686018427387904) (hl : rows.length ≤ 4611686018427387904)
    (hc : ∀ i j, i < rows.length → j < 1 → w.cell? ⟨blk, off + (i * 1 + j), none⟩ = some (f i j)) (hs : ∀ i j, i < rows.length → j < 1 → PM.ShC cx w ok (([.int .i64] : List PM.K).getD j .bool) (PM.cOf rows i j) (f i j)) :
    Calls Try.prog 54 #[.slice (some ⟨blk, off, none⟩) rows.length cap, .int .i64 k] w fun e w' => e = .returned (.int .i64 (k + (laws_markIntS_c rows : Nat))) ∧ PM.MarkTo ok w w' := by
  have HC : Aside (∀ i j, i < rows.length → j < 1 → w.cell? ⟨blk, off + (i * 1 + j), none⟩ = some (f i j)) := hc
  have HS : Aside (∀ i j, i < rows.length → j < 1 → PM.ShC cx w ok (([.int .i64] : List PM.K).getD j .bool) (PM.cOf rows i j) (f i j)) := hs
  have HU : Aside (∀ b, ok b → PM.Unf w b) := hu
  have HE : Aside (∀ i, i < rows.length → sumN (laws_markIntS_e rows) i + laws_markIntS_e rows i ≤ laws_markIntS_c rows) := fun i hi => sumN_step _ hi
  have HT : Aside (laws_markIntS_c rows = sumN (laws_markIntS_e rows) rows.length) := rfl
  clear hc hs hu
  obtain ⟨tot, htot⟩ : ∃ tot, tot = laws_markIntS_c rows := ⟨_, rfl⟩
  obtain ⟨n, hn⟩ : ∃ n, n = rows.length := ⟨_, rfl⟩
  rw [← htot] at hk2 ⊢
  rw [← hn] at hl ⊢
  go_enter Try.func54, Try.ntmps54
  go_wp2
  go_loopg [1, 5] n (fun gg s1 s5 wr => ∃ i : Nat, s5 = .int .i64 i ∧ s1 = .int .i64 (k + (sumN (laws_markIntS_e rows) i : Nat)) ∧ i ≤ n ∧ n - i ≤ gg ∧ Aside (PM.MarkTo ok w wr))
  case atStart => exact ⟨0, rfl, by simp [sumN], by omega, by omega, PM.MarkTo.refl⟩
  case round =>
    obtain ⟨i, rfl, rfl, hin, hgg, HM⟩ := hrel
    by_cases hlt : i < n
    · have hltz : (i : Int) < (n : Int) := by omega
      have hlt' : i < rows.length := by omega
      have he := HE.out i hlt'
      rw [← htot] at he
      have s0 : PM.ShC cx w ok (.int .i64) (PM.cOf rows i 0) (f i 0) := HS.out i 0 hlt' (by omega)
      have q0 := HC.out i 0 hlt' (by omega)
      rw [show off + (i * 1 + 0) = off + i by omega] at q0
      obtain ⟨m0, em0⟩ := int_form s0
      rw [em0] at q0
      clear s0 em0
      have q0 : Aside (w.cell? ⟨blk, off + i, none⟩ = some (.int .i64 m0)) := q0
      have hee : laws_markIntS_e rows i = 1 := by simp only [laws_markIntS_e]
      have HEE : Aside (laws_markIntS_e rows i = 1) := hee
      rw [hee] at he
      obtain ⟨S, hS⟩ : ∃ S, S = sumN (laws_markIntS_e rows) i := ⟨_, rfl⟩
      rw [← hS] at he ⊢
      have HSS : Aside (S = sumN (laws_markIntS_e rows) i) := hS
      have HTT : Aside (tot = laws_markIntS_c rows) := htot
      have HNN : Aside (n = rows.length) := hn
      have HLT : Aside (i < rows.length) := hlt'
      clear hS htot hn hlt' hee
      obtain ⟨y0wr, c0wr, _⟩ := PM.MarkTo.cell HM.out q0.out
      have f0wr : wr.frozen? ⟨blk, off + i, none⟩ = false := PM.Unf.frozen (PM.MarkTo.unf HM.out (HU.out blk hb))
      go_wp2
      go_roundg (n - (i + 1))
      case measure => omega
      case rel =>
        refine ⟨i + 1, by first | rfl | go_num, ?_, by omega, Nat.le_refl _, (setI HM.out hb q0.out)⟩
        have e1 : sumN (laws_markIntS_e rows) (i + 1) = S + (1) := by rw [HSS.out, ← HEE.out]; rfl
        rw [e1]
        congr 1
        omega
    · have ein : i = n := by omega
      have etot : sumN (laws_markIntS_e rows) i = tot := by rw [htot, HT.out, ein, hn]
      rw [etot]
      clear etot
      have hge : ¬ (i : Int) < (n : Int) := by omega
      go_wp2
      go_ret
      exact ⟨rfl, HM.out⟩
theorem laws_markIntS_k {cx : PM.Cx} (ok : Nat → Prop) {w : World} {rows : List (List PM.C)} (v : Value) (k : Int) (hu : ∀ b, ok b → PM.Unf w b) (h : PM.ShSl cx w ok [.int .i64] rows v) (hk : 0 ≤ k) (hk2 : k + (laws_markIntS_c rows : Nat) ≤ 4611686018427387904) :
    Calls Try.prog 54 #[v, .int .i64 k] w fun e w' => e = .returned (.int .i64 (k + (laws_markIntS_c rows : Nat))) ∧ PM.MarkTo ok w w' := by
  rcases h with ⟨rfl, base, cap, rfl⟩ | ⟨⟨blk, off, spot⟩, cap, f, rfl, h2, h3, h4, h5⟩
  · refine (laws_markIntS_nil base cap k w).mono fun e w' hq => ?_
    obtain ⟨rfl, hbw⟩ := hq
    exact ⟨by simp [laws_markIntS_c, sumN], PM.MarkTo.of_below hbw⟩
  · have h2 : spot = none := h2
    subst h2
    exact laws_markIntS_walk ok rows blk off cap k f w hu h3 hk hk2 (by have := sumN_len (laws_markIntS_e rows) (fun i => by unfold laws_markIntS_e; omega) rows.length; unfold laws_markIntS_c at hk2; omega) h4 h5
def laws_markRowS_e (rows : List (List PM.C)) (i : Nat) : Nat := 2
def laws_markRowS_c (rows : List (List PM.C)) : Nat := sumN (laws_markRowS_e rows) rows.length
theorem laws_markRowS_nil (base : Option Addr) (cap : Nat) (k : Int) (w : World) : Calls Try.prog 68 #[.slice base 0 cap, .int .i64 k] w fun e w' => e = .returned (.int .i64 k) ∧ Below w.heap.size w w' := by
  go_enter Try.func68, Try.ntmps68
  go_wp2
  go_loopg [1, 5] 0 (fun gg s1 s5 wr => s5 = .int .i64 0 ∧ s1 = .int .i64 k ∧ Aside (RowKit.Below w.heap.size w wr))
  case atStart => exact ⟨rfl, rfl, Below.refl _ w⟩
  case round =>
    obtain ⟨rfl, rfl, BW⟩ := hrel
    go_wp2
    go_ret
    exact ⟨rfl, BW.out⟩
theorem laws_markRowS_walk {cx : PM.Cx} (ok : Nat → Prop) (rows : List (List PM.C)) (blk off cap : Nat) (k : Int) (f : Nat → Nat → Value) (w : World) (hu : ∀ b, ok b → PM.Unf w b) (hb : ok blk) (hk : 0 ≤ k) (hk2 : k + (laws_markRowS_c rows : Nat) ≤ 4611686018427387904) (hl : rows.length ≤ 4611686018427387904)
    (hc : ∀ i j, i < rows.length → j < 2 → w.cell? ⟨blk, off + (i * 2 + j), none⟩ = some (f i j)) (hs : ∀ i j, i < rows.length → j < 2 → PM.ShC cx w ok (([.int .i64, .int .i64] : List PM.K).getD j .bool) (PM.cOf rows i j) (f i j)) :
    Calls Try.prog 68 #[.slice (some ⟨blk, off, none⟩) rows.length cap, .int .i64 k] w fun e w' => e = .returned (.int .i64 (k + (laws_markRowS_c rows : Nat))) ∧ PM.MarkTo ok w w' := by
  have HC : Aside (∀ i j, i < rows.length → j < 2 → w.cell? ⟨blk, off + (i * 2 + j), none⟩ = some (f i j)) := hc
  have HS : Aside (∀ i j, i < rows.length → j < 2 → PM.ShC cx w ok (([.int .i64, .int .i64] : List PM.K).getD j .bool) (PM.cOf rows i j) (f i j)) := hs
  have HU : Aside (∀ b, ok b → PM.Unf w b) := hu
  have HE : Aside (∀ i, i < rows.length → sumN (laws_markRowS_e rows) i + laws_markRowS_e rows i ≤ laws_markRowS_c rows) := fun i hi => sumN_step _ hi
  have HT : Aside (laws_markRowS_c rows = sumN (laws_markRowS_e rows) rows.length) := rfl
  clear hc hs hu
  obtain ⟨tot, htot⟩ : ∃ tot, tot = laws_markRowS_c rows := ⟨_, rfl⟩
  obtain ⟨n, hn⟩ : ∃ n, n = rows.length := ⟨_, rfl⟩
  rw [← htot] at hk2 ⊢
  rw [← hn] at hl ⊢
  go_enter Try.func68, Try.ntmps68
  go_wp2
  go_loopg [1, 5] n (fun gg s1 s5 wr => ∃ i : Nat, s5 = .int .i64 i ∧ s1 = .int .i64 (k + (sumN (laws_markRowS_e rows) i : Nat)) ∧ i ≤ n ∧ n - i ≤ gg ∧ Aside (PM.MarkTo ok w wr))
  case atStart => exact ⟨0, rfl, by simp [sumN], by omega, by omega, PM.MarkTo.refl⟩
  case round =>
    obtain ⟨i, rfl, rfl, hin, hgg, HM⟩ := hrel
    by_cases hlt : i < n
    · have hltz : (i : Int) < (n : Int) := by omega
      have hlt' : i < rows.length := by omega
      have he := HE.out i hlt'
      rw [← htot] at he
      have s0 : PM.ShC cx w ok (.int .i64) (PM.cOf rows i 0) (f i 0) := HS.out i 0 hlt' (by omega)
      have q0 := HC.out i 0 hlt' (by omega)
      rw [show off + (i * 2 + 0) = off + i * 2 by omega] at q0
      obtain ⟨m0, em0⟩ := int_form s0
      rw [em0] at q0
      clear s0 em0
      have q0 : Aside (w.cell? ⟨blk, off + i * 2, none⟩ = some (.int .i64 m0)) := q0
      have s1 : PM.ShC cx w ok (.int .i64) (PM.cOf rows i 1) (f i 1) := HS.out i 1 hlt' (by omega)
      have q1 := HC.out i 1 hlt' (by omega)
      rw [show off + (i * 2 + 1) = off + i * 2 + 1 by omega] at q1
      obtain ⟨m1, em1⟩ := int_form s1
      rw [em1] at q1
      clear s1 em1
      have q1 : Aside (w.cell? ⟨blk, off + i * 2 + 1, none⟩ = some (.int .i64 m1)) := q1
      have hee : laws_markRowS_e rows i = 2 := by simp only [laws_markRowS_e]
      have HEE : Aside (laws_markRowS_e rows i = 2) := hee
      rw [hee] at he
      obtain ⟨S, hS⟩ : ∃ S, S = sumN (laws_markRowS_e rows) i := ⟨_, rfl⟩
      rw [← hS] at he ⊢
      have HSS : Aside (S = sumN (laws_markRowS_e rows) i) := hS
      have HTT : Aside (tot = laws_markRowS_c rows) := htot
      have HNN : Aside (n = rows.length) := hn
      have HLT : Aside (i < rows.length) := hlt'
      clear hS htot hn hlt' hee
      obtain ⟨y0wr, c0wr, _⟩ := PM.MarkTo.cell HM.out q0.out
      have f0wr : wr.frozen? ⟨blk, off + i * 2, none⟩ = false := PM.Unf.frozen (PM.MarkTo.unf HM.out (HU.out blk hb))
      obtain ⟨y1wr, c1wr, _⟩ := PM.MarkTo.cell HM.out q1.out
      have f1wr : wr.frozen? ⟨blk, off + i * 2 + 1, none⟩ = false := PM.Unf.frozen (PM.MarkTo.unf HM.out (HU.out blk hb))
      go_wp2
      go_roundg (n - (i + 1))
      case measure => omega
      case rel =>
        refine ⟨i + 1, by first | rfl | go_num, ?_, by omega, Nat.le_refl _, (setI (setI HM.out hb q0.out) hb q1.out)⟩
        have e1 : sumN (laws_markRowS_e rows) (i + 1) = S + (2) := by rw [HSS.out, ← HEE.out]; rfl
        rw [e1]
        congr 1
        omega
    · have ein : i = n := by omega
      have etot : sumN (laws_markRowS_e rows) i = tot := by rw [htot, HT.out, ein, hn]
      rw [etot]
      clear etot
      have hge : ¬ (i : Int) < (n : Int) := by omega
      go_wp2
      go_ret
      exact ⟨rfl, HM.out⟩
theorem laws_markRowS_k {cx : PM.Cx} (ok : Nat → Prop) {w : World} {rows : List (List PM.C)} (v : Value) (k : Int) (hu : ∀ b, ok b → PM.Unf w b) (h : PM.ShSl cx w ok [.int .i64, .int .i64] rows v) (hk : 0 ≤ k) (hk2 : k + (laws_markRowS_c rows : Nat) ≤ 4611686018427387904) :
    Calls Try.prog 68 #[v, .int .i64 k] w fun e w' => e = .returned (.int .i64 (k + (laws_markRowS_c rows : Nat))) ∧ PM.MarkTo ok w w' := by
  rcases h with ⟨rfl, base, cap, rfl⟩ | ⟨⟨blk, off, spot⟩, cap, f, rfl, h2, h3, h4, h5⟩
  · refine (laws_markRowS_nil base cap k w).mono fun e w' hq => ?_
    obtain ⟨rfl, hbw⟩ := hq
    exact ⟨by simp [laws_markRowS_c, sumN], PM.MarkTo.of_below hbw⟩
  · have h2 : spot = none := h2
    subst h2
    exact laws_markRowS_walk ok rows blk off cap k f w hu h3 hk hk2 (by have := sumN_len (laws_markRowS_e rows) (fun i => by unfold laws_markRowS_e; omega) rows.length; unfold laws_markRowS_c at hk2; omega) h4 h5
def laws_markJobS_e (rows : List (List PM.C)) (i : Nat) : Nat := laws_markIntS_c (PM.asRows (PM.cOf rows i 0)) + laws_markRowS_c (PM.asRows (PM.cOf rows i 1))
def laws_markJobS_c (rows : List (List PM.C)) : Nat := sumN (laws_markJobS_e rows) rows.length
theorem laws_markJobS_nil (base : Option Addr) (cap : Nat) (k : Int) (w : World) : Calls Try.prog 55 #[.slice base 0 cap, .int .i64 k] w fun e w' => e = .returned (.int .i64 k) ∧ Below w.heap.size w w' := by
  go_enter Try.func55, Try.ntmps55
  go_wp2
  go_loopg [1, 5] 0 (fun gg s1 s5 wr => s5 = .int .i64 0 ∧ s1 = .int .i64 k ∧ Aside (RowKit.Below w.heap.size w wr))
  case atStart => exact ⟨rfl, rfl, Below.refl _ w⟩
  case round =>
    obtain ⟨rfl, rfl, BW⟩ := hrel
    go_wp2
    go_ret
    exact ⟨rfl, BW.out⟩
theorem laws_markJobS_walk {cx : PM.Cx} (h24 : SlT cx 24 (.ints 3 .i64) [.int .i64]) (h31 : SlT cx 31 (.vecs 161 2) [.int .i64, .int .i64]) (ok : Nat → Prop) (rows : List (List PM.C)) (blk off cap : Nat) (k : Int) (f : Nat → Nat → Value) (w : World) (hu : ∀ b, ok b → PM.Unf w b) (hb : ok blk) (hk : 0 ≤ k) (hk2 : k + (laws_markJobS_c rows : Nat) ≤ 4611686018427387904) (hl : rows.length ≤ 4611686018427387904)
    (hc : ∀ i j, i < rows.length → j < 2 → w.cell? ⟨blk, off + (i * 2 + j), none⟩ = some (f i j)) (hs : ∀ i j, i < rows.length → j < 2 → PM.ShC cx w ok (([.sl 24, .sl 31] : List PM.K).getD j .bool) (PM.cOf rows i j) (f i j)) :
    Calls Try.prog 55 #[.slice (some ⟨blk, off, none⟩) rows.length cap, .int .i64 k] w fun e w' => e = .returned (.int .i64 (k + (laws_markJobS_c rows : Nat))) ∧ PM.MarkTo ok w w' := by
  have HC : Aside (∀ i j, i < rows.length → j < 2 → w.cell? ⟨blk, off + (i * 2 + j), none⟩ = some (f i j)) := hc
  have HS : Aside (∀ i j, i < rows.length → j < 2 → PM.ShC cx w ok (([.sl 24, .sl 31] : List PM.K).getD j .bool) (PM.cOf rows i j) (f i j)) := hs
  have HU : Aside (∀ b, ok b → PM.Unf w b) := hu
  have HE : Aside (∀ i, i < rows.length → sumN (laws_markJobS_e rows) i + laws_markJobS_e rows i ≤ laws_markJobS_c rows) := fun i hi => sumN_step _ hi
  have HT : Aside (laws_markJobS_c rows = sumN (laws_markJobS_e rows) rows.length) := rfl
  clear hc hs hu
  obtain ⟨tot, htot⟩ : ∃ tot, tot = laws_markJobS_c rows := ⟨_, rfl⟩
  obtain ⟨n, hn⟩ : ∃ n, n = rows.length := ⟨_, rfl⟩
  rw [← htot] at hk2 ⊢
  rw [← hn] at hl ⊢
  go_enter Try.func55, Try.ntmps55
  go_wp2
  go_loopg [1, 5] n (fun gg s1 s5 wr => ∃ i : Nat, s5 = .int .i64 i ∧ s1 = .int .i64 (k + (sumN (laws_markJobS_e rows) i : Nat)) ∧ i ≤ n ∧ n - i ≤ gg ∧ Aside (PM.MarkTo ok w wr))
  case atStart => exact ⟨0, rfl, by simp [sumN], by omega, by omega, PM.MarkTo.refl⟩
  case round =>
    obtain ⟨i, rfl, rfl, hin, hgg, HM⟩ := hrel
    by_cases hlt : i < n
    · have hltz : (i : Int) < (n : Int) := by omega
      have hlt' : i < rows.length := by omega
      have he := HE.out i hlt'
      rw [← htot] at he
      have s0 : PM.ShC cx w ok (.sl 24) (PM.cOf rows i 0) (f i 0) := HS.out i 0 hlt' (by omega)
      have q0 := HC.out i 0 hlt' (by omega)
      rw [show off + (i * 2 + 0) = off + i * 2 by omega] at q0
      have form0 := sl_form s0
      obtain ⟨v0, ev0⟩ : ∃ x, x = f i 0 := ⟨_, rfl⟩
      rw [← ev0] at s0 q0 form0
      have s0 : Aside (PM.ShC cx w ok (.sl 24) (PM.cOf rows i 0) v0) := s0
      have form0 : Aside (∃ b n c, v0 = .slice b n c) := form0
      obtain ⟨n0, en0⟩ : ∃ x, x = laws_markIntS_c (PM.asRows (PM.cOf rows i 0)) := ⟨_, rfl⟩
      have q0 : Aside (w.cell? ⟨blk, off + i * 2, none⟩ = some (v0)) := q0
      have s1 : PM.ShC cx w ok (.sl 31) (PM.cOf rows i 1) (f i 1) := HS.out i 1 hlt' (by omega)
      have q1 := HC.out i 1 hlt' (by omega)
      rw [show off + (i * 2 + 1) = off + i * 2 + 1 by omega] at q1
      have form1 := sl_form s1
      obtain ⟨v1, ev1⟩ : ∃ x, x = f i 1 := ⟨_, rfl⟩
      rw [← ev1] at s1 q1 form1
      have s1 : Aside (PM.ShC cx w ok (.sl 31) (PM.cOf rows i 1) v1) := s1
      have form1 : Aside (∃ b n c, v1 = .slice b n c) := form1
      obtain ⟨n1, en1⟩ : ∃ x, x = laws_markRowS_c (PM.asRows (PM.cOf rows i 1)) := ⟨_, rfl⟩
      have q1 : Aside (w.cell? ⟨blk, off + i * 2 + 1, none⟩ = some (v1)) := q1
      have hee : laws_markJobS_e rows i = n0 + n1 := by simp only [laws_markJobS_e, en0, en1]
      have HEE : Aside (laws_markJobS_e rows i = n0 + n1) := hee
      rw [hee] at he
      obtain ⟨S, hS⟩ : ∃ S, S = sumN (laws_markJobS_e rows) i := ⟨_, rfl⟩
      rw [← hS] at he ⊢
      have HSS : Aside (S = sumN (laws_markJobS_e rows) i) := hS
      have HTT : Aside (tot = laws_markJobS_c rows) := htot
      have HNN : Aside (n = rows.length) := hn
      have HLT : Aside (i < rows.length) := hlt'
      clear hS htot hn hlt' hee ev0 ev1
      have c0wr : wr.cell? ⟨blk, off + i * 2, none⟩ = some v0 := hdr HM.out q0.out form0.out
      have c1wr : wr.cell? ⟨blk, off + i * 2 + 1, none⟩ = some v1 := hdr HM.out q1.out form1.out
      go_wp2_with (first
        | (go_at_call 54; refine use_mark (ok := ok) (w := w) HM.out fun HW => ?_; refine ((laws_markIntS_k ok v0 _ (fun b hb => PM.MarkTo.unf HW (HU.out b hb)) (PM.ShSl.mark HW (sl_of h24 s0.out)) (by omega) (by rw [← en0]; omega)).mono fun e w1 hq => ?_); obtain ⟨rfl, hmw1⟩ := hq; rw [← en0]; have Hw1 : Aside (PM.MarkTo ok w w1) := HW.trans hmw1; clear HW hmw1; have c1w1 : w1.cell? ⟨blk, off + i * 2 + 1, none⟩ = some v1 := hdr Hw1.out q1.out form1.out)
        | (go_at_call 68; refine use_mark (ok := ok) (w := w) Hw1.out fun HW => ?_; refine ((laws_markRowS_k ok v1 _ (fun b hb => PM.MarkTo.unf HW (HU.out b hb)) (PM.ShSl.mark HW (sl_of h31 s1.out)) (by omega) (by rw [← en1]; omega)).mono fun e w2 hq => ?_); obtain ⟨rfl, hmw2⟩ := hq; rw [← en1]; have Hw2 : Aside (PM.MarkTo ok w w2) := HW.trans hmw2; clear HW hmw2)
        )
      go_roundg (n - (i + 1))
      case measure => omega
      case rel =>
        refine ⟨i + 1, by first | rfl | go_num, ?_, by omega, Nat.le_refl _, Hw2.out⟩
        have e1 : sumN (laws_markJobS_e rows) (i + 1) = S + (n0 + n1) := by rw [HSS.out, ← HEE.out]; rfl
        rw [e1]
        congr 1
        omega
    · have ein : i = n := by omega
      have etot : sumN (laws_markJobS_e rows) i = tot := by rw [htot, HT.out, ein, hn]
      rw [etot]
      clear etot
      have hge : ¬ (i : Int) < (n : Int) := by omega
      go_wp2
      go_ret
      exact ⟨rfl, HM.out⟩
theorem laws_markJobS_k {cx : PM.Cx} (h24 : SlT cx 24 (.ints 3 .i64) [.int .i64]) (h31 : SlT cx 31 (.vecs 161 2) [.int .i64, .int .i64]) (ok : Nat → Prop) {w : World} {rows : List (List PM.C)} (v : Value) (k : Int) (hu : ∀ b, ok b → PM.Unf w b) (h : PM.ShSl cx w ok [.sl 24, .sl 31] rows v) (hk : 0 ≤ k) (hk2 : k + (laws_markJobS_c rows : Nat) ≤ 4611686018427387904) (hl : rows.length ≤ 4611686018427387904) :
    Calls Try.prog 55 #[v, .int .i64 k] w fun e w' => e = .returned (.int .i64 (k + (laws_markJobS_c rows : Nat))) ∧ PM.MarkTo ok w w' := by
  rcases h with ⟨rfl, base, cap, rfl⟩ | ⟨⟨blk, off, spot⟩, cap, f, rfl, h2, h3, h4, h5⟩
  · refine (laws_markJobS_nil base cap k w).mono fun e w' hq => ?_
    obtain ⟨rfl, hbw⟩ := hq
    exact ⟨by simp [laws_markJobS_c, sumN], PM.MarkTo.of_below hbw⟩
  · have h2 : spot = none := h2
    subst h2
    exact laws_markJobS_walk h24 h31 ok rows blk off cap k f w hu h3 hk hk2 hl h4 h5
abbrev laws_markJobS_T := (List (List PM.C)) → (Int) → ((Int) → PM.R) → PM.R
def laws_markJobS_w (c : laws_markJobS_T) (ds : List PM.V) (k : PM.V → PM.R) : PM.R :=
  match ds with
  | [.arr (.rows 205 a), .int .i64 k_] => c a k_ (fun r0 => k (.int .i64 r0))
  | _ => none
def laws_markJobS (A : PM.Prims) : laws_markJobS_T := fun a k0 k =>
  if 0 ≤ k0 ∧ k0 + (laws_markJobS_c (PM.rowsOf (.rows 205 a)) : Nat) ≤ 4611686018427387904 ∧ (PM.rowsOf (.rows 205 a)).length ≤ 4611686018427387904 then k (k0 + (laws_markJobS_c (PM.rowsOf (.rows 205 a)) : Nat)) else none
theorem laws_markJobS_mk {cx : PM.Cx} (h24 : SlT cx 24 (.ints 3 .i64) [.int .i64] := by exact ⟨_, rfl, rfl, rfl⟩) (h31 : SlT cx 31 (.vecs 161 2) [.int .i64, .int .i64] := by exact ⟨_, rfl, rfl, rfl⟩) (hsh : PM.shAK cx (.rows 205) = some [.sl 24, .sl 31] := by rfl) : PM.MarkOk Try.prog cx 55 (laws_markJobS_w (laws_markJobS PM.std)) := by
  refine ⟨(PM.FnIs.of Try.func55 (by kernel_rfl) (by kernel_rfl)).enter, fun d n k r h => ?_⟩
  unfold laws_markJobS_w at h
  split at h
  case h_2 => cases h
  rename_i a' k_' heq
  simp only [List.cons.injEq, PM.V.int.injEq, and_true, true_and] at heq
  obtain ⟨rfl, rfl⟩ := heq
  unfold laws_markJobS at h
  split at h
  case isFalse => cases h
  rename_i hcond
  obtain ⟨p1, p2, q0⟩ := hcond
  refine ⟨_, h, fun ok w v hok hv => ?_⟩
  obtain ⟨sh, k1, k2⟩ := hv
  have k1 : PM.shAK cx (.rows 205) = some sh := k1
  rw [hsh] at k1
  cases k1
  exact laws_markJobS_k h24 h31 ok v _ (fun b hb => (hok b hb).2) k2 p1 p2 q0
def laws_markWroteS_e (rows : List (List PM.C)) (i : Nat) : Nat := 2 + laws_markRowS_c (PM.asRows (PM.cOf rows i 2))
def laws_markWroteS_c (rows : List (List PM.C)) : Nat := sumN (laws_markWroteS_e rows) rows.length
theorem laws_markWroteS_nil (base : Option Addr) (cap : Nat) (k : Int) (w : World) : Calls Try.prog 82 #[.slice base 0 cap, .int .i64 k] w fun e w' => e = .returned (.int .i64 k) ∧ Below w.heap.size w w' := by
  go_enter Try.func82, Try.ntmps82
  go_wp2
  go_loopg [1, 5] 0 (fun gg s1 s5 wr => s5 = .int .i64 0 ∧ s1 = .int .i64 k ∧ Aside (RowKit.Below w.heap.size w wr))
  case atStart => exact ⟨rfl, rfl, Below.refl _ w⟩
  case round =>
    obtain ⟨rfl, rfl, BW⟩ := hrel
    go_wp2
    go_ret
    exact ⟨rfl, BW.out⟩
theorem laws_markWroteS_walk {cx : PM.Cx} (h31 : SlT cx 31 (.vecs 161 2) [.int .i64, .int .i64]) (ok : Nat → Prop) (rows : List (List PM.C)) (blk off cap : Nat) (k : Int) (f : Nat → Nat → Value) (w : World) (hu : ∀ b, ok b → PM.Unf w b) (hb : ok blk) (hk : 0 ≤ k) (hk2 : k + (laws_markWroteS_c rows : Nat) ≤ 4611686018427387904) (hl : rows.length ≤ 4611686018427387904)
    (hc : ∀ i j, i < rows.length → j < 3 → w.cell? ⟨blk, off + (i * 3 + j), none⟩ = some (f i j)) (hs : ∀ i j, i < rows.length → j < 3 → PM.ShC cx w ok (([.int .i64, .int .i64, .sl 31] : List PM.K).getD j .bool) (PM.cOf rows i j) (f i j)) :
    Calls Try.prog 82 #[.slice (some ⟨blk, off, none⟩) rows.length cap, .int .i64 k] w fun e w' => e = .returned (.int .i64 (k + (laws_markWroteS_c rows : Nat))) ∧ PM.MarkTo ok w w' := by
  have HC : Aside (∀ i j, i < rows.length → j < 3 → w.cell? ⟨blk, off + (i * 3 + j), none⟩ = some (f i j)) := hc
  have HS : Aside (∀ i j, i < rows.length → j < 3 → PM.ShC cx w ok (([.int .i64, .int .i64, .sl 31] : List PM.K).getD j .bool) (PM.cOf rows i j) (f i j)) := hs
  have HU : Aside (∀ b, ok b → PM.Unf w b) := hu
  have HE : Aside (∀ i, i < rows.length → sumN (laws_markWroteS_e rows) i + laws_markWroteS_e rows i ≤ laws_markWroteS_c rows) := fun i hi => sumN_step _ hi
  have HT : Aside (laws_markWroteS_c rows = sumN (laws_markWroteS_e rows) rows.length) := rfl
  clear hc hs hu
  obtain ⟨tot, htot⟩ : ∃ tot, tot = laws_markWroteS_c rows := ⟨_, rfl⟩
  obtain ⟨n, hn⟩ : ∃ n, n = rows.length := ⟨_, rfl⟩
  rw [← htot] at hk2 ⊢
  rw [← hn] at hl ⊢
  go_enter Try.func82, Try.ntmps82
  go_wp2
  go_loopg [1, 5] n (fun gg s1 s5 wr => ∃ i : Nat, s5 = .int .i64 i ∧ s1 = .int .i64 (k + (sumN (laws_markWroteS_e rows) i : Nat)) ∧ i ≤ n ∧ n - i ≤ gg ∧ Aside (PM.MarkTo ok w wr))
  case atStart => exact ⟨0, rfl, by simp [sumN], by omega, by omega, PM.MarkTo.refl⟩
  case round =>
    obtain ⟨i, rfl, rfl, hin, hgg, HM⟩ := hrel
    by_cases hlt : i < n
    · have hltz : (i : Int) < (n : Int) := by omega
      have hlt' : i < rows.length := by omega
      have he := HE.out i hlt'
      rw [← htot] at he
      have s0 : PM.ShC cx w ok (.int .i64) (PM.cOf rows i 0) (f i 0) := HS.out i 0 hlt' (by omega)
      have q0 := HC.out i 0 hlt' (by omega)
      rw [show off + (i * 3 + 0) = off + i * 3 by omega] at q0
      obtain ⟨m0, em0⟩ := int_form s0
      rw [em0] at q0
      clear s0 em0
      have q0 : Aside (w.cell? ⟨blk, off + i * 3, none⟩ = some (.int .i64 m0)) := q0
      have s1 : PM.ShC cx w ok (.int .i64) (PM.cOf rows i 1) (f i 1) := HS.out i 1 hlt' (by omega)
      have q1 := HC.out i 1 hlt' (by omega)
      rw [show off + (i * 3 + 1) = off + i * 3 + 1 by omega] at q1
      obtain ⟨m1, em1⟩ := int_form s1
      rw [em1] at q1
      clear s1 em1
      have q1 : Aside (w.cell? ⟨blk, off + i * 3 + 1, none⟩ = some (.int .i64 m1)) := q1
      have s2 : PM.ShC cx w ok (.sl 31) (PM.cOf rows i 2) (f i 2) := HS.out i 2 hlt' (by omega)
      have q2 := HC.out i 2 hlt' (by omega)
      rw [show off + (i * 3 + 2) = off + i * 3 + 2 by omega] at q2
      have form2 := sl_form s2
      obtain ⟨v2, ev2⟩ : ∃ x, x = f i 2 := ⟨_, rfl⟩
      rw [← ev2] at s2 q2 form2
      have s2 : Aside (PM.ShC cx w ok (.sl 31) (PM.cOf rows i 2) v2) := s2
      have form2 : Aside (∃ b n c, v2 = .slice b n c) := form2
      obtain ⟨n2, en2⟩ : ∃ x, x = laws_markRowS_c (PM.asRows (PM.cOf rows i 2)) := ⟨_, rfl⟩
      have q2 : Aside (w.cell? ⟨blk, off + i * 3 + 2, none⟩ = some (v2)) := q2
      have hee : laws_markWroteS_e rows i = 2 + n2 := by simp only [laws_markWroteS_e, en2]
      have HEE : Aside (laws_markWroteS_e rows i = 2 + n2) := hee
      rw [hee] at he
      obtain ⟨S, hS⟩ : ∃ S, S = sumN (laws_markWroteS_e rows) i := ⟨_, rfl⟩
      rw [← hS] at he ⊢
      have HSS : Aside (S = sumN (laws_markWroteS_e rows) i) := hS
      have HTT : Aside (tot = laws_markWroteS_c rows) := htot
      have HNN : Aside (n = rows.length) := hn
      have HLT : Aside (i < rows.length) := hlt'
      clear hS htot hn hlt' hee ev2
      obtain ⟨y0wr, c0wr, _⟩ := PM.MarkTo.cell HM.out q0.out
      have f0wr : wr.frozen? ⟨blk, off + i * 3, none⟩ = false := PM.Unf.frozen (PM.MarkTo.unf HM.out (HU.out blk hb))
      obtain ⟨y1wr, c1wr, _⟩ := PM.MarkTo.cell HM.out q1.out
      have f1wr : wr.frozen? ⟨blk, off + i * 3 + 1, none⟩ = false := PM.Unf.frozen (PM.MarkTo.unf HM.out (HU.out blk hb))
      have c2wr : wr.cell? ⟨blk, off + i * 3 + 2, none⟩ = some v2 := hdr HM.out q2.out form2.out
      go_wp2_with (first
        | (go_at_call 68; refine use_mark (ok := ok) (w := w) (setI (setI HM.out hb q0.out) hb q1.out) fun HW => ?_; refine ((laws_markRowS_k ok v2 _ (fun b hb => PM.MarkTo.unf HW (HU.out b hb)) (PM.ShSl.mark HW (sl_of h31 s2.out)) (by omega) (by rw [← en2]; omega)).mono fun e w1 hq => ?_); obtain ⟨rfl, hmw1⟩ := hq; rw [← en2]; have Hw1 : Aside (PM.MarkTo ok w w1) := HW.trans hmw1; clear HW hmw1)
        )
      go_roundg (n - (i + 1))
      case measure => omega
      case rel =>
        refine ⟨i + 1, by first | rfl | go_num, ?_, by omega, Nat.le_refl _, Hw1.out⟩
        have e1 : sumN (laws_markWroteS_e rows) (i + 1) = S + (2 + n2) := by rw [HSS.out, ← HEE.out]; rfl
        rw [e1]
        congr 1
        omega
    · have ein : i = n := by omega
      have etot : sumN (laws_markWroteS_e rows) i = tot := by rw [htot, HT.out, ein, hn]
      rw [etot]
      clear etot
      have hge : ¬ (i : Int) < (n : Int) := by omega
      go_wp2
      go_ret
      exact ⟨rfl, HM.out⟩
theorem laws_markWroteS_k {cx : PM.Cx} (h31 : SlT cx 31 (.vecs 161 2) [.int .i64, .int .i64]) (ok : Nat → Prop) {w : World} {rows : List (List PM.C)} (v : Value) (k : Int) (hu : ∀ b, ok b → PM.Unf w b) (h : PM.ShSl cx w ok [.int .i64, .int .i64, .sl 31] rows v) (hk : 0 ≤ k) (hk2 : k + (laws_markWroteS_c rows : Nat) ≤ 4611686018427387904) :
    Calls Try.prog 82 #[v, .int .i64 k] w fun e w' => e = .returned (.int .i64 (k + (laws_markWroteS_c rows : Nat))) ∧ PM.MarkTo ok w w' := by
  rcases h with ⟨rfl, base, cap, rfl⟩ | ⟨⟨blk, off, spot⟩, cap, f, rfl, h2, h3, h4, h5⟩
  · refine (laws_markWroteS_nil base cap k w).mono fun e w' hq => ?_
    obtain ⟨rfl, hbw⟩ := hq
    exact ⟨by simp [laws_markWroteS_c, sumN], PM.MarkTo.of_below hbw⟩
  · have h2 : spot = none := h2
    subst h2
    exact laws_markWroteS_walk h31 ok rows blk off cap k f w hu h3 hk hk2 (by have := sumN_len (laws_markWroteS_e rows) (fun i => by unfold laws_markWroteS_e; omega) rows.length; unfold laws_markWroteS_c at hk2; omega) h4 h5
abbrev laws_markWroteS_T := (List (List PM.C)) → (Int) → ((Int) → PM.R) → PM.R
def laws_markWroteS_w (c : laws_markWroteS_T) (ds : List PM.V) (k : PM.V → PM.R) : PM.R :=
  match ds with
  | [.arr (.rows 33 a), .int .i64 k_] => c a k_ (fun r0 => k (.int .i64 r0))
  | _ => none
def laws_markWroteS (A : PM.Prims) : laws_markWroteS_T := fun a k0 k =>
  if 0 ≤ k0 ∧ k0 + (laws_markWroteS_c (PM.rowsOf (.rows 33 a)) : Nat) ≤ 4611686018427387904 ∧ (PM.rowsOf (.rows 33 a)).length ≤ 4611686018427387904 then k (k0 + (laws_markWroteS_c (PM.rowsOf (.rows 33 a)) : Nat)) else none
theorem laws_markWroteS_mk {cx : PM.Cx} (h31 : SlT cx 31 (.vecs 161 2) [.int .i64, .int .i64] := by exact ⟨_, rfl, rfl, rfl⟩) (hsh : PM.shAK cx (.rows 33) = some [.int .i64, .int .i64, .sl 31] := by rfl) : PM.MarkOk Try.prog cx 82 (laws_markWroteS_w (laws_markWroteS PM.std)) := by
  refine ⟨(PM.FnIs.of Try.func82 (by kernel_rfl) (by kernel_rfl)).enter, fun d n k r h => ?_⟩
  unfold laws_markWroteS_w at h
  split at h
  case h_2 => cases h
  rename_i a' k_' heq
  simp only [List.cons.injEq, PM.V.int.injEq, and_true, true_and] at heq
  obtain ⟨rfl, rfl⟩ := heq
  unfold laws_markWroteS at h
  split at h
  case isFalse => cases h
  rename_i hcond
  obtain ⟨p1, p2, q0⟩ := hcond
  refine ⟨_, h, fun ok w v hok hv => ?_⟩
  obtain ⟨sh, k1, k2⟩ := hv
  have k1 : PM.shAK cx (.rows 33) = some sh := k1
  rw [hsh] at k1
  cases k1
  exact laws_markWroteS_k h31 ok v _ (fun b hb => (hok b hb).2) k2 p1 p2
end X
