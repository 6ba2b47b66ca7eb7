/- Models of the functions, or plain laws about them; each theorem states its own conditions. -/
import Derived.Test.YtlcgddghildedaaL4
import Derived.Test.YtlcgddghildedaaProg
import Derived.ProofKit
import Derived.WalkKit
import Derived.Below
import Derived.KernelRfl
set_option linter.unusedVariables false
set_option linter.unusedSimpArgs false
open Go Go.Proofs Go.RowKit
namespace X
/-! The functions that mark: what they write, what they count. -/
def SlT (cx : PM.Cx) (u : TypeId) (ak : PM.AK) (sh : List PM.K) : Prop := ∃ ty, PM.find cx u = some ty ∧ ty.elem = some ak ∧ PM.shAK cx ak = some sh
theorem sl_of {cx : PM.Cx} {u : TypeId} {ak : PM.AK} {sh : List PM.K} (h : SlT cx u ak sh) {w : World} {ok : Nat → Prop} {c : PM.C} {v : Value} (hv : PM.ShC cx w ok (.sl u) c v) : PM.ShSl cx w ok sh (PM.asRows c) v := by
  obtain ⟨ty, h1, h2, h3⟩ := h
  exact hv.slice h1 h2 h3
theorem sl_form {cx : PM.Cx} {u : TypeId} {w : World} {ok : Nat → Prop} {c : PM.C} {v : Value} (hv : PM.ShC cx w ok (.sl u) c v) : ∃ b n c, v = .slice b n c := by
  cases hv <;> exact ⟨_, _, _, rfl⟩
theorem int_form {cx : PM.Cx} {w : World} {ok : Nat → Prop} {k : IntKind} {c : PM.C} {v : Value} (hv : PM.ShC cx w ok (.int k) c v) : ∃ m, v = .int k m := by
  cases hv; exact ⟨_, rfl⟩
theorem bool_form {cx : PM.Cx} {w : World} {ok : Nat → Prop} {c : PM.C} {v : Value} (hv : PM.ShC cx w ok .bool c v) : ∃ m, v = .bool m := by
  cases hv; exact ⟨_, rfl⟩
def sumN (f : Nat → Nat) : Nat → Nat
  | 0 => 0
  | n + 1 => sumN f n + f n
theorem sumN_le (f : Nat → Nat) {i n : Nat} (h : i ≤ n) : sumN f i ≤ sumN f n := by
  induction h with
  | refl => exact Nat.le_refl _
  | step _ ih => exact Nat.le_trans ih (Nat.le_add_right _ _)
theorem sumN_len (f : Nat → Nat) (h : ∀ i, 1 ≤ f i) : ∀ n, n ≤ sumN f n
  | 0 => Nat.le_refl _
  | n + 1 => Nat.add_le_add (sumN_len f h n) (h n)
theorem sumN_bd (f : Nat → Nat) (n b : Nat) (h : ∀ i, i < n → f i ≤ b) : sumN f n ≤ n * b := by
  induction n with
  | zero => simp [sumN]
  | succ n ih =>
    have h1 := ih fun i hi => h i (by omega)
    have h2 := h n (by omega)
    rw [Nat.add_mul, Nat.one_mul]
    exact Nat.add_le_add h1 h2
theorem sumN_step (f : Nat → Nat) {i n : Nat} (h : i < n) : sumN f i + f i ≤ sumN f n := sumN_le f (i := i + 1) h
section
variable {ok : Nat → Prop} {w W : World} {b o : Nat}
theorem setI {m u : Int} (h : PM.MarkTo ok w W) (hb : ok b) (hc : w.cell? ⟨b, o, none⟩ = some (.int .i64 m)) : PM.MarkTo ok w (W.setCell ⟨b, o, none⟩ (.int .i64 u)) := by
  obtain ⟨v', h1, h2⟩ := h.cell hc
  refine h.trans (PM.MarkTo.set hb h1 ?_)
  rcases h2 with rfl | ⟨k, m', n, e, rfl⟩ | ⟨x, y, e, _⟩
  · exact .int
  · cases e; exact .int
  · cases e
theorem setB {m u : Bool} (h : PM.MarkTo ok w W) (hb : ok b) (hc : w.cell? ⟨b, o, none⟩ = some (.bool m)) : PM.MarkTo ok w (W.setCell ⟨b, o, none⟩ (.bool u)) := by
  obtain ⟨v', h1, h2⟩ := h.cell hc
  refine h.trans (PM.MarkTo.set hb h1 ?_)
  rcases h2 with rfl | ⟨k, m', n, e, _⟩ | ⟨x, y, e, rfl⟩
  · exact .bool
  · cases e
  · exact .bool
theorem hdr {v : Value} (h : PM.MarkTo ok w W) (hc : w.cell? ⟨b, o, none⟩ = some v) (hs : ∃ b n c, v = .slice b n c) : W.cell? ⟨b, o, none⟩ = some v := by
  obtain ⟨v', h1, h2⟩ := h.cell hc
  obtain ⟨b, n, c, rfl⟩ := hs
  rcases h2 with rfl | ⟨k, m', n, e, _⟩ | ⟨x, y, e, _⟩
  · exact h1
  · cases e
  · cases e
theorem name_world (W : World) : ∃ W', W' = W := ⟨W, rfl⟩
theorem use_mark {P : Program} {f : FuncId} {args : Array Value} {Q : Ending → World → Prop} (HW : PM.MarkTo ok w W) (h : PM.MarkTo ok w W → Calls P f args W Q) : Calls P f args W Q := h HW
end
set_option maxHeartbeats 0
set_option maxRecDepth 20000
def laws_markIntS_e (rows : List (List PM.C)) (i : Nat) : Nat := 1
def laws_markIntS_c (rows : List (List PM.C)) : Nat := sumN (laws_markIntS_e rows) rows.length
theorem laws_markIntS_nil (base : Option Addr) (cap : Nat) (k : Int) (w : World) : Calls Try.prog 54 #[.slice base 0 cap, .int .i64 k] w fun e w' => e = .returned (.int .i64 k) ∧ Below w.heap.size w w' := by
  go_enter Try.func54, Try.ntmps54
  go_wp2
  go_loopg [1, 5] 0 (fun gg s1 s5 wr => s5 = .int .i64 0 ∧ s1 = .int .i64 k ∧ Aside (RowKit.Below w.heap.size w wr))
  case atStart => exact ⟨rfl, rfl, Below.refl _ w⟩
  case round =>
    obtain ⟨rfl, rfl, BW⟩ := hrel
    go_wp2
    go_ret
    exact ⟨rfl, BW.out⟩
theorem laws_markIntS_walk {cx : PM.Cx} (ok : Nat → Prop) (rows : List (List PM.C)) (blk off cap : Nat) (k : Int) (f : Nat → Nat → Value) (w : World) (hu : ∀ b, ok b → PM.Unf w b) (hb : ok blk) (hk : 0 ≤ k) (hk2 : k + (laws_markIntS_c rows : Nat) ≤ 4611686018427387904) (hl : rows.length ≤ 4611686018427387904)
    (hc : ∀ i j, i < rows.length → j < 1 → w.cell? ⟨blk, off + (i * 1 + j), none⟩ = some (f i j)) (hs : ∀ i j, i < rows.length → j < 1 → PM.ShC cx w ok (([.int .i64] : List PM.K).getD j .bool) (PM.cOf rows i j) (f i j)) :
    Calls Try.prog 54 #[.slice (some ⟨blk, off, none⟩) rows.length cap, .int .i64 k] w fun e w' => e = .returned (.int .i64 (k + (laws_markIntS_c rows : Nat))) ∧ PM.MarkTo ok w w' := by
  have HC : Aside (∀ i j, i < rows.length → j < 1 → w.cell? ⟨blk, off + (i * 1 + j), none⟩ = some (f i j)) := hc
  have HS : Aside (∀ i j, i < rows.length → j < 1 → PM.ShC cx w ok (([.int .i64] : List PM.K).getD j .bool) (PM.cOf rows i j) (f i j)) := hs
  have HU : Aside (∀ b, ok b → PM.Unf w b) := hu
  have HE : Aside (∀ i, i < rows.length → sumN (laws_markIntS_e rows) i + laws_markIntS_e rows i ≤ laws_markIntS_c rows) := fun i hi => sumN_step _ hi
  have HT : Aside (laws_markIntS_c rows = sumN (laws_markIntS_e rows) rows.length) := rfl
  clear hc hs hu
  obtain ⟨tot, htot⟩ : ∃ tot, tot = laws_markIntS_c rows := ⟨_, rfl⟩
  obtain ⟨n, hn⟩ : ∃ n, n = rows.length := ⟨_, rfl⟩
  rw [← htot] at hk2 ⊢
  rw [← hn] at hl ⊢
  go_enter Try.func54, Try.ntmps54
  go_wp2
  go_loopg [1, 5] n (fun gg s1 s5 wr => ∃ i : Nat, s5 = .int .i64 i ∧ s1 = .int .i64 (k + (sumN (laws_markIntS_e rows) i : Nat)) ∧ i ≤ n ∧ n - i ≤ gg ∧ Aside (PM.MarkTo ok w wr))
  case atStart => exact ⟨0, rfl, by simp [sumN], by omega, by omega, PM.MarkTo.refl⟩
  case round =>
    obtain ⟨i, rfl, rfl, hin, hgg, HM⟩ := hrel
    by_cases hlt : i < n
    · have hltz : (i : Int) < (n : Int) := by omega
      have hlt' : i < rows.length := by omega
      have he := HE.out i hlt'
      rw [← htot] at he
      have s0 : PM.ShC cx w ok (.int .i64) (PM.cOf rows i 0) (f i 0) := HS.out i 0 hlt' (by omega)
      have q0 := HC.out i 0 hlt' (by omega)
      rw [show off + (i * 1 + 0) = off + i by omega] at q0
      obtain ⟨m0, em0⟩ := int_form s0
      rw [em0] at q0
      clear s0 em0
      have q0 : Aside (w.cell? ⟨blk, off + i, none⟩ = some (.int .i64 m0)) := q0
      have hee : laws_markIntS_e rows i = 1 := by simp only [laws_markIntS_e]
      have HEE : Aside (laws_markIntS_e rows i = 1) := hee
      rw [hee] at he
      obtain ⟨S, hS⟩ : ∃ S, S = sumN (laws_markIntS_e rows) i := ⟨_, rfl⟩
      rw [← hS] at he ⊢
      have HSS : Aside (S = sumN (laws_markIntS_e rows) i) := hS
      have HTT : Aside (tot = laws_markIntS_c rows) := htot
      have HNN : Aside (n = rows.length) := hn
      have HLT : Aside (i < rows.length) := hlt'
      clear hS htot hn hlt' hee
      obtain ⟨y0wr, c0wr, _⟩ := PM.MarkTo.cell HM.out q0.out
      have f0wr : wr.frozen? ⟨blk, off + i, none⟩ = false := PM.Unf.frozen (PM.MarkTo.unf HM.out (HU.out blk hb))
      go_wp2_with (first
        | (obtain ⟨w1, ew1⟩ := name_world (wr.setCell ⟨blk, off + i, none⟩ (.int .i64 (k + (S : Int)))); rw [← ew1]; have Hw1 : Aside (PM.MarkTo ok w w1) := (by rw [ew1]; exact setI HM.out hb q0.out); clear ew1 c0wr f0wr)
        )
      go_roundg (n - (i + 1))
      case measure => omega
      case rel =>
        refine ⟨i + 1, by first | rfl | go_num, ?_, by omega, Nat.le_refl _, Hw1.out⟩
        have e1 : sumN (laws_markIntS_e rows) (i + 1) = S + (1) := by rw [HSS.out, ← HEE.out]; rfl
        rw [e1]
        congr 1
        omega
    · have ein : i = n := by omega
      have etot : sumN (laws_markIntS_e rows) i = tot := by rw [htot, HT.out, ein, hn]
      rw [etot]
      clear etot
      have hge : ¬ (i : Int) < (n : Int) := by omega
      go_wp2
      go_ret
      exact ⟨rfl, HM.out⟩
theorem laws_markIntS_k {cx : PM.Cx} (ok : Nat → Prop) {w : World} {rows : List (List PM.C)} (v : Value) (k : Int) (hu : ∀ b, ok b → PM.Unf w b) (h : PM.ShSl cx w ok [.int .i64] rows v) (hk : 0 ≤ k) (hk2 : k + (laws_markIntS_c rows : Nat) ≤ 4611686018427387904) :
    Calls Try.prog 54 #[v, .int .i64 k] w fun e w' => e = .returned (.int .i64 (k + (laws_markIntS_c rows : Nat))) ∧ PM.MarkTo ok w w' := by
  rcases h with ⟨rfl, base, cap, rfl⟩ | ⟨⟨blk, off, spot⟩, cap, f, rfl, h2, h3, h4, h5⟩
  · refine (laws_markIntS_nil base cap k w).mono fun e w' hq => ?_
    obtain ⟨rfl, hbw⟩ := hq
    exact ⟨by simp [laws_markIntS_c, sumN], PM.MarkTo.of_below hbw⟩
  · have h2 : spot = none := h2
    subst h2
    exact laws_markIntS_walk ok rows blk off cap k f w hu h3 hk hk2 (by have := sumN_len (laws_markIntS_e rows) (fun i => by unfold laws_markIntS_e; omega) rows.length; unfold laws_markIntS_c at hk2; omega) h4 h5
def laws_markRowS_e (rows : List (List PM.C)) (i : Nat) : Nat := 2
def laws_markRowS_c (rows : List (List PM.C)) : Nat := sumN (laws_markRowS_e rows) rows.length
theorem laws_markRowS_nil (base : Option Addr) (cap : Nat) (k : Int) (w : World) : Calls Try.prog 68 #[.slice base 0 cap, .int .i64 k] w fun e w' => e = .returned (.int .i64 k) ∧ Below w.heap.size w w' := by
  go_enter Try.func68, Try.ntmps68
  go_wp2
  go_loopg [1, 5] 0 (fun gg s1 s5 wr => s5 = .int .i64 0 ∧ s1 = .int .i64 k ∧ Aside (RowKit.Below w.heap.size w wr))
  case atStart => exact ⟨rfl, rfl, Below.refl _ w⟩
  case round =>
    obtain ⟨rfl, rfl, BW⟩ := hrel
    go_wp2
    go_ret
    exact ⟨rfl, BW.out⟩
theorem laws_markRowS_walk {cx : PM.Cx} (ok : Nat → Prop) (rows : List (List PM.C)) (blk off cap : Nat) (k : Int) (f : Nat → Nat → Value) (w : World) (hu : ∀ b, ok b → PM.Unf w b) (hb : ok blk) (hk : 0 ≤ k) (hk2 : k + (laws_markRowS_c rows : Nat) ≤ 4611686018427387904) (hl : rows.length ≤ 4611686018427387904)
    (hc : ∀ i j, i < rows.length → j < 2 → w.cell? ⟨blk, off + (i * 2 + j), none⟩ = some (f i j)) (hs : ∀ i j, i < rows.length → j < 2 → PM.ShC cx w ok (([.int .i64, .int .i64] : List PM.K).getD j .bool) (PM.cOf rows i j) (f i j)) :
    Calls Try.prog 68 #[.slice (some ⟨blk, off, none⟩) rows.length cap, .int .i64 k] w fun e w' => e = .returned (.int .i64 (k + (laws_markRowS_c rows : Nat))) ∧ PM.MarkTo ok w w' := by
  have HC : Aside (∀ i j, i < rows.length → j < 2 → w.cell? ⟨blk, off + (i * 2 + j), none⟩ = some (f i j)) := hc
  have HS : Aside (∀ i j, i < rows.length → j < 2 → PM.ShC cx w ok (([.int .i64, .int .i64] : List PM.K).getD j .bool) (PM.cOf rows i j) (f i j)) := hs
  have HU : Aside (∀ b, ok b → PM.Unf w b) := hu
  have HE : Aside (∀ i, i < rows.length → sumN (laws_markRowS_e rows) i + laws_markRowS_e rows i ≤ laws_markRowS_c rows) := fun i hi => sumN_step _ hi
  have HT : Aside (laws_markRowS_c rows = sumN (laws_markRowS_e rows) rows.length) := rfl
  clear hc hs hu
  obtain ⟨tot, htot⟩ : ∃ tot, tot = laws_markRowS_c rows := ⟨_, rfl⟩
  obtain ⟨n, hn⟩ : ∃ n, n = rows.length := ⟨_, rfl⟩
  rw [← htot] at hk2 ⊢
  rw [← hn] at hl ⊢
  go_enter Try.func68, Try.ntmps68
  go_wp2
  go_loopg [1, 5] n (fun gg s1 s5 wr => ∃ i : Nat, s5 = .int .i64 i ∧ s1 = .int .i64 (k + (sumN (laws_markRowS_e rows) i : Nat)) ∧ i ≤ n ∧ n - i ≤ gg ∧ Aside (PM.MarkTo ok w wr))
  case atStart => exact ⟨0, rfl, by simp [sumN], by omega, by omega, PM.MarkTo.refl⟩
  case round =>
    obtain ⟨i, rfl, rfl, hin, hgg, HM⟩ := hrel
    by_cases hlt : i < n
    · have hltz : (i : Int) < (n : Int) := by omega
      have hlt' : i < rows.length := by omega
      have he := HE.out i hlt'
      rw [← htot] at he
      have s0 : PM.ShC cx w ok (.int .i64) (PM.cOf rows i 0) (f i 0) := HS.out i 0 hlt' (by omega)
      have q0 := HC.out i 0 hlt' (by omega)
      rw [show off + (i * 2 + 0) = off + i * 2 by omega] at q0
      obtain ⟨m0, em0⟩ := int_form s0
      rw [em0] at q0
      clear s0 em0
      have q0 : Aside (w.cell? ⟨blk, off + i * 2, none⟩ = some (.int .i64 m0)) := q0
      have s1 : PM.ShC cx w ok (.int .i64) (PM.cOf rows i 1) (f i 1) := HS.out i 1 hlt' (by omega)
      have q1 := HC.out i 1 hlt' (by omega)
      rw [show off + (i * 2 + 1) = off + i * 2 + 1 by omega] at q1
      obtain ⟨m1, em1⟩ := int_form s1
      rw [em1] at q1
      clear s1 em1
      have q1 : Aside (w.cell? ⟨blk, off + i * 2 + 1, none⟩ = some (.int .i64 m1)) := q1
      have hee : laws_markRowS_e rows i = 2 := by simp only [laws_markRowS_e]
      have HEE : Aside (laws_markRowS_e rows i = 2) := hee
      rw [hee] at he
      obtain ⟨S, hS⟩ : ∃ S, S = sumN (laws_markRowS_e rows) i := ⟨_, rfl⟩
      rw [← hS] at he ⊢
      have HSS : Aside (S = sumN (laws_markRowS_e rows) i) := hS
      have HTT : Aside (tot = laws_markRowS_c rows) := htot
      have HNN : Aside (n = rows.length) := hn
      have HLT : Aside (i < rows.length) := hlt'
      clear hS htot hn hlt' hee
      obtain ⟨y0wr, c0wr, _⟩ := PM.MarkTo.cell HM.out q0.out
      have f0wr : wr.frozen? ⟨blk, off + i * 2, none⟩ = false := PM.Unf.frozen (PM.MarkTo.unf HM.out (HU.out blk hb))
      go_wp2_with (first
        | (obtain ⟨w1, ew1⟩ := name_world (wr.setCell ⟨blk, off + i * 2, none⟩ (.int .i64 (k + (S : Int)))); rw [← ew1]; have Hw1 : Aside (PM.MarkTo ok w w1) := (by rw [ew1]; exact setI HM.out hb q0.out); clear ew1 c0wr f0wr; obtain ⟨y1w1, c1w1, _⟩ := PM.MarkTo.cell Hw1.out q1.out; have f1w1 : w1.frozen? ⟨blk, off + i * 2 + 1, none⟩ = false := PM.Unf.frozen (PM.MarkTo.unf Hw1.out (HU.out blk hb)))
        | (obtain ⟨w2, ew2⟩ := name_world (w1.setCell ⟨blk, off + i * 2 + 1, none⟩ (.int .i64 (k + (S : Int) + 1))); rw [← ew2]; have Hw2 : Aside (PM.MarkTo ok w w2) := (by rw [ew2]; exact setI Hw1.out hb q1.out); clear ew2 c1w1 f1w1; clear Hw1 w1)
        )
      go_roundg (n - (i + 1))
      case measure => omega
      case rel =>
        refine ⟨i + 1, by first | rfl | go_num, ?_, by omega, Nat.le_refl _, Hw2.out⟩
        have e1 : sumN (laws_markRowS_e rows) (i + 1) = S + (2) := by rw [HSS.out, ← HEE.out]; rfl
        rw [e1]
        congr 1
        omega
    · have ein : i = n := by omega
      have etot : sumN (laws_markRowS_e rows) i = tot := by rw [htot, HT.out, ein, hn]
      rw [etot]
      clear etot
      have hge : ¬ (i : Int) < (n : Int) := by omega
      go_wp2
      go_ret
      exact ⟨rfl, HM.out⟩
theorem laws_markRowS_k {cx : PM.Cx} (ok : Nat → Prop) {w : World} {rows : List (List PM.C)} (v : Value) (k : Int) (hu : ∀ b, ok b → PM.Unf w b) (h : PM.ShSl cx w ok [.int .i64, .int .i64] rows v) (hk : 0 ≤ k) (hk2 : k + (laws_markRowS_c rows : Nat) ≤ 4611686018427387904) :
    Calls Try.prog 68 #[v, .int .i64 k] w fun e w' => e = .returned (.int .i64 (k + (laws_markRowS_c rows : Nat))) ∧ PM.MarkTo ok w w' := by
  rcases h with ⟨rfl, base, cap, rfl⟩ | ⟨⟨blk, off, spot⟩, cap, f, rfl, h2, h3, h4, h5⟩
  · refine (laws_markRowS_nil base cap k w).mono fun e w' hq => ?_
    obtain ⟨rfl, hbw⟩ := hq
    exact ⟨by simp [laws_markRowS_c, sumN], PM.MarkTo.of_below hbw⟩
  · have h2 : spot = none := h2
    subst h2
    exact laws_markRowS_walk ok rows blk off cap k f w hu h3 hk hk2 (by have := sumN_len (laws_markRowS_e rows) (fun i => by unfold laws_markRowS_e; omega) rows.length; unfold laws_markRowS_c at hk2; omega) h4 h5
def laws_markOpS_e (rows : List (List PM.C)) (i : Nat) : Nat := 4
def laws_markOpS_c (rows : List (List PM.C)) : Nat := sumN (laws_markOpS_e rows) rows.length
theorem laws_markOpS_nil (base : Option Addr) (cap : Nat) (k : Int) (w : World) : Calls Try.prog 241 #[.slice base 0 cap, .int .i64 k] w fun e w' => e = .returned (.int .i64 k) ∧ Below w.heap.size w w' := by
  go_enter Try.func241, Try.ntmps241
  go_wp2
  go_loopg [1, 5] 0 (fun gg s1 s5 wr => s5 = .int .i64 0 ∧ s1 = .int .i64 k ∧ Aside (RowKit.Below w.heap.size w wr))
  case atStart => exact ⟨rfl, rfl, Below.refl _ w⟩
  case round =>
    obtain ⟨rfl, rfl, BW⟩ := hrel
    go_wp2
    go_ret
    exact ⟨rfl, BW.out⟩
theorem laws_markOpS_walk {cx : PM.Cx} (ok : Nat → Prop) (rows : List (List PM.C)) (blk off cap : Nat) (k : Int) (f : Nat → Nat → Value) (w : World) (hu : ∀ b, ok b → PM.Unf w b) (hb : ok blk) (hk : 0 ≤ k) (hk2 : k + (laws_markOpS_c rows : Nat) ≤ 4611686018427387904) (hl : rows.length ≤ 4611686018427387904)
    (hc : ∀ i j, i < rows.length → j < 4 → w.cell? ⟨blk, off + (i * 4 + j), none⟩ = some (f i j)) (hs : ∀ i j, i < rows.length → j < 4 → PM.ShC cx w ok (([.int .i64, .int .i64, .int .i64, .int .i64] : List PM.K).getD j .bool) (PM.cOf rows i j) (f i j)) :
    Calls Try.prog 241 #[.slice (some ⟨blk, off, none⟩) rows.length cap, .int .i64 k] w fun e w' => e = .returned (.int .i64 (k + (laws_markOpS_c rows : Nat))) ∧ PM.MarkTo ok w w' := by
  have HC : Aside (∀ i j, i < rows.length → j < 4 → w.cell? ⟨blk, off + (i * 4 + j), none⟩ = some (f i j)) := hc
  have HS : Aside (∀ i j, i < rows.length → j < 4 → PM.ShC cx w ok (([.int .i64, .int .i64, .int .i64, .int .i64] : List PM.K).getD j .bool) (PM.cOf rows i j) (f i j)) := hs
  have HU : Aside (∀ b, ok b → PM.Unf w b) := hu
  have HE : Aside (∀ i, i < rows.length → sumN (laws_markOpS_e rows) i + laws_markOpS_e rows i ≤ laws_markOpS_c rows) := fun i hi => sumN_step _ hi
  have HT : Aside (laws_markOpS_c rows = sumN (laws_markOpS_e rows) rows.length) := rfl
  clear hc hs hu
  obtain ⟨tot, htot⟩ : ∃ tot, tot = laws_markOpS_c rows := ⟨_, rfl⟩
  obtain ⟨n, hn⟩ : ∃ n, n = rows.length := ⟨_, rfl⟩
  rw [← htot] at hk2 ⊢
  rw [← hn] at hl ⊢
  go_enter Try.func241, Try.ntmps241
  go_wp2
  go_loopg [1, 5] n (fun gg s1 s5 wr => ∃ i : Nat, s5 = .int .i64 i ∧ s1 = .int .i64 (k + (sumN (laws_markOpS_e rows) i : Nat)) ∧ i ≤ n ∧ n - i ≤ gg ∧ Aside (PM.MarkTo ok w wr))
  case atStart => exact ⟨0, rfl, by simp [sumN], by omega, by omega, PM.MarkTo.refl⟩
  case round =>
    obtain ⟨i, rfl, rfl, hin, hgg, HM⟩ := hrel
    by_cases hlt : i < n
    · have hltz : (i : Int) < (n : Int) := by omega
      have hlt' : i < rows.length := by omega
      have he := HE.out i hlt'
      rw [← htot] at he
      have s0 : PM.ShC cx w ok (.int .i64) (PM.cOf rows i 0) (f i 0) := HS.out i 0 hlt' (by omega)
      have q0 := HC.out i 0 hlt' (by omega)
      rw [show off + (i * 4 + 0) = off + i * 4 by omega] at q0
      obtain ⟨m0, em0⟩ := int_form s0
      rw [em0] at q0
      clear s0 em0
      have q0 : Aside (w.cell? ⟨blk, off + i * 4, none⟩ = some (.int .i64 m0)) := q0
      have s1 : PM.ShC cx w ok (.int .i64) (PM.cOf rows i 1) (f i 1) := HS.out i 1 hlt' (by omega)
      have q1 := HC.out i 1 hlt' (by omega)
      rw [show off + (i * 4 + 1) = off + i * 4 + 1 by omega] at q1
      obtain ⟨m1, em1⟩ := int_form s1
      rw [em1] at q1
      clear s1 em1
      have q1 : Aside (w.cell? ⟨blk, off + i * 4 + 1, none⟩ = some (.int .i64 m1)) := q1
      have s2 : PM.ShC cx w ok (.int .i64) (PM.cOf rows i 2) (f i 2) := HS.out i 2 hlt' (by omega)
      have q2 := HC.out i 2 hlt' (by omega)
      rw [show off + (i * 4 + 2) = off + i * 4 + 2 by omega] at q2
      obtain ⟨m2, em2⟩ := int_form s2
      rw [em2] at q2
      clear s2 em2
      have q2 : Aside (w.cell? ⟨blk, off + i * 4 + 2, none⟩ = some (.int .i64 m2)) := q2
      have s3 : PM.ShC cx w ok (.int .i64) (PM.cOf rows i 3) (f i 3) := HS.out i 3 hlt' (by omega)
      have q3 := HC.out i 3 hlt' (by omega)
      rw [show off + (i * 4 + 3) = off + i * 4 + 3 by omega] at q3
      obtain ⟨m3, em3⟩ := int_form s3
      rw [em3] at q3
      clear s3 em3
      have q3 : Aside (w.cell? ⟨blk, off + i * 4 + 3, none⟩ = some (.int .i64 m3)) := q3
      have hee : laws_markOpS_e rows i = 4 := by simp only [laws_markOpS_e]
      have HEE : Aside (laws_markOpS_e rows i = 4) := hee
      rw [hee] at he
      obtain ⟨S, hS⟩ : ∃ S, S = sumN (laws_markOpS_e rows) i := ⟨_, rfl⟩
      rw [← hS] at he ⊢
      have HSS : Aside (S = sumN (laws_markOpS_e rows) i) := hS
      have HTT : Aside (tot = laws_markOpS_c rows) := htot
      have HNN : Aside (n = rows.length) := hn
      have HLT : Aside (i < rows.length) := hlt'
      clear hS htot hn hlt' hee
      obtain ⟨y0wr, c0wr, _⟩ := PM.MarkTo.cell HM.out q0.out
      have f0wr : wr.frozen? ⟨blk, off + i * 4, none⟩ = false := PM.Unf.frozen (PM.MarkTo.unf HM.out (HU.out blk hb))
      go_wp2_with (first
        | (obtain ⟨w1, ew1⟩ := name_world (wr.setCell ⟨blk, off + i * 4, none⟩ (.int .i64 (k + (S : Int)))); rw [← ew1]; have Hw1 : Aside (PM.MarkTo ok w w1) := (by rw [ew1]; exact setI HM.out hb q0.out); clear ew1 c0wr f0wr; obtain ⟨y1w1, c1w1, _⟩ := PM.MarkTo.cell Hw1.out q1.out; have f1w1 : w1.frozen? ⟨blk, off + i * 4 + 1, none⟩ = false := PM.Unf.frozen (PM.MarkTo.unf Hw1.out (HU.out blk hb)))
        | (obtain ⟨w2, ew2⟩ := name_world (w1.setCell ⟨blk, off + i * 4 + 1, none⟩ (.int .i64 (k + (S : Int) + 1))); rw [← ew2]; have Hw2 : Aside (PM.MarkTo ok w w2) := (by rw [ew2]; exact setI Hw1.out hb q1.out); clear ew2 c1w1 f1w1; obtain ⟨y2w2, c2w2, _⟩ := PM.MarkTo.cell Hw2.out q2.out; have f2w2 : w2.frozen? ⟨blk, off + i * 4 + 2, none⟩ = false := PM.Unf.frozen (PM.MarkTo.unf Hw2.out (HU.out blk hb)); clear Hw1 w1)
        | (obtain ⟨w3, ew3⟩ := name_world (w2.setCell ⟨blk, off + i * 4 + 2, none⟩ (.int .i64 (k + (S : Int) + 1 + 1))); rw [← ew3]; have Hw3 : Aside (PM.MarkTo ok w w3) := (by rw [ew3]; exact setI Hw2.out hb q2.out); clear ew3 c2w2 f2w2; obtain ⟨y3w3, c3w3, _⟩ := PM.MarkTo.cell Hw3.out q3.out; have f3w3 : w3.frozen? ⟨blk, off + i * 4 + 3, none⟩ = false := PM.Unf.frozen (PM.MarkTo.unf Hw3.out (HU.out blk hb)); clear Hw2 w2)
        | (obtain ⟨w4, ew4⟩ := name_world (w3.setCell ⟨blk, off + i * 4 + 3, none⟩ (.int .i64 (k + (S : Int) + 1 + 1 + 1))); rw [← ew4]; have Hw4 : Aside (PM.MarkTo ok w w4) := (by rw [ew4]; exact setI Hw3.out hb q3.out); clear ew4 c3w3 f3w3; clear Hw3 w3)
        )
      go_roundg (n - (i + 1))
      case measure => omega
      case rel =>
        refine ⟨i + 1, by first | rfl | go_num, ?_, by omega, Nat.le_refl _, Hw4.out⟩
        have e1 : sumN (laws_markOpS_e rows) (i + 1) = S + (4) := by rw [HSS.out, ← HEE.out]; rfl
        rw [e1]
        congr 1
        omega
    · have ein : i = n := by omega
      have etot : sumN (laws_markOpS_e rows) i = tot := by rw [htot, HT.out, ein, hn]
      rw [etot]
      clear etot
      have hge : ¬ (i : Int) < (n : Int) := by omega
      go_wp2
      go_ret
      exact ⟨rfl, HM.out⟩
theorem laws_markOpS_k {cx : PM.Cx} (ok : Nat → Prop) {w : World} {rows : List (List PM.C)} (v : Value) (k : Int) (hu : ∀ b, ok b → PM.Unf w b) (h : PM.ShSl cx w ok [.int .i64, .int .i64, .int .i64, .int .i64] rows v) (hk : 0 ≤ k) (hk2 : k + (laws_markOpS_c rows : Nat) ≤ 4611686018427387904) :
    Calls Try.prog 241 #[v, .int .i64 k] w fun e w' => e = .returned (.int .i64 (k + (laws_markOpS_c rows : Nat))) ∧ PM.MarkTo ok w w' := by
  rcases h with ⟨rfl, base, cap, rfl⟩ | ⟨⟨blk, off, spot⟩, cap, f, rfl, h2, h3, h4, h5⟩
  · refine (laws_markOpS_nil base cap k w).mono fun e w' hq => ?_
    obtain ⟨rfl, hbw⟩ := hq
    exact ⟨by simp [laws_markOpS_c, sumN], PM.MarkTo.of_below hbw⟩
  · have h2 : spot = none := h2
    subst h2
    exact laws_markOpS_walk ok rows blk off cap k f w hu h3 hk hk2 (by have := sumN_len (laws_markOpS_e rows) (fun i => by unfold laws_markOpS_e; omega) rows.length; unfold laws_markOpS_c at hk2; omega) h4 h5
def laws_markKidS_e (rows : List (List PM.C)) (i : Nat) : Nat := laws_markOpS_c (PM.asRows (PM.cOf rows i 0))
def laws_markKidS_c (rows : List (List PM.C)) : Nat := sumN (laws_markKidS_e rows) rows.length
theorem laws_markKidS_nil (base : Option Addr) (cap : Nat) (k : Int) (w : World) : Calls Try.prog 189 #[.slice base 0 cap, .int .i64 k] w fun e w' => e = .returned (.int .i64 k) ∧ Below w.heap.size w w' := by
  go_enter Try.func189, Try.ntmps189
  go_wp2
  go_loopg [1, 5] 0 (fun gg s1 s5 wr => s5 = .int .i64 0 ∧ s1 = .int .i64 k ∧ Aside (RowKit.Below w.heap.size w wr))
  case atStart => exact ⟨rfl, rfl, Below.refl _ w⟩
  case round =>
    obtain ⟨rfl, rfl, BW⟩ := hrel
    go_wp2
    go_ret
    exact ⟨rfl, BW.out⟩
theorem laws_markKidS_walk {cx : PM.Cx} (h231 : SlT cx 231 (.vecs 312 4) [.int .i64, .int .i64, .int .i64, .int .i64]) (ok : Nat → Prop) (rows : List (List PM.C)) (blk off cap : Nat) (k : Int) (f : Nat → Nat → Value) (w : World) (hu : ∀ b, ok b → PM.Unf w b) (hb : ok blk) (hk : 0 ≤ k) (hk2 : k + (laws_markKidS_c rows : Nat) ≤ 4611686018427387904) (hl : rows.length ≤ 4611686018427387904)
    (hc : ∀ i j, i < rows.length → j < 1 → w.cell? ⟨blk, off + (i * 1 + j), none⟩ = some (f i j)) (hs : ∀ i j, i < rows.length → j < 1 → PM.ShC cx w ok (([.sl 231] : List PM.K).getD j .bool) (PM.cOf rows i j) (f i j)) :
    Calls Try.prog 189 #[.slice (some ⟨blk, off, none⟩) rows.length cap, .int .i64 k] w fun e w' => e = .returned (.int .i64 (k + (laws_markKidS_c rows : Nat))) ∧ PM.MarkTo ok w w' := by
  have HC : Aside (∀ i j, i < rows.length → j < 1 → w.cell? ⟨blk, off + (i * 1 + j), none⟩ = some (f i j)) := hc
  have HS : Aside (∀ i j, i < rows.length → j < 1 → PM.ShC cx w ok (([.sl 231] : List PM.K).getD j .bool) (PM.cOf rows i j) (f i j)) := hs
  have HU : Aside (∀ b, ok b → PM.Unf w b) := hu
  have HE : Aside (∀ i, i < rows.length → sumN (laws_markKidS_e rows) i + laws_markKidS_e rows i ≤ laws_markKidS_c rows) := fun i hi => sumN_step _ hi
  have HT : Aside (laws_markKidS_c rows = sumN (laws_markKidS_e rows) rows.length) := rfl
  clear hc hs hu
  obtain ⟨tot, htot⟩ : ∃ tot, tot = laws_markKidS_c rows := ⟨_, rfl⟩
  obtain ⟨n, hn⟩ : ∃ n, n = rows.length := ⟨_, rfl⟩
  rw [← htot] at hk2 ⊢
  rw [← hn] at hl ⊢
  go_enter Try.func189, Try.ntmps189
  go_wp2
  go_loopg [1, 5] n (fun gg s1 s5 wr => ∃ i : Nat, s5 = .int .i64 i ∧ s1 = .int .i64 (k + (sumN (laws_markKidS_e rows) i : Nat)) ∧ i ≤ n ∧ n - i ≤ gg ∧ Aside (PM.MarkTo ok w wr))
  case atStart => exact ⟨0, rfl, by simp [sumN], by omega, by omega, PM.MarkTo.refl⟩
  case round =>
    obtain ⟨i, rfl, rfl, hin, hgg, HM⟩ := hrel
    by_cases hlt : i < n
    · have hltz : (i : Int) < (n : Int) := by omega
      have hlt' : i < rows.length := by omega
      have he := HE.out i hlt'
      rw [← htot] at he
      have s0 : PM.ShC cx w ok (.sl 231) (PM.cOf rows i 0) (f i 0) := HS.out i 0 hlt' (by omega)
      have q0 := HC.out i 0 hlt' (by omega)
      rw [show off + (i * 1 + 0) = off + i by omega] at q0
      have form0 := sl_form s0
      obtain ⟨v0, ev0⟩ : ∃ x, x = f i 0 := ⟨_, rfl⟩
      rw [← ev0] at s0 q0 form0
      have s0 : Aside (PM.ShC cx w ok (.sl 231) (PM.cOf rows i 0) v0) := s0
      have form0 : Aside (∃ b n c, v0 = .slice b n c) := form0
      obtain ⟨n0, ex0⟩ : ∃ x, x = laws_markOpS_c (PM.asRows (PM.cOf rows i 0)) := ⟨_, rfl⟩
      have en0 : Aside (n0 = laws_markOpS_c (PM.asRows (PM.cOf rows i 0))) := ex0
      clear ex0
      have q0 : Aside (w.cell? ⟨blk, off + i, none⟩ = some (v0)) := q0
      have hee : laws_markKidS_e rows i = n0 := by simp only [laws_markKidS_e, en0.out]
      have HEE : Aside (laws_markKidS_e rows i = n0) := hee
      rw [hee] at he
      obtain ⟨S, hS⟩ : ∃ S, S = sumN (laws_markKidS_e rows) i := ⟨_, rfl⟩
      rw [← hS] at he ⊢
      have HSS : Aside (S = sumN (laws_markKidS_e rows) i) := hS
      have HTT : Aside (tot = laws_markKidS_c rows) := htot
      have HNN : Aside (n = rows.length) := hn
      have HLT : Aside (i < rows.length) := hlt'
      clear hS htot hn hlt' hee ev0
      have c0wr : wr.cell? ⟨blk, off + i, none⟩ = some v0 := hdr HM.out q0.out form0.out
      go_wp2_with (first
        | (go_at_call 241; refine use_mark (ok := ok) (w := w) HM.out fun HW => ?_; refine ((laws_markOpS_k ok v0 _ (fun b hb => PM.MarkTo.unf HW (HU.out b hb)) (PM.ShSl.mark HW (sl_of h231 s0.out)) (by omega) (by rw [← en0.out]; omega)).mono fun e w1 hq => ?_); obtain ⟨rfl, hmw1⟩ := hq; rw [← en0.out]; have Hw1 : Aside (PM.MarkTo ok w w1) := HW.trans hmw1; clear HW hmw1 c0wr)
        )
      go_roundg (n - (i + 1))
      case measure => omega
      case rel =>
        refine ⟨i + 1, by first | rfl | go_num, ?_, by omega, Nat.le_refl _, Hw1.out⟩
        have e1 : sumN (laws_markKidS_e rows) (i + 1) = S + (n0) := by rw [HSS.out, ← HEE.out]; rfl
        rw [e1]
        congr 1
        omega
    · have ein : i = n := by omega
      have etot : sumN (laws_markKidS_e rows) i = tot := by rw [htot, HT.out, ein, hn]
      rw [etot]
      clear etot
      have hge : ¬ (i : Int) < (n : Int) := by omega
      go_wp2
      go_ret
      exact ⟨rfl, HM.out⟩
theorem laws_markKidS_k {cx : PM.Cx} (h231 : SlT cx 231 (.vecs 312 4) [.int .i64, .int .i64, .int .i64, .int .i64]) (ok : Nat → Prop) {w : World} {rows : List (List PM.C)} (v : Value) (k : Int) (hu : ∀ b, ok b → PM.Unf w b) (h : PM.ShSl cx w ok [.sl 231] rows v) (hk : 0 ≤ k) (hk2 : k + (laws_markKidS_c rows : Nat) ≤ 4611686018427387904) (hl : rows.length ≤ 4611686018427387904) :
    Calls Try.prog 189 #[v, .int .i64 k] w fun e w' => e = .returned (.int .i64 (k + (laws_markKidS_c rows : Nat))) ∧ PM.MarkTo ok w w' := by
  rcases h with ⟨rfl, base, cap, rfl⟩ | ⟨⟨blk, off, spot⟩, cap, f, rfl, h2, h3, h4, h5⟩
  · refine (laws_markKidS_nil base cap k w).mono fun e w' hq => ?_
    obtain ⟨rfl, hbw⟩ := hq
    exact ⟨by simp [laws_markKidS_c, sumN], PM.MarkTo.of_below hbw⟩
  · have h2 : spot = none := h2
    subst h2
    exact laws_markKidS_walk h231 ok rows blk off cap k f w hu h3 hk hk2 hl h4 h5
def laws_markFamScript_c (r0 : List (List PM.C)) (r1 : List (List PM.C)) (r2 : List (List PM.C)) (r3 : List (List PM.C)) (r4 : List (List PM.C)) : Nat := laws_markIntS_c r0 + laws_markIntS_c r1 + laws_markRowS_c r2 + laws_markKidS_c r3 + laws_markIntS_c r4
theorem laws_markFamScript_k {cx : PM.Cx} (h24 : SlT cx 24 (.ints 3 .i64) [.int .i64]) (h31 : SlT cx 31 (.vecs 161 2) [.int .i64, .int .i64]) (h117 : SlT cx 117 (.rows 233) [.sl 231]) (h231 : SlT cx 231 (.vecs 312 4) [.int .i64, .int .i64, .int .i64, .int .i64]) (ok : Nat → Prop) {w : World} {r0 : List (List PM.C)} (v0 : Value) {r1 : List (List PM.C)} (v1 : Value) {r2 : List (List PM.C)} (v2 : Value) {r3 : List (List PM.C)} (v3 : Value) {r4 : List (List PM.C)} (v4 : Value) (k : Int) (hu : ∀ b, ok b → PM.Unf w b) (s0 : PM.ShSl cx w ok [.int .i64] r0 v0) (s1 : PM.ShSl cx w ok [.int .i64] r1 v1) (s2 : PM.ShSl cx w ok [.int .i64, .int .i64] r2 v2) (s3 : PM.ShSl cx w ok [.sl 231] r3 v3) (l3 : r3.length ≤ 4611686018427387904) (s4 : PM.ShSl cx w ok [.int .i64] r4 v4) (hk : 0 ≤ k) (hk2 : k + (laws_markFamScript_c r0 r1 r2 r3 r4 : Nat) ≤ 4611686018427387904) :
    Calls Try.prog 91 #[.agg #[v0, v1, v2, v3, v4], .int .i64 k] w fun e w' => e = .returned (.int .i64 (k + (laws_markFamScript_c r0 r1 r2 r3 r4 : Nat))) ∧ PM.MarkTo ok w w' := by
  have HU : Aside (∀ b, ok b → PM.Unf w b) := hu
  clear hu
  have s0 : Aside (PM.ShSl cx w ok [.int .i64] r0 v0) := s0
  obtain ⟨n0, ex0⟩ : ∃ x, x = laws_markIntS_c r0 := ⟨_, rfl⟩
  have en0 : Aside (n0 = laws_markIntS_c r0) := ex0
  clear ex0
  have s1 : Aside (PM.ShSl cx w ok [.int .i64] r1 v1) := s1
  obtain ⟨n1, ex1⟩ : ∃ x, x = laws_markIntS_c r1 := ⟨_, rfl⟩
  have en1 : Aside (n1 = laws_markIntS_c r1) := ex1
  clear ex1
  have s2 : Aside (PM.ShSl cx w ok [.int .i64, .int .i64] r2 v2) := s2
  obtain ⟨n2, ex2⟩ : ∃ x, x = laws_markRowS_c r2 := ⟨_, rfl⟩
  have en2 : Aside (n2 = laws_markRowS_c r2) := ex2
  clear ex2
  have s3 : Aside (PM.ShSl cx w ok [.sl 231] r3 v3) := s3
  obtain ⟨n3, ex3⟩ : ∃ x, x = laws_markKidS_c r3 := ⟨_, rfl⟩
  have en3 : Aside (n3 = laws_markKidS_c r3) := ex3
  clear ex3
  have s4 : Aside (PM.ShSl cx w ok [.int .i64] r4 v4) := s4
  obtain ⟨n4, ex4⟩ : ∃ x, x = laws_markIntS_c r4 := ⟨_, rfl⟩
  have en4 : Aside (n4 = laws_markIntS_c r4) := ex4
  clear ex4
  have hcc : laws_markFamScript_c r0 r1 r2 r3 r4 = n0 + n1 + n2 + n3 + n4 := by simp only [laws_markFamScript_c, en0.out, en1.out, en2.out, en3.out, en4.out]
  rw [hcc] at hk2 ⊢
  clear hcc
  obtain ⟨W0, eW0⟩ : ∃ X, X = w.alloc (Obj.cells #[v0, v1, v2, v3, v4] 119) := ⟨_, rfl⟩
  have HW0 : Aside (PM.MarkTo ok w W0) := by rw [eW0]; exact PM.MarkTo.of_below ((Below.refl _ w).alloc (Nat.le_refl _) _)
  have nok : ¬ ok w.heap.size := fun h => by
    obtain ⟨c, t, h⟩ := HU.out _ h
    rw [Array.getElem?_eq_none (Nat.le_refl _)] at h
    cases h
  have HB : Aside (∀ (W : World), PM.MarkTo ok W0 W → ∀ (j : Nat) (v : Value), (#[v0, v1, v2, v3, v4] : Array Value)[j]? = some v → W.cell? ⟨w.heap.size, j, none⟩ = some v) := fun W hW j v hv => by
    have h0 : W0.heap[w.heap.size]? = some (Obj.cells #[v0, v1, v2, v3, v4] 119) := by rw [eW0]; exact heap_alloc_new w _
    have hlt : w.heap.size < W0.heap.size := by rw [eW0]; simp
    have h1 := (hW.block _ hlt nok).trans h0
    simp only [World.cell?, h1, Option.isSome_none, Bool.false_eq_true, if_false]
    exact hv
  have EW0 : Aside (W0 = w.alloc (Obj.cells #[v0, v1, v2, v3, v4] 119)) := eW0
  clear eW0
  go_enter Try.func91, Try.ntmps91
  go_wp2_with (first
    | (go_at_call 54; rw [← EW0.out]; refine use_mark (ok := ok) (w := W0) PM.MarkTo.refl fun HW => ?_; refine ((laws_markIntS_k ok v0 _ (fun b hb => PM.MarkTo.unf (HW0.out.trans HW) (HU.out b hb)) (PM.ShSl.mark (HW0.out.trans HW) s0.out) (by omega) (by rw [← en0.out]; omega)).mono fun e w1 hq => ?_); obtain ⟨rfl, hmw1⟩ := hq; rw [← en0.out]; have Hw1 : Aside (PM.MarkTo ok W0 w1) := HW.trans hmw1; clear HW hmw1; have cw1 : w1.cell? ⟨w.heap.size, 1, none⟩ = some v1 := HB.out _ Hw1.out _ _ rfl)
    | (go_at_call 54; refine use_mark (ok := ok) (w := W0) Hw1.out fun HW => ?_; refine ((laws_markIntS_k ok v1 _ (fun b hb => PM.MarkTo.unf (HW0.out.trans HW) (HU.out b hb)) (PM.ShSl.mark (HW0.out.trans HW) s1.out) (by omega) (by rw [← en1.out]; omega)).mono fun e w2 hq => ?_); obtain ⟨rfl, hmw2⟩ := hq; rw [← en1.out]; have Hw2 : Aside (PM.MarkTo ok W0 w2) := HW.trans hmw2; clear HW hmw2; have cw2 : w2.cell? ⟨w.heap.size, 2, none⟩ = some v2 := HB.out _ Hw2.out _ _ rfl)
    | (go_at_call 68; refine use_mark (ok := ok) (w := W0) Hw2.out fun HW => ?_; refine ((laws_markRowS_k ok v2 _ (fun b hb => PM.MarkTo.unf (HW0.out.trans HW) (HU.out b hb)) (PM.ShSl.mark (HW0.out.trans HW) s2.out) (by omega) (by rw [← en2.out]; omega)).mono fun e w3 hq => ?_); obtain ⟨rfl, hmw3⟩ := hq; rw [← en2.out]; have Hw3 : Aside (PM.MarkTo ok W0 w3) := HW.trans hmw3; clear HW hmw3; have cw3 : w3.cell? ⟨w.heap.size, 3, none⟩ = some v3 := HB.out _ Hw3.out _ _ rfl)
    | (go_at_call 189; refine use_mark (ok := ok) (w := W0) Hw3.out fun HW => ?_; refine ((laws_markKidS_k h231 ok v3 _ (fun b hb => PM.MarkTo.unf (HW0.out.trans HW) (HU.out b hb)) (PM.ShSl.mark (HW0.out.trans HW) s3.out) (by omega) (by rw [← en3.out]; omega) l3).mono fun e w4 hq => ?_); obtain ⟨rfl, hmw4⟩ := hq; rw [← en3.out]; have Hw4 : Aside (PM.MarkTo ok W0 w4) := HW.trans hmw4; clear HW hmw4; have cw4 : w4.cell? ⟨w.heap.size, 4, none⟩ = some v4 := HB.out _ Hw4.out _ _ rfl)
    | (go_at_call 54; refine use_mark (ok := ok) (w := W0) Hw4.out fun HW => ?_; refine ((laws_markIntS_k ok v4 _ (fun b hb => PM.MarkTo.unf (HW0.out.trans HW) (HU.out b hb)) (PM.ShSl.mark (HW0.out.trans HW) s4.out) (by omega) (by rw [← en4.out]; omega)).mono fun e w5 hq => ?_); obtain ⟨rfl, hmw5⟩ := hq; rw [← en4.out]; have Hw5 : Aside (PM.MarkTo ok W0 w5) := HW.trans hmw5; clear HW hmw5)
    )
  go_ret
  refine ⟨?_, HW0.out.trans Hw5.out⟩
  refine congrArg (fun z : Int => Ending.returned (Value.int IntKind.i64 z)) ?_
  omega
abbrev laws_markFamScript_T := (List Int) → (List Int) → (List (List Int)) → (List (List PM.C)) → (List Int) → (Int) → ((Int) → PM.R) → PM.R
def laws_markFamScript_w (c : laws_markFamScript_T) (ds : List PM.V) (k : PM.V → PM.R) : PM.R :=
  match ds with
  | [.agg [.arr (.ints 3 .i64 a_Cells), .arr (.ints 3 .i64 a_Regs), .arr (.vecs 161 2 a_Writes), .arr (.rows 233 a_Kids), .arr (.ints 3 .i64 a_Acts)], .int .i64 k_] => c a_Cells a_Regs a_Writes a_Kids a_Acts k_ (fun r0 => k (.int .i64 r0))
  | _ => none
def laws_markFamScript (A : PM.Prims) : laws_markFamScript_T := fun a_Cells a_Regs a_Writes a_Kids a_Acts k0 k =>
  if 0 ≤ k0 ∧ k0 + (laws_markFamScript_c (PM.rowsOf (.ints 3 .i64 a_Cells)) (PM.rowsOf (.ints 3 .i64 a_Regs)) (PM.rowsOf (.vecs 161 2 a_Writes)) (PM.rowsOf (.rows 233 a_Kids)) (PM.rowsOf (.ints 3 .i64 a_Acts)) : Nat) ≤ 4611686018427387904 ∧ (PM.rowsOf (.ints 3 .i64 a_Cells)).length ≤ 4611686018427387904 ∧ (PM.rowsOf (.ints 3 .i64 a_Regs)).length ≤ 4611686018427387904 ∧ (PM.rowsOf (.vecs 161 2 a_Writes)).length ≤ 4611686018427387904 ∧ (PM.rowsOf (.rows 233 a_Kids)).length ≤ 4611686018427387904 ∧ (PM.rowsOf (.ints 3 .i64 a_Acts)).length ≤ 4611686018427387904 then k (k0 + (laws_markFamScript_c (PM.rowsOf (.ints 3 .i64 a_Cells)) (PM.rowsOf (.ints 3 .i64 a_Regs)) (PM.rowsOf (.vecs 161 2 a_Writes)) (PM.rowsOf (.rows 233 a_Kids)) (PM.rowsOf (.ints 3 .i64 a_Acts)) : Nat)) else none
theorem laws_markFamScript_mk {cx : PM.Cx} (h24 : SlT cx 24 (.ints 3 .i64) [.int .i64] := by exact ⟨_, rfl, rfl, rfl⟩) (h31 : SlT cx 31 (.vecs 161 2) [.int .i64, .int .i64] := by exact ⟨_, rfl, rfl, rfl⟩) (h117 : SlT cx 117 (.rows 233) [.sl 231] := by exact ⟨_, rfl, rfl, rfl⟩) (h231 : SlT cx 231 (.vecs 312 4) [.int .i64, .int .i64, .int .i64, .int .i64] := by exact ⟨_, rfl, rfl, rfl⟩) (g24 : PM.shAK cx (.ints 3 .i64) = some [.int .i64] := by rfl) (g31 : PM.shAK cx (.vecs 161 2) = some [.int .i64, .int .i64] := by rfl) (g117 : PM.shAK cx (.rows 233) = some [.sl 231] := by rfl) : PM.MarkOk Try.prog cx 91 (laws_markFamScript_w (laws_markFamScript PM.std)) := by
  refine ⟨(PM.FnIs.of Try.func91 (by kernel_rfl) (by kernel_rfl)).enter, fun d n k r h => ?_⟩
  unfold laws_markFamScript_w at h
  split at h
  case h_2 => cases h
  rename_i a_Cells' a_Regs' a_Writes' a_Kids' a_Acts' k_' heq
  simp only [List.cons.injEq, PM.V.int.injEq, and_true, true_and] at heq
  obtain ⟨rfl, rfl⟩ := heq
  unfold laws_markFamScript at h
  split at h
  case isFalse => cases h
  rename_i hcond
  obtain ⟨p1, p2, q0, q1, q2, q3, q4⟩ := hcond
  refine ⟨_, h, fun ok w v hok hv => ?_⟩
  obtain ⟨vs, rfl, hl⟩ := hv
  obtain ⟨u0, us0, rfl, e0, E0⟩ := (show PM.All2 (PM.Sh1 cx w ok) _ _ from hl).cons_inv
  obtain ⟨u1, us1, rfl, e1, E1⟩ := E0.cons_inv
  obtain ⟨u2, us2, rfl, e2, E2⟩ := E1.cons_inv
  obtain ⟨u3, us3, rfl, e3, E3⟩ := E2.cons_inv
  obtain ⟨u4, us4, rfl, e4, E4⟩ := E3.cons_inv
  cases E4.nil_inv
  obtain ⟨sh0, k0, m0⟩ := e0
  have k0 : PM.shAK cx (.ints 3 .i64) = some sh0 := k0
  rw [g24] at k0
  cases k0
  obtain ⟨sh1, k1, m1⟩ := e1
  have k1 : PM.shAK cx (.ints 3 .i64) = some sh1 := k1
  rw [g24] at k1
  cases k1
  obtain ⟨sh2, k2, m2⟩ := e2
  have k2 : PM.shAK cx (.vecs 161 2) = some sh2 := k2
  rw [g31] at k2
  cases k2
  obtain ⟨sh3, k3, m3⟩ := e3
  have k3 : PM.shAK cx (.rows 233) = some sh3 := k3
  rw [g117] at k3
  cases k3
  obtain ⟨sh4, k4, m4⟩ := e4
  have k4 : PM.shAK cx (.ints 3 .i64) = some sh4 := k4
  rw [g24] at k4
  cases k4
  exact laws_markFamScript_k h24 h31 h117 h231 ok u0 u1 u2 u3 u4 _ (fun b hb => (hok b hb).2) m0 m1 m2 m3 q3 m4 p1 p2
end X
