/- Models of the functions, or plain laws about them; each theorem states its own conditions. -/
import Derived.Test.YtlcgddghildedaaL4
import Derived.Test.YtlcgddghildedaaProg
import Derived.ProofKit
import Derived.WalkKit
import Derived.Below
import Derived.KernelRfl
set_option linter.unusedVariables false
set_option linter.unusedSimpArgs false
open Go Go.Proofs Go.RowKit
namespace X
/-! The functions that mark: what they write, what they count. -/
def SlT (cx : PM.Cx) (u : TypeId) (ak : PM.AK) (sh : List PM.K) : Prop := ∃ ty, PM.find cx u = some ty ∧ ty.elem = some ak ∧ PM.shAK cx ak = some sh
theorem sl_of {cx : PM.Cx} {u : TypeId} {ak : PM.AK} {sh : List PM.K} (h : SlT cx u ak sh) {w : World} {ok : Nat → Prop} {c : PM.C} {v : Value} (hv : PM.ShC cx w ok (.sl u) c v) : PM.ShSl cx w ok sh (PM.asRows c) v := by
  obtain ⟨ty, h1, h2, h3⟩ := h
  exact hv.slice h1 h2 h3
theorem sl_form {cx : PM.Cx} {u : TypeId} {w : World} {ok : Nat → Prop} {c : PM.C} {v : Value} (hv : PM.ShC cx w ok (.sl u) c v) : ∃ b n c, v = .slice b n c := by
  cases hv <;> exact ⟨_, _, _, rfl⟩
theorem int_form {cx : PM.Cx} {w : World} {ok : Nat → Prop} {k : IntKind} {c : PM.C} {v : Value} (hv : PM.ShC cx w ok (.int k) c v) : ∃ m, v = .int k m := by
  cases hv; exact ⟨_, rfl⟩
theorem bool_form {cx : PM.Cx} {w : World} {ok : Nat → Prop} {c : PM.C} {v : Value} (hv : PM.ShC cx w ok .bool c v) : ∃ m, v = .bool m := by
  cases hv; exact ⟨_, rfl⟩
def sumN (f : Nat → Nat) : Nat → Nat
  | 0 => 0
  | n + 1 => sumN f n + f n
theorem sumN_le (f : Nat → Nat) {i n : Nat} (h : i ≤ n) : sumN f i ≤ sumN f n := by
  induction h with
  | refl => exact Nat.le_refl _
  | step _ ih => exact Nat.le_trans ih (Nat.le_add_right _ _)
theorem sumN_len (f : Nat → Nat) (h : ∀ i, 1 ≤ f i) : ∀ n, n ≤ sumN f n
  | 0 => Nat.le_refl _
  | n + 1 => Nat.add_le_add (sumN_len f h n) (h n)
theorem sumN_bd (f : Nat → Nat) (n b : Nat) (h : ∀ i, i < n → f i ≤ b) : sumN f n ≤ n * b := by
  induction n with
  | zero => simp [sumN]
  | succ n ih =>
    have h1 := ih fun i hi => h i (by omega)
    have h2 := h n (by omega)
    rw [Nat.add_mul, Nat.one_mul]
    exact Nat.add_le_add h1 h2
theorem sumN_step (f : Nat → Nat) {i n : Nat} (h : i < n) : sumN f i + f i ≤ sumN f n := sumN_le f (i := i + 1) h
section
variable {ok : Nat → Prop} {w W : World} {b o : Nat}
theorem setI {m u : Int} (h : PM.MarkTo ok w W) (hb : ok b) (hc : w.cell? ⟨b, o, none⟩ = some (.int .i64 m)) : PM.MarkTo ok w (W.setCell ⟨b, o, none⟩ (.int .i64 u)) := by
  obtain ⟨v', h1, h2⟩ := h.cell hc
  refine h.trans (PM.MarkTo.set hb h1 ?_)
  rcases h2 with rfl | ⟨k, m', n, e, rfl⟩ | ⟨x, y, e, _⟩
  · exact .int
  · cases e; exact .int
  · cases e
theorem setB {m u : Bool} (h : PM.MarkTo ok w W) (hb : ok b) (hc : w.cell? ⟨b, o, none⟩ = some (.bool m)) : PM.MarkTo ok w (W.setCell ⟨b, o, none⟩ (.bool u)) := by
  obtain ⟨v', h1, h2⟩ := h.cell hc
  refine h.trans (PM.MarkTo.set hb h1 ?_)
  rcases h2 with rfl | ⟨k, m', n, e, _⟩ | ⟨x, y, e, rfl⟩
  · exact .bool
  · cases e
  · exact .bool
theorem hdr {v : Value} (h : PM.MarkTo ok w W) (hc : w.cell? ⟨b, o, none⟩ = some v) (hs : ∃ b n c, v = .slice b n c) : W.cell? ⟨b, o, none⟩ = some v := by
  obtain ⟨v', h1, h2⟩ := h.cell hc
  obtain ⟨b, n, c, rfl⟩ := hs
  rcases h2 with rfl | ⟨k, m', n, e, _⟩ | ⟨x, y, e, _⟩
  · exact h1
  · cases e
  · cases e
theorem name_world (W : World) : ∃ W', W' = W := ⟨W, rfl⟩
theorem use_mark {P : Program} {f : FuncId} {args : Array Value} {Q : Ending → World → Prop} (HW : PM.MarkTo ok w W) (h : PM.MarkTo ok w W → Calls P f args W Q) : Calls P f args W Q := h HW
end
set_option maxHeartbeats 0
set_option maxRecDepth 20000
def laws_markIntS_e (rows : List (List PM.C)) (i : Nat) : Nat := 1
def laws_markIntS_c (rows : List (List PM.C)) : Nat := sumN (laws_markIntS_e rows) rows.length
theorem laws_markIntS_nil (base : Option Addr) (cap : Nat) (k : Int) (w : World) : Calls Try.prog 54 #[.slice base 0 cap, .int .i64 k] w fun e w' => e = .returned (.int .i64 k) ∧ Below w.heap.size w w' := by
  go_enter Try.func54, Try.ntmps54
  go_wp2
  go_loopg [1, 5] 0 (fun gg s1 s5 wr => s5 = .int .i64 0 ∧ s1 = .int .i64 k ∧ Aside (RowKit.Below w.heap.size w wr))
  case atStart => exact ⟨rfl, rfl, Below.refl _ w⟩
  case round =>
    obtain ⟨rfl, rfl, BW⟩ := hrel
    go_wp2
    go_ret
    exact ⟨rfl, BW.out⟩
theorem laws_markIntS_walk {cx : PM.Cx} (ok : Nat → Prop) (rows : List (List PM.C)) (blk off cap : Nat) (k : Int) (f : Nat → Nat → Value) (w : World) (hu : ∀ b, ok b → PM.Unf w b) (hb : ok blk) (hk : 0 ≤ k) (hk2 : k + (laws_markIntS_c rows : Nat) ≤ 4611686018427387904) (hl : rows.length ≤ 4611686018427387904)
    (hc : ∀ i j, i < rows.length → j < 1 → w.cell? ⟨blk, off + (i * 1 + j), none⟩ = some (f i j)) (hs : ∀ i j, i < rows.length → j < 1 → PM.ShC cx w ok (([.int .i64] : List PM.K).getD j .bool) (PM.cOf rows i j) (f i j)) :
    Calls Try.prog 54 #[.slice (some ⟨blk, off, none⟩) rows.length cap, .int .i64 k] w fun e w' => e = .returned (.int .i64 (k + (laws_markIntS_c rows : Nat))) ∧ PM.MarkTo ok w w' := by
  have HC : Aside (∀ i j, i < rows.length → j < 1 → w.cell? ⟨blk, off + (i * 1 + j), none⟩ = some (f i j)) := hc
  have HS : Aside (∀ i j, i < rows.length → j < 1 → PM.ShC cx w ok (([.int .i64] : List PM.K).getD j .bool) (PM.cOf rows i j) (f i j)) := hs
  have HU : Aside (∀ b, ok b → PM.Unf w b) := hu
  have HE : Aside (∀ i, i < rows.length → sumN (laws_markIntS_e rows) i + laws_markIntS_e rows i ≤ laws_markIntS_c rows) := fun i hi => sumN_step _ hi
  have HT : Aside (laws_markIntS_c rows = sumN (laws_markIntS_e rows) rows.length) := rfl
  clear hc hs hu
  obtain ⟨tot, htot⟩ : ∃ tot, tot = laws_markIntS_c rows := ⟨_, rfl⟩
  obtain ⟨n, hn⟩ : ∃ n, n = rows.length := ⟨_, rfl⟩
  rw [← htot] at hk2 ⊢
  rw [← hn] at hl ⊢
  go_enter Try.func54, Try.ntmps54
  go_wp2
  go_loopg [1, 5] n (fun gg s1 s5 wr => ∃ i : Nat, s5 = .int .i64 i ∧ s1 = .int .i64 (k + (sumN (laws_markIntS_e rows) i : Nat)) ∧ i ≤ n ∧ n - i ≤ gg ∧ Aside (PM.MarkTo ok w wr))
  case atStart => exact ⟨0, rfl, by simp [sumN], by omega, by omega, PM.MarkTo.refl⟩
  case round =>
    obtain ⟨i, rfl, rfl, hin, hgg, HM⟩ := hrel
    by_cases hlt : i < n
    · have hltz : (i : Int) < (n : Int) := by omega
      have hlt' : i < rows.length := by omega
      have he := HE.out i hlt'
      rw [← htot] at he
      have s0 : PM.ShC cx w ok (.int .i64) (PM.cOf rows i 0) (f i 0) := HS.out i 0 hlt' (by omega)
      have q0 := HC.out i 0 hlt' (by omega)
      rw [show off + (i * 1 + 0) = off + i by omega] at q0
      obtain ⟨m0, em0⟩ := int_form s0
      rw [em0] at q0
      clear s0 em0
      have q0 : Aside (w.cell? ⟨blk, off + i, none⟩ = some (.int .i64 m0)) := q0
      have hee : laws_markIntS_e rows i = 1 := by simp only [laws_markIntS_e]
      have HEE : Aside (laws_markIntS_e rows i = 1) := hee
      rw [hee] at he
      obtain ⟨S, hS⟩ : ∃ S, S = sumN (laws_markIntS_e rows) i := ⟨_, rfl⟩
      rw [← hS] at he ⊢
      have HSS : Aside (S = sumN (laws_markIntS_e rows) i) := hS
      have HTT : Aside (tot = laws_markIntS_c rows) := htot
      have HNN : Aside (n = rows.length) := hn
      have HLT : Aside (i < rows.length) := hlt'
      clear hS htot hn hlt' hee
      obtain ⟨y0wr, c0wr, _⟩ := PM.MarkTo.cell HM.out q0.out
      have f0wr : wr.frozen? ⟨blk, off + i, none⟩ = false := PM.Unf.frozen (PM.MarkTo.unf HM.out (HU.out blk hb))
      go_wp2_with (first
        | (obtain ⟨w1, ew1⟩ := name_world (wr.setCell ⟨blk, off + i, none⟩ (.int .i64 (k + (S : Int)))); rw [← ew1]; have Hw1 : Aside (PM.MarkTo ok w w1) := (by rw [ew1]; exact setI HM.out hb q0.out); clear ew1 c0wr f0wr)
        )
      go_roundg (n - (i + 1))
      case measure => omega
      case rel =>
        refine ⟨i + 1, by first | rfl | go_num, ?_, by omega, Nat.le_refl _, Hw1.out⟩
        have e1 : sumN (laws_markIntS_e rows) (i + 1) = S + (1) := by rw [HSS.out, ← HEE.out]; rfl
        rw [e1]
        congr 1
        omega
    · have ein : i = n := by omega
      have etot : sumN (laws_markIntS_e rows) i = tot := by rw [htot, HT.out, ein, hn]
      rw [etot]
      clear etot
      have hge : ¬ (i : Int) < (n : Int) := by omega
      go_wp2
      go_ret
      exact ⟨rfl, HM.out⟩
theorem laws_markIntS_k {cx : PM.Cx} (ok : Nat → Prop) {w : World} {rows : List (List PM.C)} (v : Value) (k : Int) (hu : ∀ b, ok b → PM.Unf w b) (h : PM.ShSl cx w ok [.int .i64] rows v) (hk : 0 ≤ k) (hk2 : k + (laws_markIntS_c rows : Nat) ≤ 4611686018427387904) :
    Calls Try.prog 54 #[v, .int .i64 k] w fun e w' => e = .returned (.int .i64 (k + (laws_markIntS_c rows : Nat))) ∧ PM.MarkTo ok w w' := by
  rcases h with ⟨rfl, base, cap, rfl⟩ | ⟨⟨blk, off, spot⟩, cap, f, rfl, h2, h3, h4, h5⟩
  · refine (laws_markIntS_nil base cap k w).mono fun e w' hq => ?_
    obtain ⟨rfl, hbw⟩ := hq
    exact ⟨by simp [laws_markIntS_c, sumN], PM.MarkTo.of_below hbw⟩
  · have h2 : spot = none := h2
    subst h2
    exact laws_markIntS_walk ok rows blk off cap k f w hu h3 hk hk2 (by have := sumN_len (laws_markIntS_e rows) (fun i => by unfold laws_markIntS_e; omega) rows.length; unfold laws_markIntS_c at hk2; omega) h4 h5
def laws_markRowS_e (rows : List (List PM.C)) (i : Nat) : Nat := 2
def laws_markRowS_c (rows : List (List PM.C)) : Nat := sumN (laws_markRowS_e rows) rows.length
theorem laws_markRowS_nil (base : Option Addr) (cap : Nat) (k : Int) (w : World) : Calls Try.prog 68 #[.slice base 0 cap, .int .i64 k] w fun e w' => e = .returned (.int .i64 k) ∧ Below w.heap.size w w' := by
  go_enter Try.func68, Try.ntmps68
  go_wp2
  go_loopg [1, 5] 0 (fun gg s1 s5 wr => s5 = .int .i64 0 ∧ s1 = .int .i64 k ∧ Aside (RowKit.Below w.heap.size w wr))
  case atStart => exact ⟨rfl, rfl, Below.refl _ w⟩
  case round =>
    obtain ⟨rfl, rfl, BW⟩ := hrel
    go_wp2
    go_ret
    exact ⟨rfl, BW.out⟩
theorem laws_markRowS_walk {cx : PM.Cx} (ok : Nat → Prop) (rows : List (List PM.C)) (blk off cap : Nat) (k : Int) (f : Nat → Nat → Value) (w : World) (hu : ∀ b, ok b → PM.Unf w b) (hb : ok blk) (hk : 0 ≤ k) (hk2 : k + (laws_markRowS_c rows : Nat) ≤ 4611686018427387904) (hl : rows.length ≤ 4611686018427387904)
    (hc : ∀ i j, i < rows.length → j < 2 → w.cell? ⟨blk, off + (i * 2 + j), none⟩ = some (f i j)) (hs : ∀ i j, i < rows.length → j < 2 → PM.ShC cx w ok (([.int .i64, .int .i64] : List PM.K).getD j .bool) (PM.cOf rows i j) (f i j)) :
    Calls Try.prog 68 #[.slice (some ⟨blk, off, none⟩) rows.length cap, .int .i64 k] w fun e w' => e = .returned (.int .i64 (k + (laws_markRowS_c rows : Nat))) ∧ PM.MarkTo ok w w' := by
  have HC : Aside (∀ i j, i < rows.length → j < 2 → w.cell? ⟨blk, off + (i * 2 + j), none⟩ = some (f i j)) := hc
  have HS : Aside (∀ i j, i < rows.length → j < 2 → PM.ShC cx w ok (([.int .i64, .int .i64] : List PM.K).getD j .bool) (PM.cOf rows i j) (f i j)) := hs
  have HU : Aside (∀ b, ok b → PM.Unf w b) := hu
  have HE : Aside (∀ i, i < rows.length → sumN (laws_markRowS_e rows) i + laws_markRowS_e rows i ≤ laws_markRowS_c rows) := fun i hi => sumN_step _ hi
  have HT : Aside (laws_markRowS_c rows = sumN (laws_markRowS_e rows) rows.length) := rfl
  clear hc hs hu
  obtain ⟨tot, htot⟩ : ∃ tot, tot = laws_markRowS_c rows := ⟨_, rfl⟩
  obtain ⟨n, hn⟩ : ∃ n, n = rows.length := ⟨_, rfl⟩
  rw [← htot] at hk2 ⊢
  rw [← hn] at hl ⊢
  go_enter Try.func68, Try.ntmps68
  go_wp2
  go_loopg [1, 5] n (fun gg s1 s5 wr => ∃ i : Nat, s5 = .int .i64 i ∧ s1 = .int .i64 (k + (sumN (laws_markRowS_e rows) i : Nat)) ∧ i ≤ n ∧ n - i ≤ gg ∧ Aside (PM.MarkTo ok w wr))
  case atStart => exact ⟨0, rfl, by simp [sumN], by omega, by omega, PM.MarkTo.refl⟩
  case round =>
    obtain ⟨i, rfl, rfl, hin, hgg, HM⟩ := hrel
    by_cases hlt : i < n
    · have hltz : (i : Int) < (n : Int) := by omega
      have hlt' : i < rows.length := by omega
      have he := HE.out i hlt'
      rw [← htot] at he
      have s0 : PM.ShC cx w ok (.int .i64) (PM.cOf rows i 0) (f i 0) := HS.out i 0 hlt' (by omega)
      have q0 := HC.out i 0 hlt' (by omega)
      rw [show off + (i * 2 + 0) = off + i * 2 by omega] at q0
      obtain ⟨m0, em0⟩ := int_form s0
      rw [em0] at q0
      clear s0 em0
      have q0 : Aside (w.cell? ⟨blk, off + i * 2, none⟩ = some (.int .i64 m0)) := q0
      have s1 : PM.ShC cx w ok (.int .i64) (PM.cOf rows i 1) (f i 1) := HS.out i 1 hlt' (by omega)
      have q1 := HC.out i 1 hlt' (by omega)
      rw [show off + (i * 2 + 1) = off + i * 2 + 1 by omega] at q1
      obtain ⟨m1, em1⟩ := int_form s1
      rw [em1] at q1
      clear s1 em1
      have q1 : Aside (w.cell? ⟨blk, off + i * 2 + 1, none⟩ = some (.int .i64 m1)) := q1
      have hee : laws_markRowS_e rows i = 2 := by simp only [laws_markRowS_e]
      have HEE : Aside (laws_markRowS_e rows i = 2) := hee
      rw [hee] at he
      obtain ⟨S, hS⟩ : ∃ S, S = sumN (laws_markRowS_e rows) i := ⟨_, rfl⟩
      rw [← hS] at he ⊢
      have HSS : Aside (S = sumN (laws_markRowS_e rows) i) := hS
      have HTT : Aside (tot = laws_markRowS_c rows) := htot
      have HNN : Aside (n = rows.length) := hn
      have HLT : Aside (i < rows.length) := hlt'
      clear hS htot hn hlt' hee
      obtain ⟨y0wr, c0wr, _⟩ := PM.MarkTo.cell HM.out q0.out
      have f0wr : wr.frozen? ⟨blk, off + i * 2, none⟩ = false := PM.Unf.frozen (PM.MarkTo.unf HM.out (HU.out blk hb))
      go_wp2_with (first
        | (obtain ⟨w1, ew1⟩ := name_world (wr.setCell ⟨blk, off + i * 2, none⟩ (.int .i64 (k + (S : Int)))); rw [← ew1]; have Hw1 : Aside (PM.MarkTo ok w w1) := (by rw [ew1]; exact setI HM.out hb q0.out); clear ew1 c0wr f0wr; obtain ⟨y1w1, c1w1, _⟩ := PM.MarkTo.cell Hw1.out q1.out; have f1w1 : w1.frozen? ⟨blk, off + i * 2 + 1, none⟩ = false := PM.Unf.frozen (PM.MarkTo.unf Hw1.out (HU.out blk hb)))
        | (obtain ⟨w2, ew2⟩ := name_world (w1.setCell ⟨blk, off + i * 2 + 1, none⟩ (.int .i64 (k + (S : Int) + 1))); rw [← ew2]; have Hw2 : Aside (PM.MarkTo ok w w2) := (by rw [ew2]; exact setI Hw1.out hb q1.out); clear ew2 c1w1 f1w1; clear Hw1 w1)
        )
      go_roundg (n - (i + 1))
      case measure => omega
      case rel =>
        refine ⟨i + 1, by first | rfl | go_num, ?_, by omega, Nat.le_refl _, Hw2.out⟩
        have e1 : sumN (laws_markRowS_e rows) (i + 1) = S + (2) := by rw [HSS.out, ← HEE.out]; rfl
        rw [e1]
        congr 1
        omega
    · have ein : i = n := by omega
      have etot : sumN (laws_markRowS_e rows) i = tot := by rw [htot, HT.out, ein, hn]
      rw [etot]
      clear etot
      have hge : ¬ (i : Int) < (n : Int) := by omega
      go_wp2
      go_ret
      exact ⟨rfl, HM.out⟩
theorem laws_markRowS_k {cx : PM.Cx} (ok : Nat → Prop) {w : World} {rows : List (List PM.C)} (v : Value) (k : Int) (hu : ∀ b, ok b → PM.Unf w b) (h : PM.ShSl cx w ok [.int .i64, .int .i64] rows v) (hk : 0 ≤ k) (hk2 : k + (laws_markRowS_c rows : Nat) ≤ 4611686018427387904) :
    Calls Try.prog 68 #[v, .int .i64 k] w fun e w' => e = .returned (.int .i64 (k + (laws_markRowS_c rows : Nat))) ∧ PM.MarkTo ok w w' := by
  rcases h with ⟨rfl, base, cap, rfl⟩ | ⟨⟨blk, off, spot⟩, cap, f, rfl, h2, h3, h4, h5⟩
  · refine (laws_markRowS_nil base cap k w).mono fun e w' hq => ?_
    obtain ⟨rfl, hbw⟩ := hq
    exact ⟨by simp [laws_markRowS_c, sumN], PM.MarkTo.of_below hbw⟩
  · have h2 : spot = none := h2
    subst h2
    exact laws_markRowS_walk ok rows blk off cap k f w hu h3 hk hk2 (by have := sumN_len (laws_markRowS_e rows) (fun i => by unfold laws_markRowS_e; omega) rows.length; unfold laws_markRowS_c at hk2; omega) h4 h5
def laws_markEntryS_e (rows : List (List PM.C)) (i : Nat) : Nat := 3
def laws_markEntryS_c (rows : List (List PM.C)) : Nat := sumN (laws_markEntryS_e rows) rows.length
theorem laws_markEntryS_nil (base : Option Addr) (cap : Nat) (k : Int) (w : World) : Calls Try.prog 160 #[.slice base 0 cap, .int .i64 k] w fun e w' => e = .returned (.int .i64 k) ∧ Below w.heap.size w w' := by
  go_enter Try.func160, Try.ntmps160
  go_wp2
  go_loopg [1, 5] 0 (fun gg s1 s5 wr => s5 = .int .i64 0 ∧ s1 = .int .i64 k ∧ Aside (RowKit.Below w.heap.size w wr))
  case atStart => exact ⟨rfl, rfl, Below.refl _ w⟩
  case round =>
    obtain ⟨rfl, rfl, BW⟩ := hrel
    go_wp2
    go_ret
    exact ⟨rfl, BW.out⟩
theorem laws_markEntryS_walk {cx : PM.Cx} (ok : Nat → Prop) (rows : List (List PM.C)) (blk off cap : Nat) (k : Int) (f : Nat → Nat → Value) (w : World) (hu : ∀ b, ok b → PM.Unf w b) (hb : ok blk) (hk : 0 ≤ k) (hk2 : k + (laws_markEntryS_c rows : Nat) ≤ 4611686018427387904) (hl : rows.length ≤ 4611686018427387904)
    (hc : ∀ i j, i < rows.length → j < 3 → w.cell? ⟨blk, off + (i * 3 + j), none⟩ = some (f i j)) (hs : ∀ i j, i < rows.length → j < 3 → PM.ShC cx w ok (([.int .i64, .int .i64, .int .i64] : List PM.K).getD j .bool) (PM.cOf rows i j) (f i j)) :
    Calls Try.prog 160 #[.slice (some ⟨blk, off, none⟩) rows.length cap, .int .i64 k] w fun e w' => e = .returned (.int .i64 (k + (laws_markEntryS_c rows : Nat))) ∧ PM.MarkTo ok w w' := by
  have HC : Aside (∀ i j, i < rows.length → j < 3 → w.cell? ⟨blk, off + (i * 3 + j), none⟩ = some (f i j)) := hc
  have HS : Aside (∀ i j, i < rows.length → j < 3 → PM.ShC cx w ok (([.int .i64, .int .i64, .int .i64] : List PM.K).getD j .bool) (PM.cOf rows i j) (f i j)) := hs
  have HU : Aside (∀ b, ok b → PM.Unf w b) := hu
  have HE : Aside (∀ i, i < rows.length → sumN (laws_markEntryS_e rows) i + laws_markEntryS_e rows i ≤ laws_markEntryS_c rows) := fun i hi => sumN_step _ hi
  have HT : Aside (laws_markEntryS_c rows = sumN (laws_markEntryS_e rows) rows.length) := rfl
  clear hc hs hu
  obtain ⟨tot, htot⟩ : ∃ tot, tot = laws_markEntryS_c rows := ⟨_, rfl⟩
  obtain ⟨n, hn⟩ : ∃ n, n = rows.length := ⟨_, rfl⟩
  rw [← htot] at hk2 ⊢
  rw [← hn] at hl ⊢
  go_enter Try.func160, Try.ntmps160
  go_wp2
  go_loopg [1, 5] n (fun gg s1 s5 wr => ∃ i : Nat, s5 = .int .i64 i ∧ s1 = .int .i64 (k + (sumN (laws_markEntryS_e rows) i : Nat)) ∧ i ≤ n ∧ n - i ≤ gg ∧ Aside (PM.MarkTo ok w wr))
  case atStart => exact ⟨0, rfl, by simp [sumN], by omega, by omega, PM.MarkTo.refl⟩
  case round =>
    obtain ⟨i, rfl, rfl, hin, hgg, HM⟩ := hrel
    by_cases hlt : i < n
    · have hltz : (i : Int) < (n : Int) := by omega
      have hlt' : i < rows.length := by omega
      have he := HE.out i hlt'
      rw [← htot] at he
      have s0 : PM.ShC cx w ok (.int .i64) (PM.cOf rows i 0) (f i 0) := HS.out i 0 hlt' (by omega)
      have q0 := HC.out i 0 hlt' (by omega)
      rw [show off + (i * 3 + 0) = off + i * 3 by omega] at q0
      obtain ⟨m0, em0⟩ := int_form s0
      rw [em0] at q0
      clear s0 em0
      have q0 : Aside (w.cell? ⟨blk, off + i * 3, none⟩ = some (.int .i64 m0)) := q0
      have s1 : PM.ShC cx w ok (.int .i64) (PM.cOf rows i 1) (f i 1) := HS.out i 1 hlt' (by omega)
      have q1 := HC.out i 1 hlt' (by omega)
      rw [show off + (i * 3 + 1) = off + i * 3 + 1 by omega] at q1
      obtain ⟨m1, em1⟩ := int_form s1
      rw [em1] at q1
      clear s1 em1
      have q1 : Aside (w.cell? ⟨blk, off + i * 3 + 1, none⟩ = some (.int .i64 m1)) := q1
      have s2 : PM.ShC cx w ok (.int .i64) (PM.cOf rows i 2) (f i 2) := HS.out i 2 hlt' (by omega)
      have q2 := HC.out i 2 hlt' (by omega)
      rw [show off + (i * 3 + 2) = off + i * 3 + 2 by omega] at q2
      obtain ⟨m2, em2⟩ := int_form s2
      rw [em2] at q2
      clear s2 em2
      have q2 : Aside (w.cell? ⟨blk, off + i * 3 + 2, none⟩ = some (.int .i64 m2)) := q2
      have hee : laws_markEntryS_e rows i = 3 := by simp only [laws_markEntryS_e]
      have HEE : Aside (laws_markEntryS_e rows i = 3) := hee
      rw [hee] at he
      obtain ⟨S, hS⟩ : ∃ S, S = sumN (laws_markEntryS_e rows) i := ⟨_, rfl⟩
      rw [← hS] at he ⊢
      have HSS : Aside (S = sumN (laws_markEntryS_e rows) i) := hS
      have HTT : Aside (tot = laws_markEntryS_c rows) := htot
      have HNN : Aside (n = rows.length) := hn
      have HLT : Aside (i < rows.length) := hlt'
      clear hS htot hn hlt' hee
      obtain ⟨y0wr, c0wr, _⟩ := PM.MarkTo.cell HM.out q0.out
      have f0wr : wr.frozen? ⟨blk, off + i * 3, none⟩ = false := PM.Unf.frozen (PM.MarkTo.unf HM.out (HU.out blk hb))
      go_wp2_with (first
        | (obtain ⟨w1, ew1⟩ := name_world (wr.setCell ⟨blk, off + i * 3, none⟩ (.int .i64 (k + (S : Int)))); rw [← ew1]; have Hw1 : Aside (PM.MarkTo ok w w1) := (by rw [ew1]; exact setI HM.out hb q0.out); clear ew1 c0wr f0wr; obtain ⟨y1w1, c1w1, _⟩ := PM.MarkTo.cell Hw1.out q1.out; have f1w1 : w1.frozen? ⟨blk, off + i * 3 + 1, none⟩ = false := PM.Unf.frozen (PM.MarkTo.unf Hw1.out (HU.out blk hb)))
        | (obtain ⟨w2, ew2⟩ := name_world (w1.setCell ⟨blk, off + i * 3 + 1, none⟩ (.int .i64 (k + (S : Int) + 1))); rw [← ew2]; have Hw2 : Aside (PM.MarkTo ok w w2) := (by rw [ew2]; exact setI Hw1.out hb q1.out); clear ew2 c1w1 f1w1; obtain ⟨y2w2, c2w2, _⟩ := PM.MarkTo.cell Hw2.out q2.out; have f2w2 : w2.frozen? ⟨blk, off + i * 3 + 2, none⟩ = false := PM.Unf.frozen (PM.MarkTo.unf Hw2.out (HU.out blk hb)); clear Hw1 w1)
        | (obtain ⟨w3, ew3⟩ := name_world (w2.setCell ⟨blk, off + i * 3 + 2, none⟩ (.int .i64 (k + (S : Int) + 1 + 1))); rw [← ew3]; have Hw3 : Aside (PM.MarkTo ok w w3) := (by rw [ew3]; exact setI Hw2.out hb q2.out); clear ew3 c2w2 f2w2; clear Hw2 w2)
        )
      go_roundg (n - (i + 1))
      case measure => omega
      case rel =>
        refine ⟨i + 1, by first | rfl | go_num, ?_, by omega, Nat.le_refl _, Hw3.out⟩
        have e1 : sumN (laws_markEntryS_e rows) (i + 1) = S + (3) := by rw [HSS.out, ← HEE.out]; rfl
        rw [e1]
        congr 1
        omega
    · have ein : i = n := by omega
      have etot : sumN (laws_markEntryS_e rows) i = tot := by rw [htot, HT.out, ein, hn]
      rw [etot]
      clear etot
      have hge : ¬ (i : Int) < (n : Int) := by omega
      go_wp2
      go_ret
      exact ⟨rfl, HM.out⟩
theorem laws_markEntryS_k {cx : PM.Cx} (ok : Nat → Prop) {w : World} {rows : List (List PM.C)} (v : Value) (k : Int) (hu : ∀ b, ok b → PM.Unf w b) (h : PM.ShSl cx w ok [.int .i64, .int .i64, .int .i64] rows v) (hk : 0 ≤ k) (hk2 : k + (laws_markEntryS_c rows : Nat) ≤ 4611686018427387904) :
    Calls Try.prog 160 #[v, .int .i64 k] w fun e w' => e = .returned (.int .i64 (k + (laws_markEntryS_c rows : Nat))) ∧ PM.MarkTo ok w w' := by
  rcases h with ⟨rfl, base, cap, rfl⟩ | ⟨⟨blk, off, spot⟩, cap, f, rfl, h2, h3, h4, h5⟩
  · refine (laws_markEntryS_nil base cap k w).mono fun e w' hq => ?_
    obtain ⟨rfl, hbw⟩ := hq
    exact ⟨by simp [laws_markEntryS_c, sumN], PM.MarkTo.of_below hbw⟩
  · have h2 : spot = none := h2
    subst h2
    exact laws_markEntryS_walk ok rows blk off cap k f w hu h3 hk hk2 (by have := sumN_len (laws_markEntryS_e rows) (fun i => by unfold laws_markEntryS_e; omega) rows.length; unfold laws_markEntryS_c at hk2; omega) h4 h5
def laws_markKidMarkS_e (rows : List (List PM.C)) (i : Nat) : Nat := 2 + laws_markIntS_c (PM.asRows (PM.cOf rows i 2))
def laws_markKidMarkS_c (rows : List (List PM.C)) : Nat := sumN (laws_markKidMarkS_e rows) rows.length
theorem laws_markKidMarkS_nil (base : Option Addr) (cap : Nat) (k : Int) (w : World) : Calls Try.prog 221 #[.slice base 0 cap, .int .i64 k] w fun e w' => e = .returned (.int .i64 k) ∧ Below w.heap.size w w' := by
  go_enter Try.func221, Try.ntmps221
  go_wp2
  go_loopg [1, 5] 0 (fun gg s1 s5 wr => s5 = .int .i64 0 ∧ s1 = .int .i64 k ∧ Aside (RowKit.Below w.heap.size w wr))
  case atStart => exact ⟨rfl, rfl, Below.refl _ w⟩
  case round =>
    obtain ⟨rfl, rfl, BW⟩ := hrel
    go_wp2
    go_ret
    exact ⟨rfl, BW.out⟩
theorem laws_markKidMarkS_walk {cx : PM.Cx} (h24 : SlT cx 24 (.ints 3 .i64) [.int .i64]) (ok : Nat → Prop) (rows : List (List PM.C)) (blk off cap : Nat) (k : Int) (f : Nat → Nat → Value) (w : World) (hu : ∀ b, ok b → PM.Unf w b) (hb : ok blk) (hk : 0 ≤ k) (hk2 : k + (laws_markKidMarkS_c rows : Nat) ≤ 4611686018427387904) (hl : rows.length ≤ 4611686018427387904)
    (hc : ∀ i j, i < rows.length → j < 3 → w.cell? ⟨blk, off + (i * 3 + j), none⟩ = some (f i j)) (hs : ∀ i j, i < rows.length → j < 3 → PM.ShC cx w ok (([.int .i64, .int .i64, .sl 24] : List PM.K).getD j .bool) (PM.cOf rows i j) (f i j)) :
    Calls Try.prog 221 #[.slice (some ⟨blk, off, none⟩) rows.length cap, .int .i64 k] w fun e w' => e = .returned (.int .i64 (k + (laws_markKidMarkS_c rows : Nat))) ∧ PM.MarkTo ok w w' := by
  have HC : Aside (∀ i j, i < rows.length → j < 3 → w.cell? ⟨blk, off + (i * 3 + j), none⟩ = some (f i j)) := hc
  have HS : Aside (∀ i j, i < rows.length → j < 3 → PM.ShC cx w ok (([.int .i64, .int .i64, .sl 24] : List PM.K).getD j .bool) (PM.cOf rows i j) (f i j)) := hs
  have HU : Aside (∀ b, ok b → PM.Unf w b) := hu
  have HE : Aside (∀ i, i < rows.length → sumN (laws_markKidMarkS_e rows) i + laws_markKidMarkS_e rows i ≤ laws_markKidMarkS_c rows) := fun i hi => sumN_step _ hi
  have HT : Aside (laws_markKidMarkS_c rows = sumN (laws_markKidMarkS_e rows) rows.length) := rfl
  clear hc hs hu
  obtain ⟨tot, htot⟩ : ∃ tot, tot = laws_markKidMarkS_c rows := ⟨_, rfl⟩
  obtain ⟨n, hn⟩ : ∃ n, n = rows.length := ⟨_, rfl⟩
  rw [← htot] at hk2 ⊢
  rw [← hn] at hl ⊢
  go_enter Try.func221, Try.ntmps221
  go_wp2
  go_loopg [1, 5] n (fun gg s1 s5 wr => ∃ i : Nat, s5 = .int .i64 i ∧ s1 = .int .i64 (k + (sumN (laws_markKidMarkS_e rows) i : Nat)) ∧ i ≤ n ∧ n - i ≤ gg ∧ Aside (PM.MarkTo ok w wr))
  case atStart => exact ⟨0, rfl, by simp [sumN], by omega, by omega, PM.MarkTo.refl⟩
  case round =>
    obtain ⟨i, rfl, rfl, hin, hgg, HM⟩ := hrel
    by_cases hlt : i < n
    · have hltz : (i : Int) < (n : Int) := by omega
      have hlt' : i < rows.length := by omega
      have he := HE.out i hlt'
      rw [← htot] at he
      have s0 : PM.ShC cx w ok (.int .i64) (PM.cOf rows i 0) (f i 0) := HS.out i 0 hlt' (by omega)
      have q0 := HC.out i 0 hlt' (by omega)
      rw [show off + (i * 3 + 0) = off + i * 3 by omega] at q0
      obtain ⟨m0, em0⟩ := int_form s0
      rw [em0] at q0
      clear s0 em0
      have q0 : Aside (w.cell? ⟨blk, off + i * 3, none⟩ = some (.int .i64 m0)) := q0
      have s1 : PM.ShC cx w ok (.int .i64) (PM.cOf rows i 1) (f i 1) := HS.out i 1 hlt' (by omega)
      have q1 := HC.out i 1 hlt' (by omega)
      rw [show off + (i * 3 + 1) = off + i * 3 + 1 by omega] at q1
      obtain ⟨m1, em1⟩ := int_form s1
      rw [em1] at q1
      clear s1 em1
      have q1 : Aside (w.cell? ⟨blk, off + i * 3 + 1, none⟩ = some (.int .i64 m1)) := q1
      have s2 : PM.ShC cx w ok (.sl 24) (PM.cOf rows i 2) (f i 2) := HS.out i 2 hlt' (by omega)
      have q2 := HC.out i 2 hlt' (by omega)
      rw [show off + (i * 3 + 2) = off + i * 3 + 2 by omega] at q2
      have form2 := sl_form s2
      obtain ⟨v2, ev2⟩ : ∃ x, x = f i 2 := ⟨_, rfl⟩
      rw [← ev2] at s2 q2 form2
      have s2 : Aside (PM.ShC cx w ok (.sl 24) (PM.cOf rows i 2) v2) := s2
      have form2 : Aside (∃ b n c, v2 = .slice b n c) := form2
      obtain ⟨n2, ex2⟩ : ∃ x, x = laws_markIntS_c (PM.asRows (PM.cOf rows i 2)) := ⟨_, rfl⟩
      have en2 : Aside (n2 = laws_markIntS_c (PM.asRows (PM.cOf rows i 2))) := ex2
      clear ex2
      have q2 : Aside (w.cell? ⟨blk, off + i * 3 + 2, none⟩ = some (v2)) := q2
      have hee : laws_markKidMarkS_e rows i = 2 + n2 := by simp only [laws_markKidMarkS_e, en2.out]
      have HEE : Aside (laws_markKidMarkS_e rows i = 2 + n2) := hee
      rw [hee] at he
      obtain ⟨S, hS⟩ : ∃ S, S = sumN (laws_markKidMarkS_e rows) i := ⟨_, rfl⟩
      rw [← hS] at he ⊢
      have HSS : Aside (S = sumN (laws_markKidMarkS_e rows) i) := hS
      have HTT : Aside (tot = laws_markKidMarkS_c rows) := htot
      have HNN : Aside (n = rows.length) := hn
      have HLT : Aside (i < rows.length) := hlt'
      clear hS htot hn hlt' hee ev2
      obtain ⟨y0wr, c0wr, _⟩ := PM.MarkTo.cell HM.out q0.out
      have f0wr : wr.frozen? ⟨blk, off + i * 3, none⟩ = false := PM.Unf.frozen (PM.MarkTo.unf HM.out (HU.out blk hb))
      go_wp2_with (first
        | (obtain ⟨w1, ew1⟩ := name_world (wr.setCell ⟨blk, off + i * 3, none⟩ (.int .i64 (k + (S : Int)))); rw [← ew1]; have Hw1 : Aside (PM.MarkTo ok w w1) := (by rw [ew1]; exact setI HM.out hb q0.out); clear ew1 c0wr f0wr; obtain ⟨y1w1, c1w1, _⟩ := PM.MarkTo.cell Hw1.out q1.out; have f1w1 : w1.frozen? ⟨blk, off + i * 3 + 1, none⟩ = false := PM.Unf.frozen (PM.MarkTo.unf Hw1.out (HU.out blk hb)))
        | (obtain ⟨w2, ew2⟩ := name_world (w1.setCell ⟨blk, off + i * 3 + 1, none⟩ (.int .i64 (k + (S : Int) + 1))); rw [← ew2]; have Hw2 : Aside (PM.MarkTo ok w w2) := (by rw [ew2]; exact setI Hw1.out hb q1.out); clear ew2 c1w1 f1w1; have c2w2 : w2.cell? ⟨blk, off + i * 3 + 2, none⟩ = some v2 := hdr Hw2.out q2.out form2.out; clear Hw1 w1)
        | (go_at_call 54; refine use_mark (ok := ok) (w := w) Hw2.out fun HW => ?_; refine ((laws_markIntS_k ok v2 _ (fun b hb => PM.MarkTo.unf HW (HU.out b hb)) (PM.ShSl.mark HW (sl_of h24 s2.out)) (by omega) (by rw [← en2.out]; omega)).mono fun e w3 hq => ?_); obtain ⟨rfl, hmw3⟩ := hq; rw [← en2.out]; have Hw3 : Aside (PM.MarkTo ok w w3) := HW.trans hmw3; clear HW hmw3 c2w2; clear Hw2 w2)
        )
      go_roundg (n - (i + 1))
      case measure => omega
      case rel =>
        refine ⟨i + 1, by first | rfl | go_num, ?_, by omega, Nat.le_refl _, Hw3.out⟩
        have e1 : sumN (laws_markKidMarkS_e rows) (i + 1) = S + (2 + n2) := by rw [HSS.out, ← HEE.out]; rfl
        rw [e1]
        congr 1
        omega
    · have ein : i = n := by omega
      have etot : sumN (laws_markKidMarkS_e rows) i = tot := by rw [htot, HT.out, ein, hn]
      rw [etot]
      clear etot
      have hge : ¬ (i : Int) < (n : Int) := by omega
      go_wp2
      go_ret
      exact ⟨rfl, HM.out⟩
theorem laws_markKidMarkS_k {cx : PM.Cx} (h24 : SlT cx 24 (.ints 3 .i64) [.int .i64]) (ok : Nat → Prop) {w : World} {rows : List (List PM.C)} (v : Value) (k : Int) (hu : ∀ b, ok b → PM.Unf w b) (h : PM.ShSl cx w ok [.int .i64, .int .i64, .sl 24] rows v) (hk : 0 ≤ k) (hk2 : k + (laws_markKidMarkS_c rows : Nat) ≤ 4611686018427387904) :
    Calls Try.prog 221 #[v, .int .i64 k] w fun e w' => e = .returned (.int .i64 (k + (laws_markKidMarkS_c rows : Nat))) ∧ PM.MarkTo ok w w' := by
  rcases h with ⟨rfl, base, cap, rfl⟩ | ⟨⟨blk, off, spot⟩, cap, f, rfl, h2, h3, h4, h5⟩
  · refine (laws_markKidMarkS_nil base cap k w).mono fun e w' hq => ?_
    obtain ⟨rfl, hbw⟩ := hq
    exact ⟨by simp [laws_markKidMarkS_c, sumN], PM.MarkTo.of_below hbw⟩
  · have h2 : spot = none := h2
    subst h2
    exact laws_markKidMarkS_walk h24 ok rows blk off cap k f w hu h3 hk hk2 (by have := sumN_len (laws_markKidMarkS_e rows) (fun i => by unfold laws_markKidMarkS_e; omega) rows.length; unfold laws_markKidMarkS_c at hk2; omega) h4 h5
def laws_markKidRunS_e (rows : List (List PM.C)) (i : Nat) : Nat := 11 + laws_markIntS_c (PM.asRows (PM.cOf rows i 6)) + laws_markEntryS_c (PM.asRows (PM.cOf rows i 7)) + laws_markRowS_c (PM.asRows (PM.cOf rows i 8)) + laws_markKidMarkS_c (PM.asRows (PM.cOf rows i 9))
def laws_markKidRunS_c (rows : List (List PM.C)) : Nat := sumN (laws_markKidRunS_e rows) rows.length
theorem laws_markKidRunS_nil (base : Option Addr) (cap : Nat) (k : Int) (w : World) : Calls Try.prog 161 #[.slice base 0 cap, .int .i64 k] w fun e w' => e = .returned (.int .i64 k) ∧ Below w.heap.size w w' := by
  go_enter Try.func161, Try.ntmps161
  go_wp2
  go_loopg [1, 5] 0 (fun gg s1 s5 wr => s5 = .int .i64 0 ∧ s1 = .int .i64 k ∧ Aside (RowKit.Below w.heap.size w wr))
  case atStart => exact ⟨rfl, rfl, Below.refl _ w⟩
  case round =>
    obtain ⟨rfl, rfl, BW⟩ := hrel
    go_wp2
    go_ret
    exact ⟨rfl, BW.out⟩
theorem laws_markKidRunS_walk {cx : PM.Cx} (h24 : SlT cx 24 (.ints 3 .i64) [.int .i64]) (h97 : SlT cx 97 (.vecs 225 3) [.int .i64, .int .i64, .int .i64]) (h31 : SlT cx 31 (.vecs 161 2) [.int .i64, .int .i64]) (h212 : SlT cx 212 (.rows 368) [.int .i64, .int .i64, .sl 24]) (ok : Nat → Prop) (rows : List (List PM.C)) (blk off cap : Nat) (k : Int) (f : Nat → Nat → Value) (w : World) (hu : ∀ b, ok b → PM.Unf w b) (hb : ok blk) (hk : 0 ≤ k) (hk2 : k + (laws_markKidRunS_c rows : Nat) ≤ 4611686018427387904) (hl : rows.length ≤ 4611686018427387904)
    (hc : ∀ i j, i < rows.length → j < 15 → w.cell? ⟨blk, off + (i * 15 + j), none⟩ = some (f i j)) (hs : ∀ i j, i < rows.length → j < 15 → PM.ShC cx w ok (([.int .i64, .int .i64, .int .i64, .int .i64, .int .i64, .int .i64, .sl 24, .sl 97, .sl 31, .sl 212, .bool, .int .i64, .int .i64, .int .i64, .int .i64] : List PM.K).getD j .bool) (PM.cOf rows i j) (f i j)) :
    Calls Try.prog 161 #[.slice (some ⟨blk, off, none⟩) rows.length cap, .int .i64 k] w fun e w' => e = .returned (.int .i64 (k + (laws_markKidRunS_c rows : Nat))) ∧ PM.MarkTo ok w w' := by
  have HC : Aside (∀ i j, i < rows.length → j < 15 → w.cell? ⟨blk, off + (i * 15 + j), none⟩ = some (f i j)) := hc
  have HS : Aside (∀ i j, i < rows.length → j < 15 → PM.ShC cx w ok (([.int .i64, .int .i64, .int .i64, .int .i64, .int .i64, .int .i64, .sl 24, .sl 97, .sl 31, .sl 212, .bool, .int .i64, .int .i64, .int .i64, .int .i64] : List PM.K).getD j .bool) (PM.cOf rows i j) (f i j)) := hs
  have HU : Aside (∀ b, ok b → PM.Unf w b) := hu
  have HE : Aside (∀ i, i < rows.length → sumN (laws_markKidRunS_e rows) i + laws_markKidRunS_e rows i ≤ laws_markKidRunS_c rows) := fun i hi => sumN_step _ hi
  have HT : Aside (laws_markKidRunS_c rows = sumN (laws_markKidRunS_e rows) rows.length) := rfl
  clear hc hs hu
  obtain ⟨tot, htot⟩ : ∃ tot, tot = laws_markKidRunS_c rows := ⟨_, rfl⟩
  obtain ⟨n, hn⟩ : ∃ n, n = rows.length := ⟨_, rfl⟩
  rw [← htot] at hk2 ⊢
  rw [← hn] at hl ⊢
  go_enter Try.func161, Try.ntmps161
  go_wp2
  go_loopg [1, 5] n (fun gg s1 s5 wr => ∃ i : Nat, s5 = .int .i64 i ∧ s1 = .int .i64 (k + (sumN (laws_markKidRunS_e rows) i : Nat)) ∧ i ≤ n ∧ n - i ≤ gg ∧ Aside (PM.MarkTo ok w wr))
  case atStart => exact ⟨0, rfl, by simp [sumN], by omega, by omega, PM.MarkTo.refl⟩
  case round =>
    obtain ⟨i, rfl, rfl, hin, hgg, HM⟩ := hrel
    by_cases hlt : i < n
    · have hltz : (i : Int) < (n : Int) := by omega
      have hlt' : i < rows.length := by omega
      have he := HE.out i hlt'
      rw [← htot] at he
      have s0 : PM.ShC cx w ok (.int .i64) (PM.cOf rows i 0) (f i 0) := HS.out i 0 hlt' (by omega)
      have q0 := HC.out i 0 hlt' (by omega)
      rw [show off + (i * 15 + 0) = off + i * 15 by omega] at q0
      obtain ⟨m0, em0⟩ := int_form s0
      rw [em0] at q0
      clear s0 em0
      have q0 : Aside (w.cell? ⟨blk, off + i * 15, none⟩ = some (.int .i64 m0)) := q0
      have s1 : PM.ShC cx w ok (.int .i64) (PM.cOf rows i 1) (f i 1) := HS.out i 1 hlt' (by omega)
      have q1 := HC.out i 1 hlt' (by omega)
      rw [show off + (i * 15 + 1) = off + i * 15 + 1 by omega] at q1
      obtain ⟨m1, em1⟩ := int_form s1
      rw [em1] at q1
      clear s1 em1
      have q1 : Aside (w.cell? ⟨blk, off + i * 15 + 1, none⟩ = some (.int .i64 m1)) := q1
      have s2 : PM.ShC cx w ok (.int .i64) (PM.cOf rows i 2) (f i 2) := HS.out i 2 hlt' (by omega)
      have q2 := HC.out i 2 hlt' (by omega)
      rw [show off + (i * 15 + 2) = off + i * 15 + 2 by omega] at q2
      obtain ⟨m2, em2⟩ := int_form s2
      rw [em2] at q2
      clear s2 em2
      have q2 : Aside (w.cell? ⟨blk, off + i * 15 + 2, none⟩ = some (.int .i64 m2)) := q2
      have s3 : PM.ShC cx w ok (.int .i64) (PM.cOf rows i 3) (f i 3) := HS.out i 3 hlt' (by omega)
      have q3 := HC.out i 3 hlt' (by omega)
      rw [show off + (i * 15 + 3) = off + i * 15 + 3 by omega] at q3
      obtain ⟨m3, em3⟩ := int_form s3
      rw [em3] at q3
      clear s3 em3
      have q3 : Aside (w.cell? ⟨blk, off + i * 15 + 3, none⟩ = some (.int .i64 m3)) := q3
      have s4 : PM.ShC cx w ok (.int .i64) (PM.cOf rows i 4) (f i 4) := HS.out i 4 hlt' (by omega)
      have q4 := HC.out i 4 hlt' (by omega)
      rw [show off + (i * 15 + 4) = off + i * 15 + 4 by omega] at q4
      obtain ⟨m4, em4⟩ := int_form s4
      rw [em4] at q4
      clear s4 em4
      have q4 : Aside (w.cell? ⟨blk, off + i * 15 + 4, none⟩ = some (.int .i64 m4)) := q4
      have s5 : PM.ShC cx w ok (.int .i64) (PM.cOf rows i 5) (f i 5) := HS.out i 5 hlt' (by omega)
      have q5 := HC.out i 5 hlt' (by omega)
      rw [show off + (i * 15 + 5) = off + i * 15 + 5 by omega] at q5
      obtain ⟨m5, em5⟩ := int_form s5
      rw [em5] at q5
      clear s5 em5
      have q5 : Aside (w.cell? ⟨blk, off + i * 15 + 5, none⟩ = some (.int .i64 m5)) := q5
      have s6 : PM.ShC cx w ok (.sl 24) (PM.cOf rows i 6) (f i 6) := HS.out i 6 hlt' (by omega)
      have q6 := HC.out i 6 hlt' (by omega)
      rw [show off + (i * 15 + 6) = off + i * 15 + 6 by omega] at q6
      have form6 := sl_form s6
      obtain ⟨v6, ev6⟩ : ∃ x, x = f i 6 := ⟨_, rfl⟩
      rw [← ev6] at s6 q6 form6
      have s6 : Aside (PM.ShC cx w ok (.sl 24) (PM.cOf rows i 6) v6) := s6
      have form6 : Aside (∃ b n c, v6 = .slice b n c) := form6
      obtain ⟨n6, ex6⟩ : ∃ x, x = laws_markIntS_c (PM.asRows (PM.cOf rows i 6)) := ⟨_, rfl⟩
      have en6 : Aside (n6 = laws_markIntS_c (PM.asRows (PM.cOf rows i 6))) := ex6
      clear ex6
      have q6 : Aside (w.cell? ⟨blk, off + i * 15 + 6, none⟩ = some (v6)) := q6
      have s7 : PM.ShC cx w ok (.sl 97) (PM.cOf rows i 7) (f i 7) := HS.out i 7 hlt' (by omega)
      have q7 := HC.out i 7 hlt' (by omega)
      rw [show off + (i * 15 + 7) = off + i * 15 + 7 by omega] at q7
      have form7 := sl_form s7
      obtain ⟨v7, ev7⟩ : ∃ x, x = f i 7 := ⟨_, rfl⟩
      rw [← ev7] at s7 q7 form7
      have s7 : Aside (PM.ShC cx w ok (.sl 97) (PM.cOf rows i 7) v7) := s7
      have form7 : Aside (∃ b n c, v7 = .slice b n c) := form7
      obtain ⟨n7, ex7⟩ : ∃ x, x = laws_markEntryS_c (PM.asRows (PM.cOf rows i 7)) := ⟨_, rfl⟩
      have en7 : Aside (n7 = laws_markEntryS_c (PM.asRows (PM.cOf rows i 7))) := ex7
      clear ex7
      have q7 : Aside (w.cell? ⟨blk, off + i * 15 + 7, none⟩ = some (v7)) := q7
      have s8 : PM.ShC cx w ok (.sl 31) (PM.cOf rows i 8) (f i 8) := HS.out i 8 hlt' (by omega)
      have q8 := HC.out i 8 hlt' (by omega)
      rw [show off + (i * 15 + 8) = off + i * 15 + 8 by omega] at q8
      have form8 := sl_form s8
      obtain ⟨v8, ev8⟩ : ∃ x, x = f i 8 := ⟨_, rfl⟩
      rw [← ev8] at s8 q8 form8
      have s8 : Aside (PM.ShC cx w ok (.sl 31) (PM.cOf rows i 8) v8) := s8
      have form8 : Aside (∃ b n c, v8 = .slice b n c) := form8
      obtain ⟨n8, ex8⟩ : ∃ x, x = laws_markRowS_c (PM.asRows (PM.cOf rows i 8)) := ⟨_, rfl⟩
      have en8 : Aside (n8 = laws_markRowS_c (PM.asRows (PM.cOf rows i 8))) := ex8
      clear ex8
      have q8 : Aside (w.cell? ⟨blk, off + i * 15 + 8, none⟩ = some (v8)) := q8
      have s9 : PM.ShC cx w ok (.sl 212) (PM.cOf rows i 9) (f i 9) := HS.out i 9 hlt' (by omega)
      have q9 := HC.out i 9 hlt' (by omega)
      rw [show off + (i * 15 + 9) = off + i * 15 + 9 by omega] at q9
      have form9 := sl_form s9
      obtain ⟨v9, ev9⟩ : ∃ x, x = f i 9 := ⟨_, rfl⟩
      rw [← ev9] at s9 q9 form9
      have s9 : Aside (PM.ShC cx w ok (.sl 212) (PM.cOf rows i 9) v9) := s9
      have form9 : Aside (∃ b n c, v9 = .slice b n c) := form9
      obtain ⟨n9, ex9⟩ : ∃ x, x = laws_markKidMarkS_c (PM.asRows (PM.cOf rows i 9)) := ⟨_, rfl⟩
      have en9 : Aside (n9 = laws_markKidMarkS_c (PM.asRows (PM.cOf rows i 9))) := ex9
      clear ex9
      have q9 : Aside (w.cell? ⟨blk, off + i * 15 + 9, none⟩ = some (v9)) := q9
      have s10 : PM.ShC cx w ok (.bool) (PM.cOf rows i 10) (f i 10) := HS.out i 10 hlt' (by omega)
      have q10 := HC.out i 10 hlt' (by omega)
      rw [show off + (i * 15 + 10) = off + i * 15 + 10 by omega] at q10
      obtain ⟨m10, em10⟩ := bool_form s10
      rw [em10] at q10
      clear s10 em10
      have q10 : Aside (w.cell? ⟨blk, off + i * 15 + 10, none⟩ = some (.bool m10)) := q10
      have s11 : PM.ShC cx w ok (.int .i64) (PM.cOf rows i 11) (f i 11) := HS.out i 11 hlt' (by omega)
      have q11 := HC.out i 11 hlt' (by omega)
      rw [show off + (i * 15 + 11) = off + i * 15 + 11 by omega] at q11
      obtain ⟨m11, em11⟩ := int_form s11
      rw [em11] at q11
      clear s11 em11
      have q11 : Aside (w.cell? ⟨blk, off + i * 15 + 11, none⟩ = some (.int .i64 m11)) := q11
      have s12 : PM.ShC cx w ok (.int .i64) (PM.cOf rows i 12) (f i 12) := HS.out i 12 hlt' (by omega)
      have q12 := HC.out i 12 hlt' (by omega)
      rw [show off + (i * 15 + 12) = off + i * 15 + 12 by omega] at q12
      obtain ⟨m12, em12⟩ := int_form s12
      rw [em12] at q12
      clear s12 em12
      have q12 : Aside (w.cell? ⟨blk, off + i * 15 + 12, none⟩ = some (.int .i64 m12)) := q12
      have s13 : PM.ShC cx w ok (.int .i64) (PM.cOf rows i 13) (f i 13) := HS.out i 13 hlt' (by omega)
      have q13 := HC.out i 13 hlt' (by omega)
      rw [show off + (i * 15 + 13) = off + i * 15 + 13 by omega] at q13
      obtain ⟨m13, em13⟩ := int_form s13
      rw [em13] at q13
      clear s13 em13
      have q13 : Aside (w.cell? ⟨blk, off + i * 15 + 13, none⟩ = some (.int .i64 m13)) := q13
      have s14 : PM.ShC cx w ok (.int .i64) (PM.cOf rows i 14) (f i 14) := HS.out i 14 hlt' (by omega)
      have q14 := HC.out i 14 hlt' (by omega)
      rw [show off + (i * 15 + 14) = off + i * 15 + 14 by omega] at q14
      obtain ⟨m14, em14⟩ := int_form s14
      rw [em14] at q14
      clear s14 em14
      have q14 : Aside (w.cell? ⟨blk, off + i * 15 + 14, none⟩ = some (.int .i64 m14)) := q14
      have hee : laws_markKidRunS_e rows i = 11 + n6 + n7 + n8 + n9 := by simp only [laws_markKidRunS_e, en6.out, en7.out, en8.out, en9.out]
      have HEE : Aside (laws_markKidRunS_e rows i = 11 + n6 + n7 + n8 + n9) := hee
      rw [hee] at he
      obtain ⟨S, hS⟩ : ∃ S, S = sumN (laws_markKidRunS_e rows) i := ⟨_, rfl⟩
      rw [← hS] at he ⊢
      have HSS : Aside (S = sumN (laws_markKidRunS_e rows) i) := hS
      have HTT : Aside (tot = laws_markKidRunS_c rows) := htot
      have HNN : Aside (n = rows.length) := hn
      have HLT : Aside (i < rows.length) := hlt'
      clear hS htot hn hlt' hee ev6 ev7 ev8 ev9
      obtain ⟨y0wr, c0wr, _⟩ := PM.MarkTo.cell HM.out q0.out
      have f0wr : wr.frozen? ⟨blk, off + i * 15, none⟩ = false := PM.Unf.frozen (PM.MarkTo.unf HM.out (HU.out blk hb))
      go_wp2_with (first
        | (obtain ⟨w1, ew1⟩ := name_world (wr.setCell ⟨blk, off + i * 15, none⟩ (.int .i64 (k + (S : Int)))); rw [← ew1]; have Hw1 : Aside (PM.MarkTo ok w w1) := (by rw [ew1]; exact setI HM.out hb q0.out); clear ew1 c0wr f0wr; obtain ⟨y1w1, c1w1, _⟩ := PM.MarkTo.cell Hw1.out q1.out; have f1w1 : w1.frozen? ⟨blk, off + i * 15 + 1, none⟩ = false := PM.Unf.frozen (PM.MarkTo.unf Hw1.out (HU.out blk hb)))
        | (obtain ⟨w2, ew2⟩ := name_world (w1.setCell ⟨blk, off + i * 15 + 1, none⟩ (.int .i64 (k + (S : Int) + 1))); rw [← ew2]; have Hw2 : Aside (PM.MarkTo ok w w2) := (by rw [ew2]; exact setI Hw1.out hb q1.out); clear ew2 c1w1 f1w1; obtain ⟨y2w2, c2w2, _⟩ := PM.MarkTo.cell Hw2.out q2.out; have f2w2 : w2.frozen? ⟨blk, off + i * 15 + 2, none⟩ = false := PM.Unf.frozen (PM.MarkTo.unf Hw2.out (HU.out blk hb)); clear Hw1 w1)
        | (obtain ⟨w3, ew3⟩ := name_world (w2.setCell ⟨blk, off + i * 15 + 2, none⟩ (.int .i64 (k + (S : Int) + 1 + 1))); rw [← ew3]; have Hw3 : Aside (PM.MarkTo ok w w3) := (by rw [ew3]; exact setI Hw2.out hb q2.out); clear ew3 c2w2 f2w2; obtain ⟨y3w3, c3w3, _⟩ := PM.MarkTo.cell Hw3.out q3.out; have f3w3 : w3.frozen? ⟨blk, off + i * 15 + 3, none⟩ = false := PM.Unf.frozen (PM.MarkTo.unf Hw3.out (HU.out blk hb)); clear Hw2 w2)
        | (obtain ⟨w4, ew4⟩ := name_world (w3.setCell ⟨blk, off + i * 15 + 3, none⟩ (.int .i64 (k + (S : Int) + 1 + 1 + 1))); rw [← ew4]; have Hw4 : Aside (PM.MarkTo ok w w4) := (by rw [ew4]; exact setI Hw3.out hb q3.out); clear ew4 c3w3 f3w3; obtain ⟨y4w4, c4w4, _⟩ := PM.MarkTo.cell Hw4.out q4.out; have f4w4 : w4.frozen? ⟨blk, off + i * 15 + 4, none⟩ = false := PM.Unf.frozen (PM.MarkTo.unf Hw4.out (HU.out blk hb)); clear Hw3 w3)
        | (obtain ⟨w5, ew5⟩ := name_world (w4.setCell ⟨blk, off + i * 15 + 4, none⟩ (.int .i64 (k + (S : Int) + 1 + 1 + 1 + 1))); rw [← ew5]; have Hw5 : Aside (PM.MarkTo ok w w5) := (by rw [ew5]; exact setI Hw4.out hb q4.out); clear ew5 c4w4 f4w4; obtain ⟨y5w5, c5w5, _⟩ := PM.MarkTo.cell Hw5.out q5.out; have f5w5 : w5.frozen? ⟨blk, off + i * 15 + 5, none⟩ = false := PM.Unf.frozen (PM.MarkTo.unf Hw5.out (HU.out blk hb)); clear Hw4 w4)
        | (obtain ⟨w6, ew6⟩ := name_world (w5.setCell ⟨blk, off + i * 15 + 5, none⟩ (.int .i64 (k + (S : Int) + 1 + 1 + 1 + 1 + 1))); rw [← ew6]; have Hw6 : Aside (PM.MarkTo ok w w6) := (by rw [ew6]; exact setI Hw5.out hb q5.out); clear ew6 c5w5 f5w5; have c6w6 : w6.cell? ⟨blk, off + i * 15 + 6, none⟩ = some v6 := hdr Hw6.out q6.out form6.out; clear Hw5 w5)
        | (go_at_call 54; refine use_mark (ok := ok) (w := w) Hw6.out fun HW => ?_; refine ((laws_markIntS_k ok v6 _ (fun b hb => PM.MarkTo.unf HW (HU.out b hb)) (PM.ShSl.mark HW (sl_of h24 s6.out)) (by omega) (by rw [← en6.out]; omega)).mono fun e w7 hq => ?_); obtain ⟨rfl, hmw7⟩ := hq; rw [← en6.out]; have Hw7 : Aside (PM.MarkTo ok w w7) := HW.trans hmw7; clear HW hmw7 c6w6; have c7w7 : w7.cell? ⟨blk, off + i * 15 + 7, none⟩ = some v7 := hdr Hw7.out q7.out form7.out; clear Hw6 w6)
        | (go_at_call 160; refine use_mark (ok := ok) (w := w) Hw7.out fun HW => ?_; refine ((laws_markEntryS_k ok v7 _ (fun b hb => PM.MarkTo.unf HW (HU.out b hb)) (PM.ShSl.mark HW (sl_of h97 s7.out)) (by omega) (by rw [← en7.out]; omega)).mono fun e w8 hq => ?_); obtain ⟨rfl, hmw8⟩ := hq; rw [← en7.out]; have Hw8 : Aside (PM.MarkTo ok w w8) := HW.trans hmw8; clear HW hmw8 c7w7; have c8w8 : w8.cell? ⟨blk, off + i * 15 + 8, none⟩ = some v8 := hdr Hw8.out q8.out form8.out; clear Hw7 w7)
        | (go_at_call 68; refine use_mark (ok := ok) (w := w) Hw8.out fun HW => ?_; refine ((laws_markRowS_k ok v8 _ (fun b hb => PM.MarkTo.unf HW (HU.out b hb)) (PM.ShSl.mark HW (sl_of h31 s8.out)) (by omega) (by rw [← en8.out]; omega)).mono fun e w9 hq => ?_); obtain ⟨rfl, hmw9⟩ := hq; rw [← en8.out]; have Hw9 : Aside (PM.MarkTo ok w w9) := HW.trans hmw9; clear HW hmw9 c8w8; have c9w9 : w9.cell? ⟨blk, off + i * 15 + 9, none⟩ = some v9 := hdr Hw9.out q9.out form9.out; clear Hw8 w8)
        | (go_at_call 221; refine use_mark (ok := ok) (w := w) Hw9.out fun HW => ?_; refine ((laws_markKidMarkS_k h24 ok v9 _ (fun b hb => PM.MarkTo.unf HW (HU.out b hb)) (PM.ShSl.mark HW (sl_of h212 s9.out)) (by omega) (by rw [← en9.out]; omega)).mono fun e w10 hq => ?_); obtain ⟨rfl, hmw10⟩ := hq; rw [← en9.out]; have Hw10 : Aside (PM.MarkTo ok w w10) := HW.trans hmw10; clear HW hmw10 c9w9; obtain ⟨y10w10, c10w10, _⟩ := PM.MarkTo.cell Hw10.out q10.out; have f10w10 : w10.frozen? ⟨blk, off + i * 15 + 10, none⟩ = false := PM.Unf.frozen (PM.MarkTo.unf Hw10.out (HU.out blk hb)); clear Hw9 w9; obtain ⟨kk, ekk⟩ : ∃ x, x = k + (S : Int) + 1 + 1 + 1 + 1 + 1 + 1 + (n6 : Int) + (n7 : Int) + (n8 : Int) + (n9 : Int) := ⟨_, rfl⟩; rw [← ekk]; have hkk : 0 ≤ kk := (by omega); have hkk2 : kk + 5 ≤ 4611686018427387904 := (by omega); have EKK : Aside (kk = k + (S : Int) + 1 + 1 + 1 + 1 + 1 + 1 + (n6 : Int) + (n7 : Int) + (n8 : Int) + (n9 : Int)) := ekk; clear ekk)
        | (obtain ⟨w11, ew11⟩ := name_world (w10.setCell ⟨blk, off + i * 15 + 10, none⟩ (.bool ((kk) % 3 == 0))); rw [← ew11]; have Hw11 : Aside (PM.MarkTo ok w w11) := (by rw [ew11]; exact setB Hw10.out hb q10.out); clear ew11 c10w10 f10w10; obtain ⟨y11w11, c11w11, _⟩ := PM.MarkTo.cell Hw11.out q11.out; have f11w11 : w11.frozen? ⟨blk, off + i * 15 + 11, none⟩ = false := PM.Unf.frozen (PM.MarkTo.unf Hw11.out (HU.out blk hb)); clear Hw10 w10)
        | (obtain ⟨w12, ew12⟩ := name_world (w11.setCell ⟨blk, off + i * 15 + 11, none⟩ (.int .i64 (kk + 1))); rw [← ew12]; have Hw12 : Aside (PM.MarkTo ok w w12) := (by rw [ew12]; exact setI Hw11.out hb q11.out); clear ew12 c11w11 f11w11; obtain ⟨y12w12, c12w12, _⟩ := PM.MarkTo.cell Hw12.out q12.out; have f12w12 : w12.frozen? ⟨blk, off + i * 15 + 12, none⟩ = false := PM.Unf.frozen (PM.MarkTo.unf Hw12.out (HU.out blk hb)); clear Hw11 w11)
        | (obtain ⟨w13, ew13⟩ := name_world (w12.setCell ⟨blk, off + i * 15 + 12, none⟩ (.int .i64 (kk + 1 + 1))); rw [← ew13]; have Hw13 : Aside (PM.MarkTo ok w w13) := (by rw [ew13]; exact setI Hw12.out hb q12.out); clear ew13 c12w12 f12w12; obtain ⟨y13w13, c13w13, _⟩ := PM.MarkTo.cell Hw13.out q13.out; have f13w13 : w13.frozen? ⟨blk, off + i * 15 + 13, none⟩ = false := PM.Unf.frozen (PM.MarkTo.unf Hw13.out (HU.out blk hb)); clear Hw12 w12)
        | (obtain ⟨w14, ew14⟩ := name_world (w13.setCell ⟨blk, off + i * 15 + 13, none⟩ (.int .i64 (kk + 1 + 1 + 1))); rw [← ew14]; have Hw14 : Aside (PM.MarkTo ok w w14) := (by rw [ew14]; exact setI Hw13.out hb q13.out); clear ew14 c13w13 f13w13; obtain ⟨y14w14, c14w14, _⟩ := PM.MarkTo.cell Hw14.out q14.out; have f14w14 : w14.frozen? ⟨blk, off + i * 15 + 14, none⟩ = false := PM.Unf.frozen (PM.MarkTo.unf Hw14.out (HU.out blk hb)); clear Hw13 w13)
        | (obtain ⟨w15, ew15⟩ := name_world (w14.setCell ⟨blk, off + i * 15 + 14, none⟩ (.int .i64 (kk + 1 + 1 + 1 + 1))); rw [← ew15]; have Hw15 : Aside (PM.MarkTo ok w w15) := (by rw [ew15]; exact setI Hw14.out hb q14.out); clear ew15 c14w14 f14w14; clear Hw14 w14)
        )
      go_roundg (n - (i + 1))
      case measure => omega
      case rel =>
        refine ⟨i + 1, by first | rfl | go_num, ?_, by omega, Nat.le_refl _, Hw15.out⟩
        have e1 : sumN (laws_markKidRunS_e rows) (i + 1) = S + (11 + n6 + n7 + n8 + n9) := by rw [HSS.out, ← HEE.out]; rfl
        rw [e1]
        rw [EKK.out]
        congr 1
        omega
    · have ein : i = n := by omega
      have etot : sumN (laws_markKidRunS_e rows) i = tot := by rw [htot, HT.out, ein, hn]
      rw [etot]
      clear etot
      have hge : ¬ (i : Int) < (n : Int) := by omega
      go_wp2
      go_ret
      exact ⟨rfl, HM.out⟩
theorem laws_markKidRunS_k {cx : PM.Cx} (h24 : SlT cx 24 (.ints 3 .i64) [.int .i64]) (h97 : SlT cx 97 (.vecs 225 3) [.int .i64, .int .i64, .int .i64]) (h31 : SlT cx 31 (.vecs 161 2) [.int .i64, .int .i64]) (h212 : SlT cx 212 (.rows 368) [.int .i64, .int .i64, .sl 24]) (ok : Nat → Prop) {w : World} {rows : List (List PM.C)} (v : Value) (k : Int) (hu : ∀ b, ok b → PM.Unf w b) (h : PM.ShSl cx w ok [.int .i64, .int .i64, .int .i64, .int .i64, .int .i64, .int .i64, .sl 24, .sl 97, .sl 31, .sl 212, .bool, .int .i64, .int .i64, .int .i64, .int .i64] rows v) (hk : 0 ≤ k) (hk2 : k + (laws_markKidRunS_c rows : Nat) ≤ 4611686018427387904) :
    Calls Try.prog 161 #[v, .int .i64 k] w fun e w' => e = .returned (.int .i64 (k + (laws_markKidRunS_c rows : Nat))) ∧ PM.MarkTo ok w w' := by
  rcases h with ⟨rfl, base, cap, rfl⟩ | ⟨⟨blk, off, spot⟩, cap, f, rfl, h2, h3, h4, h5⟩
  · refine (laws_markKidRunS_nil base cap k w).mono fun e w' hq => ?_
    obtain ⟨rfl, hbw⟩ := hq
    exact ⟨by simp [laws_markKidRunS_c, sumN], PM.MarkTo.of_below hbw⟩
  · have h2 : spot = none := h2
    subst h2
    exact laws_markKidRunS_walk h24 h97 h31 h212 ok rows blk off cap k f w hu h3 hk hk2 (by have := sumN_len (laws_markKidRunS_e rows) (fun i => by unfold laws_markKidRunS_e; omega) rows.length; unfold laws_markKidRunS_c at hk2; omega) h4 h5
def laws_markFamily_c (r4 : List (List PM.C)) (r5 : List (List PM.C)) (r6 : List (List PM.C)) (r7 : List (List PM.C)) (r8 : List (List PM.C)) (r9 : List (List PM.C)) : Nat := laws_markIntS_c r4 + laws_markRowS_c r5 + laws_markEntryS_c r6 + laws_markIntS_c r7 + laws_markRowS_c r8 + laws_markKidRunS_c r9
theorem laws_markFamily_k {cx : PM.Cx} (h24 : SlT cx 24 (.ints 3 .i64) [.int .i64]) (h31 : SlT cx 31 (.vecs 161 2) [.int .i64, .int .i64]) (h97 : SlT cx 97 (.vecs 225 3) [.int .i64, .int .i64, .int .i64]) (h98 : SlT cx 98 (.rows 214) [.int .i64, .int .i64, .int .i64, .int .i64, .int .i64, .int .i64, .sl 24, .sl 97, .sl 31, .sl 212, .bool, .int .i64, .int .i64, .int .i64, .int .i64]) (h212 : SlT cx 212 (.rows 368) [.int .i64, .int .i64, .sl 24]) (ok : Nat → Prop) {w : World} (x0 : Int) (x1 : Int) (x2 : Int) (x3 : Bool) {r4 : List (List PM.C)} (v4 : Value) {r5 : List (List PM.C)} (v5 : Value) {r6 : List (List PM.C)} (v6 : Value) {r7 : List (List PM.C)} (v7 : Value) {r8 : List (List PM.C)} (v8 : Value) {r9 : List (List PM.C)} (v9 : Value) (k : Int) (hu : ∀ b, ok b → PM.Unf w b) (s4 : PM.ShSl cx w ok [.int .i64] r4 v4) (s5 : PM.ShSl cx w ok [.int .i64, .int .i64] r5 v5) (s6 : PM.ShSl cx w ok [.int .i64, .int .i64, .int .i64] r6 v6) (s7 : PM.ShSl cx w ok [.int .i64] r7 v7) (s8 : PM.ShSl cx w ok [.int .i64, .int .i64] r8 v8) (s9 : PM.ShSl cx w ok [.int .i64, .int .i64, .int .i64, .int .i64, .int .i64, .int .i64, .sl 24, .sl 97, .sl 31, .sl 212, .bool, .int .i64, .int .i64, .int .i64, .int .i64] r9 v9) (hk : 0 ≤ k) (hk2 : k + (laws_markFamily_c r4 r5 r6 r7 r8 r9 : Nat) ≤ 4611686018427387904) :
    Calls Try.prog 67 #[.agg #[.int .i64 x0, .int .i64 x1, .int .i64 x2, .bool x3, v4, v5, v6, v7, v8, v9], .int .i64 k] w fun e w' => e = .returned (.int .i64 (k + (laws_markFamily_c r4 r5 r6 r7 r8 r9 : Nat))) ∧ PM.MarkTo ok w w' := by
  have HU : Aside (∀ b, ok b → PM.Unf w b) := hu
  clear hu
  have s4 : Aside (PM.ShSl cx w ok [.int .i64] r4 v4) := s4
  obtain ⟨n4, ex4⟩ : ∃ x, x = laws_markIntS_c r4 := ⟨_, rfl⟩
  have en4 : Aside (n4 = laws_markIntS_c r4) := ex4
  clear ex4
  have s5 : Aside (PM.ShSl cx w ok [.int .i64, .int .i64] r5 v5) := s5
  obtain ⟨n5, ex5⟩ : ∃ x, x = laws_markRowS_c r5 := ⟨_, rfl⟩
  have en5 : Aside (n5 = laws_markRowS_c r5) := ex5
  clear ex5
  have s6 : Aside (PM.ShSl cx w ok [.int .i64, .int .i64, .int .i64] r6 v6) := s6
  obtain ⟨n6, ex6⟩ : ∃ x, x = laws_markEntryS_c r6 := ⟨_, rfl⟩
  have en6 : Aside (n6 = laws_markEntryS_c r6) := ex6
  clear ex6
  have s7 : Aside (PM.ShSl cx w ok [.int .i64] r7 v7) := s7
  obtain ⟨n7, ex7⟩ : ∃ x, x = laws_markIntS_c r7 := ⟨_, rfl⟩
  have en7 : Aside (n7 = laws_markIntS_c r7) := ex7
  clear ex7
  have s8 : Aside (PM.ShSl cx w ok [.int .i64, .int .i64] r8 v8) := s8
  obtain ⟨n8, ex8⟩ : ∃ x, x = laws_markRowS_c r8 := ⟨_, rfl⟩
  have en8 : Aside (n8 = laws_markRowS_c r8) := ex8
  clear ex8
  have s9 : Aside (PM.ShSl cx w ok [.int .i64, .int .i64, .int .i64, .int .i64, .int .i64, .int .i64, .sl 24, .sl 97, .sl 31, .sl 212, .bool, .int .i64, .int .i64, .int .i64, .int .i64] r9 v9) := s9
  obtain ⟨n9, ex9⟩ : ∃ x, x = laws_markKidRunS_c r9 := ⟨_, rfl⟩
  have en9 : Aside (n9 = laws_markKidRunS_c r9) := ex9
  clear ex9
  have hcc : laws_markFamily_c r4 r5 r6 r7 r8 r9 = n4 + n5 + n6 + n7 + n8 + n9 := by simp only [laws_markFamily_c, en4.out, en5.out, en6.out, en7.out, en8.out, en9.out]
  rw [hcc] at hk2 ⊢
  clear hcc
  obtain ⟨W0, eW0⟩ : ∃ X, X = w.alloc (Obj.cells #[.int .i64 x0, .int .i64 x1, .int .i64 x2, .bool x3, v4, v5, v6, v7, v8, v9] 100) := ⟨_, rfl⟩
  have HW0 : Aside (PM.MarkTo ok w W0) := by rw [eW0]; exact PM.MarkTo.of_below ((Below.refl _ w).alloc (Nat.le_refl _) _)
  have nok : ¬ ok w.heap.size := fun h => by
    obtain ⟨c, t, h⟩ := HU.out _ h
    rw [Array.getElem?_eq_none (Nat.le_refl _)] at h
    cases h
  have HB : Aside (∀ (W : World), PM.MarkTo ok W0 W → ∀ (j : Nat) (v : Value), (#[.int .i64 x0, .int .i64 x1, .int .i64 x2, .bool x3, v4, v5, v6, v7, v8, v9] : Array Value)[j]? = some v → W.cell? ⟨w.heap.size, j, none⟩ = some v) := fun W hW j v hv => by
    have h0 : W0.heap[w.heap.size]? = some (Obj.cells #[.int .i64 x0, .int .i64 x1, .int .i64 x2, .bool x3, v4, v5, v6, v7, v8, v9] 100) := by rw [eW0]; exact heap_alloc_new w _
    have hlt : w.heap.size < W0.heap.size := by rw [eW0]; simp
    have h1 := (hW.block _ hlt nok).trans h0
    simp only [World.cell?, h1, Option.isSome_none, Bool.false_eq_true, if_false]
    exact hv
  have EW0 : Aside (W0 = w.alloc (Obj.cells #[.int .i64 x0, .int .i64 x1, .int .i64 x2, .bool x3, v4, v5, v6, v7, v8, v9] 100)) := eW0
  clear eW0
  go_enter Try.func67, Try.ntmps67
  go_wp2_with (first
    | (go_at_call 54; rw [← EW0.out]; refine use_mark (ok := ok) (w := W0) PM.MarkTo.refl fun HW => ?_; refine ((laws_markIntS_k ok v4 _ (fun b hb => PM.MarkTo.unf (HW0.out.trans HW) (HU.out b hb)) (PM.ShSl.mark (HW0.out.trans HW) s4.out) (by omega) (by rw [← en4.out]; omega)).mono fun e w1 hq => ?_); obtain ⟨rfl, hmw1⟩ := hq; rw [← en4.out]; have Hw1 : Aside (PM.MarkTo ok W0 w1) := HW.trans hmw1; clear HW hmw1; have cw1 : w1.cell? ⟨w.heap.size, 5, none⟩ = some v5 := HB.out _ Hw1.out _ _ rfl)
    | (go_at_call 68; refine use_mark (ok := ok) (w := W0) Hw1.out fun HW => ?_; refine ((laws_markRowS_k ok v5 _ (fun b hb => PM.MarkTo.unf (HW0.out.trans HW) (HU.out b hb)) (PM.ShSl.mark (HW0.out.trans HW) s5.out) (by omega) (by rw [← en5.out]; omega)).mono fun e w2 hq => ?_); obtain ⟨rfl, hmw2⟩ := hq; rw [← en5.out]; have Hw2 : Aside (PM.MarkTo ok W0 w2) := HW.trans hmw2; clear HW hmw2; have cw2 : w2.cell? ⟨w.heap.size, 6, none⟩ = some v6 := HB.out _ Hw2.out _ _ rfl)
    | (go_at_call 160; refine use_mark (ok := ok) (w := W0) Hw2.out fun HW => ?_; refine ((laws_markEntryS_k ok v6 _ (fun b hb => PM.MarkTo.unf (HW0.out.trans HW) (HU.out b hb)) (PM.ShSl.mark (HW0.out.trans HW) s6.out) (by omega) (by rw [← en6.out]; omega)).mono fun e w3 hq => ?_); obtain ⟨rfl, hmw3⟩ := hq; rw [← en6.out]; have Hw3 : Aside (PM.MarkTo ok W0 w3) := HW.trans hmw3; clear HW hmw3; have cw3 : w3.cell? ⟨w.heap.size, 7, none⟩ = some v7 := HB.out _ Hw3.out _ _ rfl)
    | (go_at_call 54; refine use_mark (ok := ok) (w := W0) Hw3.out fun HW => ?_; refine ((laws_markIntS_k ok v7 _ (fun b hb => PM.MarkTo.unf (HW0.out.trans HW) (HU.out b hb)) (PM.ShSl.mark (HW0.out.trans HW) s7.out) (by omega) (by rw [← en7.out]; omega)).mono fun e w4 hq => ?_); obtain ⟨rfl, hmw4⟩ := hq; rw [← en7.out]; have Hw4 : Aside (PM.MarkTo ok W0 w4) := HW.trans hmw4; clear HW hmw4; have cw4 : w4.cell? ⟨w.heap.size, 8, none⟩ = some v8 := HB.out _ Hw4.out _ _ rfl)
    | (go_at_call 68; refine use_mark (ok := ok) (w := W0) Hw4.out fun HW => ?_; refine ((laws_markRowS_k ok v8 _ (fun b hb => PM.MarkTo.unf (HW0.out.trans HW) (HU.out b hb)) (PM.ShSl.mark (HW0.out.trans HW) s8.out) (by omega) (by rw [← en8.out]; omega)).mono fun e w5 hq => ?_); obtain ⟨rfl, hmw5⟩ := hq; rw [← en8.out]; have Hw5 : Aside (PM.MarkTo ok W0 w5) := HW.trans hmw5; clear HW hmw5; have cw5 : w5.cell? ⟨w.heap.size, 9, none⟩ = some v9 := HB.out _ Hw5.out _ _ rfl)
    | (go_at_call 161; refine use_mark (ok := ok) (w := W0) Hw5.out fun HW => ?_; refine ((laws_markKidRunS_k h24 h97 h31 h212 ok v9 _ (fun b hb => PM.MarkTo.unf (HW0.out.trans HW) (HU.out b hb)) (PM.ShSl.mark (HW0.out.trans HW) s9.out) (by omega) (by rw [← en9.out]; omega)).mono fun e w6 hq => ?_); obtain ⟨rfl, hmw6⟩ := hq; rw [← en9.out]; have Hw6 : Aside (PM.MarkTo ok W0 w6) := HW.trans hmw6; clear HW hmw6)
    )
  go_ret
  refine ⟨?_, HW0.out.trans Hw6.out⟩
  refine congrArg (fun z : Int => Ending.returned (Value.int IntKind.i64 z)) ?_
  omega
abbrev laws_markFamily_T := (Int) → (Int) → (Int) → (Bool) → (List Int) → (List (List Int)) → (List (List Int)) → (List Int) → (List (List Int)) → (List (List PM.C)) → (Int) → ((Int) → PM.R) → PM.R
def laws_markFamily_w (c : laws_markFamily_T) (ds : List PM.V) (k : PM.V → PM.R) : PM.R :=
  match ds with
  | [.agg [.int .i64 a_Rv, .int .i64 a_Clock, .int .i64 a_Owner, .bool a_Lost, .arr (.ints 3 .i64 a_Regs), .arr (.vecs 161 2 a_Start), .arr (.vecs 225 3 a_Buf), .arr (.ints 3 .i64 a_Order), .arr (.vecs 161 2 a_Reads), .arr (.rows 214 a_Kids)], .int .i64 k_] => c a_Rv a_Clock a_Owner a_Lost a_Regs a_Start a_Buf a_Order a_Reads a_Kids k_ (fun r0 => k (.int .i64 r0))
  | _ => none
def laws_markFamily (A : PM.Prims) : laws_markFamily_T := fun a_Rv a_Clock a_Owner a_Lost a_Regs a_Start a_Buf a_Order a_Reads a_Kids k0 k =>
  if 0 ≤ k0 ∧ k0 + (laws_markFamily_c (PM.rowsOf (.ints 3 .i64 a_Regs)) (PM.rowsOf (.vecs 161 2 a_Start)) (PM.rowsOf (.vecs 225 3 a_Buf)) (PM.rowsOf (.ints 3 .i64 a_Order)) (PM.rowsOf (.vecs 161 2 a_Reads)) (PM.rowsOf (.rows 214 a_Kids)) : Nat) ≤ 4611686018427387904 ∧ (PM.rowsOf (.ints 3 .i64 a_Regs)).length ≤ 4611686018427387904 ∧ (PM.rowsOf (.vecs 161 2 a_Start)).length ≤ 4611686018427387904 ∧ (PM.rowsOf (.vecs 225 3 a_Buf)).length ≤ 4611686018427387904 ∧ (PM.rowsOf (.ints 3 .i64 a_Order)).length ≤ 4611686018427387904 ∧ (PM.rowsOf (.vecs 161 2 a_Reads)).length ≤ 4611686018427387904 ∧ (PM.rowsOf (.rows 214 a_Kids)).length ≤ 4611686018427387904 then k (k0 + (laws_markFamily_c (PM.rowsOf (.ints 3 .i64 a_Regs)) (PM.rowsOf (.vecs 161 2 a_Start)) (PM.rowsOf (.vecs 225 3 a_Buf)) (PM.rowsOf (.ints 3 .i64 a_Order)) (PM.rowsOf (.vecs 161 2 a_Reads)) (PM.rowsOf (.rows 214 a_Kids)) : Nat)) else none
theorem laws_markFamily_mk {cx : PM.Cx} (h24 : SlT cx 24 (.ints 3 .i64) [.int .i64] := by exact ⟨_, rfl, rfl, rfl⟩) (h31 : SlT cx 31 (.vecs 161 2) [.int .i64, .int .i64] := by exact ⟨_, rfl, rfl, rfl⟩) (h97 : SlT cx 97 (.vecs 225 3) [.int .i64, .int .i64, .int .i64] := by exact ⟨_, rfl, rfl, rfl⟩) (h98 : SlT cx 98 (.rows 214) [.int .i64, .int .i64, .int .i64, .int .i64, .int .i64, .int .i64, .sl 24, .sl 97, .sl 31, .sl 212, .bool, .int .i64, .int .i64, .int .i64, .int .i64] := by exact ⟨_, rfl, rfl, rfl⟩) (h212 : SlT cx 212 (.rows 368) [.int .i64, .int .i64, .sl 24] := by exact ⟨_, rfl, rfl, rfl⟩) (g24 : PM.shAK cx (.ints 3 .i64) = some [.int .i64] := by rfl) (g31 : PM.shAK cx (.vecs 161 2) = some [.int .i64, .int .i64] := by rfl) (g97 : PM.shAK cx (.vecs 225 3) = some [.int .i64, .int .i64, .int .i64] := by rfl) (g98 : PM.shAK cx (.rows 214) = some [.int .i64, .int .i64, .int .i64, .int .i64, .int .i64, .int .i64, .sl 24, .sl 97, .sl 31, .sl 212, .bool, .int .i64, .int .i64, .int .i64, .int .i64] := by rfl) : PM.MarkOk Try.prog cx 67 (laws_markFamily_w (laws_markFamily PM.std)) := by
  refine ⟨(PM.FnIs.of Try.func67 (by kernel_rfl) (by kernel_rfl)).enter, fun d n k r h => ?_⟩
  unfold laws_markFamily_w at h
  split at h
  case h_2 => cases h
  rename_i a_Rv' a_Clock' a_Owner' a_Lost' a_Regs' a_Start' a_Buf' a_Order' a_Reads' a_Kids' k_' heq
  simp only [List.cons.injEq, PM.V.int.injEq, and_true, true_and] at heq
  obtain ⟨rfl, rfl⟩ := heq
  unfold laws_markFamily at h
  split at h
  case isFalse => cases h
  rename_i hcond
  obtain ⟨p1, p2, q0, q1, q2, q3, q4, q5⟩ := hcond
  refine ⟨_, h, fun ok w v hok hv => ?_⟩
  obtain ⟨vs, rfl, hl⟩ := hv
  obtain ⟨u0, us0, rfl, e0, E0⟩ := (show PM.All2 (PM.Sh1 cx w ok) _ _ from hl).cons_inv
  obtain ⟨u1, us1, rfl, e1, E1⟩ := E0.cons_inv
  obtain ⟨u2, us2, rfl, e2, E2⟩ := E1.cons_inv
  obtain ⟨u3, us3, rfl, e3, E3⟩ := E2.cons_inv
  obtain ⟨u4, us4, rfl, e4, E4⟩ := E3.cons_inv
  obtain ⟨u5, us5, rfl, e5, E5⟩ := E4.cons_inv
  obtain ⟨u6, us6, rfl, e6, E6⟩ := E5.cons_inv
  obtain ⟨u7, us7, rfl, e7, E7⟩ := E6.cons_inv
  obtain ⟨u8, us8, rfl, e8, E8⟩ := E7.cons_inv
  obtain ⟨u9, us9, rfl, e9, E9⟩ := E8.cons_inv
  cases E9.nil_inv
  obtain ⟨y0, rfl⟩ := e0
  obtain ⟨y1, rfl⟩ := e1
  obtain ⟨y2, rfl⟩ := e2
  obtain ⟨y3, rfl⟩ := e3
  obtain ⟨sh4, k4, m4⟩ := e4
  have k4 : PM.shAK cx (.ints 3 .i64) = some sh4 := k4
  rw [g24] at k4
  cases k4
  obtain ⟨sh5, k5, m5⟩ := e5
  have k5 : PM.shAK cx (.vecs 161 2) = some sh5 := k5
  rw [g31] at k5
  cases k5
  obtain ⟨sh6, k6, m6⟩ := e6
  have k6 : PM.shAK cx (.vecs 225 3) = some sh6 := k6
  rw [g97] at k6
  cases k6
  obtain ⟨sh7, k7, m7⟩ := e7
  have k7 : PM.shAK cx (.ints 3 .i64) = some sh7 := k7
  rw [g24] at k7
  cases k7
  obtain ⟨sh8, k8, m8⟩ := e8
  have k8 : PM.shAK cx (.vecs 161 2) = some sh8 := k8
  rw [g31] at k8
  cases k8
  obtain ⟨sh9, k9, m9⟩ := e9
  have k9 : PM.shAK cx (.rows 214) = some sh9 := k9
  rw [g98] at k9
  cases k9
  exact laws_markFamily_k h24 h31 h97 h98 h212 ok y0 y1 y2 y3 u4 u5 u6 u7 u8 u9 _ (fun b hb => (hok b hb).2) m4 m5 m6 m7 m8 m9 p1 p2
def laws_markJobS_e (rows : List (List PM.C)) (i : Nat) : Nat := laws_markIntS_c (PM.asRows (PM.cOf rows i 0)) + laws_markRowS_c (PM.asRows (PM.cOf rows i 1))
def laws_markJobS_c (rows : List (List PM.C)) : Nat := sumN (laws_markJobS_e rows) rows.length
theorem laws_markJobS_nil (base : Option Addr) (cap : Nat) (k : Int) (w : World) : Calls Try.prog 55 #[.slice base 0 cap, .int .i64 k] w fun e w' => e = .returned (.int .i64 k) ∧ Below w.heap.size w w' := by
  go_enter Try.func55, Try.ntmps55
  go_wp2
  go_loopg [1, 5] 0 (fun gg s1 s5 wr => s5 = .int .i64 0 ∧ s1 = .int .i64 k ∧ Aside (RowKit.Below w.heap.size w wr))
  case atStart => exact ⟨rfl, rfl, Below.refl _ w⟩
  case round =>
    obtain ⟨rfl, rfl, BW⟩ := hrel
    go_wp2
    go_ret
    exact ⟨rfl, BW.out⟩
theorem laws_markJobS_walk {cx : PM.Cx} (h24 : SlT cx 24 (.ints 3 .i64) [.int .i64]) (h31 : SlT cx 31 (.vecs 161 2) [.int .i64, .int .i64]) (ok : Nat → Prop) (rows : List (List PM.C)) (blk off cap : Nat) (k : Int) (f : Nat → Nat → Value) (w : World) (hu : ∀ b, ok b → PM.Unf w b) (hb : ok blk) (hk : 0 ≤ k) (hk2 : k + (laws_markJobS_c rows : Nat) ≤ 4611686018427387904) (hl : rows.length ≤ 4611686018427387904)
    (hc : ∀ i j, i < rows.length → j < 2 → w.cell? ⟨blk, off + (i * 2 + j), none⟩ = some (f i j)) (hs : ∀ i j, i < rows.length → j < 2 → PM.ShC cx w ok (([.sl 24, .sl 31] : List PM.K).getD j .bool) (PM.cOf rows i j) (f i j)) :
    Calls Try.prog 55 #[.slice (some ⟨blk, off, none⟩) rows.length cap, .int .i64 k] w fun e w' => e = .returned (.int .i64 (k + (laws_markJobS_c rows : Nat))) ∧ PM.MarkTo ok w w' := by
  have HC : Aside (∀ i j, i < rows.length → j < 2 → w.cell? ⟨blk, off + (i * 2 + j), none⟩ = some (f i j)) := hc
  have HS : Aside (∀ i j, i < rows.length → j < 2 → PM.ShC cx w ok (([.sl 24, .sl 31] : List PM.K).getD j .bool) (PM.cOf rows i j) (f i j)) := hs
  have HU : Aside (∀ b, ok b → PM.Unf w b) := hu
  have HE : Aside (∀ i, i < rows.length → sumN (laws_markJobS_e rows) i + laws_markJobS_e rows i ≤ laws_markJobS_c rows) := fun i hi => sumN_step _ hi
  have HT : Aside (laws_markJobS_c rows = sumN (laws_markJobS_e rows) rows.length) := rfl
  clear hc hs hu
  obtain ⟨tot, htot⟩ : ∃ tot, tot = laws_markJobS_c rows := ⟨_, rfl⟩
  obtain ⟨n, hn⟩ : ∃ n, n = rows.length := ⟨_, rfl⟩
  rw [← htot] at hk2 ⊢
  rw [← hn] at hl ⊢
  go_enter Try.func55, Try.ntmps55
  go_wp2
  go_loopg [1, 5] n (fun gg s1 s5 wr => ∃ i : Nat, s5 = .int .i64 i ∧ s1 = .int .i64 (k + (sumN (laws_markJobS_e rows) i : Nat)) ∧ i ≤ n ∧ n - i ≤ gg ∧ Aside (PM.MarkTo ok w wr))
  case atStart => exact ⟨0, rfl, by simp [sumN], by omega, by omega, PM.MarkTo.refl⟩
  case round =>
    obtain ⟨i, rfl, rfl, hin, hgg, HM⟩ := hrel
    by_cases hlt : i < n
    · have hltz : (i : Int) < (n : Int) := by omega
      have hlt' : i < rows.length := by omega
      have he := HE.out i hlt'
      rw [← htot] at he
      have s0 : PM.ShC cx w ok (.sl 24) (PM.cOf rows i 0) (f i 0) := HS.out i 0 hlt' (by omega)
      have q0 := HC.out i 0 hlt' (by omega)
      rw [show off + (i * 2 + 0) = off + i * 2 by omega] at q0
      have form0 := sl_form s0
      obtain ⟨v0, ev0⟩ : ∃ x, x = f i 0 := ⟨_, rfl⟩
      rw [← ev0] at s0 q0 form0
      have s0 : Aside (PM.ShC cx w ok (.sl 24) (PM.cOf rows i 0) v0) := s0
      have form0 : Aside (∃ b n c, v0 = .slice b n c) := form0
      obtain ⟨n0, ex0⟩ : ∃ x, x = laws_markIntS_c (PM.asRows (PM.cOf rows i 0)) := ⟨_, rfl⟩
      have en0 : Aside (n0 = laws_markIntS_c (PM.asRows (PM.cOf rows i 0))) := ex0
      clear ex0
      have q0 : Aside (w.cell? ⟨blk, off + i * 2, none⟩ = some (v0)) := q0
      have s1 : PM.ShC cx w ok (.sl 31) (PM.cOf rows i 1) (f i 1) := HS.out i 1 hlt' (by omega)
      have q1 := HC.out i 1 hlt' (by omega)
      rw [show off + (i * 2 + 1) = off + i * 2 + 1 by omega] at q1
      have form1 := sl_form s1
      obtain ⟨v1, ev1⟩ : ∃ x, x = f i 1 := ⟨_, rfl⟩
      rw [← ev1] at s1 q1 form1
      have s1 : Aside (PM.ShC cx w ok (.sl 31) (PM.cOf rows i 1) v1) := s1
      have form1 : Aside (∃ b n c, v1 = .slice b n c) := form1
      obtain ⟨n1, ex1⟩ : ∃ x, x = laws_markRowS_c (PM.asRows (PM.cOf rows i 1)) := ⟨_, rfl⟩
      have en1 : Aside (n1 = laws_markRowS_c (PM.asRows (PM.cOf rows i 1))) := ex1
      clear ex1
      have q1 : Aside (w.cell? ⟨blk, off + i * 2 + 1, none⟩ = some (v1)) := q1
      have hee : laws_markJobS_e rows i = n0 + n1 := by simp only [laws_markJobS_e, en0.out, en1.out]
      have HEE : Aside (laws_markJobS_e rows i = n0 + n1) := hee
      rw [hee] at he
      obtain ⟨S, hS⟩ : ∃ S, S = sumN (laws_markJobS_e rows) i := ⟨_, rfl⟩
      rw [← hS] at he ⊢
      have HSS : Aside (S = sumN (laws_markJobS_e rows) i) := hS
      have HTT : Aside (tot = laws_markJobS_c rows) := htot
      have HNN : Aside (n = rows.length) := hn
      have HLT : Aside (i < rows.length) := hlt'
      clear hS htot hn hlt' hee ev0 ev1
      have c0wr : wr.cell? ⟨blk, off + i * 2, none⟩ = some v0 := hdr HM.out q0.out form0.out
      go_wp2_with (first
        | (go_at_call 54; refine use_mark (ok := ok) (w := w) HM.out fun HW => ?_; refine ((laws_markIntS_k ok v0 _ (fun b hb => PM.MarkTo.unf HW (HU.out b hb)) (PM.ShSl.mark HW (sl_of h24 s0.out)) (by omega) (by rw [← en0.out]; omega)).mono fun e w1 hq => ?_); obtain ⟨rfl, hmw1⟩ := hq; rw [← en0.out]; have Hw1 : Aside (PM.MarkTo ok w w1) := HW.trans hmw1; clear HW hmw1 c0wr; have c1w1 : w1.cell? ⟨blk, off + i * 2 + 1, none⟩ = some v1 := hdr Hw1.out q1.out form1.out)
        | (go_at_call 68; refine use_mark (ok := ok) (w := w) Hw1.out fun HW => ?_; refine ((laws_markRowS_k ok v1 _ (fun b hb => PM.MarkTo.unf HW (HU.out b hb)) (PM.ShSl.mark HW (sl_of h31 s1.out)) (by omega) (by rw [← en1.out]; omega)).mono fun e w2 hq => ?_); obtain ⟨rfl, hmw2⟩ := hq; rw [← en1.out]; have Hw2 : Aside (PM.MarkTo ok w w2) := HW.trans hmw2; clear HW hmw2 c1w1; clear Hw1 w1)
        )
      go_roundg (n - (i + 1))
      case measure => omega
      case rel =>
        refine ⟨i + 1, by first | rfl | go_num, ?_, by omega, Nat.le_refl _, Hw2.out⟩
        have e1 : sumN (laws_markJobS_e rows) (i + 1) = S + (n0 + n1) := by rw [HSS.out, ← HEE.out]; rfl
        rw [e1]
        congr 1
        omega
    · have ein : i = n := by omega
      have etot : sumN (laws_markJobS_e rows) i = tot := by rw [htot, HT.out, ein, hn]
      rw [etot]
      clear etot
      have hge : ¬ (i : Int) < (n : Int) := by omega
      go_wp2
      go_ret
      exact ⟨rfl, HM.out⟩
theorem laws_markJobS_k {cx : PM.Cx} (h24 : SlT cx 24 (.ints 3 .i64) [.int .i64]) (h31 : SlT cx 31 (.vecs 161 2) [.int .i64, .int .i64]) (ok : Nat → Prop) {w : World} {rows : List (List PM.C)} (v : Value) (k : Int) (hu : ∀ b, ok b → PM.Unf w b) (h : PM.ShSl cx w ok [.sl 24, .sl 31] rows v) (hk : 0 ≤ k) (hk2 : k + (laws_markJobS_c rows : Nat) ≤ 4611686018427387904) (hl : rows.length ≤ 4611686018427387904) :
    Calls Try.prog 55 #[v, .int .i64 k] w fun e w' => e = .returned (.int .i64 (k + (laws_markJobS_c rows : Nat))) ∧ PM.MarkTo ok w w' := by
  rcases h with ⟨rfl, base, cap, rfl⟩ | ⟨⟨blk, off, spot⟩, cap, f, rfl, h2, h3, h4, h5⟩
  · refine (laws_markJobS_nil base cap k w).mono fun e w' hq => ?_
    obtain ⟨rfl, hbw⟩ := hq
    exact ⟨by simp [laws_markJobS_c, sumN], PM.MarkTo.of_below hbw⟩
  · have h2 : spot = none := h2
    subst h2
    exact laws_markJobS_walk h24 h31 ok rows blk off cap k f w hu h3 hk hk2 hl h4 h5
abbrev laws_markJobS_T := (List (List PM.C)) → (Int) → ((Int) → PM.R) → PM.R
def laws_markJobS_w (c : laws_markJobS_T) (ds : List PM.V) (k : PM.V → PM.R) : PM.R :=
  match ds with
  | [.arr (.rows 205 a), .int .i64 k_] => c a k_ (fun r0 => k (.int .i64 r0))
  | _ => none
def laws_markJobS (A : PM.Prims) : laws_markJobS_T := fun a k0 k =>
  if 0 ≤ k0 ∧ k0 + (laws_markJobS_c (PM.rowsOf (.rows 205 a)) : Nat) ≤ 4611686018427387904 ∧ (PM.rowsOf (.rows 205 a)).length ≤ 4611686018427387904 then k (k0 + (laws_markJobS_c (PM.rowsOf (.rows 205 a)) : Nat)) else none
theorem laws_markJobS_mk {cx : PM.Cx} (h24 : SlT cx 24 (.ints 3 .i64) [.int .i64] := by exact ⟨_, rfl, rfl, rfl⟩) (h31 : SlT cx 31 (.vecs 161 2) [.int .i64, .int .i64] := by exact ⟨_, rfl, rfl, rfl⟩) (hsh : PM.shAK cx (.rows 205) = some [.sl 24, .sl 31] := by rfl) : PM.MarkOk Try.prog cx 55 (laws_markJobS_w (laws_markJobS PM.std)) := by
  refine ⟨(PM.FnIs.of Try.func55 (by kernel_rfl) (by kernel_rfl)).enter, fun d n k r h => ?_⟩
  unfold laws_markJobS_w at h
  split at h
  case h_2 => cases h
  rename_i a' k_' heq
  simp only [List.cons.injEq, PM.V.int.injEq, and_true, true_and] at heq
  obtain ⟨rfl, rfl⟩ := heq
  unfold laws_markJobS at h
  split at h
  case isFalse => cases h
  rename_i hcond
  obtain ⟨p1, p2, q0⟩ := hcond
  refine ⟨_, h, fun ok w v hok hv => ?_⟩
  obtain ⟨sh, k1, k2⟩ := hv
  have k1 : PM.shAK cx (.rows 205) = some sh := k1
  rw [hsh] at k1
  cases k1
  exact laws_markJobS_k h24 h31 ok v _ (fun b hb => (hok b hb).2) k2 p1 p2 q0
def laws_markWroteS_e (rows : List (List PM.C)) (i : Nat) : Nat := 2 + laws_markRowS_c (PM.asRows (PM.cOf rows i 2))
def laws_markWroteS_c (rows : List (List PM.C)) : Nat := sumN (laws_markWroteS_e rows) rows.length
theorem laws_markWroteS_nil (base : Option Addr) (cap : Nat) (k : Int) (w : World) : Calls Try.prog 82 #[.slice base 0 cap, .int .i64 k] w fun e w' => e = .returned (.int .i64 k) ∧ Below w.heap.size w w' := by
  go_enter Try.func82, Try.ntmps82
  go_wp2
  go_loopg [1, 5] 0 (fun gg s1 s5 wr => s5 = .int .i64 0 ∧ s1 = .int .i64 k ∧ Aside (RowKit.Below w.heap.size w wr))
  case atStart => exact ⟨rfl, rfl, Below.refl _ w⟩
  case round =>
    obtain ⟨rfl, rfl, BW⟩ := hrel
    go_wp2
    go_ret
    exact ⟨rfl, BW.out⟩
theorem laws_markWroteS_walk {cx : PM.Cx} (h31 : SlT cx 31 (.vecs 161 2) [.int .i64, .int .i64]) (ok : Nat → Prop) (rows : List (List PM.C)) (blk off cap : Nat) (k : Int) (f : Nat → Nat → Value) (w : World) (hu : ∀ b, ok b → PM.Unf w b) (hb : ok blk) (hk : 0 ≤ k) (hk2 : k + (laws_markWroteS_c rows : Nat) ≤ 4611686018427387904) (hl : rows.length ≤ 4611686018427387904)
    (hc : ∀ i j, i < rows.length → j < 3 → w.cell? ⟨blk, off + (i * 3 + j), none⟩ = some (f i j)) (hs : ∀ i j, i < rows.length → j < 3 → PM.ShC cx w ok (([.int .i64, .int .i64, .sl 31] : List PM.K).getD j .bool) (PM.cOf rows i j) (f i j)) :
    Calls Try.prog 82 #[.slice (some ⟨blk, off, none⟩) rows.length cap, .int .i64 k] w fun e w' => e = .returned (.int .i64 (k + (laws_markWroteS_c rows : Nat))) ∧ PM.MarkTo ok w w' := by
  have HC : Aside (∀ i j, i < rows.length → j < 3 → w.cell? ⟨blk, off + (i * 3 + j), none⟩ = some (f i j)) := hc
  have HS : Aside (∀ i j, i < rows.length → j < 3 → PM.ShC cx w ok (([.int .i64, .int .i64, .sl 31] : List PM.K).getD j .bool) (PM.cOf rows i j) (f i j)) := hs
  have HU : Aside (∀ b, ok b → PM.Unf w b) := hu
  have HE : Aside (∀ i, i < rows.length → sumN (laws_markWroteS_e rows) i + laws_markWroteS_e rows i ≤ laws_markWroteS_c rows) := fun i hi => sumN_step _ hi
  have HT : Aside (laws_markWroteS_c rows = sumN (laws_markWroteS_e rows) rows.length) := rfl
  clear hc hs hu
  obtain ⟨tot, htot⟩ : ∃ tot, tot = laws_markWroteS_c rows := ⟨_, rfl⟩
  obtain ⟨n, hn⟩ : ∃ n, n = rows.length := ⟨_, rfl⟩
  rw [← htot] at hk2 ⊢
  rw [← hn] at hl ⊢
  go_enter Try.func82, Try.ntmps82
  go_wp2
  go_loopg [1, 5] n (fun gg s1 s5 wr => ∃ i : Nat, s5 = .int .i64 i ∧ s1 = .int .i64 (k + (sumN (laws_markWroteS_e rows) i : Nat)) ∧ i ≤ n ∧ n - i ≤ gg ∧ Aside (PM.MarkTo ok w wr))
  case atStart => exact ⟨0, rfl, by simp [sumN], by omega, by omega, PM.MarkTo.refl⟩
  case round =>
    obtain ⟨i, rfl, rfl, hin, hgg, HM⟩ := hrel
    by_cases hlt : i < n
    · have hltz : (i : Int) < (n : Int) := by omega
      have hlt' : i < rows.length := by omega
      have he := HE.out i hlt'
      rw [← htot] at he
      have s0 : PM.ShC cx w ok (.int .i64) (PM.cOf rows i 0) (f i 0) := HS.out i 0 hlt' (by omega)
      have q0 := HC.out i 0 hlt' (by omega)
      rw [show off + (i * 3 + 0) = off + i * 3 by omega] at q0
      obtain ⟨m0, em0⟩ := int_form s0
      rw [em0] at q0
      clear s0 em0
      have q0 : Aside (w.cell? ⟨blk, off + i * 3, none⟩ = some (.int .i64 m0)) := q0
      have s1 : PM.ShC cx w ok (.int .i64) (PM.cOf rows i 1) (f i 1) := HS.out i 1 hlt' (by omega)
      have q1 := HC.out i 1 hlt' (by omega)
      rw [show off + (i * 3 + 1) = off + i * 3 + 1 by omega] at q1
      obtain ⟨m1, em1⟩ := int_form s1
      rw [em1] at q1
      clear s1 em1
      have q1 : Aside (w.cell? ⟨blk, off + i * 3 + 1, none⟩ = some (.int .i64 m1)) := q1
      have s2 : PM.ShC cx w ok (.sl 31) (PM.cOf rows i 2) (f i 2) := HS.out i 2 hlt' (by omega)
      have q2 := HC.out i 2 hlt' (by omega)
      rw [show off + (i * 3 + 2) = off + i * 3 + 2 by omega] at q2
      have form2 := sl_form s2
      obtain ⟨v2, ev2⟩ : ∃ x, x = f i 2 := ⟨_, rfl⟩
      rw [← ev2] at s2 q2 form2
      have s2 : Aside (PM.ShC cx w ok (.sl 31) (PM.cOf rows i 2) v2) := s2
      have form2 : Aside (∃ b n c, v2 = .slice b n c) := form2
      obtain ⟨n2, ex2⟩ : ∃ x, x = laws_markRowS_c (PM.asRows (PM.cOf rows i 2)) := ⟨_, rfl⟩
      have en2 : Aside (n2 = laws_markRowS_c (PM.asRows (PM.cOf rows i 2))) := ex2
      clear ex2
      have q2 : Aside (w.cell? ⟨blk, off + i * 3 + 2, none⟩ = some (v2)) := q2
      have hee : laws_markWroteS_e rows i = 2 + n2 := by simp only [laws_markWroteS_e, en2.out]
      have HEE : Aside (laws_markWroteS_e rows i = 2 + n2) := hee
      rw [hee] at he
      obtain ⟨S, hS⟩ : ∃ S, S = sumN (laws_markWroteS_e rows) i := ⟨_, rfl⟩
      rw [← hS] at he ⊢
      have HSS : Aside (S = sumN (laws_markWroteS_e rows) i) := hS
      have HTT : Aside (tot = laws_markWroteS_c rows) := htot
      have HNN : Aside (n = rows.length) := hn
      have HLT : Aside (i < rows.length) := hlt'
      clear hS htot hn hlt' hee ev2
      obtain ⟨y0wr, c0wr, _⟩ := PM.MarkTo.cell HM.out q0.out
      have f0wr : wr.frozen? ⟨blk, off + i * 3, none⟩ = false := PM.Unf.frozen (PM.MarkTo.unf HM.out (HU.out blk hb))
      go_wp2_with (first
        | (obtain ⟨w1, ew1⟩ := name_world (wr.setCell ⟨blk, off + i * 3, none⟩ (.int .i64 (k + (S : Int)))); rw [← ew1]; have Hw1 : Aside (PM.MarkTo ok w w1) := (by rw [ew1]; exact setI HM.out hb q0.out); clear ew1 c0wr f0wr; obtain ⟨y1w1, c1w1, _⟩ := PM.MarkTo.cell Hw1.out q1.out; have f1w1 : w1.frozen? ⟨blk, off + i * 3 + 1, none⟩ = false := PM.Unf.frozen (PM.MarkTo.unf Hw1.out (HU.out blk hb)))
        | (obtain ⟨w2, ew2⟩ := name_world (w1.setCell ⟨blk, off + i * 3 + 1, none⟩ (.int .i64 (k + (S : Int) + 1))); rw [← ew2]; have Hw2 : Aside (PM.MarkTo ok w w2) := (by rw [ew2]; exact setI Hw1.out hb q1.out); clear ew2 c1w1 f1w1; have c2w2 : w2.cell? ⟨blk, off + i * 3 + 2, none⟩ = some v2 := hdr Hw2.out q2.out form2.out; clear Hw1 w1)
        | (go_at_call 68; refine use_mark (ok := ok) (w := w) Hw2.out fun HW => ?_; refine ((laws_markRowS_k ok v2 _ (fun b hb => PM.MarkTo.unf HW (HU.out b hb)) (PM.ShSl.mark HW (sl_of h31 s2.out)) (by omega) (by rw [← en2.out]; omega)).mono fun e w3 hq => ?_); obtain ⟨rfl, hmw3⟩ := hq; rw [← en2.out]; have Hw3 : Aside (PM.MarkTo ok w w3) := HW.trans hmw3; clear HW hmw3 c2w2; clear Hw2 w2)
        )
      go_roundg (n - (i + 1))
      case measure => omega
      case rel =>
        refine ⟨i + 1, by first | rfl | go_num, ?_, by omega, Nat.le_refl _, Hw3.out⟩
        have e1 : sumN (laws_markWroteS_e rows) (i + 1) = S + (2 + n2) := by rw [HSS.out, ← HEE.out]; rfl
        rw [e1]
        congr 1
        omega
    · have ein : i = n := by omega
      have etot : sumN (laws_markWroteS_e rows) i = tot := by rw [htot, HT.out, ein, hn]
      rw [etot]
      clear etot
      have hge : ¬ (i : Int) < (n : Int) := by omega
      go_wp2
      go_ret
      exact ⟨rfl, HM.out⟩
theorem laws_markWroteS_k {cx : PM.Cx} (h31 : SlT cx 31 (.vecs 161 2) [.int .i64, .int .i64]) (ok : Nat → Prop) {w : World} {rows : List (List PM.C)} (v : Value) (k : Int) (hu : ∀ b, ok b → PM.Unf w b) (h : PM.ShSl cx w ok [.int .i64, .int .i64, .sl 31] rows v) (hk : 0 ≤ k) (hk2 : k + (laws_markWroteS_c rows : Nat) ≤ 4611686018427387904) :
    Calls Try.prog 82 #[v, .int .i64 k] w fun e w' => e = .returned (.int .i64 (k + (laws_markWroteS_c rows : Nat))) ∧ PM.MarkTo ok w w' := by
  rcases h with ⟨rfl, base, cap, rfl⟩ | ⟨⟨blk, off, spot⟩, cap, f, rfl, h2, h3, h4, h5⟩
  · refine (laws_markWroteS_nil base cap k w).mono fun e w' hq => ?_
    obtain ⟨rfl, hbw⟩ := hq
    exact ⟨by simp [laws_markWroteS_c, sumN], PM.MarkTo.of_below hbw⟩
  · have h2 : spot = none := h2
    subst h2
    exact laws_markWroteS_walk h31 ok rows blk off cap k f w hu h3 hk hk2 (by have := sumN_len (laws_markWroteS_e rows) (fun i => by unfold laws_markWroteS_e; omega) rows.length; unfold laws_markWroteS_c at hk2; omega) h4 h5
abbrev laws_markWroteS_T := (List (List PM.C)) → (Int) → ((Int) → PM.R) → PM.R
def laws_markWroteS_w (c : laws_markWroteS_T) (ds : List PM.V) (k : PM.V → PM.R) : PM.R :=
  match ds with
  | [.arr (.rows 33 a), .int .i64 k_] => c a k_ (fun r0 => k (.int .i64 r0))
  | _ => none
def laws_markWroteS (A : PM.Prims) : laws_markWroteS_T := fun a k0 k =>
  if 0 ≤ k0 ∧ k0 + (laws_markWroteS_c (PM.rowsOf (.rows 33 a)) : Nat) ≤ 4611686018427387904 ∧ (PM.rowsOf (.rows 33 a)).length ≤ 4611686018427387904 then k (k0 + (laws_markWroteS_c (PM.rowsOf (.rows 33 a)) : Nat)) else none
theorem laws_markWroteS_mk {cx : PM.Cx} (h31 : SlT cx 31 (.vecs 161 2) [.int .i64, .int .i64] := by exact ⟨_, rfl, rfl, rfl⟩) (hsh : PM.shAK cx (.rows 33) = some [.int .i64, .int .i64, .sl 31] := by rfl) : PM.MarkOk Try.prog cx 82 (laws_markWroteS_w (laws_markWroteS PM.std)) := by
  refine ⟨(PM.FnIs.of Try.func82 (by kernel_rfl) (by kernel_rfl)).enter, fun d n k r h => ?_⟩
  unfold laws_markWroteS_w at h
  split at h
  case h_2 => cases h
  rename_i a' k_' heq
  simp only [List.cons.injEq, PM.V.int.injEq, and_true, true_and] at heq
  obtain ⟨rfl, rfl⟩ := heq
  unfold laws_markWroteS at h
  split at h
  case isFalse => cases h
  rename_i hcond
  obtain ⟨p1, p2, q0⟩ := hcond
  refine ⟨_, h, fun ok w v hok hv => ?_⟩
  obtain ⟨sh, k1, k2⟩ := hv
  have k1 : PM.shAK cx (.rows 33) = some sh := k1
  rw [hsh] at k1
  cases k1
  exact laws_markWroteS_k h31 ok v _ (fun b hb => (hok b hb).2) k2 p1 p2
end X
