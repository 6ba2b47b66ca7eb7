/- Models of the functions, or plain laws about them; each theorem states its own conditions. -/
import Derived.Test.YtlcgddghildedaaNST
import Derived.Test.YtlcgddghildedaaNOv
set_option linter.unusedVariables false
set_option linter.unusedSimpArgs false
open Go.Proofs
namespace X
open PM Go
/-! ## The state at a stamp -/
theorem foldN_id {α : Type} {g : Nat → α → α} {len : Nat} : ∀ (m i : Nat) (o : α), i + m = len → (∀ q o, i ≤ q → q < len → g q o = o) → foldN g m i o = o
  | 0, _, _, _, _ => rfl
  | m + 1, i, o, h, hg => by
    show foldN g m (i + 1) (g i o) = o
    rw [hg i o (Nat.le_refl _) (by omega)]
    exact foldN_id m (i + 1) o (by omega) fun q o h1 h2 => hg q o (by omega) h2
theorem foldN_congr {α : Type} {g g' : Nat → α → α} {len : Nat} (hg : ∀ q o, q < len → g q o = g' q o) : ∀ (m i : Nat) (o : α), i + m = len → foldN g m i o = foldN g' m i o
  | 0, _, _, _ => rfl
  | m + 1, i, o, h => by
    show foldN g m (i + 1) (g i o) = foldN g' m (i + 1) (g' i o)
    rw [hg i o (by omega)]
    exact foldN_congr hg m (i + 1) _ (by omega)
theorem foldN_one {α : Type} {g : Nat → α → α} {len p : Nat} (hp : p < len) (hg : ∀ q o, q < len → q ≠ p → g q o = o) : ∀ (m i : Nat) (o : α), i + m = len → i ≤ p → foldN g m i o = g p o
  | 0, i, o, h, hi => by omega
  | m + 1, i, o, h, hi => by
    show foldN g m (i + 1) (g i o) = g p o
    by_cases e : i = p
    · subst e
      exact foldN_id m (i + 1) _ (by omega) fun q o h1 h2 => hg q o h2 (by omega)
    · rw [hg i o (by omega) e]
      exact foldN_one hp hg m (i + 1) o (by omega) (by omega)
/-- The rows, as they are copied. -/
theorem copyRows_val (l : List (List Int)) (hb : l.length ≤ 1048576) (k : List (List Int) → R) : impl_copyRows std l k = k l := by
  unfold impl_copyRows impl_copyRows_f
  have e : std.room (std.vlen []) (std.vlen l) = true := by rw [std_room]; exact decide_eq_true (by simp; omega)
  rw [e, bt]
  rfl
theorem copyHist_val (a : List (List C)) (hb : bWroteS a) (k : List (List C) → R) : impl_copyHist std a k = k (nWroteS a) := by
  have hb1 := hb.1
  unfold impl_copyHist impl_copyHist_f
  rw [std_rlen]
  have hlen : ∀ i, ((List.range i).map (nWrote a)).length = i := fun i => by simp
  have key : ∀ (m N i : Nat), i + m = a.length → m < N → impl_copyHist_l0 std (impl_copyRows std) N a (a.length : Int) (i : Int) ((List.range i).map (nWrote a)) (fun o => k o) = k (nWroteS a) := by
    intro m
    induction m with
    | zero =>
      intro N i hi hn
      obtain ⟨N, rfl⟩ : ∃ q, N = q + 1 := ⟨N - 1, by omega⟩
      have : i = a.length := by omega
      subst this
      simp only [impl_copyHist_l0, lt_nat_f (Nat.le_refl _), bf]
      rfl
    | succ m ih =>
      intro N i hi hn
      obtain ⟨N, rfl⟩ : ∃ q, N = q + 1 := ⟨N - 1, by omega⟩
      have hil : i < a.length := by omega
      have h2 : (std.rsv 2 a (i : Int) 2).length ≤ 1048576 := hb.2 i hil
      have e3 : ∀ x : List C, std.room (std.rlen ((List.range i).map (nWrote a))) (std.rlen [x]) = true := fun x => by rw [std_room, std_rlen, std_rlen, hlen]; exact decide_eq_true (by simp; omega)
      simp only [impl_copyHist_l0, std_rlen, lt_nat_t hil, inb_nat_t hil, bt, copyRows_val _ h2, add1 (i := i) (by omega)]
      rw [← std_rlen, ← std_rlen, e3, bt]
      have e4 : std.rapp ((List.range i).map (nWrote a)) [[.i (std.rint a (i : Int) 0), .i (std.rint a (i : Int) 1), .s (std.ofv (std.rsv 2 a (i : Int) 2))]] = (List.range (i + 1)).map (nWrote a) := by rw [List.range_succ, List.map_append]; rfl
      rw [e4]
      exact ih N (i + 1) (by omega) (by omega)
  exact key a.length std.fuel 0 (by omega) (by rw [std_fuel]; omega)
/-- The row of a stamp. -/
theorem keyW_n (a : List (List C)) (i : Nat) : keyW (nWrote a i) = stA a i := rfl
def srtR (a : List (List C)) : List (List C) := (nWroteS a).mergeSort fun r s => decide (keyW r ≤ keyW s)
theorem srtR_len (a : List (List C)) : (srtR a).length = a.length := by unfold srtR; rw [List.length_mergeSort, lenWroteS]
theorem srtR_keys {a : List (List C)} (h : histB a = true) : (srtR a).Pairwise (fun r s => keyW r < keyW s) := by
  have h1 : (srtR a).Pairwise (fun r s => decide (keyW r ≤ keyW s) = true) := List.pairwise_mergeSort (le := fun r s : List C => decide (keyW r ≤ keyW s)) (fun x y z h1 h2 => by simp at *; omega) (fun x y => by simp; omega) (nWroteS a)
  have h2 : ((srtR a).map keyW).Nodup := by
    refine (((List.mergeSort_perm (nWroteS a) _).map keyW).nodup_iff).2 ?_
    have : (nWroteS a).map keyW = stL a := by unfold nWroteS stL; rw [List.map_map]; rfl
    rw [this]
    exact stL_nodup h
  rw [List.nodup_iff_pairwise_ne, List.pairwise_map] at h2
  exact (h1.and h2).imp fun ⟨p, q⟩ => by simp at p; omega
theorem srtR_map {a : List (List C)} (h : histB a = true) : (srtR a).map keyW = stS a := by
  have p1 : ((srtR a).map keyW).Perm (stS a) := by
    refine ((List.mergeSort_perm (nWroteS a) _).map keyW).trans ?_
    have : (nWroteS a).map keyW = stL a := by unfold nWroteS stL; rw [List.map_map]; rfl
    rw [this]
    exact (List.mergeSort_perm (stL a) _).symm
  have s1 : ((srtR a).map keyW).Pairwise (· < ·) := by rw [List.pairwise_map]; exact srtR_keys h
  exact List.Perm.eq_of_pairwise (fun x y _ _ h1 h2 => by omega) s1 (stS_sorted h) p1
theorem srtR_ok {a : List (List C)} (h : histB a = true) : SrtOkW (nWroteS a) (srtR a) := by
  have hl := hist_len h
  refine ⟨List.mergeSort_perm _ _, srtR_keys h, by rw [lenWroteS]; omega, fun r hr => ?_⟩
  unfold nWroteS at hr
  obtain ⟨i, hi, rfl⟩ := List.mem_map.1 hr
  have := (hist_at h (List.mem_range.1 hi)).1
  rw [keyW_n]
  omega
theorem srtR_at {a : List (List C)} (h : histB a = true) {i : Nat} (hi : i < a.length) : ∃ q, q < a.length ∧ stA a q = (stS a).getD i 0 ∧ std.rint (srtR a) (i : Int) 0 = (stS a).getD i 0 ∧ std.rsv 2 (srtR a) (i : Int) 2 = std.rsv 2 a (q : Int) 2 := by
  have hi' : i < (srtR a).length := by rw [srtR_len]; exact hi
  have hm : (srtR a)[i] ∈ nWroteS a := (List.mergeSort_perm (nWroteS a) _).mem_iff.1 (List.getElem_mem hi')
  unfold nWroteS at hm
  obtain ⟨q, hq, e⟩ := List.mem_map.1 hm
  have hq := List.mem_range.1 hq
  have ek : keyW (srtR a)[i] = (stS a).getD i 0 := by
    rw [← srtR_map h, List.getD_eq_getElem?_getD, List.getElem?_map, List.getElem?_eq_getElem hi']; rfl
  have ed : (srtR a).getD i [] = nWrote a q := by rw [List.getD_eq_getElem?_getD, List.getElem?_eq_getElem hi', e]; rfl
  refine ⟨q, hq, by rw [← ek, ← e]; rfl, ?_, ?_⟩
  · rw [← ek, std_rint, Int.toNat_natCast]
    unfold cOf
    rw [ed, e]; rfl
  · rw [std_rsv, Int.toNat_natCast]
    unfold cOf
    rw [ed]
    have := rdWrote_2 a q hq
    rw [std_rsv, Int.toNat_natCast] at this
    unfold cOf at this
    have e2 : (nWroteS a).getD q [] = nWrote a q := by unfold nWroteS; rw [List.getD_eq_getElem?_getD, List.getElem?_map, List.getElem?_range hq]; rfl
    rw [e2] at this
    exact this
def saG (a : List (List C)) (n : Int) (i : Nat) (o : List Int) : List Int := bif std.le (std.rint (srtR a) (i : Int) 0) n then ovL o (std.rsv 2 (srtR a) (i : Int) 2) else o
def saV (cells : List Int) (a : List (List C)) (n : Int) : List Int := bif valsB cells 8 && histB a then foldN (saG a n) a.length 0 cells else []
theorem saG_len (a : List (List C)) (n : Int) (i : Nat) (o : List Int) (h : o.length ≤ 1048576) : (saG a n i o).length ≤ 1048576 := by
  unfold saG
  cases std.le (std.rint (srtR a) (i : Int) 0) n
  · exact h
  · exact ovL_len _ _ h
theorem saV_len (cells : List Int) (a : List (List C)) (n : Int) (h : cells.length ≤ 1048576) : (saV cells a n).length ≤ 1048576 := by
  unfold saV
  cases valsB cells 8 && histB a
  · simp
  · exact foldN_P (P := fun o : List Int => o.length ≤ 1048576) (len := a.length) (fun i o _ => saG_len a n i o) _ 0 cells (by omega) h
theorem StateAt_im (cells : List Int) (hc : cells.length ≤ 1048576) (a : List (List C)) (hb : bWroteS a) (n : Int) (k : List Int → R) : impl_StateAt std cells a n k = k (saV cells a n) := by
  unfold impl_StateAt impl_StateAt_f saV
  rw [areValues_val cells hc, HistOk_im a hb]
  cases valsB cells 8
  · rfl
  cases h : histB a
  · rfl
  have hl := hist_len h
  simp only [not_true', bf, bt, Bool.and_self, copyHist_val a hb, copyInts_val cells hc]
  unfold slices_SortFunc___impl_Wrote_impl_Wrote_
  rw [srtW_eq (srtR_ok h), std_rlen, srtR_len]
  generalize hN : std.fuel = N
  have hN : 4294967296 = N := hN
  refine loop_fo (P := fun o : List Int => o.length ≤ 1048576) (F := fun m i o => impl_StateAt_l0 std (impl_HistOk std) (impl_areValues std) (impl_copyHist std) srtW (impl_copyInts std) (impl_Overlay std) m n a.length i o (srtR a) (fun o => k o)) (by omega) (fun m i o hi hp => ?_) (fun i o _ h => saG_len a n i o h) (fun m o _ => ?_) hc
  · have hr : std.rlen (srtR a) = (a.length : Int) := by rw [std_rlen, srtR_len]
    obtain ⟨q, hq, _, _, e4⟩ := srtR_at h hi
    have hlen : (std.rsv 2 (srtR a) (i : Int) 2).length ≤ 1048576 := by rw [e4]; exact hb.2 q hq
    simp only [impl_StateAt_l0, hr, lt_nat_t hi, inb_nat_t hi, bt, saG, add1 (i := i) (by omega)]
    cases std.le (std.rint (srtR a) (i : Int) 0) n
    · rfl
    · simp only [bt, (Overlay_val o hp _ hlen _).2]
  · simp only [impl_StateAt_l0, lt_nat_f (Nat.le_refl _), bf]
def inG (a : List (List C)) (s : Int) (q : Nat) (o : List Int) : List Int := bif std.eq (std.rint a (q : Int) 0) s then ovL o (std.rsv 2 a (q : Int) 2) else o
theorem inG_len (a : List (List C)) (s : Int) (i : Nat) (o : List Int) (h : o.length ≤ 1048576) : (inG a s i o).length ≤ 1048576 := by
  unfold inG
  cases std.eq (std.rint a (i : Int) 0) s
  · exact h
  · exact ovL_len _ _ h
theorem StateAt_in (a : List (List C)) (hb : bWroteS a) (S : List Int) (n : Int) (i : Nat) (hi : i < S.length) (o : List Int) (ho : o.length ≤ 1048576) (N : Nat) (hN : a.length < N) (kx : List (List C) → Int → Int → List Int → List Int → R) :
    spec_StateAt_l2 std (spec_HistOk std) (spec_Stamps std) (spec_l3Vals std) (spec_Overlay std) N a n (i : Int) 0 o S kx = kx a n (i : Int) (foldN (inG a (S.getD i 0)) a.length 0 o) S := by
  have hb1 := hb.1
  refine loop_fo (P := fun o : List Int => o.length ≤ 1048576) (F := fun m q o => spec_StateAt_l2 std (spec_HistOk std) (spec_Stamps std) (spec_l3Vals std) (spec_Overlay std) m a n (i : Int) q o S kx) (k := fun o => kx a n (i : Int) o S) hN (fun m q o hq hp => ?_) (fun q o _ h => inG_len a _ q o h) (fun m o _ => ?_) ho
  · have hlen : (std.rsv 2 a (q : Int) 2).length ≤ 1048576 := hb.2 q hq
    have e1 : std.iget S (i : Int) = S.getD i 0 := by rw [std_iget, Int.toNat_natCast]
    simp only [spec_StateAt_l2, std_rlen, std_ilen, lt_nat_t hq, inb_nat_t hq, inb_nat_t hi, bt, inG, e1, add1 (i := q) (by omega)]
    cases std.eq (std.rint a (q : Int) 0) (S.getD i 0)
    · rfl
    · simp only [bt, (Overlay_val o hp _ hlen _).1]
  · simp only [spec_StateAt_l2, std_rlen, lt_nat_f (Nat.le_refl _), bf]
theorem in_one {a : List (List C)} (h : histB a = true) {i : Nat} (hi : i < a.length) (o : List Int) : foldN (inG a ((stS a).getD i 0)) a.length 0 o = ovL o (std.rsv 2 (srtR a) (i : Int) 2) := by
  obtain ⟨q, hq, e2, _, e4⟩ := srtR_at h hi
  rw [foldN_one hq (fun p o hp hne => ?_) a.length 0 o (by omega) (Nat.zero_le _)]
  · unfold inG
    have : std.eq (std.rint a (q : Int) 0) ((stS a).getD i 0) = true := by rw [std_eq]; exact beq_iff_eq.2 e2
    rw [this, bt, e4]
  · unfold inG
    have : std.eq (std.rint a (p : Int) 0) ((stS a).getD i 0) = false := by
      rw [std_eq]
      exact beq_eq_false_iff_ne.2 fun e => hne (hist_inj h hp hq (by unfold stA at e2 ⊢; omega))
    rw [this, bf]
theorem StateAt_out {a : List (List C)} (h : histB a = true) (hb : bWroteS a) (n : Int) (k : List Int → R) : ∀ (m N i : Nat) (o : List Int), i + m = a.length → m < N → o.length ≤ 1048576 →
    spec_StateAt_l0 std (spec_HistOk std) (spec_Stamps std) (spec_l3Vals std) (spec_Overlay std) N a n (i : Int) o (stS a) (fun o => k o) = k (foldN (saG a n) m i o)
  | 0, N + 1, i, o, hi, hn, ho => by
    have : i = (stS a).length := by rw [stS_len]; omega
    unfold spec_StateAt_l0
    rw [this, std_ilen, lt_nat_f (Nat.le_refl _), bf]
    rfl
  | m + 1, N + 1, i, o, hi, hn, ho => by
    have hl := hist_len h
    have hil : i < a.length := by omega
    have his : i < (stS a).length := by rw [stS_len]; exact hil
    have ih := StateAt_out h hb n k m N (i + 1)
    obtain ⟨q, hq, e2, e3, e4⟩ := srtR_at h hil
    have e1 : std.iget (stS a) (i : Int) = (stS a).getD i 0 := by rw [std_iget, Int.toNat_natCast]
    unfold spec_StateAt_l0
    rw [std_ilen, lt_nat_t his, inb_nat_t his, bt, bt, e1]
    cases hle : std.le ((stS a).getD i 0) n
    · rw [bf]
      refine congrArg k (foldN_id (len := a.length) (m + 1) i o (by omega) fun p o hp1 hp2 => ?_).symm
      unfold saG
      obtain ⟨_, _, _, p3, _⟩ := srtR_at h hp2
      have : std.le (std.rint (srtR a) (p : Int) 0) n = false := by
        rw [p3, std_le]
        rw [std_le] at hle
        have hle := of_decide_eq_false hle
        refine decide_eq_false ?_
        rcases Nat.lt_or_ge i p with g | g
        · have := stS_lt h g hp2; omega
        · have : p = i := by omega
          subst this; exact hle
      rw [this, bf]
    · rw [bt, StateAt_in a hb (stS a) n i his o ho std.fuel (by rw [std_fuel]; omega), in_one h hil, add1 (i := i) (by omega)]
      have hlen : (ovL o (std.rsv 2 (srtR a) (i : Int) 2)).length ≤ 1048576 := ovL_len _ _ ho
      rw [ih _ (by omega) (by omega) hlen]
      have e5 : saG a n i o = ovL o (std.rsv 2 (srtR a) (i : Int) 2) := by unfold saG; rw [e3, hle, bt]
      show _ = k (foldN (saG a n) m (i + 1) (saG a n i o))
      rw [e5]
theorem StateAt_sp (cells : List Int) (hc : cells.length ≤ 1048576) (a : List (List C)) (hb : bWroteS a) (n : Int) (k : List Int → R) : spec_StateAt std cells a n k = k (saV cells a n) := by
  unfold spec_StateAt spec_StateAt_f saV
  rw [l3Vals_val cells hc, HistOk_sp a hb]
  cases valsB cells 8
  · rfl
  cases h : histB a
  · rfl
  have e : std.room (std.ilen []) (std.ilen cells) = true := by rw [std_room]; exact decide_eq_true (by simp; omega)
  simp only [not_true', bf, bt, Bool.and_self, e, Stamps_sp a hb, h]
  exact StateAt_out h hb n k a.length std.fuel 0 cells (by omega) (by rw [std_fuel]; have := hb.1; omega) hc
theorem StateAt_true (cells : List Int) (a : List (List C)) (n : Int) (f1 : FitArr cx (.ints 3 .i64 cells)) (f2 : FitArr cx (.rows 195 a)) (f3 : IntKind.i64.min ≤ n ∧ n ≤ IntKind.i64.max) (k : Bool → R) : laws_FnExactStateAt std cells a n k = k true := by
  obtain ⟨v, v1, v2, v3⟩ := szWroteS_v a f2 1048576 (by omega) (by omega)
  unfold laws_FnExactStateAt laws_FnExactStateAt_f
  by_cases hl : 1048576 < cells.length
  · have e : std.lt 1048576 (std.ilen cells) = true := by rw [std_lt, std_ilen]; exact decide_eq_true (by omega)
    simp only [e, bt]
  have e : std.lt 1048576 (std.ilen cells) = false := by rw [std_lt, std_ilen]; exact decide_eq_false (by omega)
  simp only [e, bf, v3]
  by_cases hc : v < 0
  · simp only [lt0_t hc, bt]
  have b := v2 (by omega)
  have hl' : cells.length ≤ 1048576 := by omega
  have c2 := bWroteS_n _ b
  have hj := saV_len cells (nWroteS a) n hl'
  simp only [lt0_f hc, bf, toIntS_v cells hl', toWroteS_v a b, StateAt_sp cells hl' _ c2, StateAt_im cells hl' _ c2]
  generalize saV cells (nWroteS a) n = g at hj
  obtain ⟨m, m1, m2, m3⟩ := markWroteS_eq (nWroteS a) c2 (1 + (cells.length : Int)) (by omega) (by omega)
  simp only [eqIntS_r g hj, eqIntS_r cells hl', eqWroteS_r _ c2, not_true', bf, markIntS_eq cells 1 (by omega) (by omega) (by omega), m3, ge0_f m1, markIntS_eq g 1 (by omega) (by omega) (by omega),
    heldIntS_eq 1 g.length (by omega) (by omega) (by omega), ge0_f (show (0 : Int) ≤ 1 + (g.length : Int) by omega), eq_self]
end X
