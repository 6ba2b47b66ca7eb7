/- Models of the functions, or plain laws about them; each theorem states its own conditions. -/
import Derived.Test.YtnkgcegeinemjaaW3D
import Derived.Test.YtnkgcegeinemjaaW3L
import Derived.Shelf.SlicesQ.IndexFunc
import Derived.Shelf.SlicesE.Compact
import Derived.Lib.SlKept
import Derived.Sort.WalkB12
import Derived.Lib.SliceRun
set_option linter.unusedVariables false
set_option linter.unusedSimpArgs false
open Go Go.Proofs Go.Sort Go.RowKit Go.Lib
namespace X
def idxHold_ren : Go.Shelf.Ren := ⟨fun | 6 => 160 | n => n, fun | 22 => 53 | 23 => 73 | 25 => 129 | 3 => 3 | 0 => 0 | 4 => 4 | n => n, fun | n => n⟩
theorem idxHold : Go.Proofs.SlLaysH0.n6 Try.prog idxHold_ren where
  mixed := by kernel_rfl
  f6 := ⟨Try.f160.name, by decide, Try.func160.trans (congrArg some (by kernel_rfl))⟩
  t0 := Try.underlying0
  a0 := Try.isAgg0
  z0 := Try.sizeOf0
  v0 := Try.zeroValue0
  t3 := Try.underlying3
  a3 := Try.isAgg3
  z3 := Try.sizeOf3
  v3 := Try.zeroValue3
  t4 := Try.underlying4
  a4 := Try.isAgg4
  z4 := Try.sizeOf4
  v4 := Try.zeroValue4
  t22 := Try.underlying53
  a22 := Try.isAgg53
  z22 := Try.sizeOf53
  v22 := Try.zeroValue53
  t25 := Try.underlying129
  a25 := Try.isAgg129
  z25 := Try.sizeOf129
  v25 := Try.zeroValue129
abbrev T3 := Int × Int × Int
def enc3 (x : T3) : List Value := [.int .i64 x.1, .int .i64 x.2.1, .int .i64 x.2.2]
theorem del_pred (a b c who : Int) (B : Nat) (W : World) (hc : W.cell? ⟨B, 0, none⟩ = some (.int .i64 who)) (hB : B < W.heap.size) :
    Calls Try.prog 115 #[.agg #[.int .i64 a, .int .i64 b, .int .i64 c], .pointer (some ⟨B, 0, none⟩)] W fun e w' => e = .returned (.bool (a == who)) ∧ ∃ q os', w' = grow (W.drewN q) os' := by
  have hne : B ≠ W.heap.size := by omega
  go_enter Try.func115, Try.ntmps115
  go_wp2
  all_goals
    go_ret
    exact ⟨by simp_all, 0, _, by rw [alloc_eq_grow]; rfl⟩
def keepF (who : Int) (x : T3) : Bool := !(x.1 == who)
theorem enc3_len (x : T3) : (enc3 x).length = 3 := rfl
theorem enc3_one (x : T3) : ∀ v ∈ enc3 x, v.oneCell' = true := by
  intro v hv
  simp [enc3] at hv
  rcases hv with rfl | rfl | rfl <;> rfl
theorem swk_other {w1 W : World} {blk B : Nat} {dk : Array T3} (h : SWK enc3 3 w1 blk 0 dk W) (hne : B ≠ blk) (hB : B < w1.heap.size) : W.heap[B]? = w1.heap[B]? := by
  obtain ⟨n, os, rfl⟩ := h
  exact (PM.put_grownBy (w := w1) (g := blk) (q := n) (os := os) (flatK enc3 3 dk)).block B hB (fun e => hne (Option.some.inj e))
theorem idxByFrom_spec' {α : Type} [Inhabited α] (eq : α → α → Bool) (x : α) : ∀ (l : List α) (i : Nat), (Lib.idxByFrom eq x l i = -1 ∧ ∀ j, j < l.length → eq x l[j]! = false) ∨ ∃ k, k < l.length ∧ Lib.idxByFrom eq x l i = ((i + k : Nat) : Int) ∧ eq x l[k]! = true ∧ ∀ j, j < k → eq x l[j]! = false
  | [], _ => .inl ⟨rfl, fun j hj => absurd hj (Nat.not_lt_zero _)⟩
  | y :: r, i => by
    cases h : eq x y with
    | true => exact .inr ⟨0, by simp, by simp [Lib.idxByFrom, h], by simpa using h, fun j hj => absurd hj (Nat.not_lt_zero _)⟩
    | false =>
      have hs : Lib.idxByFrom eq x (y :: r) i = Lib.idxByFrom eq x r (i + 1) := by simp [Lib.idxByFrom, h]
      rcases idxByFrom_spec' eq x r (i + 1) with ⟨e, ha⟩ | ⟨k, hk, e, ht, ha⟩
      · refine .inl ⟨hs.trans e, fun j hj => ?_⟩
        cases j with
        | zero => simpa using h
        | succ j => simpa using ha j (by simpa using hj)
      · refine .inr ⟨k + 1, by simpa using hk, ?_, by simpa using ht, fun j hj => ?_⟩
        · rw [hs, e]; congr 1; omega
        · cases j with
          | zero => simpa using h
          | succ j => simpa using ha j (by omega)
set_option maxHeartbeats 4000000 in
theorem del_walk (who : Int) (blk cap B : Nat) (d : Array T3) (w : World) (hH : HoldsK enc3 3 w blk 0 d) (hblk : blk < w.heap.size) (hB : w.cell? ⟨B, 0, none⟩ = some (.int .i64 who)) (hBs : B < w.heap.size) (hne : B ≠ blk) (hsz : d.size ≤ 2147483648) (hcap : d.size ≤ cap) :
    Calls Try.prog 114 #[.slice (some ⟨blk, 0, none⟩) d.size cap, .func (.func 115) #[] #[.pointer (some ⟨B, 0, none⟩)]] w fun e w' => ∃ w1 n os, e = .returned (.slice (some ⟨blk, 0, none⟩) (d.toList.filter (keepF who)).length cap) ∧ Below w.heap.size w w1 ∧
      w' = sortWorldK enc3 3 w1 blk 0 n ((d.toList.filter (keepF who)) ++ List.replicate (d.size - (d.toList.filter (keepF who)).length) (0, 0, 0)).toArray os := by
  have eg : ∀ args w, (callFunc 115 args).run Try.prog w = .ok (.enter 115 args) w := enters_of Try.func115 (by kernel_rfl) rfl
  have tl : ∀ j, j < d.size → d.toList[j]! = d[j]! := fun j hj => by rw [getElem!_pos d j hj, getElem!_pos d.toList j (by simpa using hj)]; simp
  have hIF := AnyQ.slices_IndexFunc (P := Try.prog) (ρ := idxHold_ren) idxHold 3 Try.isAgg73 Try.sizeOf73 enc3 enc3_len (fun x => x.1 == who) 115 #[.pointer (some ⟨B, 0, none⟩)] eg blk 0 d.size cap d.toList w
    (fun W x hb => (del_pred x.1 x.2.1 x.2.2 who B W (by rw [hb.cell (p := ⟨B, 0, none⟩) hBs]; exact hB) (Nat.lt_of_lt_of_le hBs hb.size)).mono fun e w' hq => by
      obtain ⟨rfl, q, os', rfl⟩ := hq
      refine ⟨rfl, hb.trans ⟨rfl, rfl, rfl, by rw [size_grow]; exact Nat.le_add_right _ _, fun k hk => ?_⟩⟩
      exact heap_grow_old _ _ (Nat.lt_of_lt_of_le hk hb.size))
    (by simp) (by omega) hblk (fun j hj i v hi => by
      have hj' : j < d.size := by simpa using hj
      rw [tl j hj'] at hi
      have := HoldsK.cells hH enc3_len hj' i v hi
      rwa [Addr.add_lit] at this)
  rw [show d.toList.take d.size = d.toList from List.take_of_length_le (by simp)] at hIF
  change Calls Try.prog 160 _ _ _ at hIF
  obtain ⟨kp, HK⟩ : ∃ kp : Nat → Bool, Hid (kp = fun j => keepF who d[j]!) := ⟨_, rfl⟩
  have hfil : (d.toList.filter (keepF who)) = keptUpTo kp d d.size := by rw [HK.out]; exact (keptUpTo_filter (keepF who) d).symm
  rw [hfil]
  have HHw : Aside (HoldsK enc3 3 w blk 0 d) := hH
  rcases idxByFrom_spec' (fun _ (y : T3) => y.1 == who) default d.toList 0 with ⟨e1, hall⟩ | ⟨k0, hk0, e1, ht, hall⟩
  · have e2 : Lib.idxBy (fun _ (y : T3) => y.1 == who) d.toList default = -1 := e1
    rw [e2] at hIF
    have hkeep : ∀ j, j < d.size → kp j = true := fun j hj => by rw [HK.out]; show (!(d[j]!.1 == who)) = true; rw [← tl j hj, hall j (by simpa using hj)]; rfl
    have e3 : keptUpTo kp d d.size = d.toList := by rw [keptUpTo_all kp d _ hkeep, range_map_get]
    rw [e3]
    clear hall tl hkeep e3 hfil e2 e1 hH hB
    go_enter Try.func114, Try.ntmps114
    go_wp2_with (go_at_call 160; refine hIF.mono ?_; rintro e w' ⟨rfl, hb1⟩)
    go_ret
    have hH1 : HoldsK enc3 3 w' blk 0 d := fun j hj => ⟨(hb1.cell (p := ⟨blk, 0 + j, none⟩) hblk).trans (HHw.out j hj).1, by rw [hb1.frozen (p := ⟨blk, 0 + j, none⟩) hblk]; exact (HHw.out j hj).2⟩
    obtain ⟨n, os, e4⟩ := SWK.start hH1
    refine ⟨w', n, os, by simp, hb1, ?_⟩
    rw [show (d.toList ++ List.replicate (d.size - d.toList.length) ((0, 0, 0) : T3)).toArray = d by simp]
    exact e4
  · have hk0' : k0 < d.size := by simpa using hk0
    have e2 : Lib.idxBy (fun _ (y : T3) => y.1 == who) d.toList default = (k0 : Int) := by unfold Lib.idxBy; rw [e1]; simp
    rw [e2] at hIF
    have hkeep : ∀ j, j < k0 → kp j = true := fun j hj => by rw [HK.out]; show (!(d[j]!.1 == who)) = true; rw [← tl j (by omega), hall j hj]; rfl
    have hdrop : kp k0 = false := by rw [HK.out]; show (!(d[k0]!.1 == who)) = false; rw [← tl k0 hk0', show (d.toList[k0]!.1 == who) = true from ht]; rfl
    have hne1 : ((k0 : Int) == -1) = false := beq_eq_false_iff_ne.2 (by omega)
    have HBw : Aside (w.cell? ⟨B, 0, none⟩ = some (.int .i64 who)) := hB
    have HK1 : Aside (∀ j, j < k0 → kp j = true) := hkeep
    have HK2 : Aside (kp k0 = false) := hdrop
    clear hall ht e1 e2 tl hfil hH hB hkeep hdrop
    go_enter Try.func114, Try.ntmps114
    go_wp2_with (go_at_call 160; refine hIF.mono ?_; rintro e w1 ⟨rfl, hb1⟩)
    have H1 : Aside (HoldsK enc3 3 w1 blk 0 d) := fun j hj => ⟨(hb1.cell (p := ⟨blk, 0 + j, none⟩) hblk).trans (HHw.out j hj).1, by rw [hb1.frozen (p := ⟨blk, 0 + j, none⟩) hblk]; exact (HHw.out j hj).2⟩
    have HB1 : Aside (RowKit.Below w.heap.size w w1) := hb1
    clear hb1
    go_loopg [5, 6, 7] d.size (fun gg s5 s6 _ wr => ∃ (i j : Nat) (dk : Array T3), s5 = .int .i64 i ∧ s6 = .int .i64 j ∧ j ≤ d.size ∧ d.size - j ≤ gg ∧ Aside (SWK enc3 3 w1 blk 0 dk wr) ∧ Aside (KeptInv kp d j i dk))
    case atStart => exact ⟨k0, k0 + 1, d, rfl, by go_num, by omega, by omega, SWK.start H1.out, KeptInv.start HK1.out HK2.out⟩
    case round =>
      obtain ⟨i, j, dk, rfl, rfl, hjd, hgg, SW, I2⟩ := hrel
      have hI := I2.out
      have hij := hI.lt
      have hds := hI.size
      have hblk1 : blk < w1.heap.size := Nat.lt_of_lt_of_le hblk HB1.out.size
      have hHk : HoldsK enc3 3 wr blk 0 dk := SW.out.holds hblk1 H1.out hds
      have hszw : w1.heap.size ≤ wr.heap.size := SW.out.le
      have hbr : blk < wr.heap.size := Nat.lt_of_lt_of_le hblk1 hszw
      have hbr' : blk ≠ wr.heap.size := by omega
      by_cases hlt : j < d.size
      · have hltz : (j : Int) < (d.size : Int) := by omega
        have hiz : (i : Int) < (d.size : Int) := by omega
        obtain ⟨u, hu⟩ : ∃ u, dk[j]! = u := ⟨_, rfl⟩
        have c0 : wr.cell? ⟨blk, j * 3, none⟩ = some (.int .i64 u.1) := by
          have := (hHk.cell (i := j) (c := 0) (by omega) (by omega)).1
          rw [hu, Nat.zero_add] at this
          exact this
        have c1 : wr.cell? ⟨blk, j * 3 + 1, none⟩ = some (.int .i64 u.2.1) := by
          have := (hHk.cell (i := j) (c := 1) (by omega) (by omega)).1
          rw [hu, Nat.zero_add] at this
          exact this
        have c2 : wr.cell? ⟨blk, j * 3 + 2, none⟩ = some (.int .i64 u.2.2) := by
          have := (hHk.cell (i := j) (c := 2) (by omega) (by omega)).1
          rw [hu, Nat.zero_add] at this
          exact this
        rw [hI.high j (by omega)] at hu
        obtain ⟨u1, u2, u3⟩ := u
        simp only at c0 c1 c2
        obtain ⟨v, hv⟩ : ∃ v, dk[i]! = v := ⟨_, rfl⟩
        have hcall : Calls Try.prog 115 #[.agg #[.int .i64 u1, .int .i64 u2, .int .i64 u3], .pointer (some ⟨B, 0, none⟩)] (wr.alloc (.cells #[.int .i64 u1, .int .i64 u2, .int .i64 u3] 73)) fun e w' => e = .returned (.bool (u1 == who)) ∧ Aside (SWK enc3 3 w1 blk 0 dk w') ∧
            w'.cell? ⟨wr.heap.size, 0, none⟩ = some (.int .i64 u1) ∧ w'.cell? ⟨wr.heap.size, 1, none⟩ = some (.int .i64 u2) ∧ w'.cell? ⟨wr.heap.size, 2, none⟩ = some (.int .i64 u3) ∧
            w'.cell? ⟨blk, i * 3, none⟩ = some (.int .i64 v.1) ∧ w'.cell? ⟨blk, i * 3 + 1, none⟩ = some (.int .i64 v.2.1) ∧ w'.cell? ⟨blk, i * 3 + 2, none⟩ = some (.int .i64 v.2.2) ∧
            w'.frozen? ⟨blk, i * 3, none⟩ = false ∧ w'.frozen? ⟨blk, i * 3 + 1, none⟩ = false ∧ w'.frozen? ⟨blk, i * 3 + 2, none⟩ = false := by
          have hBc : (wr.alloc (.cells #[.int .i64 u1, .int .i64 u2, .int .i64 u3] 73)).cell? ⟨B, 0, none⟩ = some (.int .i64 who) := by
            refine Lib.cell?_alloc_some _ ?_
            rw [World.cell?_of_block (a := ⟨B, 0, none⟩) (swk_other SW.out hne (Nat.lt_of_lt_of_le hBs HB1.out.size)), HB1.out.cell (p := ⟨B, 0, none⟩) hBs]
            exact HBw.out
          have hBlt : B < (wr.alloc (.cells #[.int .i64 u1, .int .i64 u2, .int .i64 u3] 73)).heap.size := by
            have := HB1.out.size
            simp; omega
          refine (del_pred u1 u2 u3 who B _ hBc hBlt).mono fun e w' hq => ?_
          obtain ⟨rfl, q, os', rfl⟩ := hq
          have hS := (SW.out.alloc (.cells #[.int .i64 u1, .int .i64 u2, .int .i64 u3] 73)).grown q os'
          have hH2 : HoldsK enc3 3 _ blk 0 dk := hS.holds hblk1 H1.out hds
          have bx : ∀ c, c < 3 → (grow ((wr.alloc (.cells #[.int .i64 u1, .int .i64 u2, .int .i64 u3] 73)).drewN q) os').cell? ⟨wr.heap.size, c, none⟩ = (wr.alloc (.cells #[.int .i64 u1, .int .i64 u2, .int .i64 u3] 73)).cell? ⟨wr.heap.size, c, none⟩ := fun c _ => by
            rw [cell?_grow _ _ _ (by show wr.heap.size < (wr.alloc _).heap.size; simp)]
            rfl
          have rw3 : ∀ c, c < 3 → _ := fun c hc => hH2.cell (i := i) (c := c) (by omega) hc
          simp only [Nat.zero_add, hv] at rw3
          have r0 := rw3 0 (by omega)
          have r1 := rw3 1 (by omega)
          have r2 := rw3 2 (by omega)
          exact ⟨rfl, hS, (bx 0 (by omega)).trans (by simp), (bx 1 (by omega)).trans (by simp), (bx 2 (by omega)).trans (by simp), r0.1, r1.1, r2.1, r0.2, r1.2, r2.2⟩
        obtain ⟨v1, v2, v3⟩ := v
        simp only at hcall
        have C : Aside (d[j]! = (u1, u2, u3)) := hu
        clear hu hHk hI hv
        cases hq : (u1 == who) with
        | true =>
          rw [hq] at hcall
          go_wp2_with (go_at_call 115; refine hcall.mono ?_; rintro e w' ⟨rfl, hs, b0, b1, b2, o0, o1, o2, f0, f1, f2⟩)
          go_roundg (d.size - (j + 1))
          case measure => omega
          case rel => exact ⟨i, j + 1, dk, rfl, by go_num, by omega, Nat.le_refl _, hs, I2.out.skip (by rw [HK.out]; show (!(d[j]!.1 == who)) = false; rw [C.out, hq]; rfl)⟩
        | false =>
          rw [hq] at hcall
          go_wp2_with (go_at_call 115; refine hcall.mono ?_; rintro e w' ⟨rfl, hs, b0, b1, b2, o0, o1, o2, f0, f1, f2⟩)
          go_roundg (d.size - (j + 1))
          case measure => omega
          case rel =>
            refine ⟨i + 1, j + 1, dk.setIfInBounds i (u1, u2, u3), by go_num, by go_num, by omega, Nat.le_refl _, ?_, ?_⟩
            · have := PM.SWK_set enc3_len hblk1 hs.out (i := i) (by omega) (u1, u2, u3)
              rw [Nat.zero_add] at this
              exact this
            · have := I2.out.keep hlt (by rw [HK.out]; show (!(d[j]!.1 == who)) = true; rw [C.out, hq]; rfl)
              rwa [C.out] at this
      · obtain rfl : j = d.size := by omega
        have hltz : ¬ (d.size : Int) < (d.size : Int) := by omega
        have hcl : ∀ ty, (Builtin.clear_ #[53] ty #[.slice (some ⟨blk, i * 3, none⟩) (d.size - i) (cap - i)]).run Try.prog wr = .ok (.tuple #[]) (wr.setCells blk (i * 3) (List.replicate ((d.size - i) * 3) (.int .i64 0))) :=
          fun ty => PM.run_clear_k wr 53 73 ty _ (.int .i64 0) 3 Try.underlying53 Try.zeroValue73 rfl rfl (by omega) blk (i * 3) (d.size - i) (cap - i) (by omega) (fun t ht => by
            have := (hHk (i * 3 + t) (by rw [size_flatK, hds]; omega)).1
            rw [Nat.zero_add] at this
            rw [this]; rfl) (fun t ht => by
            have := (hHk (i * 3 + t) (by rw [size_flatK, hds]; omega)).2
            rw [Nat.zero_add] at this
            exact this)
        clear hHk hI
        go_wp2
        go_ret
        have hI := I2.out
        have hS := PM.SWK_clear enc3_len hblk1 SW.out (i := i) (by omega) (0, 0, 0) (.int .i64 0) rfl
        rw [hds, hI.done ((0, 0, 0) : T3), Nat.zero_add] at hS
        obtain ⟨n, os, hS⟩ := hS
        rw [hI.len]
        exact ⟨rfl, w1, HB1.out, n, os, by rw [hS]⟩
theorem idx_nil (c : Nat) (lb : Array Value) (w : World) : Calls Try.prog 160 #[.slice none 0 0, .func (.func c) #[] lb] w fun e w' => e = .returned (.int .i64 (-1)) ∧ RowKit.Below w.heap.size w w' := by
  go_enter Try.func160, Try.ntmps160
  go_wp2
  go_loopg [5, 8] 0 (fun gg _ s8 wr => s8 = .int .i64 0 ∧ Aside (RowKit.Below w.heap.size w wr))
  case atStart => exact ⟨rfl, Below.refl _ w⟩
  case round =>
    obtain ⟨rfl, BW⟩ := hrel
    go_wp2
    go_ret
    exact ⟨rfl, BW.out⟩
theorem del_nil (c : Nat) (lb : Array Value) (w : World) : Calls Try.prog 114 #[.slice none 0 0, .func (.func c) #[] lb] w fun e w' => e = .returned (.slice none 0 0) ∧ RowKit.Below w.heap.size w w' := by
  have h := idx_nil c lb w
  go_enter Try.func114, Try.ntmps114
  go_wp2_with (go_at_call 160; refine h.mono ?_; rintro e w' ⟨rfl, hb1⟩)
  go_ret
  exact ⟨rfl, hb1⟩
theorem rows3 : ∀ {l : List (List Int)}, (∀ r ∈ l, r.length = 3) → ∃ D : List T3, l = D.map fun x => [x.1, x.2.1, x.2.2]
  | [], _ => ⟨[], rfl⟩
  | r :: l, h => by
    obtain ⟨D, rfl⟩ := rows3 fun s hs => h s (List.mem_cons_of_mem _ hs)
    have := h r (by simp)
    match r, this with
    | [a, b, c], _ => exact ⟨(a, b, c) :: D, rfl⟩
theorem flat3 (D : Array T3) (i j : Nat) (hi : i < D.size) (hj : j < 3) : (flatK enc3 3 D)[i * 3 + j]? = some (.int .i64 (((D.toList.map fun x : T3 => [x.1, x.2.1, x.2.2]).getD i []).getD j 0)) := by
  have lt : i * 3 + j < D.size * 3 := by omega
  have e1 : (i * 3 + j) / 3 = i := by omega
  have e2 : (i * 3 + j) % 3 = j := by omega
  have h := get_flatK enc3 3 D (i * 3 + j) lt
  rw [e1, e2] at h
  rw [Array.getElem?_eq_getElem (by rw [size_flatK]; exact lt), ← getElem!_pos, h]
  have : (D.toList.map fun x : T3 => [x.1, x.2.1, x.2.2]).getD i [] = [D[i]!.1, D[i]!.2.1, D[i]!.2.2] := by
    rw [List.getD_eq_getElem?_getD, List.getElem?_map, Array.getElem?_toList, Array.getElem?_eq_getElem hi, getElem!_pos D i hi]
    rfl
  rw [this]
  match j, hj with
  | 0, _ => rfl
  | 1, _ => rfl
  | 2, _ => rfl
theorem del_ok : PM.DelOk Try.prog 114 115 (slices_DeleteFunc___impl_Hold_impl_Hold__w (slices_DeleteFunc___impl_Hold_impl_Hold_ PM.std)) := by
  intro t n l who k r h
  unfold slices_DeleteFunc___impl_Hold_impl_Hold__w at h
  split at h
  case h_2 => cases h
  rename_i heq
  cases heq
  unfold slices_DeleteFunc___impl_Hold_impl_Hold_ at h
  split at h
  case isFalse => cases h
  rename_i hw
  obtain ⟨D, rfl⟩ := rows3 hw.1
  have hfil : (D.map fun x : T3 => [x.1, x.2.1, x.2.2]).filter (fun r => !(r.getD 0 0 == who)) = (D.filter (keepF who)).map fun x => [x.1, x.2.1, x.2.2] := by
    rw [List.filter_map]; rfl
  rw [hfil] at h
  have hle : (D.filter (keepF who)).length ≤ D.length := List.length_filter_le _ _
  refine ⟨_, (D.filter (keepF who) ++ List.replicate (D.length - (D.filter (keepF who)).length) (0, 0, 0)).map fun x : T3 => [x.1, x.2.1, x.2.2], h, ?_, ?_, ?_, ?_, fun w v xs B hown hcells hB hne => ?_⟩
  · simpa using hle
  · simp; omega
  · rw [List.map_append, List.take_left]
  · intro x hx
    obtain ⟨y, _, rfl⟩ := List.mem_map.1 hx
    rfl
  · rw [List.length_map] at hown
    have hsz : D.toArray.size = D.length := by simp
    have hxl : xs.length = D.length * 3 := hown.1
    have hxs : xs.toArray = flatK enc3 3 D.toArray := by
      apply Array.ext_getElem?
      intro q
      by_cases hq : q < D.length * 3
      · have hi : q / 3 < D.length := by omega
        have hj : q % 3 < 3 := by omega
        have hqq : q / 3 * 3 + q % 3 = q := by omega
        have c1 := hcells (q / 3) (q % 3) (by simpa using hi) hj
        have e3 := flat3 D.toArray _ _ (by rw [hsz]; exact hi) hj
        rw [hqq] at e3 c1
        rw [e3]
        simpa using c1
      · have n1 : xs.toArray[q]? = none := Array.getElem?_eq_none (by simp; omega)
        have n2 : (flatK enc3 3 D.toArray)[q]? = none := Array.getElem?_eq_none (by rw [size_flatK]; simp; omega)
        rw [n1, n2]
    rcases hown.2 with ⟨rfl, h0⟩ | ⟨g, cap, cur, rfl, _, hg, hcap, _⟩
    · have hD : D = [] := List.eq_nil_of_length_eq_zero h0
      subst hD
      refine (del_nil 115 #[.pointer (some ⟨B, 0, none⟩)] w).mono fun e w' hq => ?_
      obtain ⟨rfl, hb⟩ := hq
      exact ⟨rfl, ⟨hb.os, hb.tape, hb.output, hb.size, fun k hk _ => hb.block k hk⟩, [], ⟨rfl, .inl ⟨rfl, rfl⟩⟩, fun i j hi _ => absurd hi (Nat.not_lt_zero _)⟩
    · obtain ⟨hH, hlt⟩ := PM.row_holds hown
      rw [hxs] at hH
      have hBs : B < w.heap.size := World.block_lt_of_cell? w ⟨B, 0, none⟩ hB
      have hBg : B ≠ g := fun e => hne (by rw [e]; rfl)
      have hcon := del_walk who g cap B D.toArray w hH hlt hB hBs hBg (by have := hw.2; simpa using this) (by rw [hsz]; exact hcap)
      rw [hsz] at hcon
      refine hcon.mono fun e w' hq => ?_
      obtain ⟨w1, n, os, rfl, hb, rfl⟩ := hq
      have hE : w.grownBy w1 none := ⟨hb.os, hb.tape, hb.output, hb.size, fun k hk _ => hb.block k hk⟩
      have hown1 := hown.kept hE (.inr (fun e => by cases e))
      generalize hF : D.filter (keepF who) ++ List.replicate (D.length - (D.filter (keepF who)).length) (0, 0, 0) = Fl
      have hFl : Fl.length = D.length := by rw [← hF]; simp; omega
      have hw2 : sortWorldK enc3 3 w1 g 0 n Fl.toArray os = grow (putRow id (Sort.ahead w1 n) g 0 (flatK enc3 3 Fl.toArray).toList.toArray) os := by
        simp [sortWorldK, putRowK]
      rw [hw2]
      have hgb := PM.put_grownBy (w := w1) (g := g) (q := n) (os := os) (flatK enc3 3 Fl.toArray).toList.toArray
      refine ⟨by simp [PM.cutS], ⟨hgb.os.trans hb.os, hgb.tape.trans hb.tape, hgb.output.trans hb.output, Nat.le_trans hb.size hgb.size, fun k hk hkn => (hgb.block k (Nat.lt_of_lt_of_le hk hb.size) hkn).trans (hb.block k hk)⟩, (flatK enc3 3 Fl.toArray).toList, ?_, fun i j hi hj => ?_⟩
      · rw [List.length_map]
        exact PM.row_put (by rw [hxl]; simp [hFl]) hown1
      · rw [List.length_map] at hi
        have := flat3 Fl.toArray i j (by simpa using hi) hj
        rw [← Array.getElem?_toList] at this
        rw [this]
theorem slices_DeleteFunc___impl_Hold_impl_Hold__g {cx : PM.Cx} : PM.GOk Try.prog cx 114 ⟨[], fun _ _ => none, some (PM.spDel 115 (slices_DeleteFunc___impl_Hold_impl_Hold__w (slices_DeleteFunc___impl_Hold_impl_Hold_ PM.std)))⟩ :=
  PM.GOk.ofS (PM.FnIs.of Try.func114 (by kernel_rfl) (by kernel_rfl)).enter (PM.spDel_ok del_ok)
end X
