/- Models of the functions, or plain laws about them; each theorem states its own conditions. -/
import Derived.Test.YtnkgcegeinemjaaMdlA
import Derived.Test.YtnkgcegeinemjaaL3
import Derived.Test.YtnkgcegeinemjaaW1
import Derived.Test.YtnkgcegeinemjaaProg
import Derived.KernelRfl
set_option linter.unusedVariables false
set_option linter.unusedSimpArgs false
open Go.Proofs
namespace X
open PM
set_option maxRecDepth 100000
set_option maxHeartbeats 4000000
abbrev spec_CommitNew_T := (Int) → (Int) → (List (List Int)) → (List (List Int)) → ((Int) → (Int) → (Int) → (Int) → (Int) → (List (List Int)) → (List Int) → (Bool) → PM.R) → PM.R
noncomputable def spec_CommitNew_w (c : spec_CommitNew_T) (ds : List PM.V) (k : PM.V → PM.R) : PM.R :=
  match ds with
  | [.int .i64 who, .int .i64 rv, .arr (.vecs 135 2 puts), .arr (.vecs 135 2 reads)] => c who rv puts reads (fun r0_Who r0_Rv r0_Phase r0_At r0_Wv r0_Puts r0_Reads r1 => k (.tup [.agg [.int .i64 r0_Who, .int .i64 r0_Rv, .int .i64 r0_Phase, .int .i64 r0_At, .int .i64 r0_Wv, .arr (.vecs 135 2 r0_Puts), .arr (.ints 3 .i64 r0_Reads)], .bool r1]))
  | _ => none
noncomputable def spec_CommitNew_f (A : PM.Prims) (c_94 : spec_l1In_T) (c_82 : spec_RowsOk_T) (c_126 : spec_Net_T) (c_127 : spec_CellsOf_T) (who : Int) (rv : Int) (puts : List (List Int)) (reads : List (List Int)) (k : (Int) → (Int) → (Int) → (Int) → (Int) → (List (List Int)) → (List Int) → (Bool) → PM.R) : PM.R :=
  c_94 who 1 99 (fun r1 =>
    bif (A.not r1) then
      k 0 0 0 0 0 [] [] false
    else
      c_94 rv 0 1000000 (fun r2 =>
        bif (A.not r2) then
          k 0 0 0 0 0 [] [] false
        else
          c_82 puts (fun r3 =>
            bif (A.not r3) then
              k 0 0 0 0 0 [] [] false
            else
              c_82 reads (fun r4 =>
                bif (A.not r4) then
                  k 0 0 0 0 0 [] [] false
                else
                  c_126 puts (fun r5 =>
                    c_127 reads (fun r6 =>
                      bif (A.eq (A.vlen r5) 0) then
                        k who rv 2 0 0 r5 r6 true
                      else
                        k who rv 1 0 0 r5 r6 true))))))
noncomputable def spec_CommitNew (A : PM.Prims) : spec_CommitNew_T := spec_CommitNew_f A (spec_l1In A) (spec_RowsOk A) (spec_Net A) (spec_CellsOf A)
noncomputable def spec_CommitNew_L (A : PM.Prims) (c_94 : spec_l1In_T) (c_82 : spec_RowsOk_T) (c_126 : spec_Net_T) (c_127 : spec_CellsOf_T) (n : Nat) : PM.Lam := fun cur σ K =>
  match cur, σ, K with
  | _, _, _ => none
noncomputable def spec_CommitNew_E (A : PM.Prims) (c_94 : spec_l1In_T) (c_82 : spec_RowsOk_T) (c_126 : spec_Net_T) (c_127 : spec_CellsOf_T) : PM.Env := ⟨[(94, ⟨[], spec_l1In_w c_94, none⟩), (82, ⟨[], spec_RowsOk_w c_82, none⟩), (126, ⟨[], spec_Net_w c_126, none⟩), (127, ⟨[], spec_CellsOf_w c_127, none⟩)], [], [], [(0, [0, 1, 2, 3, 8]), (1, [0, 1, 2, 3, 8, 28]), (2, [8, 9]), (3, [8, 10]), (4, [8, 10, 40]), (5, [8, 10]), (6, [8, 9])], spec_CommitNew_L A c_94 c_82 c_126 c_127 A.fuel⟩
theorem spec_CommitNew_ok (A : PM.Prims) (c_94 : spec_l1In_T) (c_82 : spec_RowsOk_T) (c_126 : spec_Net_T) (c_127 : spec_CellsOf_T) (who : Int) (rv : Int) (puts : List (List Int)) (reads : List (List Int)) (k : PM.V → PM.R) : PM.pfun A cx [] (spec_CommitNew_E A c_94 c_82 c_126 c_127) Go.Proofs.Try.f67 [.int .i64 who, .int .i64 rv, .arr (.vecs 135 2 puts), .arr (.vecs 135 2 reads)] k = spec_CommitNew_f A c_94 c_82 c_126 c_127 who rv puts reads (fun r0_Who r0_Rv r0_Phase r0_At r0_Wv r0_Puts r0_Reads r1 => k (.tup [.agg [.int .i64 r0_Who, .int .i64 r0_Rv, .int .i64 r0_Phase, .int .i64 r0_At, .int .i64 r0_Wv, .arr (.vecs 135 2 r0_Puts), .arr (.ints 3 .i64 r0_Reads)], .bool r1])) := by kernel_rfl

theorem spec_CommitNew_fn : PM.FnIs Try.prog 67 Try.f67 := .of Try.func67 (by kernel_rfl) (by kernel_rfl)
theorem spec_CommitNew_g : PM.GOk Try.prog cx 67 ⟨[], spec_CommitNew_w (spec_CommitNew PM.std), none⟩ := by
  refine ⟨spec_CommitNew_fn.enter, fun _ ds k r h => ?_, fun hm => absurd rfl hm, fun _ e => (by cases e)⟩
  change spec_CommitNew_w (spec_CommitNew PM.std) ds k = some r at h
  unfold spec_CommitNew_w at h
  split at h
  · exact PM.pfun_ok (E := spec_CommitNew_E PM.std (spec_l1In PM.std) (spec_RowsOk PM.std) (spec_Net PM.std) (spec_CellsOf PM.std)) (L := fun n => spec_CommitNew_L PM.std (spec_l1In PM.std) (spec_RowsOk PM.std) (spec_Net PM.std) (spec_CellsOf PM.std) n) (N := PM.std.fuel) cx_ok (.cons spec_l1In_g (.cons spec_RowsOk_g (.cons spec_Net_g (.cons spec_CellsOf_g .nil)))) mixed .nil spec_CommitNew_fn (by kernel_rfl) ⟨rfl, fun _ _ _ => rfl, fun n cur σ K r h => by cases h⟩
      ((spec_CommitNew_ok PM.std (spec_l1In PM.std) (spec_RowsOk PM.std) (spec_Net PM.std) (spec_CellsOf PM.std) _ _ _ _ k).trans h)
  · cases h

abbrev impl_Last_T := (List (List Int)) → (Int) → ((Int) → (Bool) → PM.R) → PM.R
noncomputable def impl_Last_w (c : impl_Last_T) (ds : List PM.V) (k : PM.V → PM.R) : PM.R :=
  match ds with
  | [.arr (.vecs 135 2 l), .int .i64 cell] => c l cell (fun r0 r1 => k (.tup [.int .i64 r0, .bool r1]))
  | _ => none
noncomputable def impl_Last_l0 (A : PM.Prims) (c_124 : impl_RowsOk_T) : Nat → (List (List Int)) → (Int) → (Int) → ((Int) → (Bool) → PM.R) → (Unit → PM.R) → PM.R
  | 0, _, _, _, _, _ => none
  | n + 1, l2, cell3, i4, kret_0, kx0_0 =>
    bif (A.le 0 i4) then
      bif (A.inb i4 (A.vlen l2)) then
        bif (A.eq (A.vget l2 i4 0) cell3) then
          bif (A.inb i4 (A.vlen l2)) then
            kret_0 (A.vget l2 i4 1) true
          else
            none
        else
          impl_Last_l0 A c_124 n l2 cell3 (A.sub .i64 i4 1) kret_0 kx0_0
      else
        none
    else
      kx0_0 ()
noncomputable def impl_Last_f (A : PM.Prims) (c_124 : impl_RowsOk_T) (l : List (List Int)) (cell : Int) (k : (Int) → (Bool) → PM.R) : PM.R :=
  c_124 l (fun r1 =>
    bif (A.not r1) then
      k 0 false
    else
      impl_Last_l0 A c_124 A.fuel l cell (A.sub .i64 (A.vlen l) 1) (fun t457 t568 =>
        k t457 t568) (fun _ =>
        k 0 false))
noncomputable def impl_Last (A : PM.Prims) : impl_Last_T := impl_Last_f A (impl_RowsOk A)
noncomputable def impl_Last_L (A : PM.Prims) (c_124 : impl_RowsOk_T) (n : Nat) : PM.Lam := fun cur σ K =>
  match cur, σ, K with
  | 0, ⟨[(0, .arr (.vecs 135 2 l2)), (1, .int .i64 cell3), (6, .int .i64 i4)], []⟩, K => impl_Last_l0 A c_124 n l2 cell3 i4 (fun t45 t56 => K .ret ⟨[(4, .int .i64 t45), (5, .bool t56)], []⟩) (fun _ => K (.exit 0) ⟨[], []⟩)
  | _, _, _ => none
noncomputable def impl_Last_E (A : PM.Prims) (c_124 : impl_RowsOk_T) : PM.Env := ⟨[(124, ⟨[], impl_RowsOk_w c_124, none⟩)], [], [(0, [0, 1, 6], [4, 5])], [(0, [0, 1]), (1, [0, 1, 9]), (2, [4, 5]), (3, [0, 1, 6]), (4, [0, 1, 6, 14]), (5, [0, 1, 6]), (6, [0, 1, 6, 23]), (7, [4, 5]), (8, [4, 5])], impl_Last_L A c_124 A.fuel⟩
theorem impl_Last_l0_ok (A : PM.Prims) (c_124 : impl_RowsOk_T) (n : Nat) (l2 : List (List Int)) (cell3 : Int) (i4 : Int) (K : Go.Exit → PM.S → PM.R) : impl_Last_L A c_124 (n + 1) 0 ⟨[(0, .arr (.vecs 135 2 l2)), (1, .int .i64 cell3), (6, .int .i64 i4)], []⟩ K = PM.roundF A cx (PM.runD A cx (impl_Last_E A c_124).inl (impl_Last_E A c_124).Γ 3) (impl_Last_E A c_124) (impl_Last_L A c_124 n) 0 Go.Proofs.Try.f91 ⟨[(0, .arr (.vecs 135 2 l2)), (1, .int .i64 cell3), (6, .int .i64 i4)], []⟩ K := by kernel_rfl
theorem impl_Last_ok (A : PM.Prims) (c_124 : impl_RowsOk_T) (l : List (List Int)) (cell : Int) (k : PM.V → PM.R) : PM.pfun A cx [] (impl_Last_E A c_124) Go.Proofs.Try.f91 [.arr (.vecs 135 2 l), .int .i64 cell] k = impl_Last_f A c_124 l cell (fun r0 r1 => k (.tup [.int .i64 r0, .bool r1])) := by kernel_rfl

theorem impl_Last_fn : PM.FnIs Try.prog 91 Try.f91 := .of Try.func91 (by kernel_rfl) (by kernel_rfl)
theorem impl_Last_g : PM.GOk Try.prog cx 91 ⟨[], impl_Last_w (impl_Last PM.std), none⟩ := by
  refine ⟨impl_Last_fn.enter, fun _ ds k r h => ?_, fun hm => absurd rfl hm, fun _ e => (by cases e)⟩
  change impl_Last_w (impl_Last PM.std) ds k = some r at h
  unfold impl_Last_w at h
  split at h
  · exact PM.pfun_ok (E := impl_Last_E PM.std (impl_RowsOk PM.std)) (L := fun n => impl_Last_L PM.std (impl_RowsOk PM.std) n) (N := PM.std.fuel) cx_ok (.cons impl_RowsOk_g .nil) mixed .nil impl_Last_fn (by kernel_rfl) ⟨rfl, fun cur σ K => by
      dsimp only [impl_Last_L]
      split <;> rfl, fun n cur σ K r h => by
      dsimp only [impl_Last_L] at h
      split at h
      · exact (impl_Last_l0_ok PM.std (impl_RowsOk PM.std) n _ _ _ K).symm.trans h
      · cases h⟩
      ((impl_Last_ok PM.std (impl_RowsOk PM.std) _ _ k).trans h)
  · cases h

abbrev impl_Net_T := (List (List Int)) → ((List (List Int)) → PM.R) → PM.R
noncomputable def impl_Net_w (c : impl_Net_T) (ds : List PM.V) (k : PM.V → PM.R) : PM.R :=
  match ds with
  | [.arr (.vecs 135 2 l)] => c l (fun r0 => k (.arr (.vecs 135 2 r0)))
  | _ => none
noncomputable def impl_Net_l0 (A : PM.Prims) (c_124 : impl_RowsOk_T) (c_91 : impl_Last_T) : Nat → (List (List Int)) → (Int) → (List (List Int)) → ((List (List Int)) → PM.R) → PM.R
  | 0, _, _, _, _ => none
  | n + 1, l2, t113, o04, kx0_0 =>
    bif (A.lt t113 8) then
      c_91 l2 t113 (fun r5 r6 =>
        bif r6 then
          bif (A.room (A.vlen o04) (A.vlen [[t113, r5]])) then
            impl_Net_l0 A c_124 c_91 n l2 (A.add .i64 t113 1) (A.vapp o04 [[t113, r5]]) kx0_0
          else
            none
        else
          impl_Net_l0 A c_124 c_91 n l2 (A.add .i64 t113 1) o04 kx0_0)
    else
      kx0_0 o04
noncomputable def impl_Net_f (A : PM.Prims) (c_124 : impl_RowsOk_T) (c_91 : impl_Last_T) (l : List (List Int)) (k : (List (List Int)) → PM.R) : PM.R :=
  c_124 l (fun r1 =>
    bif (A.not r1) then
      k []
    else
      impl_Net_l0 A c_124 c_91 A.fuel l 0 [] (fun o078 =>
        k o078))
noncomputable def impl_Net (A : PM.Prims) : impl_Net_T := impl_Net_f A (impl_RowsOk A) (impl_Last A)
noncomputable def impl_Net_L (A : PM.Prims) (c_124 : impl_RowsOk_T) (c_91 : impl_Last_T) (n : Nat) : PM.Lam := fun cur σ K =>
  match cur, σ, K with
  | 0, ⟨[(0, .arr (.vecs 135 2 l2)), (3, .sref 0), (11, .int .i64 t113)], [(0, .arr true (.vecs 135 2 o04))]⟩, K => impl_Net_l0 A c_124 c_91 n l2 t113 o04 (fun o07 => K (.exit 0) ⟨[(3, .sref 0)], [(0, .arr true (.vecs 135 2 o07))]⟩)
  | _, _, _ => none
noncomputable def impl_Net_E (A : PM.Prims) (c_124 : impl_RowsOk_T) (c_91 : impl_Last_T) : PM.Env := ⟨[(124, ⟨[], impl_RowsOk_w c_124, none⟩), (91, ⟨[], impl_Last_w c_91, none⟩)], [], [(0, [0, 3, 11], [2, 3])], [(0, [0]), (1, [0, 9]), (2, [2]), (3, [0, 3]), (4, [0, 3, 11]), (5, [0, 3, 11, 12]), (6, [0, 3, 4, 11]), (7, [0, 3, 4, 5, 6, 11]), (8, [0, 3, 4, 5, 11, 20]), (9, [0, 3, 11]), (10, [0, 3, 11]), (11, [2])], impl_Net_L A c_124 c_91 A.fuel⟩
theorem impl_Net_l0_ok (A : PM.Prims) (c_124 : impl_RowsOk_T) (c_91 : impl_Last_T) (n : Nat) (l2 : List (List Int)) (t113 : Int) (o04 : List (List Int)) (K : Go.Exit → PM.S → PM.R) : impl_Net_L A c_124 c_91 (n + 1) 0 ⟨[(0, .arr (.vecs 135 2 l2)), (3, .sref 0), (11, .int .i64 t113)], [(0, .arr true (.vecs 135 2 o04))]⟩ K = PM.roundF A cx (PM.runD A cx (impl_Net_E A c_124 c_91).inl (impl_Net_E A c_124 c_91).Γ 3) (impl_Net_E A c_124 c_91) (impl_Net_L A c_124 c_91 n) 0 Go.Proofs.Try.f87 ⟨[(0, .arr (.vecs 135 2 l2)), (3, .sref 0), (11, .int .i64 t113)], [(0, .arr true (.vecs 135 2 o04))]⟩ K := by kernel_rfl
theorem impl_Net_ok (A : PM.Prims) (c_124 : impl_RowsOk_T) (c_91 : impl_Last_T) (l : List (List Int)) (k : PM.V → PM.R) : PM.pfun A cx [] (impl_Net_E A c_124 c_91) Go.Proofs.Try.f87 [.arr (.vecs 135 2 l)] k = impl_Net_f A c_124 c_91 l (fun r0 => k (.arr (.vecs 135 2 r0))) := by kernel_rfl

theorem impl_Net_fn : PM.FnIs Try.prog 87 Try.f87 := .of Try.func87 (by kernel_rfl) (by kernel_rfl)
theorem impl_Net_g : PM.GOk Try.prog cx 87 ⟨[], impl_Net_w (impl_Net PM.std), none⟩ := by
  refine ⟨impl_Net_fn.enter, fun _ ds k r h => ?_, fun hm => absurd rfl hm, fun _ e => (by cases e)⟩
  change impl_Net_w (impl_Net PM.std) ds k = some r at h
  unfold impl_Net_w at h
  split at h
  · exact PM.pfun_ok (E := impl_Net_E PM.std (impl_RowsOk PM.std) (impl_Last PM.std)) (L := fun n => impl_Net_L PM.std (impl_RowsOk PM.std) (impl_Last PM.std) n) (N := PM.std.fuel) cx_ok (.cons impl_RowsOk_g (.cons impl_Last_g .nil)) mixed .nil impl_Net_fn (by kernel_rfl) ⟨rfl, fun cur σ K => by
      dsimp only [impl_Net_L]
      split <;> rfl, fun n cur σ K r h => by
      dsimp only [impl_Net_L] at h
      split at h
      · exact (impl_Net_l0_ok PM.std (impl_RowsOk PM.std) (impl_Last PM.std) n _ _ _ K).symm.trans h
      · cases h⟩
      ((impl_Net_ok PM.std (impl_RowsOk PM.std) (impl_Last PM.std) _ k).trans h)
  · cases h

abbrev impl_CellsOf_T := (List (List Int)) → ((List Int) → PM.R) → PM.R
noncomputable def impl_CellsOf_w (c : impl_CellsOf_T) (ds : List PM.V) (k : PM.V → PM.R) : PM.R :=
  match ds with
  | [.arr (.vecs 135 2 l)] => c l (fun r0 => k (.arr (.ints 3 .i64 r0)))
  | _ => none
noncomputable def impl_CellsOf_l0 (A : PM.Prims) (c_87 : impl_Net_T) : Nat → (Int) → (Int) → (List Int) → (List (List Int)) → ((List Int) → PM.R) → PM.R
  | 0, _, _, _, _, _ => none
  | n + 1, t92, t103, o04, o15, kx0_0 =>
    bif (A.lt t103 t92) then
      bif (A.inb t103 (A.vlen o15)) then
        bif (A.room (A.ilen o04) (A.ilen [(A.vget o15 t103 0)])) then
          impl_CellsOf_l0 A c_87 n t92 (A.add .i64 t103 1) (A.iapp o04 [(A.vget o15 t103 0)]) o15 kx0_0
        else
          none
      else
        none
    else
      kx0_0 o04
noncomputable def impl_CellsOf_f (A : PM.Prims) (c_87 : impl_Net_T) (l : List (List Int)) (k : (List Int) → PM.R) : PM.R :=
  c_87 l (fun r1 =>
    impl_CellsOf_l0 A c_87 A.fuel (A.vlen r1) 0 [] r1 (fun o067 =>
      k o067))
noncomputable def impl_CellsOf (A : PM.Prims) : impl_CellsOf_T := impl_CellsOf_f A (impl_Net A)
noncomputable def impl_CellsOf_L (A : PM.Prims) (c_87 : impl_Net_T) (n : Nat) : PM.Lam := fun cur σ K =>
  match cur, σ, K with
  | 0, ⟨[(3, .sref 0), (8, .sref 1), (9, .int .i64 t92), (10, .int .i64 t103)], [(0, .arr true (.ints 3 .i64 o04)), (1, .arr true (.vecs 135 2 o15))]⟩, K => impl_CellsOf_l0 A c_87 n t92 t103 o04 o15 (fun o06 => K (.exit 0) ⟨[(3, .sref 0)], [(0, .arr true (.ints 3 .i64 o06))]⟩)
  | _, _, _ => none
noncomputable def impl_CellsOf_E (A : PM.Prims) (c_87 : impl_Net_T) : PM.Env := ⟨[(87, ⟨[], impl_Net_w c_87, none⟩)], [], [(0, [3, 8, 9, 10], [2, 3])], [(0, [0]), (1, [0, 3]), (2, [3, 8, 9, 10]), (3, [3, 8, 9, 10, 11]), (4, [3, 5, 8, 9, 10]), (5, [3, 8, 9, 10]), (6, [3, 8, 9, 10]), (7, [2])], impl_CellsOf_L A c_87 A.fuel⟩
theorem impl_CellsOf_l0_ok (A : PM.Prims) (c_87 : impl_Net_T) (n : Nat) (t92 : Int) (t103 : Int) (o04 : List Int) (o15 : List (List Int)) (K : Go.Exit → PM.S → PM.R) : impl_CellsOf_L A c_87 (n + 1) 0 ⟨[(3, .sref 0), (8, .sref 1), (9, .int .i64 t92), (10, .int .i64 t103)], [(0, .arr true (.ints 3 .i64 o04)), (1, .arr true (.vecs 135 2 o15))]⟩ K = PM.roundF A cx (PM.runD A cx (impl_CellsOf_E A c_87).inl (impl_CellsOf_E A c_87).Γ 3) (impl_CellsOf_E A c_87) (impl_CellsOf_L A c_87 n) 0 Go.Proofs.Try.f90 ⟨[(3, .sref 0), (8, .sref 1), (9, .int .i64 t92), (10, .int .i64 t103)], [(0, .arr true (.ints 3 .i64 o04)), (1, .arr true (.vecs 135 2 o15))]⟩ K := by kernel_rfl
theorem impl_CellsOf_ok (A : PM.Prims) (c_87 : impl_Net_T) (l : List (List Int)) (k : PM.V → PM.R) : PM.pfun A cx [] (impl_CellsOf_E A c_87) Go.Proofs.Try.f90 [.arr (.vecs 135 2 l)] k = impl_CellsOf_f A c_87 l (fun r0 => k (.arr (.ints 3 .i64 r0))) := by kernel_rfl

theorem impl_CellsOf_fn : PM.FnIs Try.prog 90 Try.f90 := .of Try.func90 (by kernel_rfl) (by kernel_rfl)
theorem impl_CellsOf_g : PM.GOk Try.prog cx 90 ⟨[], impl_CellsOf_w (impl_CellsOf PM.std), none⟩ := by
  refine ⟨impl_CellsOf_fn.enter, fun _ ds k r h => ?_, fun hm => absurd rfl hm, fun _ e => (by cases e)⟩
  change impl_CellsOf_w (impl_CellsOf PM.std) ds k = some r at h
  unfold impl_CellsOf_w at h
  split at h
  · exact PM.pfun_ok (E := impl_CellsOf_E PM.std (impl_Net PM.std)) (L := fun n => impl_CellsOf_L PM.std (impl_Net PM.std) n) (N := PM.std.fuel) cx_ok (.cons impl_Net_g .nil) mixed .nil impl_CellsOf_fn (by kernel_rfl) ⟨rfl, fun cur σ K => by
      dsimp only [impl_CellsOf_L]
      split <;> rfl, fun n cur σ K r h => by
      dsimp only [impl_CellsOf_L] at h
      split at h
      · exact (impl_CellsOf_l0_ok PM.std (impl_Net PM.std) n _ _ _ _ K).symm.trans h
      · cases h⟩
      ((impl_CellsOf_ok PM.std (impl_Net PM.std) _ k).trans h)
  · cases h

abbrev impl_CommitNew_T := (Int) → (Int) → (List (List Int)) → (List (List Int)) → ((Int) → (Int) → (Int) → (Int) → (Int) → (List (List Int)) → (List Int) → (Bool) → PM.R) → PM.R
noncomputable def impl_CommitNew_w (c : impl_CommitNew_T) (ds : List PM.V) (k : PM.V → PM.R) : PM.R :=
  match ds with
  | [.int .i64 who, .int .i64 rv, .arr (.vecs 135 2 puts), .arr (.vecs 135 2 reads)] => c who rv puts reads (fun r0_Who r0_Rv r0_Phase r0_At r0_Wv r0_Puts r0_Reads r1 => k (.tup [.agg [.int .i64 r0_Who, .int .i64 r0_Rv, .int .i64 r0_Phase, .int .i64 r0_At, .int .i64 r0_Wv, .arr (.vecs 135 2 r0_Puts), .arr (.ints 3 .i64 r0_Reads)], .bool r1]))
  | _ => none
noncomputable def impl_CommitNew_f (A : PM.Prims) (c_97 : impl_within_T) (c_123 : impl_isOwner_T) (c_124 : impl_RowsOk_T) (c_87 : impl_Net_T) (c_90 : impl_CellsOf_T) (who : Int) (rv : Int) (puts : List (List Int)) (reads : List (List Int)) (k : (Int) → (Int) → (Int) → (Int) → (Int) → (List (List Int)) → (List Int) → (Bool) → PM.R) : PM.R :=
  c_123 who (fun r1 =>
    bif (A.not r1) then
      k 0 0 0 0 0 [] [] false
    else
      c_97 rv 0 1000000 (fun r2 =>
        bif (A.not r2) then
          k 0 0 0 0 0 [] [] false
        else
          c_124 puts (fun r3 =>
            bif (A.not r3) then
              k 0 0 0 0 0 [] [] false
            else
              c_124 reads (fun r4 =>
                bif (A.not r4) then
                  k 0 0 0 0 0 [] [] false
                else
                  c_87 puts (fun r5 =>
                    c_90 reads (fun r6 =>
                      bif (A.eq (A.vlen r5) 0) then
                        k who rv 2 0 0 r5 r6 true
                      else
                        k who rv 1 0 0 r5 r6 true))))))
noncomputable def impl_CommitNew (A : PM.Prims) : impl_CommitNew_T := impl_CommitNew_f A (impl_within A) (impl_isOwner A) (impl_RowsOk A) (impl_Net A) (impl_CellsOf A)
noncomputable def impl_CommitNew_L (A : PM.Prims) (c_97 : impl_within_T) (c_123 : impl_isOwner_T) (c_124 : impl_RowsOk_T) (c_87 : impl_Net_T) (c_90 : impl_CellsOf_T) (n : Nat) : PM.Lam := fun cur σ K =>
  match cur, σ, K with
  | _, _, _ => none
noncomputable def impl_CommitNew_E (A : PM.Prims) (c_97 : impl_within_T) (c_123 : impl_isOwner_T) (c_124 : impl_RowsOk_T) (c_87 : impl_Net_T) (c_90 : impl_CellsOf_T) : PM.Env := ⟨[(97, ⟨[], impl_within_w c_97, none⟩), (123, ⟨[], impl_isOwner_w c_123, none⟩), (124, ⟨[], impl_RowsOk_w c_124, none⟩), (87, ⟨[], impl_Net_w c_87, none⟩), (90, ⟨[], impl_CellsOf_w c_90, none⟩)], [], [], [(0, [0, 1, 2, 3, 8]), (1, [0, 1, 2, 3, 8, 28]), (2, [8, 9]), (3, [8, 10]), (4, [8, 10, 40]), (5, [8, 10]), (6, [8, 9])], impl_CommitNew_L A c_97 c_123 c_124 c_87 c_90 A.fuel⟩
theorem impl_CommitNew_ok (A : PM.Prims) (c_97 : impl_within_T) (c_123 : impl_isOwner_T) (c_124 : impl_RowsOk_T) (c_87 : impl_Net_T) (c_90 : impl_CellsOf_T) (who : Int) (rv : Int) (puts : List (List Int)) (reads : List (List Int)) (k : PM.V → PM.R) : PM.pfun A cx [] (impl_CommitNew_E A c_97 c_123 c_124 c_87 c_90) Go.Proofs.Try.f69 [.int .i64 who, .int .i64 rv, .arr (.vecs 135 2 puts), .arr (.vecs 135 2 reads)] k = impl_CommitNew_f A c_97 c_123 c_124 c_87 c_90 who rv puts reads (fun r0_Who r0_Rv r0_Phase r0_At r0_Wv r0_Puts r0_Reads r1 => k (.tup [.agg [.int .i64 r0_Who, .int .i64 r0_Rv, .int .i64 r0_Phase, .int .i64 r0_At, .int .i64 r0_Wv, .arr (.vecs 135 2 r0_Puts), .arr (.ints 3 .i64 r0_Reads)], .bool r1])) := by kernel_rfl

theorem impl_CommitNew_fn : PM.FnIs Try.prog 69 Try.f69 := .of Try.func69 (by kernel_rfl) (by kernel_rfl)
theorem impl_CommitNew_g : PM.GOk Try.prog cx 69 ⟨[], impl_CommitNew_w (impl_CommitNew PM.std), none⟩ := by
  refine ⟨impl_CommitNew_fn.enter, fun _ ds k r h => ?_, fun hm => absurd rfl hm, fun _ e => (by cases e)⟩
  change impl_CommitNew_w (impl_CommitNew PM.std) ds k = some r at h
  unfold impl_CommitNew_w at h
  split at h
  · exact PM.pfun_ok (E := impl_CommitNew_E PM.std (impl_within PM.std) (impl_isOwner PM.std) (impl_RowsOk PM.std) (impl_Net PM.std) (impl_CellsOf PM.std)) (L := fun n => impl_CommitNew_L PM.std (impl_within PM.std) (impl_isOwner PM.std) (impl_RowsOk PM.std) (impl_Net PM.std) (impl_CellsOf PM.std) n) (N := PM.std.fuel) cx_ok (.cons impl_within_g (.cons impl_isOwner_g (.cons impl_RowsOk_g (.cons impl_Net_g (.cons impl_CellsOf_g .nil))))) mixed .nil impl_CommitNew_fn (by kernel_rfl) ⟨rfl, fun _ _ _ => rfl, fun n cur σ K r h => by cases h⟩
      ((impl_CommitNew_ok PM.std (impl_within PM.std) (impl_isOwner PM.std) (impl_RowsOk PM.std) (impl_Net PM.std) (impl_CellsOf PM.std) _ _ _ _ k).trans h)
  · cases h

abbrev laws_markRowS_T := (List (List Int)) → (Int) → ((Int) → (List (List Int)) → PM.R) → PM.R
noncomputable def laws_markRowS_w (c : laws_markRowS_T) (ds : List PM.V) (k : PM.V → PM.R) : PM.R :=
  match ds with
  | [.arr (.vecs 135 2 a), .int .i64 k_] => c a k_ (fun r0 o0 => k (.tup [.int .i64 r0, .arr (.vecs 135 2 o0)]))
  | _ => none
noncomputable def laws_markRowS_l0 (A : PM.Prims) : Nat → (Int) → (Int) → (List (List Int)) → ((Int) → (List (List Int)) → PM.R) → PM.R
  | 0, _, _, _, _ => none
  | n + 1, k1, i2, o03, kx0_0 =>
    bif (A.lt i2 (A.vlen o03)) then
      bif (A.inb i2 (A.vlen o03)) then
        bif (A.inb i2 (A.vlen (A.vset o03 i2 0 k1))) then
          laws_markRowS_l0 A n (A.add .i64 (A.add .i64 k1 1) 1) (A.add .i64 i2 1) (A.vset (A.vset o03 i2 0 k1) i2 1 (A.add .i64 k1 1)) kx0_0
        else
          none
      else
        none
    else
      kx0_0 k1 o03
noncomputable def laws_markRowS_f (A : PM.Prims) (a : List (List Int)) (k_ : Int) (k : (Int) → (List (List Int)) → PM.R) : PM.R :=
  laws_markRowS_l0 A A.fuel k_ 0 a (fun k46 o057 =>
    k k46 o057)
noncomputable def laws_markRowS (A : PM.Prims) : laws_markRowS_T := laws_markRowS_f A
noncomputable def laws_markRowS_L (A : PM.Prims) (n : Nat) : PM.Lam := fun cur σ K =>
  match cur, σ, K with
  | 0, ⟨[(0, .sref 0), (1, .int .i64 k1), (5, .int .i64 i2)], [(0, .arr false (.vecs 135 2 o03))]⟩, K => laws_markRowS_l0 A n k1 i2 o03 (fun k4 o05 => K (.exit 0) ⟨[(0, .sref 0), (1, .int .i64 k4)], [(0, .arr false (.vecs 135 2 o05))]⟩)
  | _, _, _ => none
noncomputable def laws_markRowS_E (A : PM.Prims) : PM.Env := ⟨[], [], [(0, [0, 1, 5], [0, 1, 4])], [(0, [0, 1]), (1, [0, 1, 5]), (2, [0, 1, 5, 9]), (3, [0, 1, 5]), (4, [0, 1, 5]), (5, [0, 1, 5]), (6, [0, 1, 5]), (7, [0, 1, 5]), (8, [0, 4])], laws_markRowS_L A A.fuel⟩
theorem laws_markRowS_l0_ok (A : PM.Prims) (n : Nat) (k1 : Int) (i2 : Int) (o03 : List (List Int)) (K : Go.Exit → PM.S → PM.R) : laws_markRowS_L A (n + 1) 0 ⟨[(0, .sref 0), (1, .int .i64 k1), (5, .int .i64 i2)], [(0, .arr false (.vecs 135 2 o03))]⟩ K = PM.roundF A cx (PM.runD A cx (laws_markRowS_E A).inl (laws_markRowS_E A).Γ 3) (laws_markRowS_E A) (laws_markRowS_L A n) 0 Go.Proofs.Try.f71 ⟨[(0, .sref 0), (1, .int .i64 k1), (5, .int .i64 i2)], [(0, .arr false (.vecs 135 2 o03))]⟩ K := by kernel_rfl
theorem laws_markRowS_ok (A : PM.Prims) (a : List (List Int)) (k_ : Int) (k : PM.V → PM.R) : PM.pfun A cx [true, false] (laws_markRowS_E A) Go.Proofs.Try.f71 [.arr (.vecs 135 2 a), .int .i64 k_] k = laws_markRowS_f A a k_ (fun r0 o0 => k (.tup [.int .i64 r0, .arr (.vecs 135 2 o0)])) := by kernel_rfl

theorem laws_markRowS_fn : PM.FnIs Try.prog 71 Try.f71 := .of Try.func71 (by kernel_rfl) (by kernel_rfl)
theorem laws_markRowS_g : PM.GOk Try.prog cx 71 ⟨[true, false], laws_markRowS_w (laws_markRowS PM.std), none⟩ := by
  refine ⟨laws_markRowS_fn.enter, fun hm => (by cases hm), fun _ ds k r h => ?_, fun _ e => (by cases e)⟩
  change laws_markRowS_w (laws_markRowS PM.std) ds k = some r at h
  unfold laws_markRowS_w at h
  split at h
  · exact PM.pfun_okM (List.cons_ne_nil _ _) (E := laws_markRowS_E PM.std) (L := fun n => laws_markRowS_L PM.std n) (N := PM.std.fuel) cx_ok .nil mixed .nil laws_markRowS_fn (by kernel_rfl) ⟨rfl, fun cur σ K => by
      dsimp only [laws_markRowS_L]
      split <;> rfl, fun n cur σ K r h => by
      dsimp only [laws_markRowS_L] at h
      split at h
      · exact (laws_markRowS_l0_ok PM.std n _ _ _ K).symm.trans h
      · cases h⟩
      ((laws_markRowS_ok PM.std _ _ k).trans h)
  · cases h

abbrev laws_markCommit_T := (Int) → (Int) → (Int) → (Int) → (Int) → (List (List Int)) → (List Int) → (Int) → ((Int) → (List (List Int)) → (List Int) → PM.R) → PM.R
noncomputable def laws_markCommit_w (c : laws_markCommit_T) (ds : List PM.V) (k : PM.V → PM.R) : PM.R :=
  match ds with
  | [.agg [.int .i64 a_Who, .int .i64 a_Rv, .int .i64 a_Phase, .int .i64 a_At, .int .i64 a_Wv, .arr (.vecs 135 2 a_Puts), .arr (.ints 3 .i64 a_Reads)], .int .i64 k_] => c a_Who a_Rv a_Phase a_At a_Wv a_Puts a_Reads k_ (fun r0 o0_Puts o0_Reads => k (.tup [.int .i64 r0, .arr (.vecs 135 2 o0_Puts), .arr (.ints 3 .i64 o0_Reads)]))
  | _ => none
noncomputable def laws_markCommit_f (A : PM.Prims) (c_47 : laws_markIntS_T) (c_71 : laws_markRowS_T) (a_Who : Int) (a_Rv : Int) (a_Phase : Int) (a_At : Int) (a_Wv : Int) (a_Puts : List (List Int)) (a_Reads : List Int) (k_ : Int) (k : (Int) → (List (List Int)) → (List Int) → PM.R) : PM.R :=
  c_71 a_Puts k_ (fun r1 r2 =>
    c_47 a_Reads r1 (fun r3 r4 =>
      k r3 r2 r4))
noncomputable def laws_markCommit (A : PM.Prims) : laws_markCommit_T := laws_markCommit_f A (laws_markIntS A) (laws_markRowS A)
noncomputable def laws_markCommit_L (A : PM.Prims) (c_47 : laws_markIntS_T) (c_71 : laws_markRowS_T) (n : Nat) : PM.Lam := fun cur σ K =>
  match cur, σ, K with
  | _, _, _ => none
noncomputable def laws_markCommit_E (A : PM.Prims) (c_47 : laws_markIntS_T) (c_71 : laws_markRowS_T) : PM.Env := ⟨[(47, ⟨[true, false], laws_markIntS_w c_47, none⟩), (71, ⟨[true, false], laws_markRowS_w c_71, none⟩)], [], [], [(0, [0, 1, 2]), (1, [0, 1, 2]), (2, [0, 1]), (3, [0, 4])], laws_markCommit_L A c_47 c_71 A.fuel⟩
theorem laws_markCommit_ok (A : PM.Prims) (c_47 : laws_markIntS_T) (c_71 : laws_markRowS_T) (a_Who : Int) (a_Rv : Int) (a_Phase : Int) (a_At : Int) (a_Wv : Int) (a_Puts : List (List Int)) (a_Reads : List Int) (k_ : Int) (k : PM.V → PM.R) : PM.pfun A cx [true, false] (laws_markCommit_E A c_47 c_71) Go.Proofs.Try.f72 [.agg [.int .i64 a_Who, .int .i64 a_Rv, .int .i64 a_Phase, .int .i64 a_At, .int .i64 a_Wv, .arr (.vecs 135 2 a_Puts), .arr (.ints 3 .i64 a_Reads)], .int .i64 k_] k = laws_markCommit_f A c_47 c_71 a_Who a_Rv a_Phase a_At a_Wv a_Puts a_Reads k_ (fun r0 o0_Puts o0_Reads => k (.tup [.int .i64 r0, .arr (.vecs 135 2 o0_Puts), .arr (.ints 3 .i64 o0_Reads)])) := by kernel_rfl

theorem laws_markCommit_fn : PM.FnIs Try.prog 72 Try.f72 := .of Try.func72 (by kernel_rfl) (by kernel_rfl)
theorem laws_markCommit_g : PM.GOk Try.prog cx 72 ⟨[true, false], laws_markCommit_w (laws_markCommit PM.std), none⟩ := by
  refine ⟨laws_markCommit_fn.enter, fun hm => (by cases hm), fun _ ds k r h => ?_, fun _ e => (by cases e)⟩
  change laws_markCommit_w (laws_markCommit PM.std) ds k = some r at h
  unfold laws_markCommit_w at h
  split at h
  · exact PM.pfun_okM (List.cons_ne_nil _ _) (E := laws_markCommit_E PM.std (laws_markIntS PM.std) (laws_markRowS PM.std)) (L := fun n => laws_markCommit_L PM.std (laws_markIntS PM.std) (laws_markRowS PM.std) n) (N := PM.std.fuel) cx_ok (.cons laws_markIntS_g (.cons laws_markRowS_g .nil)) mixed .nil laws_markCommit_fn (by kernel_rfl) ⟨rfl, fun _ _ _ => rfl, fun n cur σ K r h => by cases h⟩
      ((laws_markCommit_ok PM.std (laws_markIntS PM.std) (laws_markRowS PM.std) _ _ _ _ _ _ _ _ k).trans h)
  · cases h

abbrev laws_heldRowS_T := (List (List Int)) → (Int) → ((Int) → PM.R) → PM.R
noncomputable def laws_heldRowS_w (c : laws_heldRowS_T) (ds : List PM.V) (k : PM.V → PM.R) : PM.R :=
  match ds with
  | [.arr (.vecs 135 2 a), .int .i64 k_] => c a k_ (fun r0 => k (.int .i64 r0))
  | _ => none
noncomputable def laws_heldRowS_l0 (A : PM.Prims) : Nat → (List (List Int)) → (Int) → (Int) → ((Int) → PM.R) → ((Int) → PM.R) → PM.R
  | 0, _, _, _, _, _ => none
  | n + 1, a1, k2, i3, kret_0, kx0_0 =>
    bif (A.lt i3 (A.vlen a1)) then
      bif (A.inb i3 (A.vlen a1)) then
        bif (A.not (A.eq (A.vget a1 i3 0) k2)) then
          kret_0 (-1)
        else
          bif (A.inb i3 (A.vlen a1)) then
            bif (A.not (A.eq (A.vget a1 i3 1) (A.add .i64 k2 1))) then
              kret_0 (-1)
            else
              laws_heldRowS_l0 A n a1 (A.add .i64 (A.add .i64 k2 1) 1) (A.add .i64 i3 1) kret_0 kx0_0
          else
            none
      else
        none
    else
      kx0_0 k2
noncomputable def laws_heldRowS_f (A : PM.Prims) (a : List (List Int)) (k_ : Int) (k : (Int) → PM.R) : PM.R :=
  laws_heldRowS_l0 A A.fuel a k_ 0 (fun t446 =>
    k t446) (fun k57 =>
    k k57)
noncomputable def laws_heldRowS (A : PM.Prims) : laws_heldRowS_T := laws_heldRowS_f A
noncomputable def laws_heldRowS_L (A : PM.Prims) (n : Nat) : PM.Lam := fun cur σ K =>
  match cur, σ, K with
  | 0, ⟨[(0, .arr (.vecs 135 2 a1)), (1, .int .i64 k2), (5, .int .i64 i3)], []⟩, K => laws_heldRowS_l0 A n a1 k2 i3 (fun t44 => K .ret ⟨[(4, .int .i64 t44)], []⟩) (fun k5 => K (.exit 0) ⟨[(1, .int .i64 k5)], []⟩)
  | _, _, _ => none
noncomputable def laws_heldRowS_E (A : PM.Prims) : PM.Env := ⟨[], [], [(0, [0, 1, 5], [1, 4])], [(0, [0, 1]), (1, [0, 1, 5]), (2, [0, 1, 5, 9]), (3, [0, 1, 5]), (4, [0, 1, 5, 18]), (5, [4]), (6, [0, 1, 5]), (7, [0, 1, 5, 27]), (8, [4]), (9, [0, 1, 5]), (10, [4])], laws_heldRowS_L A A.fuel⟩
theorem laws_heldRowS_l0_ok (A : PM.Prims) (n : Nat) (a1 : List (List Int)) (k2 : Int) (i3 : Int) (K : Go.Exit → PM.S → PM.R) : laws_heldRowS_L A (n + 1) 0 ⟨[(0, .arr (.vecs 135 2 a1)), (1, .int .i64 k2), (5, .int .i64 i3)], []⟩ K = PM.roundF A cx (PM.runD A cx (laws_heldRowS_E A).inl (laws_heldRowS_E A).Γ 3) (laws_heldRowS_E A) (laws_heldRowS_L A n) 0 Go.Proofs.Try.f130 ⟨[(0, .arr (.vecs 135 2 a1)), (1, .int .i64 k2), (5, .int .i64 i3)], []⟩ K := by kernel_rfl
theorem laws_heldRowS_ok (A : PM.Prims) (a : List (List Int)) (k_ : Int) (k : PM.V → PM.R) : PM.pfun A cx [] (laws_heldRowS_E A) Go.Proofs.Try.f130 [.arr (.vecs 135 2 a), .int .i64 k_] k = laws_heldRowS_f A a k_ (fun r0 => k (.int .i64 r0)) := by kernel_rfl

theorem laws_heldRowS_fn : PM.FnIs Try.prog 130 Try.f130 := .of Try.func130 (by kernel_rfl) (by kernel_rfl)
theorem laws_heldRowS_g : PM.GOk Try.prog cx 130 ⟨[], laws_heldRowS_w (laws_heldRowS PM.std), none⟩ := by
  refine ⟨laws_heldRowS_fn.enter, fun _ ds k r h => ?_, fun hm => absurd rfl hm, fun _ e => (by cases e)⟩
  change laws_heldRowS_w (laws_heldRowS PM.std) ds k = some r at h
  unfold laws_heldRowS_w at h
  split at h
  · exact PM.pfun_ok (E := laws_heldRowS_E PM.std) (L := fun n => laws_heldRowS_L PM.std n) (N := PM.std.fuel) cx_ok .nil mixed .nil laws_heldRowS_fn (by kernel_rfl) ⟨rfl, fun cur σ K => by
      dsimp only [laws_heldRowS_L]
      split <;> rfl, fun n cur σ K r h => by
      dsimp only [laws_heldRowS_L] at h
      split at h
      · exact (laws_heldRowS_l0_ok PM.std n _ _ _ K).symm.trans h
      · cases h⟩
      ((laws_heldRowS_ok PM.std _ _ k).trans h)
  · cases h

abbrev laws_heldCommit_T := (Int) → (Int) → (Int) → (Int) → (Int) → (List (List Int)) → (List Int) → (Int) → ((Int) → PM.R) → PM.R
noncomputable def laws_heldCommit_w (c : laws_heldCommit_T) (ds : List PM.V) (k : PM.V → PM.R) : PM.R :=
  match ds with
  | [.agg [.int .i64 a_Who, .int .i64 a_Rv, .int .i64 a_Phase, .int .i64 a_At, .int .i64 a_Wv, .arr (.vecs 135 2 a_Puts), .arr (.ints 3 .i64 a_Reads)], .int .i64 k_] => c a_Who a_Rv a_Phase a_At a_Wv a_Puts a_Reads k_ (fun r0 => k (.int .i64 r0))
  | _ => none
noncomputable def laws_heldCommit_f (A : PM.Prims) (c_48 : laws_heldIntS_T) (c_130 : laws_heldRowS_T) (a_Who : Int) (a_Rv : Int) (a_Phase : Int) (a_At : Int) (a_Wv : Int) (a_Puts : List (List Int)) (a_Reads : List Int) (k_ : Int) (k : (Int) → PM.R) : PM.R :=
  c_130 a_Puts k_ (fun r1 =>
    bif (A.lt r1 0) then
      k (-1)
    else
      c_48 a_Reads r1 (fun r2 =>
        bif (A.lt r2 0) then
          k (-1)
        else
          k r2))
noncomputable def laws_heldCommit (A : PM.Prims) : laws_heldCommit_T := laws_heldCommit_f A (laws_heldIntS A) (laws_heldRowS A)
noncomputable def laws_heldCommit_L (A : PM.Prims) (c_48 : laws_heldIntS_T) (c_130 : laws_heldRowS_T) (n : Nat) : PM.Lam := fun cur σ K =>
  match cur, σ, K with
  | _, _, _ => none
noncomputable def laws_heldCommit_E (A : PM.Prims) (c_48 : laws_heldIntS_T) (c_130 : laws_heldRowS_T) : PM.Env := ⟨[(48, ⟨[], laws_heldIntS_w c_48, none⟩), (130, ⟨[], laws_heldRowS_w c_130, none⟩)], [], [], [(0, [1, 2]), (1, [1, 2]), (2, [1, 2, 10]), (3, [4]), (4, [1]), (5, [1, 16]), (6, [4]), (7, [4])], laws_heldCommit_L A c_48 c_130 A.fuel⟩
theorem laws_heldCommit_ok (A : PM.Prims) (c_48 : laws_heldIntS_T) (c_130 : laws_heldRowS_T) (a_Who : Int) (a_Rv : Int) (a_Phase : Int) (a_At : Int) (a_Wv : Int) (a_Puts : List (List Int)) (a_Reads : List Int) (k_ : Int) (k : PM.V → PM.R) : PM.pfun A cx [] (laws_heldCommit_E A c_48 c_130) Go.Proofs.Try.f73 [.agg [.int .i64 a_Who, .int .i64 a_Rv, .int .i64 a_Phase, .int .i64 a_At, .int .i64 a_Wv, .arr (.vecs 135 2 a_Puts), .arr (.ints 3 .i64 a_Reads)], .int .i64 k_] k = laws_heldCommit_f A c_48 c_130 a_Who a_Rv a_Phase a_At a_Wv a_Puts a_Reads k_ (fun r0 => k (.int .i64 r0)) := by kernel_rfl

theorem laws_heldCommit_fn : PM.FnIs Try.prog 73 Try.f73 := .of Try.func73 (by kernel_rfl) (by kernel_rfl)
theorem laws_heldCommit_g : PM.GOk Try.prog cx 73 ⟨[], laws_heldCommit_w (laws_heldCommit PM.std), none⟩ := by
  refine ⟨laws_heldCommit_fn.enter, fun _ ds k r h => ?_, fun hm => absurd rfl hm, fun _ e => (by cases e)⟩
  change laws_heldCommit_w (laws_heldCommit PM.std) ds k = some r at h
  unfold laws_heldCommit_w at h
  split at h
  · exact PM.pfun_ok (E := laws_heldCommit_E PM.std (laws_heldIntS PM.std) (laws_heldRowS PM.std)) (L := fun n => laws_heldCommit_L PM.std (laws_heldIntS PM.std) (laws_heldRowS PM.std) n) (N := PM.std.fuel) cx_ok (.cons laws_heldIntS_g (.cons laws_heldRowS_g .nil)) mixed .nil laws_heldCommit_fn (by kernel_rfl) ⟨rfl, fun _ _ _ => rfl, fun n cur σ K r h => by cases h⟩
      ((laws_heldCommit_ok PM.std (laws_heldIntS PM.std) (laws_heldRowS PM.std) _ _ _ _ _ _ _ _ k).trans h)
  · cases h

abbrev laws_FnExactCommitNew_T := (Int) → (Int) → (List (List Int)) → (List (List Int)) → ((Bool) → PM.R) → PM.R
noncomputable def laws_FnExactCommitNew_w (c : laws_FnExactCommitNew_T) (ds : List PM.V) (k : PM.V → PM.R) : PM.R :=
  match ds with
  | [.int .i64 __, .int .i64 a, .arr (.vecs 139 2 r), .arr (.vecs 139 2 r_3)] => c __ a r r_3 (fun r0 => k (.bool r0))
  | _ => none
noncomputable def laws_FnExactCommitNew_f (A : PM.Prims) (c_66 : laws_szRowS_T) (c_68 : laws_toRowS_T) (c_70 : laws_eqRowS_T) (c_63 : laws_eqCommit_T) (c_67 : spec_CommitNew_T) (c_69 : impl_CommitNew_T) (c_71 : laws_markRowS_T) (c_72 : laws_markCommit_T) (c_73 : laws_heldCommit_T) (__ : Int) (a : Int) (r : List (List Int)) (r_3 : List (List Int)) (k : (Bool) → PM.R) : PM.R :=
  c_66 r 1048576 (fun r1 =>
    bif (A.lt r1 0) then
      k true
    else
      c_66 r_3 r1 (fun r2 =>
        bif (A.lt r2 0) then
          k true
        else
          c_68 r (fun r3 =>
            c_68 r_3 (fun r4 =>
              c_67 __ a r3 r4 (fun r5 r6 r7 r8 r9 r10 r11 r12 =>
                c_68 r (fun r13 =>
                  c_68 r_3 (fun r14 =>
                    c_69 __ a r13 r14 (fun r15 r16 r17 r18 r19 r20 r21 r22 =>
                      c_63 r15 r16 r17 r18 r19 r20 r21 r5 r6 r7 r8 r9 r10 r11 (fun r23 =>
                        bif (A.not r23) then
                          k false
                        else
                          bif (A.not (A.beq r22 r12)) then
                            k false
                          else
                            c_68 r (fun r24 =>
                              c_70 r13 r24 (fun r25 =>
                                bif (A.not r25) then
                                  k false
                                else
                                  c_68 r_3 (fun r26 =>
                                    c_70 r14 r26 (fun r27 =>
                                      bif (A.not r27) then
                                        k false
                                      else
                                        c_71 r13 1 (fun r28 r29 =>
                                          c_71 r14 r28 (fun r30 r31 =>
                                            bif (A.lt r30 0) then
                                              k false
                                            else
                                              c_63 r15 r16 r17 r18 r19 r20 r21 r5 r6 r7 r8 r9 r10 r11 (fun r32 =>
                                                bif (A.not r32) then
                                                  k false
                                                else
                                                  bif (A.not (A.beq r22 r12)) then
                                                    k false
                                                  else
                                                    c_72 r15 r16 r17 r18 r19 r20 r21 1 (fun r33 r34 r35 =>
                                                      c_73 r15 r16 r17 r18 r19 r34 r35 1 (fun r36 =>
                                                        bif (A.lt r36 0) then
                                                          k false
                                                        else
                                                          bif (A.not (A.eq r36 r33)) then
                                                            k false
                                                          else
                                                            c_68 r (fun r37 =>
                                                              c_68 r_3 (fun r38 =>
                                                                c_69 __ a r37 r38 (fun r39 r40 r41 r42 r43 r44 r45 r46 =>
                                                                  c_63 r39 r40 r41 r42 r43 r44 r45 r5 r6 r7 r8 r9 r10 r11 (fun r47 =>
                                                                    bif (A.not r47) then
                                                                      k false
                                                                    else
                                                                      bif (A.not (A.beq r46 r12)) then
                                                                        k false
                                                                      else
                                                                        c_73 r15 r16 r17 r18 r19 r34 r35 1 (fun r48 =>
                                                                          bif (A.lt r48 0) then
                                                                            k false
                                                                          else
                                                                            bif (A.not (A.eq r48 r33)) then
                                                                              k false
                                                                            else
                                                                              k true)))))))))))))))))))))))
noncomputable def laws_FnExactCommitNew (A : PM.Prims) : laws_FnExactCommitNew_T := laws_FnExactCommitNew_f A (laws_szRowS A) (laws_toRowS A) (laws_eqRowS A) (laws_eqCommit A) (spec_CommitNew A) (impl_CommitNew A) (laws_markRowS A) (laws_markCommit A) (laws_heldCommit A)
noncomputable def laws_FnExactCommitNew_L (A : PM.Prims) (c_66 : laws_szRowS_T) (c_68 : laws_toRowS_T) (c_70 : laws_eqRowS_T) (c_63 : laws_eqCommit_T) (c_67 : spec_CommitNew_T) (c_69 : impl_CommitNew_T) (c_71 : laws_markRowS_T) (c_72 : laws_markCommit_T) (c_73 : laws_heldCommit_T) (n : Nat) : PM.Lam := fun cur σ K =>
  match cur, σ, K with
  | _, _, _ => none
noncomputable def laws_FnExactCommitNew_E (A : PM.Prims) (c_66 : laws_szRowS_T) (c_68 : laws_toRowS_T) (c_70 : laws_eqRowS_T) (c_63 : laws_eqCommit_T) (c_67 : spec_CommitNew_T) (c_69 : impl_CommitNew_T) (c_71 : laws_markRowS_T) (c_72 : laws_markCommit_T) (c_73 : laws_heldCommit_T) : PM.Env := ⟨[(66, ⟨[], laws_szRowS_w c_66, none⟩), (68, ⟨[], laws_toRowS_w c_68, none⟩), (70, ⟨[], laws_eqRowS_w c_70, none⟩), (63, ⟨[], laws_eqCommit_w c_63, none⟩), (67, ⟨[], spec_CommitNew_w c_67, none⟩), (69, ⟨[], impl_CommitNew_w c_69, none⟩), (71, ⟨[true, false], laws_markRowS_w c_71, none⟩), (72, ⟨[true, false], laws_markCommit_w c_72, none⟩), (73, ⟨[], laws_heldCommit_w c_73, none⟩)], [], [], [(0, [0, 1, 2, 3]), (1, [0, 1, 2, 3, 9]), (2, [0, 1, 2, 3, 9]), (3, [0, 1, 2, 3, 9, 25]), (4, [8]), (5, [0, 1, 2, 3, 9]), (6, [0, 1, 2, 3, 30]), (7, [8]), (8, [0, 1, 2, 3, 10, 11]), (9, [0, 1, 2, 3, 10, 11, 12]), (10, [0, 1, 2, 3, 10, 11, 12, 13]), (11, [0, 1, 2, 3, 10, 11, 12, 13, 14, 15]), (12, [0, 1, 2, 3, 10, 11, 12, 13, 14, 15, 61]), (13, [8]), (14, [0, 1, 2, 3, 10, 11, 12, 13, 14, 15, 66]), (15, [8]), (16, [0, 1, 2, 3, 10, 11, 12, 13, 14, 15, 71]), (17, [8]), (18, [0, 1, 2, 3, 10, 11, 12, 13, 14, 15, 16]), (19, [0, 1, 2, 3, 10, 11, 13, 14, 15, 16]), (20, [0, 1, 2, 3, 10, 11, 14, 15, 16]), (21, [0, 1, 2, 3, 10, 11, 14, 90]), (22, [8]), (23, [0, 1, 2, 3, 10, 11, 14, 17]), (24, [0, 1, 2, 3, 10, 11, 14, 17]), (25, [0, 1, 2, 3, 10, 11, 14, 17, 18]), (26, [0, 1, 2, 3, 10, 11, 14, 17, 18]), (27, [0, 1, 2, 3, 10, 11, 14, 17, 18, 98]), (28, [8]), (29, [0, 1, 2, 3, 10, 11, 14, 17, 101]), (30, [8]), (31, [10, 11, 14, 17, 19, 20]), (32, [14, 17, 120]), (33, [8]), (34, [14, 17, 18]), (35, [17, 18]), (36, [17, 18, 125]), (37, [8]), (38, [128]), (39, [8]), (40, [8])], laws_FnExactCommitNew_L A c_66 c_68 c_70 c_63 c_67 c_69 c_71 c_72 c_73 A.fuel⟩
theorem laws_FnExactCommitNew_ok (A : PM.Prims) (c_66 : laws_szRowS_T) (c_68 : laws_toRowS_T) (c_70 : laws_eqRowS_T) (c_63 : laws_eqCommit_T) (c_67 : spec_CommitNew_T) (c_69 : impl_CommitNew_T) (c_71 : laws_markRowS_T) (c_72 : laws_markCommit_T) (c_73 : laws_heldCommit_T) (__ : Int) (a : Int) (r : List (List Int)) (r_3 : List (List Int)) (k : PM.V → PM.R) : PM.pfun A cx [] (laws_FnExactCommitNew_E A c_66 c_68 c_70 c_63 c_67 c_69 c_71 c_72 c_73) Go.Proofs.Try.f16 [.int .i64 __, .int .i64 a, .arr (.vecs 139 2 r), .arr (.vecs 139 2 r_3)] k = laws_FnExactCommitNew_f A c_66 c_68 c_70 c_63 c_67 c_69 c_71 c_72 c_73 __ a r r_3 (fun r0 => k (.bool r0)) := by kernel_rfl

theorem laws_FnExactCommitNew_fn : PM.FnIs Try.prog 16 Try.f16 := .of Try.func16 (by kernel_rfl) (by kernel_rfl)
theorem laws_FnExactCommitNew_g : PM.GOk Try.prog cx 16 ⟨[], laws_FnExactCommitNew_w (laws_FnExactCommitNew PM.std), none⟩ := by
  refine ⟨laws_FnExactCommitNew_fn.enter, fun _ ds k r h => ?_, fun hm => absurd rfl hm, fun _ e => (by cases e)⟩
  change laws_FnExactCommitNew_w (laws_FnExactCommitNew PM.std) ds k = some r at h
  unfold laws_FnExactCommitNew_w at h
  split at h
  · exact PM.pfun_ok (E := laws_FnExactCommitNew_E PM.std (laws_szRowS PM.std) (laws_toRowS PM.std) (laws_eqRowS PM.std) (laws_eqCommit PM.std) (spec_CommitNew PM.std) (impl_CommitNew PM.std) (laws_markRowS PM.std) (laws_markCommit PM.std) (laws_heldCommit PM.std)) (L := fun n => laws_FnExactCommitNew_L PM.std (laws_szRowS PM.std) (laws_toRowS PM.std) (laws_eqRowS PM.std) (laws_eqCommit PM.std) (spec_CommitNew PM.std) (impl_CommitNew PM.std) (laws_markRowS PM.std) (laws_markCommit PM.std) (laws_heldCommit PM.std) n) (N := PM.std.fuel) cx_ok (.cons laws_szRowS_g (.cons laws_toRowS_g (.cons laws_eqRowS_g (.cons laws_eqCommit_g (.cons spec_CommitNew_g (.cons impl_CommitNew_g (.cons laws_markRowS_g (.cons laws_markCommit_g (.cons laws_heldCommit_g .nil))))))))) mixed .nil laws_FnExactCommitNew_fn (by kernel_rfl) ⟨rfl, fun _ _ _ => rfl, fun n cur σ K r h => by cases h⟩
      ((laws_FnExactCommitNew_ok PM.std (laws_szRowS PM.std) (laws_toRowS PM.std) (laws_eqRowS PM.std) (laws_eqCommit PM.std) (spec_CommitNew PM.std) (impl_CommitNew PM.std) (laws_markRowS PM.std) (laws_markCommit PM.std) (laws_heldCommit PM.std) _ _ _ _ k).trans h)
  · cases h

abbrev spec_l10Copy_T := (Int) → (Int) → (Int) → (Int) → (Int) → (List (List Int)) → (List Int) → ((Int) → (Int) → (Int) → (Int) → (Int) → (List (List Int)) → (List Int) → PM.R) → PM.R
noncomputable def spec_l10Copy_w (c : spec_l10Copy_T) (ds : List PM.V) (k : PM.V → PM.R) : PM.R :=
  match ds with
  | [.agg [.int .i64 c_Who, .int .i64 c_Rv, .int .i64 c_Phase, .int .i64 c_At, .int .i64 c_Wv, .arr (.vecs 135 2 c_Puts), .arr (.ints 3 .i64 c_Reads)]] => c c_Who c_Rv c_Phase c_At c_Wv c_Puts c_Reads (fun r0_Who r0_Rv r0_Phase r0_At r0_Wv r0_Puts r0_Reads => k (.agg [.int .i64 r0_Who, .int .i64 r0_Rv, .int .i64 r0_Phase, .int .i64 r0_At, .int .i64 r0_Wv, .arr (.vecs 135 2 r0_Puts), .arr (.ints 3 .i64 r0_Reads)]))
  | _ => none
noncomputable def spec_l10Copy_f (A : PM.Prims) (c_Who : Int) (c_Rv : Int) (c_Phase : Int) (c_At : Int) (c_Wv : Int) (c_Puts : List (List Int)) (c_Reads : List Int) (k : (Int) → (Int) → (Int) → (Int) → (Int) → (List (List Int)) → (List Int) → PM.R) : PM.R :=
  bif (A.room (A.vlen []) (A.vlen c_Puts)) then
    bif (A.room (A.ilen []) (A.ilen c_Reads)) then
      k c_Who c_Rv c_Phase c_At c_Wv (A.vapp [] c_Puts) (A.iapp [] c_Reads)
    else
      none
  else
    none
noncomputable def spec_l10Copy (A : PM.Prims) : spec_l10Copy_T := spec_l10Copy_f A
noncomputable def spec_l10Copy_L (A : PM.Prims) (n : Nat) : PM.Lam := fun cur σ K =>
  match cur, σ, K with
  | _, _, _ => none
noncomputable def spec_l10Copy_E (A : PM.Prims) : PM.Env := ⟨[], [], [], [(0, [1, 2]), (1, [1, 2]), (2, [1, 2]), (3, [2])], spec_l10Copy_L A A.fuel⟩
theorem spec_l10Copy_ok (A : PM.Prims) (c_Who : Int) (c_Rv : Int) (c_Phase : Int) (c_At : Int) (c_Wv : Int) (c_Puts : List (List Int)) (c_Reads : List Int) (k : PM.V → PM.R) : PM.pfun A cx [] (spec_l10Copy_E A) Go.Proofs.Try.f131 [.agg [.int .i64 c_Who, .int .i64 c_Rv, .int .i64 c_Phase, .int .i64 c_At, .int .i64 c_Wv, .arr (.vecs 135 2 c_Puts), .arr (.ints 3 .i64 c_Reads)]] k = spec_l10Copy_f A c_Who c_Rv c_Phase c_At c_Wv c_Puts c_Reads (fun r0_Who r0_Rv r0_Phase r0_At r0_Wv r0_Puts r0_Reads => k (.agg [.int .i64 r0_Who, .int .i64 r0_Rv, .int .i64 r0_Phase, .int .i64 r0_At, .int .i64 r0_Wv, .arr (.vecs 135 2 r0_Puts), .arr (.ints 3 .i64 r0_Reads)])) := by kernel_rfl

theorem spec_l10Copy_fn : PM.FnIs Try.prog 131 Try.f131 := .of Try.func131 (by kernel_rfl) (by kernel_rfl)
theorem spec_l10Copy_g : PM.GOk Try.prog cx 131 ⟨[], spec_l10Copy_w (spec_l10Copy PM.std), none⟩ := by
  refine ⟨spec_l10Copy_fn.enter, fun _ ds k r h => ?_, fun hm => absurd rfl hm, fun _ e => (by cases e)⟩
  change spec_l10Copy_w (spec_l10Copy PM.std) ds k = some r at h
  unfold spec_l10Copy_w at h
  split at h
  · exact PM.pfun_ok (E := spec_l10Copy_E PM.std) (L := fun n => spec_l10Copy_L PM.std n) (N := PM.std.fuel) cx_ok .nil mixed .nil spec_l10Copy_fn (by kernel_rfl) ⟨rfl, fun _ _ _ => rfl, fun n cur σ K r h => by cases h⟩
      ((spec_l10Copy_ok PM.std _ _ _ _ _ _ _ k).trans h)
  · cases h

abbrev impl_copyRows_T := (List (List Int)) → ((List (List Int)) → PM.R) → PM.R
noncomputable def impl_copyRows_w (c : impl_copyRows_T) (ds : List PM.V) (k : PM.V → PM.R) : PM.R :=
  match ds with
  | [.arr (.vecs 135 2 l)] => c l (fun r0 => k (.arr (.vecs 135 2 r0)))
  | _ => none
noncomputable def impl_copyRows_f (A : PM.Prims) (l : List (List Int)) (k : (List (List Int)) → PM.R) : PM.R :=
  bif (A.room (A.vlen []) (A.vlen l)) then
    k (A.vapp [] l)
  else
    none
noncomputable def impl_copyRows (A : PM.Prims) : impl_copyRows_T := impl_copyRows_f A
noncomputable def impl_copyRows_L (A : PM.Prims) (n : Nat) : PM.Lam := fun cur σ K =>
  match cur, σ, K with
  | _, _, _ => none
noncomputable def impl_copyRows_E (A : PM.Prims) : PM.Env := ⟨[], [], [], [(0, [0]), (1, [2])], impl_copyRows_L A A.fuel⟩
theorem impl_copyRows_ok (A : PM.Prims) (l : List (List Int)) (k : PM.V → PM.R) : PM.pfun A cx [] (impl_copyRows_E A) Go.Proofs.Try.f155 [.arr (.vecs 135 2 l)] k = impl_copyRows_f A l (fun r0 => k (.arr (.vecs 135 2 r0))) := by kernel_rfl

theorem impl_copyRows_fn : PM.FnIs Try.prog 155 Try.f155 := .of Try.func155 (by kernel_rfl) (by kernel_rfl)
theorem impl_copyRows_g : PM.GOk Try.prog cx 155 ⟨[], impl_copyRows_w (impl_copyRows PM.std), none⟩ := by
  refine ⟨impl_copyRows_fn.enter, fun _ ds k r h => ?_, fun hm => absurd rfl hm, fun _ e => (by cases e)⟩
  change impl_copyRows_w (impl_copyRows PM.std) ds k = some r at h
  unfold impl_copyRows_w at h
  split at h
  · exact PM.pfun_ok (E := impl_copyRows_E PM.std) (L := fun n => impl_copyRows_L PM.std n) (N := PM.std.fuel) cx_ok .nil mixed .nil impl_copyRows_fn (by kernel_rfl) ⟨rfl, fun _ _ _ => rfl, fun n cur σ K r h => by cases h⟩
      ((impl_copyRows_ok PM.std _ k).trans h)
  · cases h

abbrev impl_copyInts_T := (List Int) → ((List Int) → PM.R) → PM.R
noncomputable def impl_copyInts_w (c : impl_copyInts_T) (ds : List PM.V) (k : PM.V → PM.R) : PM.R :=
  match ds with
  | [.arr (.ints 3 .i64 l)] => c l (fun r0 => k (.arr (.ints 3 .i64 r0)))
  | _ => none
noncomputable def impl_copyInts_f (A : PM.Prims) (l : List Int) (k : (List Int) → PM.R) : PM.R :=
  bif (A.room (A.ilen []) (A.ilen l)) then
    k (A.iapp [] l)
  else
    none
noncomputable def impl_copyInts (A : PM.Prims) : impl_copyInts_T := impl_copyInts_f A
noncomputable def impl_copyInts_L (A : PM.Prims) (n : Nat) : PM.Lam := fun cur σ K =>
  match cur, σ, K with
  | _, _, _ => none
noncomputable def impl_copyInts_E (A : PM.Prims) : PM.Env := ⟨[], [], [], [(0, [0]), (1, [2])], impl_copyInts_L A A.fuel⟩
theorem impl_copyInts_ok (A : PM.Prims) (l : List Int) (k : PM.V → PM.R) : PM.pfun A cx [] (impl_copyInts_E A) Go.Proofs.Try.f154 [.arr (.ints 3 .i64 l)] k = impl_copyInts_f A l (fun r0 => k (.arr (.ints 3 .i64 r0))) := by kernel_rfl

theorem impl_copyInts_fn : PM.FnIs Try.prog 154 Try.f154 := .of Try.func154 (by kernel_rfl) (by kernel_rfl)
theorem impl_copyInts_g : PM.GOk Try.prog cx 154 ⟨[], impl_copyInts_w (impl_copyInts PM.std), none⟩ := by
  refine ⟨impl_copyInts_fn.enter, fun _ ds k r h => ?_, fun hm => absurd rfl hm, fun _ e => (by cases e)⟩
  change impl_copyInts_w (impl_copyInts PM.std) ds k = some r at h
  unfold impl_copyInts_w at h
  split at h
  · exact PM.pfun_ok (E := impl_copyInts_E PM.std) (L := fun n => impl_copyInts_L PM.std n) (N := PM.std.fuel) cx_ok .nil mixed .nil impl_copyInts_fn (by kernel_rfl) ⟨rfl, fun _ _ _ => rfl, fun n cur σ K r h => by cases h⟩
      ((impl_copyInts_ok PM.std _ k).trans h)
  · cases h

abbrev impl_copyCommit_T := (Int) → (Int) → (Int) → (Int) → (Int) → (List (List Int)) → (List Int) → ((Int) → (Int) → (Int) → (Int) → (Int) → (List (List Int)) → (List Int) → PM.R) → PM.R
noncomputable def impl_copyCommit_w (c : impl_copyCommit_T) (ds : List PM.V) (k : PM.V → PM.R) : PM.R :=
  match ds with
  | [.agg [.int .i64 c_Who, .int .i64 c_Rv, .int .i64 c_Phase, .int .i64 c_At, .int .i64 c_Wv, .arr (.vecs 135 2 c_Puts), .arr (.ints 3 .i64 c_Reads)]] => c c_Who c_Rv c_Phase c_At c_Wv c_Puts c_Reads (fun r0_Who r0_Rv r0_Phase r0_At r0_Wv r0_Puts r0_Reads => k (.agg [.int .i64 r0_Who, .int .i64 r0_Rv, .int .i64 r0_Phase, .int .i64 r0_At, .int .i64 r0_Wv, .arr (.vecs 135 2 r0_Puts), .arr (.ints 3 .i64 r0_Reads)]))
  | _ => none
noncomputable def impl_copyCommit_f (A : PM.Prims) (c_155 : impl_copyRows_T) (c_154 : impl_copyInts_T) (c_Who : Int) (c_Rv : Int) (c_Phase : Int) (c_At : Int) (c_Wv : Int) (c_Puts : List (List Int)) (c_Reads : List Int) (k : (Int) → (Int) → (Int) → (Int) → (Int) → (List (List Int)) → (List Int) → PM.R) : PM.R :=
  c_155 c_Puts (fun r1 =>
    c_154 c_Reads (fun r2 =>
      k c_Who c_Rv c_Phase c_At c_Wv r1 r2))
noncomputable def impl_copyCommit (A : PM.Prims) : impl_copyCommit_T := impl_copyCommit_f A (impl_copyRows A) (impl_copyInts A)
noncomputable def impl_copyCommit_L (A : PM.Prims) (c_155 : impl_copyRows_T) (c_154 : impl_copyInts_T) (n : Nat) : PM.Lam := fun cur σ K =>
  match cur, σ, K with
  | _, _, _ => none
noncomputable def impl_copyCommit_E (A : PM.Prims) (c_155 : impl_copyRows_T) (c_154 : impl_copyInts_T) : PM.Env := ⟨[(155, ⟨[], impl_copyRows_w c_155, none⟩), (154, ⟨[], impl_copyInts_w c_154, none⟩)], [], [], [(0, [1, 2]), (1, [1, 2]), (2, [1, 2]), (3, [2])], impl_copyCommit_L A c_155 c_154 A.fuel⟩
theorem impl_copyCommit_ok (A : PM.Prims) (c_155 : impl_copyRows_T) (c_154 : impl_copyInts_T) (c_Who : Int) (c_Rv : Int) (c_Phase : Int) (c_At : Int) (c_Wv : Int) (c_Puts : List (List Int)) (c_Reads : List Int) (k : PM.V → PM.R) : PM.pfun A cx [] (impl_copyCommit_E A c_155 c_154) Go.Proofs.Try.f133 [.agg [.int .i64 c_Who, .int .i64 c_Rv, .int .i64 c_Phase, .int .i64 c_At, .int .i64 c_Wv, .arr (.vecs 135 2 c_Puts), .arr (.ints 3 .i64 c_Reads)]] k = impl_copyCommit_f A c_155 c_154 c_Who c_Rv c_Phase c_At c_Wv c_Puts c_Reads (fun r0_Who r0_Rv r0_Phase r0_At r0_Wv r0_Puts r0_Reads => k (.agg [.int .i64 r0_Who, .int .i64 r0_Rv, .int .i64 r0_Phase, .int .i64 r0_At, .int .i64 r0_Wv, .arr (.vecs 135 2 r0_Puts), .arr (.ints 3 .i64 r0_Reads)])) := by kernel_rfl

theorem impl_copyCommit_fn : PM.FnIs Try.prog 133 Try.f133 := .of Try.func133 (by kernel_rfl) (by kernel_rfl)
theorem impl_copyCommit_g : PM.GOk Try.prog cx 133 ⟨[], impl_copyCommit_w (impl_copyCommit PM.std), none⟩ := by
  refine ⟨impl_copyCommit_fn.enter, fun _ ds k r h => ?_, fun hm => absurd rfl hm, fun _ e => (by cases e)⟩
  change impl_copyCommit_w (impl_copyCommit PM.std) ds k = some r at h
  unfold impl_copyCommit_w at h
  split at h
  · exact PM.pfun_ok (E := impl_copyCommit_E PM.std (impl_copyRows PM.std) (impl_copyInts PM.std)) (L := fun n => impl_copyCommit_L PM.std (impl_copyRows PM.std) (impl_copyInts PM.std) n) (N := PM.std.fuel) cx_ok (.cons impl_copyRows_g (.cons impl_copyInts_g .nil)) mixed .nil impl_copyCommit_fn (by kernel_rfl) ⟨rfl, fun _ _ _ => rfl, fun n cur σ K r h => by cases h⟩
      ((impl_copyCommit_ok PM.std (impl_copyRows PM.std) (impl_copyInts PM.std) _ _ _ _ _ _ _ k).trans h)
  · cases h

abbrev impl_CommitBreak_T := (Int) → (Int) → (Int) → (Int) → (Int) → (List (List Int)) → (List Int) → ((Int) → (Int) → (Int) → (Int) → (Int) → (List (List Int)) → (List Int) → (Bool) → PM.R) → PM.R
noncomputable def impl_CommitBreak_w (c : impl_CommitBreak_T) (ds : List PM.V) (k : PM.V → PM.R) : PM.R :=
  match ds with
  | [.agg [.int .i64 c_Who, .int .i64 c_Rv, .int .i64 c_Phase, .int .i64 c_At, .int .i64 c_Wv, .arr (.vecs 135 2 c_Puts), .arr (.ints 3 .i64 c_Reads)]] => c c_Who c_Rv c_Phase c_At c_Wv c_Puts c_Reads (fun r0_Who r0_Rv r0_Phase r0_At r0_Wv r0_Puts r0_Reads r1 => k (.tup [.agg [.int .i64 r0_Who, .int .i64 r0_Rv, .int .i64 r0_Phase, .int .i64 r0_At, .int .i64 r0_Wv, .arr (.vecs 135 2 r0_Puts), .arr (.ints 3 .i64 r0_Reads)], .bool r1]))
  | _ => none
noncomputable def impl_CommitBreak_f (A : PM.Prims) (c_62 : impl_CommitOk_T) (c_133 : impl_copyCommit_T) (c_Who : Int) (c_Rv : Int) (c_Phase : Int) (c_At : Int) (c_Wv : Int) (c_Puts : List (List Int)) (c_Reads : List Int) (k : (Int) → (Int) → (Int) → (Int) → (Int) → (List (List Int)) → (List Int) → (Bool) → PM.R) : PM.R :=
  c_133 c_Who c_Rv c_Phase c_At c_Wv c_Puts c_Reads (fun r1 r2 r3 r4 r5 r6 r7 =>
    c_62 r1 r2 r3 r4 r5 r6 r7 (fun r8 =>
      bif (A.not r8) then
        k r1 r2 r3 r4 r5 r6 r7 false
      else
        bif (A.eq r3 1) then
          bif (A.eq r4 0) then
            k r1 r2 8 0 r5 r6 r7 true
          else
            k r1 r2 7 (A.sub .i64 r4 1) r5 r6 r7 true
        else
          bif (A.eq r3 2) then
            bif (A.eq (A.vlen r6) 0) then
              k r1 r2 8 0 r5 r6 r7 true
            else
              k r1 r2 7 (A.sub .i64 (A.vlen r6) 1) r5 r6 r7 true
          else
            bif (A.eq r3 3) then
              bif (A.eq (A.vlen r6) 0) then
                k r1 r2 8 0 r5 r6 r7 true
              else
                k r1 r2 7 (A.sub .i64 (A.vlen r6) 1) r5 r6 r7 true
            else
              k r1 r2 r3 r4 r5 r6 r7 false))
noncomputable def impl_CommitBreak (A : PM.Prims) : impl_CommitBreak_T := impl_CommitBreak_f A (impl_CommitOk A) (impl_copyCommit A)
noncomputable def impl_CommitBreak_L (A : PM.Prims) (c_62 : impl_CommitOk_T) (c_133 : impl_copyCommit_T) (n : Nat) : PM.Lam := fun cur σ K =>
  match cur, σ, K with
  | _, _, _ => none
noncomputable def impl_CommitBreak_E (A : PM.Prims) (c_62 : impl_CommitOk_T) (c_133 : impl_copyCommit_T) : PM.Env := ⟨[(62, ⟨[], impl_CommitOk_w c_62, none⟩), (133, ⟨[], impl_copyCommit_w c_133, none⟩)], [(134, Go.Proofs.Try.f134)], [], [(0, [1, 2]), (1, [1, 2]), (2, [1, 2, 8]), (3, [2, 3]), (4, [1, 2, 11]), (5, [2, 3]), (6, [1, 2, 11, 13]), (7, [1, 2]), (8, [1, 2, 11, 18]), (9, [1, 2, 18]), (10, [1, 2]), (11, [2, 3])], impl_CommitBreak_L A c_62 c_133 A.fuel⟩
theorem impl_CommitBreak_ok (A : PM.Prims) (c_62 : impl_CommitOk_T) (c_133 : impl_copyCommit_T) (c_Who : Int) (c_Rv : Int) (c_Phase : Int) (c_At : Int) (c_Wv : Int) (c_Puts : List (List Int)) (c_Reads : List Int) (k : PM.V → PM.R) : PM.pfun A cx [] (impl_CommitBreak_E A c_62 c_133) Go.Proofs.Try.f75 [.agg [.int .i64 c_Who, .int .i64 c_Rv, .int .i64 c_Phase, .int .i64 c_At, .int .i64 c_Wv, .arr (.vecs 135 2 c_Puts), .arr (.ints 3 .i64 c_Reads)]] k = impl_CommitBreak_f A c_62 c_133 c_Who c_Rv c_Phase c_At c_Wv c_Puts c_Reads (fun r0_Who r0_Rv r0_Phase r0_At r0_Wv r0_Puts r0_Reads r1 => k (.tup [.agg [.int .i64 r0_Who, .int .i64 r0_Rv, .int .i64 r0_Phase, .int .i64 r0_At, .int .i64 r0_Wv, .arr (.vecs 135 2 r0_Puts), .arr (.ints 3 .i64 r0_Reads)], .bool r1])) := by kernel_rfl

theorem impl_CommitBreak_fn : PM.FnIs Try.prog 75 Try.f75 := .of Try.func75 (by kernel_rfl) (by kernel_rfl)
theorem impl_CommitBreak_g : PM.GOk Try.prog cx 75 ⟨[], impl_CommitBreak_w (impl_CommitBreak PM.std), none⟩ := by
  refine ⟨impl_CommitBreak_fn.enter, fun _ ds k r h => ?_, fun hm => absurd rfl hm, fun _ e => (by cases e)⟩
  change impl_CommitBreak_w (impl_CommitBreak PM.std) ds k = some r at h
  unfold impl_CommitBreak_w at h
  split at h
  · exact PM.pfun_ok (E := impl_CommitBreak_E PM.std (impl_CommitOk PM.std) (impl_copyCommit PM.std)) (L := fun n => impl_CommitBreak_L PM.std (impl_CommitOk PM.std) (impl_copyCommit PM.std) n) (N := PM.std.fuel) cx_ok (.cons impl_CommitOk_g (.cons impl_copyCommit_g .nil)) mixed (.cons (.of Try.func134 (by kernel_rfl) (by kernel_rfl)) (by kernel_rfl) .nil) impl_CommitBreak_fn (by kernel_rfl) ⟨rfl, fun _ _ _ => rfl, fun n cur σ K r h => by cases h⟩
      ((impl_CommitBreak_ok PM.std (impl_CommitOk PM.std) (impl_copyCommit PM.std) _ _ _ _ _ _ _ k).trans h)
  · cases h

abbrev spec_l3Copy_T := (Int) → (List (List Int)) → ((Int) → (List (List Int)) → PM.R) → PM.R
noncomputable def spec_l3Copy_w (c : spec_l3Copy_T) (ds : List PM.V) (k : PM.V → PM.R) : PM.R :=
  match ds with
  | [.agg [.int .i64 m_Clock, .arr (.vecs 49 3 m_Cells)]] => c m_Clock m_Cells (fun r0_Clock r0_Cells => k (.agg [.int .i64 r0_Clock, .arr (.vecs 49 3 r0_Cells)]))
  | _ => none
noncomputable def spec_l3Copy_f (A : PM.Prims) (m_Clock : Int) (m_Cells : List (List Int)) (k : (Int) → (List (List Int)) → PM.R) : PM.R :=
  bif (A.room (A.vlen []) (A.vlen m_Cells)) then
    k m_Clock (A.vapp [] m_Cells)
  else
    none
noncomputable def spec_l3Copy (A : PM.Prims) : spec_l3Copy_T := spec_l3Copy_f A
noncomputable def spec_l3Copy_L (A : PM.Prims) (n : Nat) : PM.Lam := fun cur σ K =>
  match cur, σ, K with
  | _, _, _ => none
noncomputable def spec_l3Copy_E (A : PM.Prims) : PM.Env := ⟨[], [], [], [(0, [1, 2]), (1, [2])], spec_l3Copy_L A A.fuel⟩
theorem spec_l3Copy_ok (A : PM.Prims) (m_Clock : Int) (m_Cells : List (List Int)) (k : PM.V → PM.R) : PM.pfun A cx [] (spec_l3Copy_E A) Go.Proofs.Try.f135 [.agg [.int .i64 m_Clock, .arr (.vecs 49 3 m_Cells)]] k = spec_l3Copy_f A m_Clock m_Cells (fun r0_Clock r0_Cells => k (.agg [.int .i64 r0_Clock, .arr (.vecs 49 3 r0_Cells)])) := by kernel_rfl

theorem spec_l3Copy_fn : PM.FnIs Try.prog 135 Try.f135 := .of Try.func135 (by kernel_rfl) (by kernel_rfl)
theorem spec_l3Copy_g : PM.GOk Try.prog cx 135 ⟨[], spec_l3Copy_w (spec_l3Copy PM.std), none⟩ := by
  refine ⟨spec_l3Copy_fn.enter, fun _ ds k r h => ?_, fun hm => absurd rfl hm, fun _ e => (by cases e)⟩
  change spec_l3Copy_w (spec_l3Copy PM.std) ds k = some r at h
  unfold spec_l3Copy_w at h
  split at h
  · exact PM.pfun_ok (E := spec_l3Copy_E PM.std) (L := fun n => spec_l3Copy_L PM.std n) (N := PM.std.fuel) cx_ok .nil mixed .nil spec_l3Copy_fn (by kernel_rfl) ⟨rfl, fun _ _ _ => rfl, fun n cur σ K r h => by cases h⟩
      ((spec_l3Copy_ok PM.std _ _ k).trans h)
  · cases h

abbrev spec_Lock_T := (Int) → (List (List Int)) → (Int) → (Int) → ((Int) → (List (List Int)) → (Bool) → PM.R) → PM.R
noncomputable def spec_Lock_w (c : spec_Lock_T) (ds : List PM.V) (k : PM.V → PM.R) : PM.R :=
  match ds with
  | [.agg [.int .i64 m_Clock, .arr (.vecs 49 3 m_Cells)], .int .i64 i, .int .i64 who] => c m_Clock m_Cells i who (fun r0_Clock r0_Cells r1 => k (.tup [.agg [.int .i64 r0_Clock, .arr (.vecs 49 3 r0_Cells)], .bool r1]))
  | _ => none
noncomputable def spec_Lock_f (A : PM.Prims) (c_94 : spec_l1In_T) (c_35 : spec_MemOk_T) (c_93 : spec_l3Cell_T) (c_135 : spec_l3Copy_T) (m_Clock : Int) (m_Cells : List (List Int)) (i : Int) (who : Int) (k : (Int) → (List (List Int)) → (Bool) → PM.R) : PM.R :=
  c_135 m_Clock m_Cells (fun r1 r2 =>
    c_35 m_Clock m_Cells (fun r3 =>
      bif (A.not r3) then
        k r1 r2 false
      else
        c_93 i (fun r4 =>
          bif (A.not r4) then
            k r1 r2 false
          else
            c_94 who 1 99 (fun r5 =>
              bif (A.not r5) then
                k r1 r2 false
              else
                bif (A.inb i (A.vlen m_Cells)) then
                  bif (A.not (A.eq (A.vget m_Cells i 2) 0)) then
                    k r1 r2 false
                  else
                    bif (A.inb i (A.vlen r2)) then
                      k r1 (A.vset r2 i 2 who) true
                    else
                      none
                else
                  none))))
noncomputable def spec_Lock (A : PM.Prims) : spec_Lock_T := spec_Lock_f A (spec_l1In A) (spec_MemOk A) (spec_l3Cell A) (spec_l3Copy A)
noncomputable def spec_Lock_L (A : PM.Prims) (c_94 : spec_l1In_T) (c_35 : spec_MemOk_T) (c_93 : spec_l3Cell_T) (c_135 : spec_l3Copy_T) (n : Nat) : PM.Lam := fun cur σ K =>
  match cur, σ, K with
  | _, _, _ => none
noncomputable def spec_Lock_E (A : PM.Prims) (c_94 : spec_l1In_T) (c_35 : spec_MemOk_T) (c_93 : spec_l3Cell_T) (c_135 : spec_l3Copy_T) : PM.Env := ⟨[(94, ⟨[], spec_l1In_w c_94, none⟩), (35, ⟨[], spec_MemOk_w c_35, none⟩), (93, ⟨[], spec_l3Cell_w c_93, none⟩), (135, ⟨[], spec_l3Copy_w c_135, none⟩)], [], [], [(0, [1, 2, 3, 6]), (1, [1, 2, 3, 6, 8]), (2, [1, 2, 6, 8, 32]), (3, [6, 7]), (4, [6, 8]), (5, [6, 7])], spec_Lock_L A c_94 c_35 c_93 c_135 A.fuel⟩
theorem spec_Lock_ok (A : PM.Prims) (c_94 : spec_l1In_T) (c_35 : spec_MemOk_T) (c_93 : spec_l3Cell_T) (c_135 : spec_l3Copy_T) (m_Clock : Int) (m_Cells : List (List Int)) (i : Int) (who : Int) (k : PM.V → PM.R) : PM.pfun A cx [] (spec_Lock_E A c_94 c_35 c_93 c_135) Go.Proofs.Try.f136 [.agg [.int .i64 m_Clock, .arr (.vecs 49 3 m_Cells)], .int .i64 i, .int .i64 who] k = spec_Lock_f A c_94 c_35 c_93 c_135 m_Clock m_Cells i who (fun r0_Clock r0_Cells r1 => k (.tup [.agg [.int .i64 r0_Clock, .arr (.vecs 49 3 r0_Cells)], .bool r1])) := by kernel_rfl

theorem spec_Lock_fn : PM.FnIs Try.prog 136 Try.f136 := .of Try.func136 (by kernel_rfl) (by kernel_rfl)
theorem spec_Lock_g : PM.GOk Try.prog cx 136 ⟨[], spec_Lock_w (spec_Lock PM.std), none⟩ := by
  refine ⟨spec_Lock_fn.enter, fun _ ds k r h => ?_, fun hm => absurd rfl hm, fun _ e => (by cases e)⟩
  change spec_Lock_w (spec_Lock PM.std) ds k = some r at h
  unfold spec_Lock_w at h
  split at h
  · exact PM.pfun_ok (E := spec_Lock_E PM.std (spec_l1In PM.std) (spec_MemOk PM.std) (spec_l3Cell PM.std) (spec_l3Copy PM.std)) (L := fun n => spec_Lock_L PM.std (spec_l1In PM.std) (spec_MemOk PM.std) (spec_l3Cell PM.std) (spec_l3Copy PM.std) n) (N := PM.std.fuel) cx_ok (.cons spec_l1In_g (.cons spec_MemOk_g (.cons spec_l3Cell_g (.cons spec_l3Copy_g .nil)))) mixed .nil spec_Lock_fn (by kernel_rfl) ⟨rfl, fun _ _ _ => rfl, fun n cur σ K r h => by cases h⟩
      ((spec_Lock_ok PM.std (spec_l1In PM.std) (spec_MemOk PM.std) (spec_l3Cell PM.std) (spec_l3Copy PM.std) _ _ _ _ k).trans h)
  · cases h

abbrev spec_Tick_T := (Int) → (List (List Int)) → ((Int) → (List (List Int)) → (Int) → PM.R) → PM.R
noncomputable def spec_Tick_w (c : spec_Tick_T) (ds : List PM.V) (k : PM.V → PM.R) : PM.R :=
  match ds with
  | [.agg [.int .i64 m_Clock, .arr (.vecs 49 3 m_Cells)]] => c m_Clock m_Cells (fun r0_Clock r0_Cells r1 => k (.tup [.agg [.int .i64 r0_Clock, .arr (.vecs 49 3 r0_Cells)], .int .i64 r1]))
  | _ => none
noncomputable def spec_Tick_f (A : PM.Prims) (c_35 : spec_MemOk_T) (c_135 : spec_l3Copy_T) (m_Clock : Int) (m_Cells : List (List Int)) (k : (Int) → (List (List Int)) → (Int) → PM.R) : PM.R :=
  c_135 m_Clock m_Cells (fun r1 r2 =>
    c_35 m_Clock m_Cells (fun r3 =>
      bif (A.not r3) then
        k r1 r2 0
      else
        bif (A.le 1000000 m_Clock) then
          k r1 r2 0
        else
          k (A.add .i64 m_Clock 1) r2 (A.add .i64 m_Clock 1)))
noncomputable def spec_Tick (A : PM.Prims) : spec_Tick_T := spec_Tick_f A (spec_MemOk A) (spec_l3Copy A)
noncomputable def spec_Tick_L (A : PM.Prims) (c_35 : spec_MemOk_T) (c_135 : spec_l3Copy_T) (n : Nat) : PM.Lam := fun cur σ K =>
  match cur, σ, K with
  | _, _, _ => none
noncomputable def spec_Tick_E (A : PM.Prims) (c_35 : spec_MemOk_T) (c_135 : spec_l3Copy_T) : PM.Env := ⟨[(35, ⟨[], spec_MemOk_w c_35, none⟩), (135, ⟨[], spec_l3Copy_w c_135, none⟩)], [], [], [(0, [1, 2]), (1, [1, 2, 4]), (2, [1, 2, 4, 14]), (3, [2, 3]), (4, [2, 4]), (5, [2, 3])], spec_Tick_L A c_35 c_135 A.fuel⟩
theorem spec_Tick_ok (A : PM.Prims) (c_35 : spec_MemOk_T) (c_135 : spec_l3Copy_T) (m_Clock : Int) (m_Cells : List (List Int)) (k : PM.V → PM.R) : PM.pfun A cx [] (spec_Tick_E A c_35 c_135) Go.Proofs.Try.f138 [.agg [.int .i64 m_Clock, .arr (.vecs 49 3 m_Cells)]] k = spec_Tick_f A c_35 c_135 m_Clock m_Cells (fun r0_Clock r0_Cells r1 => k (.tup [.agg [.int .i64 r0_Clock, .arr (.vecs 49 3 r0_Cells)], .int .i64 r1])) := by kernel_rfl

theorem spec_Tick_fn : PM.FnIs Try.prog 138 Try.f138 := .of Try.func138 (by kernel_rfl) (by kernel_rfl)
theorem spec_Tick_g : PM.GOk Try.prog cx 138 ⟨[], spec_Tick_w (spec_Tick PM.std), none⟩ := by
  refine ⟨spec_Tick_fn.enter, fun _ ds k r h => ?_, fun hm => absurd rfl hm, fun _ e => (by cases e)⟩
  change spec_Tick_w (spec_Tick PM.std) ds k = some r at h
  unfold spec_Tick_w at h
  split at h
  · exact PM.pfun_ok (E := spec_Tick_E PM.std (spec_MemOk PM.std) (spec_l3Copy PM.std)) (L := fun n => spec_Tick_L PM.std (spec_MemOk PM.std) (spec_l3Copy PM.std) n) (N := PM.std.fuel) cx_ok (.cons spec_MemOk_g (.cons spec_l3Copy_g .nil)) mixed .nil spec_Tick_fn (by kernel_rfl) ⟨rfl, fun _ _ _ => rfl, fun n cur σ K r h => by cases h⟩
      ((spec_Tick_ok PM.std (spec_MemOk PM.std) (spec_l3Copy PM.std) _ _ k).trans h)
  · cases h

abbrev spec_l3Mine_T := (Int) → (List (List Int)) → (Int) → (Int) → ((Bool) → PM.R) → PM.R
noncomputable def spec_l3Mine_w (c : spec_l3Mine_T) (ds : List PM.V) (k : PM.V → PM.R) : PM.R :=
  match ds with
  | [.agg [.int .i64 m_Clock, .arr (.vecs 49 3 m_Cells)], .int .i64 i, .int .i64 who] => c m_Clock m_Cells i who (fun r0 => k (.bool r0))
  | _ => none
noncomputable def spec_l3Mine_f (A : PM.Prims) (c_94 : spec_l1In_T) (c_35 : spec_MemOk_T) (c_93 : spec_l3Cell_T) (m_Clock : Int) (m_Cells : List (List Int)) (i : Int) (who : Int) (k : (Bool) → PM.R) : PM.R :=
  c_35 m_Clock m_Cells (fun r1 =>
    bif r1 then
      c_93 i (fun r2 =>
        bif r2 then
          c_94 who 1 99 (fun r3 =>
            bif r3 then
              bif (A.inb i (A.vlen m_Cells)) then
                k (A.eq (A.vget m_Cells i 2) who)
              else
                none
            else
              k false)
        else
          k false)
    else
      k false)
noncomputable def spec_l3Mine (A : PM.Prims) : spec_l3Mine_T := spec_l3Mine_f A (spec_l1In A) (spec_MemOk A) (spec_l3Cell A)
noncomputable def spec_l3Mine_L (A : PM.Prims) (c_94 : spec_l1In_T) (c_35 : spec_MemOk_T) (c_93 : spec_l3Cell_T) (n : Nat) : PM.Lam := fun cur σ K =>
  match cur, σ, K with
  | _, _, _ => none
noncomputable def spec_l3Mine_E (A : PM.Prims) (c_94 : spec_l1In_T) (c_35 : spec_MemOk_T) (c_93 : spec_l3Cell_T) : PM.Env := ⟨[(94, ⟨[], spec_l1In_w c_94, none⟩), (35, ⟨[], spec_MemOk_w c_35, none⟩), (93, ⟨[], spec_l3Cell_w c_93, none⟩)], [], [], [(0, [1, 2, 3]), (1, [6])], spec_l3Mine_L A c_94 c_35 c_93 A.fuel⟩
theorem spec_l3Mine_ok (A : PM.Prims) (c_94 : spec_l1In_T) (c_35 : spec_MemOk_T) (c_93 : spec_l3Cell_T) (m_Clock : Int) (m_Cells : List (List Int)) (i : Int) (who : Int) (k : PM.V → PM.R) : PM.pfun A cx [] (spec_l3Mine_E A c_94 c_35 c_93) Go.Proofs.Try.f164 [.agg [.int .i64 m_Clock, .arr (.vecs 49 3 m_Cells)], .int .i64 i, .int .i64 who] k = spec_l3Mine_f A c_94 c_35 c_93 m_Clock m_Cells i who (fun r0 => k (.bool r0)) := by kernel_rfl

theorem spec_l3Mine_fn : PM.FnIs Try.prog 164 Try.f164 := .of Try.func164 (by kernel_rfl) (by kernel_rfl)
theorem spec_l3Mine_g : PM.GOk Try.prog cx 164 ⟨[], spec_l3Mine_w (spec_l3Mine PM.std), none⟩ := by
  refine ⟨spec_l3Mine_fn.enter, fun _ ds k r h => ?_, fun hm => absurd rfl hm, fun _ e => (by cases e)⟩
  change spec_l3Mine_w (spec_l3Mine PM.std) ds k = some r at h
  unfold spec_l3Mine_w at h
  split at h
  · exact PM.pfun_ok (E := spec_l3Mine_E PM.std (spec_l1In PM.std) (spec_MemOk PM.std) (spec_l3Cell PM.std)) (L := fun n => spec_l3Mine_L PM.std (spec_l1In PM.std) (spec_MemOk PM.std) (spec_l3Cell PM.std) n) (N := PM.std.fuel) cx_ok (.cons spec_l1In_g (.cons spec_MemOk_g (.cons spec_l3Cell_g .nil))) mixed .nil spec_l3Mine_fn (by kernel_rfl) ⟨rfl, fun _ _ _ => rfl, fun n cur σ K r h => by cases h⟩
      ((spec_l3Mine_ok PM.std (spec_l1In PM.std) (spec_MemOk PM.std) (spec_l3Cell PM.std) _ _ _ _ k).trans h)
  · cases h

abbrev spec_Store_T := (Int) → (List (List Int)) → (Int) → (Int) → (Int) → ((Int) → (List (List Int)) → (Bool) → PM.R) → PM.R
noncomputable def spec_Store_w (c : spec_Store_T) (ds : List PM.V) (k : PM.V → PM.R) : PM.R :=
  match ds with
  | [.agg [.int .i64 m_Clock, .arr (.vecs 49 3 m_Cells)], .int .i64 i, .int .i64 who, .int .i64 v] => c m_Clock m_Cells i who v (fun r0_Clock r0_Cells r1 => k (.tup [.agg [.int .i64 r0_Clock, .arr (.vecs 49 3 r0_Cells)], .bool r1]))
  | _ => none
noncomputable def spec_Store_f (A : PM.Prims) (c_95 : spec_l3Val_T) (c_135 : spec_l3Copy_T) (c_164 : spec_l3Mine_T) (m_Clock : Int) (m_Cells : List (List Int)) (i : Int) (who : Int) (v : Int) (k : (Int) → (List (List Int)) → (Bool) → PM.R) : PM.R :=
  c_135 m_Clock m_Cells (fun r1 r2 =>
    c_164 m_Clock m_Cells i who (fun r3 =>
      bif (A.not r3) then
        k r1 r2 false
      else
        c_95 v (fun r4 =>
          bif (A.not r4) then
            k r1 r2 false
          else
            bif (A.inb i (A.vlen r2)) then
              k r1 (A.vset r2 i 0 v) true
            else
              none)))
noncomputable def spec_Store (A : PM.Prims) : spec_Store_T := spec_Store_f A (spec_l3Val A) (spec_l3Copy A) (spec_l3Mine A)
noncomputable def spec_Store_L (A : PM.Prims) (c_95 : spec_l3Val_T) (c_135 : spec_l3Copy_T) (c_164 : spec_l3Mine_T) (n : Nat) : PM.Lam := fun cur σ K =>
  match cur, σ, K with
  | _, _, _ => none
noncomputable def spec_Store_E (A : PM.Prims) (c_95 : spec_l3Val_T) (c_135 : spec_l3Copy_T) (c_164 : spec_l3Mine_T) : PM.Env := ⟨[(95, ⟨[], spec_l3Val_w c_95, none⟩), (135, ⟨[], spec_l3Copy_w c_135, none⟩), (164, ⟨[], spec_l3Mine_w c_164, none⟩)], [], [], [(0, [1, 2, 3, 4, 8]), (1, [1, 2, 3, 4, 8, 10]), (2, [1, 3, 8, 10, 22]), (3, [8, 9]), (4, [8, 10]), (5, [8, 9])], spec_Store_L A c_95 c_135 c_164 A.fuel⟩
theorem spec_Store_ok (A : PM.Prims) (c_95 : spec_l3Val_T) (c_135 : spec_l3Copy_T) (c_164 : spec_l3Mine_T) (m_Clock : Int) (m_Cells : List (List Int)) (i : Int) (who : Int) (v : Int) (k : PM.V → PM.R) : PM.pfun A cx [] (spec_Store_E A c_95 c_135 c_164) Go.Proofs.Try.f139 [.agg [.int .i64 m_Clock, .arr (.vecs 49 3 m_Cells)], .int .i64 i, .int .i64 who, .int .i64 v] k = spec_Store_f A c_95 c_135 c_164 m_Clock m_Cells i who v (fun r0_Clock r0_Cells r1 => k (.tup [.agg [.int .i64 r0_Clock, .arr (.vecs 49 3 r0_Cells)], .bool r1])) := by kernel_rfl

theorem spec_Store_fn : PM.FnIs Try.prog 139 Try.f139 := .of Try.func139 (by kernel_rfl) (by kernel_rfl)
theorem spec_Store_g : PM.GOk Try.prog cx 139 ⟨[], spec_Store_w (spec_Store PM.std), none⟩ := by
  refine ⟨spec_Store_fn.enter, fun _ ds k r h => ?_, fun hm => absurd rfl hm, fun _ e => (by cases e)⟩
  change spec_Store_w (spec_Store PM.std) ds k = some r at h
  unfold spec_Store_w at h
  split at h
  · exact PM.pfun_ok (E := spec_Store_E PM.std (spec_l3Val PM.std) (spec_l3Copy PM.std) (spec_l3Mine PM.std)) (L := fun n => spec_Store_L PM.std (spec_l3Val PM.std) (spec_l3Copy PM.std) (spec_l3Mine PM.std) n) (N := PM.std.fuel) cx_ok (.cons spec_l3Val_g (.cons spec_l3Copy_g (.cons spec_l3Mine_g .nil))) mixed .nil spec_Store_fn (by kernel_rfl) ⟨rfl, fun _ _ _ => rfl, fun n cur σ K r h => by cases h⟩
      ((spec_Store_ok PM.std (spec_l3Val PM.std) (spec_l3Copy PM.std) (spec_l3Mine PM.std) _ _ _ _ _ k).trans h)
  · cases h

abbrev spec_Unlock_T := (Int) → (List (List Int)) → (Int) → (Int) → (Int) → ((Int) → (List (List Int)) → (Bool) → PM.R) → PM.R
noncomputable def spec_Unlock_w (c : spec_Unlock_T) (ds : List PM.V) (k : PM.V → PM.R) : PM.R :=
  match ds with
  | [.agg [.int .i64 m_Clock, .arr (.vecs 49 3 m_Cells)], .int .i64 i, .int .i64 who, .int .i64 ver] => c m_Clock m_Cells i who ver (fun r0_Clock r0_Cells r1 => k (.tup [.agg [.int .i64 r0_Clock, .arr (.vecs 49 3 r0_Cells)], .bool r1]))
  | _ => none
noncomputable def spec_Unlock_f (A : PM.Prims) (c_94 : spec_l1In_T) (c_135 : spec_l3Copy_T) (c_164 : spec_l3Mine_T) (m_Clock : Int) (m_Cells : List (List Int)) (i : Int) (who : Int) (ver : Int) (k : (Int) → (List (List Int)) → (Bool) → PM.R) : PM.R :=
  c_135 m_Clock m_Cells (fun r1 r2 =>
    c_164 m_Clock m_Cells i who (fun r3 =>
      bif (A.not r3) then
        k r1 r2 false
      else
        bif (A.inb i (A.vlen m_Cells)) then
          c_94 ver (A.vget m_Cells i 1) m_Clock (fun r4 =>
            bif (A.not r4) then
              k r1 r2 false
            else
              bif (A.inb i (A.vlen r2)) then
                bif (A.inb i (A.vlen (A.vset r2 i 2 0))) then
                  k r1 (A.vset (A.vset r2 i 2 0) i 1 ver) true
                else
                  none
              else
                none)
        else
          none))
noncomputable def spec_Unlock (A : PM.Prims) : spec_Unlock_T := spec_Unlock_f A (spec_l1In A) (spec_l3Copy A) (spec_l3Mine A)
noncomputable def spec_Unlock_L (A : PM.Prims) (c_94 : spec_l1In_T) (c_135 : spec_l3Copy_T) (c_164 : spec_l3Mine_T) (n : Nat) : PM.Lam := fun cur σ K =>
  match cur, σ, K with
  | _, _, _ => none
noncomputable def spec_Unlock_E (A : PM.Prims) (c_94 : spec_l1In_T) (c_135 : spec_l3Copy_T) (c_164 : spec_l3Mine_T) : PM.Env := ⟨[(94, ⟨[], spec_l1In_w c_94, none⟩), (135, ⟨[], spec_l3Copy_w c_135, none⟩), (164, ⟨[], spec_l3Mine_w c_164, none⟩)], [], [], [(0, [1, 2, 3, 4, 8]), (1, [1, 2, 3, 4, 8, 10]), (2, [1, 3, 8, 10, 30]), (3, [8, 9]), (4, [1, 3, 8, 10]), (5, [8, 10]), (6, [8, 9])], spec_Unlock_L A c_94 c_135 c_164 A.fuel⟩
theorem spec_Unlock_ok (A : PM.Prims) (c_94 : spec_l1In_T) (c_135 : spec_l3Copy_T) (c_164 : spec_l3Mine_T) (m_Clock : Int) (m_Cells : List (List Int)) (i : Int) (who : Int) (ver : Int) (k : PM.V → PM.R) : PM.pfun A cx [] (spec_Unlock_E A c_94 c_135 c_164) Go.Proofs.Try.f140 [.agg [.int .i64 m_Clock, .arr (.vecs 49 3 m_Cells)], .int .i64 i, .int .i64 who, .int .i64 ver] k = spec_Unlock_f A c_94 c_135 c_164 m_Clock m_Cells i who ver (fun r0_Clock r0_Cells r1 => k (.tup [.agg [.int .i64 r0_Clock, .arr (.vecs 49 3 r0_Cells)], .bool r1])) := by kernel_rfl

theorem spec_Unlock_fn : PM.FnIs Try.prog 140 Try.f140 := .of Try.func140 (by kernel_rfl) (by kernel_rfl)
theorem spec_Unlock_g : PM.GOk Try.prog cx 140 ⟨[], spec_Unlock_w (spec_Unlock PM.std), none⟩ := by
  refine ⟨spec_Unlock_fn.enter, fun _ ds k r h => ?_, fun hm => absurd rfl hm, fun _ e => (by cases e)⟩
  change spec_Unlock_w (spec_Unlock PM.std) ds k = some r at h
  unfold spec_Unlock_w at h
  split at h
  · exact PM.pfun_ok (E := spec_Unlock_E PM.std (spec_l1In PM.std) (spec_l3Copy PM.std) (spec_l3Mine PM.std)) (L := fun n => spec_Unlock_L PM.std (spec_l1In PM.std) (spec_l3Copy PM.std) (spec_l3Mine PM.std) n) (N := PM.std.fuel) cx_ok (.cons spec_l1In_g (.cons spec_l3Copy_g (.cons spec_l3Mine_g .nil))) mixed .nil spec_Unlock_fn (by kernel_rfl) ⟨rfl, fun _ _ _ => rfl, fun n cur σ K r h => by cases h⟩
      ((spec_Unlock_ok PM.std (spec_l1In PM.std) (spec_l3Copy PM.std) (spec_l3Mine PM.std) _ _ _ _ _ k).trans h)
  · cases h

abbrev impl_copyMem_T := (Int) → (List (List Int)) → ((Int) → (List (List Int)) → PM.R) → PM.R
noncomputable def impl_copyMem_w (c : impl_copyMem_T) (ds : List PM.V) (k : PM.V → PM.R) : PM.R :=
  match ds with
  | [.agg [.int .i64 m_Clock, .arr (.vecs 49 3 m_Cells)]] => c m_Clock m_Cells (fun r0_Clock r0_Cells => k (.agg [.int .i64 r0_Clock, .arr (.vecs 49 3 r0_Cells)]))
  | _ => none
noncomputable def impl_copyMem_f (A : PM.Prims) (m_Clock : Int) (m_Cells : List (List Int)) (k : (Int) → (List (List Int)) → PM.R) : PM.R :=
  bif (A.room (A.vlen []) (A.vlen m_Cells)) then
    k m_Clock (A.vapp [] m_Cells)
  else
    none
noncomputable def impl_copyMem (A : PM.Prims) : impl_copyMem_T := impl_copyMem_f A
noncomputable def impl_copyMem_L (A : PM.Prims) (n : Nat) : PM.Lam := fun cur σ K =>
  match cur, σ, K with
  | _, _, _ => none
noncomputable def impl_copyMem_E (A : PM.Prims) : PM.Env := ⟨[], [], [], [(0, [1, 2]), (1, [2])], impl_copyMem_L A A.fuel⟩
theorem impl_copyMem_ok (A : PM.Prims) (m_Clock : Int) (m_Cells : List (List Int)) (k : PM.V → PM.R) : PM.pfun A cx [] (impl_copyMem_E A) Go.Proofs.Try.f141 [.agg [.int .i64 m_Clock, .arr (.vecs 49 3 m_Cells)]] k = impl_copyMem_f A m_Clock m_Cells (fun r0_Clock r0_Cells => k (.agg [.int .i64 r0_Clock, .arr (.vecs 49 3 r0_Cells)])) := by kernel_rfl

theorem impl_copyMem_fn : PM.FnIs Try.prog 141 Try.f141 := .of Try.func141 (by kernel_rfl) (by kernel_rfl)
theorem impl_copyMem_g : PM.GOk Try.prog cx 141 ⟨[], impl_copyMem_w (impl_copyMem PM.std), none⟩ := by
  refine ⟨impl_copyMem_fn.enter, fun _ ds k r h => ?_, fun hm => absurd rfl hm, fun _ e => (by cases e)⟩
  change impl_copyMem_w (impl_copyMem PM.std) ds k = some r at h
  unfold impl_copyMem_w at h
  split at h
  · exact PM.pfun_ok (E := impl_copyMem_E PM.std) (L := fun n => impl_copyMem_L PM.std n) (N := PM.std.fuel) cx_ok .nil mixed .nil impl_copyMem_fn (by kernel_rfl) ⟨rfl, fun _ _ _ => rfl, fun n cur σ K r h => by cases h⟩
      ((impl_copyMem_ok PM.std _ _ k).trans h)
  · cases h

abbrev impl_Lock_T := (Int) → (List (List Int)) → (Int) → (Int) → ((Int) → (List (List Int)) → (Bool) → PM.R) → PM.R
noncomputable def impl_Lock_w (c : impl_Lock_T) (ds : List PM.V) (k : PM.V → PM.R) : PM.R :=
  match ds with
  | [.agg [.int .i64 m_Clock, .arr (.vecs 49 3 m_Cells)], .int .i64 i, .int .i64 who] => c m_Clock m_Cells i who (fun r0_Clock r0_Cells r1 => k (.tup [.agg [.int .i64 r0_Clock, .arr (.vecs 49 3 r0_Cells)], .bool r1]))
  | _ => none
noncomputable def impl_Lock_f (A : PM.Prims) (c_101 : impl_MemOk_T) (c_96 : impl_isCell_T) (c_123 : impl_isOwner_T) (c_141 : impl_copyMem_T) (m_Clock : Int) (m_Cells : List (List Int)) (i : Int) (who : Int) (k : (Int) → (List (List Int)) → (Bool) → PM.R) : PM.R :=
  c_141 m_Clock m_Cells (fun r1 r2 =>
    c_101 m_Clock m_Cells (fun r3 =>
      bif (A.not r3) then
        k r1 r2 false
      else
        c_96 i (fun r4 =>
          bif (A.not r4) then
            k r1 r2 false
          else
            c_123 who (fun r5 =>
              bif (A.not r5) then
                k r1 r2 false
              else
                bif (A.inb i (A.vlen m_Cells)) then
                  bif (A.not (A.eq (A.vget m_Cells i 2) 0)) then
                    k r1 r2 false
                  else
                    bif (A.inb i (A.vlen r2)) then
                      k r1 (A.vset r2 i 2 who) true
                    else
                      none
                else
                  none))))
noncomputable def impl_Lock (A : PM.Prims) : impl_Lock_T := impl_Lock_f A (impl_MemOk A) (impl_isCell A) (impl_isOwner A) (impl_copyMem A)
noncomputable def impl_Lock_L (A : PM.Prims) (c_101 : impl_MemOk_T) (c_96 : impl_isCell_T) (c_123 : impl_isOwner_T) (c_141 : impl_copyMem_T) (n : Nat) : PM.Lam := fun cur σ K =>
  match cur, σ, K with
  | _, _, _ => none
noncomputable def impl_Lock_E (A : PM.Prims) (c_101 : impl_MemOk_T) (c_96 : impl_isCell_T) (c_123 : impl_isOwner_T) (c_141 : impl_copyMem_T) : PM.Env := ⟨[(101, ⟨[], impl_MemOk_w c_101, none⟩), (96, ⟨[], impl_isCell_w c_96, none⟩), (123, ⟨[], impl_isOwner_w c_123, none⟩), (141, ⟨[], impl_copyMem_w c_141, none⟩)], [], [], [(0, [1, 2, 3, 6]), (1, [1, 2, 3, 6, 8]), (2, [1, 2, 6, 8, 32]), (3, [6, 7]), (4, [6, 8]), (5, [6, 7])], impl_Lock_L A c_101 c_96 c_123 c_141 A.fuel⟩
theorem impl_Lock_ok (A : PM.Prims) (c_101 : impl_MemOk_T) (c_96 : impl_isCell_T) (c_123 : impl_isOwner_T) (c_141 : impl_copyMem_T) (m_Clock : Int) (m_Cells : List (List Int)) (i : Int) (who : Int) (k : PM.V → PM.R) : PM.pfun A cx [] (impl_Lock_E A c_101 c_96 c_123 c_141) Go.Proofs.Try.f142 [.agg [.int .i64 m_Clock, .arr (.vecs 49 3 m_Cells)], .int .i64 i, .int .i64 who] k = impl_Lock_f A c_101 c_96 c_123 c_141 m_Clock m_Cells i who (fun r0_Clock r0_Cells r1 => k (.tup [.agg [.int .i64 r0_Clock, .arr (.vecs 49 3 r0_Cells)], .bool r1])) := by kernel_rfl

theorem impl_Lock_fn : PM.FnIs Try.prog 142 Try.f142 := .of Try.func142 (by kernel_rfl) (by kernel_rfl)
theorem impl_Lock_g : PM.GOk Try.prog cx 142 ⟨[], impl_Lock_w (impl_Lock PM.std), none⟩ := by
  refine ⟨impl_Lock_fn.enter, fun _ ds k r h => ?_, fun hm => absurd rfl hm, fun _ e => (by cases e)⟩
  change impl_Lock_w (impl_Lock PM.std) ds k = some r at h
  unfold impl_Lock_w at h
  split at h
  · exact PM.pfun_ok (E := impl_Lock_E PM.std (impl_MemOk PM.std) (impl_isCell PM.std) (impl_isOwner PM.std) (impl_copyMem PM.std)) (L := fun n => impl_Lock_L PM.std (impl_MemOk PM.std) (impl_isCell PM.std) (impl_isOwner PM.std) (impl_copyMem PM.std) n) (N := PM.std.fuel) cx_ok (.cons impl_MemOk_g (.cons impl_isCell_g (.cons impl_isOwner_g (.cons impl_copyMem_g .nil)))) mixed .nil impl_Lock_fn (by kernel_rfl) ⟨rfl, fun _ _ _ => rfl, fun n cur σ K r h => by cases h⟩
      ((impl_Lock_ok PM.std (impl_MemOk PM.std) (impl_isCell PM.std) (impl_isOwner PM.std) (impl_copyMem PM.std) _ _ _ _ k).trans h)
  · cases h

abbrev impl_Tick_T := (Int) → (List (List Int)) → ((Int) → (List (List Int)) → (Int) → PM.R) → PM.R
noncomputable def impl_Tick_w (c : impl_Tick_T) (ds : List PM.V) (k : PM.V → PM.R) : PM.R :=
  match ds with
  | [.agg [.int .i64 m_Clock, .arr (.vecs 49 3 m_Cells)]] => c m_Clock m_Cells (fun r0_Clock r0_Cells r1 => k (.tup [.agg [.int .i64 r0_Clock, .arr (.vecs 49 3 r0_Cells)], .int .i64 r1]))
  | _ => none
noncomputable def impl_Tick_f (A : PM.Prims) (c_101 : impl_MemOk_T) (c_141 : impl_copyMem_T) (m_Clock : Int) (m_Cells : List (List Int)) (k : (Int) → (List (List Int)) → (Int) → PM.R) : PM.R :=
  c_141 m_Clock m_Cells (fun r1 r2 =>
    c_101 m_Clock m_Cells (fun r3 =>
      bif (A.not r3) then
        k r1 r2 0
      else
        bif (A.eq m_Clock 1000000) then
          k r1 r2 0
        else
          k (A.add .i64 r1 1) r2 (A.add .i64 r1 1)))
noncomputable def impl_Tick (A : PM.Prims) : impl_Tick_T := impl_Tick_f A (impl_MemOk A) (impl_copyMem A)
noncomputable def impl_Tick_L (A : PM.Prims) (c_101 : impl_MemOk_T) (c_141 : impl_copyMem_T) (n : Nat) : PM.Lam := fun cur σ K =>
  match cur, σ, K with
  | _, _, _ => none
noncomputable def impl_Tick_E (A : PM.Prims) (c_101 : impl_MemOk_T) (c_141 : impl_copyMem_T) : PM.Env := ⟨[(101, ⟨[], impl_MemOk_w c_101, none⟩), (141, ⟨[], impl_copyMem_w c_141, none⟩)], [], [], [(0, [1, 2]), (1, [1, 2, 4]), (2, [2, 4, 14]), (3, [2, 3]), (4, [2, 4]), (5, [2, 3])], impl_Tick_L A c_101 c_141 A.fuel⟩
theorem impl_Tick_ok (A : PM.Prims) (c_101 : impl_MemOk_T) (c_141 : impl_copyMem_T) (m_Clock : Int) (m_Cells : List (List Int)) (k : PM.V → PM.R) : PM.pfun A cx [] (impl_Tick_E A c_101 c_141) Go.Proofs.Try.f144 [.agg [.int .i64 m_Clock, .arr (.vecs 49 3 m_Cells)]] k = impl_Tick_f A c_101 c_141 m_Clock m_Cells (fun r0_Clock r0_Cells r1 => k (.tup [.agg [.int .i64 r0_Clock, .arr (.vecs 49 3 r0_Cells)], .int .i64 r1])) := by kernel_rfl

theorem impl_Tick_fn : PM.FnIs Try.prog 144 Try.f144 := .of Try.func144 (by kernel_rfl) (by kernel_rfl)
theorem impl_Tick_g : PM.GOk Try.prog cx 144 ⟨[], impl_Tick_w (impl_Tick PM.std), none⟩ := by
  refine ⟨impl_Tick_fn.enter, fun _ ds k r h => ?_, fun hm => absurd rfl hm, fun _ e => (by cases e)⟩
  change impl_Tick_w (impl_Tick PM.std) ds k = some r at h
  unfold impl_Tick_w at h
  split at h
  · exact PM.pfun_ok (E := impl_Tick_E PM.std (impl_MemOk PM.std) (impl_copyMem PM.std)) (L := fun n => impl_Tick_L PM.std (impl_MemOk PM.std) (impl_copyMem PM.std) n) (N := PM.std.fuel) cx_ok (.cons impl_MemOk_g (.cons impl_copyMem_g .nil)) mixed .nil impl_Tick_fn (by kernel_rfl) ⟨rfl, fun _ _ _ => rfl, fun n cur σ K r h => by cases h⟩
      ((impl_Tick_ok PM.std (impl_MemOk PM.std) (impl_copyMem PM.std) _ _ k).trans h)
  · cases h

abbrev impl_Store_T := (Int) → (List (List Int)) → (Int) → (Int) → (Int) → ((Int) → (List (List Int)) → (Bool) → PM.R) → PM.R
noncomputable def impl_Store_w (c : impl_Store_T) (ds : List PM.V) (k : PM.V → PM.R) : PM.R :=
  match ds with
  | [.agg [.int .i64 m_Clock, .arr (.vecs 49 3 m_Cells)], .int .i64 i, .int .i64 who, .int .i64 v] => c m_Clock m_Cells i who v (fun r0_Clock r0_Cells r1 => k (.tup [.agg [.int .i64 r0_Clock, .arr (.vecs 49 3 r0_Cells)], .bool r1]))
  | _ => none
noncomputable def impl_Store_f (A : PM.Prims) (c_98 : impl_isValue_T) (c_101 : impl_MemOk_T) (c_96 : impl_isCell_T) (c_123 : impl_isOwner_T) (c_141 : impl_copyMem_T) (m_Clock : Int) (m_Cells : List (List Int)) (i : Int) (who : Int) (v : Int) (k : (Int) → (List (List Int)) → (Bool) → PM.R) : PM.R :=
  c_141 m_Clock m_Cells (fun r1 r2 =>
    c_101 m_Clock m_Cells (fun r3 =>
      bif (A.not r3) then
        k r1 r2 false
      else
        c_96 i (fun r4 =>
          bif (A.not r4) then
            k r1 r2 false
          else
            c_123 who (fun r5 =>
              bif (A.not r5) then
                k r1 r2 false
              else
                bif (A.inb i (A.vlen m_Cells)) then
                  bif (A.not (A.eq (A.vget m_Cells i 2) who)) then
                    k r1 r2 false
                  else
                    c_98 v (fun r6 =>
                      bif (A.not r6) then
                        k r1 r2 false
                      else
                        bif (A.inb i (A.vlen r2)) then
                          k r1 (A.vset r2 i 0 v) true
                        else
                          none)
                else
                  none))))
noncomputable def impl_Store (A : PM.Prims) : impl_Store_T := impl_Store_f A (impl_isValue A) (impl_MemOk A) (impl_isCell A) (impl_isOwner A) (impl_copyMem A)
noncomputable def impl_Store_L (A : PM.Prims) (c_98 : impl_isValue_T) (c_101 : impl_MemOk_T) (c_96 : impl_isCell_T) (c_123 : impl_isOwner_T) (c_141 : impl_copyMem_T) (n : Nat) : PM.Lam := fun cur σ K =>
  match cur, σ, K with
  | _, _, _ => none
noncomputable def impl_Store_E (A : PM.Prims) (c_98 : impl_isValue_T) (c_101 : impl_MemOk_T) (c_96 : impl_isCell_T) (c_123 : impl_isOwner_T) (c_141 : impl_copyMem_T) : PM.Env := ⟨[(98, ⟨[], impl_isValue_w c_98, none⟩), (101, ⟨[], impl_MemOk_w c_101, none⟩), (96, ⟨[], impl_isCell_w c_96, none⟩), (123, ⟨[], impl_isOwner_w c_123, none⟩), (141, ⟨[], impl_copyMem_w c_141, none⟩)], [], [], [(0, [1, 2, 3, 4, 8]), (1, [1, 2, 3, 4, 8, 10]), (2, [1, 3, 8, 10, 40]), (3, [8, 9]), (4, [8, 10]), (5, [8, 9])], impl_Store_L A c_98 c_101 c_96 c_123 c_141 A.fuel⟩
theorem impl_Store_ok (A : PM.Prims) (c_98 : impl_isValue_T) (c_101 : impl_MemOk_T) (c_96 : impl_isCell_T) (c_123 : impl_isOwner_T) (c_141 : impl_copyMem_T) (m_Clock : Int) (m_Cells : List (List Int)) (i : Int) (who : Int) (v : Int) (k : PM.V → PM.R) : PM.pfun A cx [] (impl_Store_E A c_98 c_101 c_96 c_123 c_141) Go.Proofs.Try.f146 [.agg [.int .i64 m_Clock, .arr (.vecs 49 3 m_Cells)], .int .i64 i, .int .i64 who, .int .i64 v] k = impl_Store_f A c_98 c_101 c_96 c_123 c_141 m_Clock m_Cells i who v (fun r0_Clock r0_Cells r1 => k (.tup [.agg [.int .i64 r0_Clock, .arr (.vecs 49 3 r0_Cells)], .bool r1])) := by kernel_rfl

theorem impl_Store_fn : PM.FnIs Try.prog 146 Try.f146 := .of Try.func146 (by kernel_rfl) (by kernel_rfl)
theorem impl_Store_g : PM.GOk Try.prog cx 146 ⟨[], impl_Store_w (impl_Store PM.std), none⟩ := by
  refine ⟨impl_Store_fn.enter, fun _ ds k r h => ?_, fun hm => absurd rfl hm, fun _ e => (by cases e)⟩
  change impl_Store_w (impl_Store PM.std) ds k = some r at h
  unfold impl_Store_w at h
  split at h
  · exact PM.pfun_ok (E := impl_Store_E PM.std (impl_isValue PM.std) (impl_MemOk PM.std) (impl_isCell PM.std) (impl_isOwner PM.std) (impl_copyMem PM.std)) (L := fun n => impl_Store_L PM.std (impl_isValue PM.std) (impl_MemOk PM.std) (impl_isCell PM.std) (impl_isOwner PM.std) (impl_copyMem PM.std) n) (N := PM.std.fuel) cx_ok (.cons impl_isValue_g (.cons impl_MemOk_g (.cons impl_isCell_g (.cons impl_isOwner_g (.cons impl_copyMem_g .nil))))) mixed .nil impl_Store_fn (by kernel_rfl) ⟨rfl, fun _ _ _ => rfl, fun n cur σ K r h => by cases h⟩
      ((impl_Store_ok PM.std (impl_isValue PM.std) (impl_MemOk PM.std) (impl_isCell PM.std) (impl_isOwner PM.std) (impl_copyMem PM.std) _ _ _ _ _ k).trans h)
  · cases h

abbrev impl_Unlock_T := (Int) → (List (List Int)) → (Int) → (Int) → (Int) → ((Int) → (List (List Int)) → (Bool) → PM.R) → PM.R
noncomputable def impl_Unlock_w (c : impl_Unlock_T) (ds : List PM.V) (k : PM.V → PM.R) : PM.R :=
  match ds with
  | [.agg [.int .i64 m_Clock, .arr (.vecs 49 3 m_Cells)], .int .i64 i, .int .i64 who, .int .i64 ver] => c m_Clock m_Cells i who ver (fun r0_Clock r0_Cells r1 => k (.tup [.agg [.int .i64 r0_Clock, .arr (.vecs 49 3 r0_Cells)], .bool r1]))
  | _ => none
noncomputable def impl_Unlock_f (A : PM.Prims) (c_97 : impl_within_T) (c_101 : impl_MemOk_T) (c_96 : impl_isCell_T) (c_123 : impl_isOwner_T) (c_141 : impl_copyMem_T) (m_Clock : Int) (m_Cells : List (List Int)) (i : Int) (who : Int) (ver : Int) (k : (Int) → (List (List Int)) → (Bool) → PM.R) : PM.R :=
  c_141 m_Clock m_Cells (fun r1 r2 =>
    c_101 m_Clock m_Cells (fun r3 =>
      bif (A.not r3) then
        k r1 r2 false
      else
        c_96 i (fun r4 =>
          bif (A.not r4) then
            k r1 r2 false
          else
            c_123 who (fun r5 =>
              bif (A.not r5) then
                k r1 r2 false
              else
                bif (A.inb i (A.vlen m_Cells)) then
                  bif (A.not (A.eq (A.vget m_Cells i 2) who)) then
                    k r1 r2 false
                  else
                    bif (A.inb i (A.vlen m_Cells)) then
                      c_97 ver (A.vget m_Cells i 1) m_Clock (fun r6 =>
                        bif (A.not r6) then
                          k r1 r2 false
                        else
                          bif (A.inb i (A.vlen r2)) then
                            bif (A.inb i (A.vlen (A.vset r2 i 2 0))) then
                              k r1 (A.vset (A.vset r2 i 2 0) i 1 ver) true
                            else
                              none
                          else
                            none)
                    else
                      none
                else
                  none))))
noncomputable def impl_Unlock (A : PM.Prims) : impl_Unlock_T := impl_Unlock_f A (impl_within A) (impl_MemOk A) (impl_isCell A) (impl_isOwner A) (impl_copyMem A)
noncomputable def impl_Unlock_L (A : PM.Prims) (c_97 : impl_within_T) (c_101 : impl_MemOk_T) (c_96 : impl_isCell_T) (c_123 : impl_isOwner_T) (c_141 : impl_copyMem_T) (n : Nat) : PM.Lam := fun cur σ K =>
  match cur, σ, K with
  | _, _, _ => none
noncomputable def impl_Unlock_E (A : PM.Prims) (c_97 : impl_within_T) (c_101 : impl_MemOk_T) (c_96 : impl_isCell_T) (c_123 : impl_isOwner_T) (c_141 : impl_copyMem_T) : PM.Env := ⟨[(97, ⟨[], impl_within_w c_97, none⟩), (101, ⟨[], impl_MemOk_w c_101, none⟩), (96, ⟨[], impl_isCell_w c_96, none⟩), (123, ⟨[], impl_isOwner_w c_123, none⟩), (141, ⟨[], impl_copyMem_w c_141, none⟩)], [], [], [(0, [1, 2, 3, 4, 8]), (1, [1, 2, 3, 4, 8, 10]), (2, [1, 3, 8, 10, 48]), (3, [8, 9]), (4, [1, 3, 8, 10]), (5, [8, 10]), (6, [8, 9])], impl_Unlock_L A c_97 c_101 c_96 c_123 c_141 A.fuel⟩
theorem impl_Unlock_ok (A : PM.Prims) (c_97 : impl_within_T) (c_101 : impl_MemOk_T) (c_96 : impl_isCell_T) (c_123 : impl_isOwner_T) (c_141 : impl_copyMem_T) (m_Clock : Int) (m_Cells : List (List Int)) (i : Int) (who : Int) (ver : Int) (k : PM.V → PM.R) : PM.pfun A cx [] (impl_Unlock_E A c_97 c_101 c_96 c_123 c_141) Go.Proofs.Try.f147 [.agg [.int .i64 m_Clock, .arr (.vecs 49 3 m_Cells)], .int .i64 i, .int .i64 who, .int .i64 ver] k = impl_Unlock_f A c_97 c_101 c_96 c_123 c_141 m_Clock m_Cells i who ver (fun r0_Clock r0_Cells r1 => k (.tup [.agg [.int .i64 r0_Clock, .arr (.vecs 49 3 r0_Cells)], .bool r1])) := by kernel_rfl

theorem impl_Unlock_fn : PM.FnIs Try.prog 147 Try.f147 := .of Try.func147 (by kernel_rfl) (by kernel_rfl)
theorem impl_Unlock_g : PM.GOk Try.prog cx 147 ⟨[], impl_Unlock_w (impl_Unlock PM.std), none⟩ := by
  refine ⟨impl_Unlock_fn.enter, fun _ ds k r h => ?_, fun hm => absurd rfl hm, fun _ e => (by cases e)⟩
  change impl_Unlock_w (impl_Unlock PM.std) ds k = some r at h
  unfold impl_Unlock_w at h
  split at h
  · exact PM.pfun_ok (E := impl_Unlock_E PM.std (impl_within PM.std) (impl_MemOk PM.std) (impl_isCell PM.std) (impl_isOwner PM.std) (impl_copyMem PM.std)) (L := fun n => impl_Unlock_L PM.std (impl_within PM.std) (impl_MemOk PM.std) (impl_isCell PM.std) (impl_isOwner PM.std) (impl_copyMem PM.std) n) (N := PM.std.fuel) cx_ok (.cons impl_within_g (.cons impl_MemOk_g (.cons impl_isCell_g (.cons impl_isOwner_g (.cons impl_copyMem_g .nil))))) mixed .nil impl_Unlock_fn (by kernel_rfl) ⟨rfl, fun _ _ _ => rfl, fun n cur σ K r h => by cases h⟩
      ((impl_Unlock_ok PM.std (impl_within PM.std) (impl_MemOk PM.std) (impl_isCell PM.std) (impl_isOwner PM.std) (impl_copyMem PM.std) _ _ _ _ _ k).trans h)
  · cases h

abbrev impl_CommitStep_T := (Int) → (List (List Int)) → (Int) → (Int) → (Int) → (Int) → (Int) → (List (List Int)) → (List Int) → ((Int) → (List (List Int)) → (Int) → (Int) → (Int) → (Int) → (Int) → (List (List Int)) → (List Int) → PM.R) → PM.R
noncomputable def impl_CommitStep_w (c : impl_CommitStep_T) (ds : List PM.V) (k : PM.V → PM.R) : PM.R :=
  match ds with
  | [.agg [.int .i64 ___Clock, .arr (.vecs 49 3 ___Cells)], .agg [.int .i64 a_Who, .int .i64 a_Rv, .int .i64 a_Phase, .int .i64 a_At, .int .i64 a_Wv, .arr (.vecs 135 2 a_Puts), .arr (.ints 3 .i64 a_Reads)]] => c ___Clock ___Cells a_Who a_Rv a_Phase a_At a_Wv a_Puts a_Reads (fun r0_Clock r0_Cells r1_Who r1_Rv r1_Phase r1_At r1_Wv r1_Puts r1_Reads => k (.tup [.agg [.int .i64 r0_Clock, .arr (.vecs 49 3 r0_Cells)], .agg [.int .i64 r1_Who, .int .i64 r1_Rv, .int .i64 r1_Phase, .int .i64 r1_At, .int .i64 r1_Wv, .arr (.vecs 135 2 r1_Puts), .arr (.ints 3 .i64 r1_Reads)]]))
  | _ => none
noncomputable def impl_CommitStep_f (A : PM.Prims) (c_101 : impl_MemOk_T) (c_125 : impl_Commit_steps_T) (c_62 : impl_CommitOk_T) (c_133 : impl_copyCommit_T) (c_141 : impl_copyMem_T) (c_142 : impl_Lock_T) (c_144 : impl_Tick_T) (c_146 : impl_Store_T) (c_147 : impl_Unlock_T) (___Clock : Int) (___Cells : List (List Int)) (a_Who : Int) (a_Rv : Int) (a_Phase : Int) (a_At : Int) (a_Wv : Int) (a_Puts : List (List Int)) (a_Reads : List Int) (k : (Int) → (List (List Int)) → (Int) → (Int) → (Int) → (Int) → (Int) → (List (List Int)) → (List Int) → PM.R) : PM.R :=
  c_141 ___Clock ___Cells (fun r1 r2 =>
    c_133 a_Who a_Rv a_Phase a_At a_Wv a_Puts a_Reads (fun r3 r4 r5 r6 r7 r8 r9 =>
      c_101 r1 r2 (fun r10 =>
        bif (A.not r10) then
          k r1 r2 r3 r4 r5 r6 r7 r8 r9
        else
          c_62 r3 r4 r5 r6 r7 r8 r9 (fun r11 =>
            bif (A.not r11) then
              k r1 r2 r3 r4 r5 r6 r7 r8 r9
            else
              bif (A.eq r5 1) then
                bif (A.inb r6 (A.vlen r8)) then
                  c_142 r1 r2 (A.vget r8 r6 0) r3 (fun r12 r13 r14 =>
                    bif r14 then
                      c_125 r3 r4 r5 (A.add .i64 r6 1) r7 r8 r9 (fun r15 =>
                        bif (A.eq (A.add .i64 r6 1) r15) then
                          bif (A.eq 2 3) then
                            bif (A.eq (A.ilen r9) 0) then
                              bif (A.eq 4 4) then
                                bif (A.eq (A.vlen r8) 0) then
                                  k r12 r13 r3 r4 6 0 r7 r8 r9
                                else
                                  k r12 r13 r3 r4 4 0 r7 r8 r9
                              else
                                k r12 r13 r3 r4 4 0 r7 r8 r9
                            else
                              bif (A.eq 2 4) then
                                bif (A.eq (A.vlen r8) 0) then
                                  k r12 r13 r3 r4 6 0 r7 r8 r9
                                else
                                  k r12 r13 r3 r4 2 0 r7 r8 r9
                              else
                                k r12 r13 r3 r4 2 0 r7 r8 r9
                          else
                            bif (A.eq 2 4) then
                              bif (A.eq (A.vlen r8) 0) then
                                k r12 r13 r3 r4 6 0 r7 r8 r9
                              else
                                k r12 r13 r3 r4 2 0 r7 r8 r9
                            else
                              k r12 r13 r3 r4 2 0 r7 r8 r9
                        else
                          k r12 r13 r3 r4 r5 (A.add .i64 r6 1) r7 r8 r9)
                    else
                      bif (A.eq r6 0) then
                        k r12 r13 r3 r4 8 0 r7 r8 r9
                      else
                        k r12 r13 r3 r4 7 (A.sub .i64 r6 1) r7 r8 r9)
                else
                  none
              else
                bif (A.eq r5 2) then
                  c_144 r1 r2 (fun r16 r17 r18 =>
                    bif (A.eq r18 0) then
                      bif (A.eq (A.vlen r8) 0) then
                        k r16 r17 r3 r4 8 0 r7 r8 r9
                      else
                        k r16 r17 r3 r4 7 (A.sub .i64 (A.vlen r8) 1) r7 r8 r9
                    else
                      bif (A.eq 3 3) then
                        bif (A.eq (A.ilen r9) 0) then
                          bif (A.eq 4 4) then
                            bif (A.eq (A.vlen r8) 0) then
                              k r16 r17 r3 r4 6 0 r18 r8 r9
                            else
                              k r16 r17 r3 r4 4 0 r18 r8 r9
                          else
                            k r16 r17 r3 r4 4 0 r18 r8 r9
                        else
                          bif (A.eq 3 4) then
                            bif (A.eq (A.vlen r8) 0) then
                              k r16 r17 r3 r4 6 0 r18 r8 r9
                            else
                              k r16 r17 r3 r4 3 0 r18 r8 r9
                          else
                            k r16 r17 r3 r4 3 0 r18 r8 r9
                      else
                        bif (A.eq 3 4) then
                          bif (A.eq (A.vlen r8) 0) then
                            k r16 r17 r3 r4 6 0 r18 r8 r9
                          else
                            k r16 r17 r3 r4 3 0 r18 r8 r9
                        else
                          k r16 r17 r3 r4 3 0 r18 r8 r9)
                else
                  bif (A.eq r5 3) then
                    bif (A.inb r6 (A.ilen r9)) then
                      bif (A.inb (A.iget r9 r6) (A.vlen r2)) then
                        bif (A.not (A.eq (A.vget r2 (A.iget r9 r6) 2) 0)) then
                          bif (A.not (A.eq (A.vget r2 (A.iget r9 r6) 2) r3)) then
                            bif (A.eq (A.vlen r8) 0) then
                              k r1 r2 r3 r4 8 0 r7 r8 r9
                            else
                              k r1 r2 r3 r4 7 (A.sub .i64 (A.vlen r8) 1) r7 r8 r9
                          else
                            bif (A.lt r4 (A.vget r2 (A.iget r9 r6) 1)) then
                              bif (A.eq (A.vlen r8) 0) then
                                k r1 r2 r3 r4 8 0 r7 r8 r9
                              else
                                k r1 r2 r3 r4 7 (A.sub .i64 (A.vlen r8) 1) r7 r8 r9
                            else
                              c_125 r3 r4 r5 (A.add .i64 r6 1) r7 r8 r9 (fun r19 =>
                                bif (A.eq (A.add .i64 r6 1) r19) then
                                  bif (A.eq 4 3) then
                                    bif (A.eq (A.ilen r9) 0) then
                                      bif (A.eq 4 4) then
                                        bif (A.eq (A.vlen r8) 0) then
                                          k r1 r2 r3 r4 6 0 r7 r8 r9
                                        else
                                          k r1 r2 r3 r4 4 0 r7 r8 r9
                                      else
                                        k r1 r2 r3 r4 4 0 r7 r8 r9
                                    else
                                      bif (A.eq 4 4) then
                                        bif (A.eq (A.vlen r8) 0) then
                                          k r1 r2 r3 r4 6 0 r7 r8 r9
                                        else
                                          k r1 r2 r3 r4 4 0 r7 r8 r9
                                      else
                                        k r1 r2 r3 r4 4 0 r7 r8 r9
                                  else
                                    bif (A.eq 4 4) then
                                      bif (A.eq (A.vlen r8) 0) then
                                        k r1 r2 r3 r4 6 0 r7 r8 r9
                                      else
                                        k r1 r2 r3 r4 4 0 r7 r8 r9
                                    else
                                      k r1 r2 r3 r4 4 0 r7 r8 r9
                                else
                                  k r1 r2 r3 r4 r5 (A.add .i64 r6 1) r7 r8 r9)
                        else
                          bif (A.lt r4 (A.vget r2 (A.iget r9 r6) 1)) then
                            bif (A.eq (A.vlen r8) 0) then
                              k r1 r2 r3 r4 8 0 r7 r8 r9
                            else
                              k r1 r2 r3 r4 7 (A.sub .i64 (A.vlen r8) 1) r7 r8 r9
                          else
                            c_125 r3 r4 r5 (A.add .i64 r6 1) r7 r8 r9 (fun r20 =>
                              bif (A.eq (A.add .i64 r6 1) r20) then
                                bif (A.eq 4 3) then
                                  bif (A.eq (A.ilen r9) 0) then
                                    bif (A.eq 4 4) then
                                      bif (A.eq (A.vlen r8) 0) then
                                        k r1 r2 r3 r4 6 0 r7 r8 r9
                                      else
                                        k r1 r2 r3 r4 4 0 r7 r8 r9
                                    else
                                      k r1 r2 r3 r4 4 0 r7 r8 r9
                                  else
                                    bif (A.eq 4 4) then
                                      bif (A.eq (A.vlen r8) 0) then
                                        k r1 r2 r3 r4 6 0 r7 r8 r9
                                      else
                                        k r1 r2 r3 r4 4 0 r7 r8 r9
                                    else
                                      k r1 r2 r3 r4 4 0 r7 r8 r9
                                else
                                  bif (A.eq 4 4) then
                                    bif (A.eq (A.vlen r8) 0) then
                                      k r1 r2 r3 r4 6 0 r7 r8 r9
                                    else
                                      k r1 r2 r3 r4 4 0 r7 r8 r9
                                  else
                                    k r1 r2 r3 r4 4 0 r7 r8 r9
                              else
                                k r1 r2 r3 r4 r5 (A.add .i64 r6 1) r7 r8 r9)
                      else
                        none
                    else
                      none
                  else
                    bif (A.eq r5 4) then
                      bif (A.inb r6 (A.vlen r8)) then
                        bif (A.inb r6 (A.vlen r8)) then
                          c_146 r1 r2 (A.vget r8 r6 0) r3 (A.vget r8 r6 1) (fun r21 r22 r23 =>
                            c_125 r3 r4 r5 (A.add .i64 r6 1) r7 r8 r9 (fun r24 =>
                              bif (A.eq (A.add .i64 r6 1) r24) then
                                bif (A.eq 5 3) then
                                  bif (A.eq (A.ilen r9) 0) then
                                    bif (A.eq 4 4) then
                                      bif (A.eq (A.vlen r8) 0) then
                                        k r21 r22 r3 r4 6 0 r7 r8 r9
                                      else
                                        k r21 r22 r3 r4 4 0 r7 r8 r9
                                    else
                                      k r21 r22 r3 r4 4 0 r7 r8 r9
                                  else
                                    bif (A.eq 5 4) then
                                      bif (A.eq (A.vlen r8) 0) then
                                        k r21 r22 r3 r4 6 0 r7 r8 r9
                                      else
                                        k r21 r22 r3 r4 5 0 r7 r8 r9
                                    else
                                      k r21 r22 r3 r4 5 0 r7 r8 r9
                                else
                                  bif (A.eq 5 4) then
                                    bif (A.eq (A.vlen r8) 0) then
                                      k r21 r22 r3 r4 6 0 r7 r8 r9
                                    else
                                      k r21 r22 r3 r4 5 0 r7 r8 r9
                                  else
                                    k r21 r22 r3 r4 5 0 r7 r8 r9
                              else
                                k r21 r22 r3 r4 r5 (A.add .i64 r6 1) r7 r8 r9))
                        else
                          none
                      else
                        none
                    else
                      bif (A.eq r5 5) then
                        bif (A.inb r6 (A.vlen r8)) then
                          c_147 r1 r2 (A.vget r8 r6 0) r3 r7 (fun r25 r26 r27 =>
                            c_125 r3 r4 r5 (A.add .i64 r6 1) r7 r8 r9 (fun r28 =>
                              bif (A.eq (A.add .i64 r6 1) r28) then
                                bif (A.eq 6 3) then
                                  bif (A.eq (A.ilen r9) 0) then
                                    bif (A.eq 4 4) then
                                      bif (A.eq (A.vlen r8) 0) then
                                        k r25 r26 r3 r4 6 0 r7 r8 r9
                                      else
                                        k r25 r26 r3 r4 4 0 r7 r8 r9
                                    else
                                      k r25 r26 r3 r4 4 0 r7 r8 r9
                                  else
                                    bif (A.eq 6 4) then
                                      bif (A.eq (A.vlen r8) 0) then
                                        k r25 r26 r3 r4 6 0 r7 r8 r9
                                      else
                                        k r25 r26 r3 r4 6 0 r7 r8 r9
                                    else
                                      k r25 r26 r3 r4 6 0 r7 r8 r9
                                else
                                  bif (A.eq 6 4) then
                                    bif (A.eq (A.vlen r8) 0) then
                                      k r25 r26 r3 r4 6 0 r7 r8 r9
                                    else
                                      k r25 r26 r3 r4 6 0 r7 r8 r9
                                  else
                                    k r25 r26 r3 r4 6 0 r7 r8 r9
                              else
                                k r25 r26 r3 r4 r5 (A.add .i64 r6 1) r7 r8 r9))
                        else
                          none
                      else
                        bif (A.eq r5 7) then
                          bif (A.inb r6 (A.vlen r8)) then
                            bif (A.inb (A.vget r8 r6 0) (A.vlen r2)) then
                              c_147 r1 r2 (A.vget r8 r6 0) r3 (A.vget r2 (A.vget r8 r6 0) 1) (fun r29 r30 r31 =>
                                bif (A.eq r6 0) then
                                  k r29 r30 r3 r4 8 0 r7 r8 r9
                                else
                                  k r29 r30 r3 r4 7 (A.sub .i64 r6 1) r7 r8 r9)
                            else
                              none
                          else
                            none
                        else
                          k r1 r2 r3 r4 r5 r6 r7 r8 r9))))
noncomputable def impl_CommitStep (A : PM.Prims) : impl_CommitStep_T := impl_CommitStep_f A (impl_MemOk A) (impl_Commit_steps A) (impl_CommitOk A) (impl_copyCommit A) (impl_copyMem A) (impl_Lock A) (impl_Tick A) (impl_Store A) (impl_Unlock A)
noncomputable def impl_CommitStep_L (A : PM.Prims) (c_101 : impl_MemOk_T) (c_125 : impl_Commit_steps_T) (c_62 : impl_CommitOk_T) (c_133 : impl_copyCommit_T) (c_141 : impl_copyMem_T) (c_142 : impl_Lock_T) (c_144 : impl_Tick_T) (c_146 : impl_Store_T) (c_147 : impl_Unlock_T) (n : Nat) : PM.Lam := fun cur σ K =>
  match cur, σ, K with
  | _, _, _ => none
noncomputable def impl_CommitStep_E (A : PM.Prims) (c_101 : impl_MemOk_T) (c_125 : impl_Commit_steps_T) (c_62 : impl_CommitOk_T) (c_133 : impl_copyCommit_T) (c_141 : impl_copyMem_T) (c_142 : impl_Lock_T) (c_144 : impl_Tick_T) (c_146 : impl_Store_T) (c_147 : impl_Unlock_T) : PM.Env := ⟨[(101, ⟨[], impl_MemOk_w c_101, none⟩), (125, ⟨[], impl_Commit_steps_w c_125, none⟩), (62, ⟨[], impl_CommitOk_w c_62, none⟩), (133, ⟨[], impl_copyCommit_w c_133, none⟩), (141, ⟨[], impl_copyMem_w c_141, none⟩), (142, ⟨[], impl_Lock_w c_142, none⟩), (144, ⟨[], impl_Tick_w c_144, none⟩), (146, ⟨[], impl_Store_w c_146, none⟩), (147, ⟨[], impl_Unlock_w c_147, none⟩)], [(143, Go.Proofs.Try.f143), (145, Go.Proofs.Try.f145), (134, Go.Proofs.Try.f134)], [], [(0, [2, 3, 4, 5]), (1, [2, 3, 4, 5]), (2, [2, 3, 4, 5]), (3, [2, 3, 4, 5, 23]), (4, [4, 5]), (5, [2, 3, 4, 5, 27]), (6, [2, 3, 4, 5, 27, 28]), (7, [2, 3, 4, 5, 6, 7]), (8, [2, 3, 4, 5, 7]), (9, [2, 3, 4, 5, 45]), (10, [2, 3, 4, 5]), (11, [2, 3, 4, 5]), (12, [2, 3, 4, 5, 27, 50]), (13, [2, 3, 4, 5, 8, 9]), (14, [2, 3, 4, 5, 9]), (15, [2, 3, 4, 5, 9, 59]), (16, [2, 3, 4, 5]), (17, [2, 3, 4, 5]), (18, [2, 3, 4, 5]), (19, [2, 3, 4, 5, 27, 67]), (20, [2, 3, 4, 5, 10]), (21, [2, 3, 4, 5, 95]), (22, [2, 3, 4, 5]), (23, [2, 3, 4, 5]), (24, [2, 3, 4, 5, 27, 101]), (25, [2, 3, 4, 5]), (26, [2, 3, 4, 5]), (27, [2, 3, 4, 5, 27, 125]), (28, [2, 3, 4, 5]), (29, [2, 3, 4, 5]), (30, [2, 3, 4, 5, 144]), (31, [2, 3, 4, 5, 11]), (32, [2, 3, 4, 5]), (33, [2, 3, 4, 5]), (34, [4, 5])], impl_CommitStep_L A c_101 c_125 c_62 c_133 c_141 c_142 c_144 c_146 c_147 A.fuel⟩
theorem impl_CommitStep_ok (A : PM.Prims) (c_101 : impl_MemOk_T) (c_125 : impl_Commit_steps_T) (c_62 : impl_CommitOk_T) (c_133 : impl_copyCommit_T) (c_141 : impl_copyMem_T) (c_142 : impl_Lock_T) (c_144 : impl_Tick_T) (c_146 : impl_Store_T) (c_147 : impl_Unlock_T) (___Clock : Int) (___Cells : List (List Int)) (a_Who : Int) (a_Rv : Int) (a_Phase : Int) (a_At : Int) (a_Wv : Int) (a_Puts : List (List Int)) (a_Reads : List Int) (k : PM.V → PM.R) : PM.pfun A cx [] (impl_CommitStep_E A c_101 c_125 c_62 c_133 c_141 c_142 c_144 c_146 c_147) Go.Proofs.Try.f77 [.agg [.int .i64 ___Clock, .arr (.vecs 49 3 ___Cells)], .agg [.int .i64 a_Who, .int .i64 a_Rv, .int .i64 a_Phase, .int .i64 a_At, .int .i64 a_Wv, .arr (.vecs 135 2 a_Puts), .arr (.ints 3 .i64 a_Reads)]] k = impl_CommitStep_f A c_101 c_125 c_62 c_133 c_141 c_142 c_144 c_146 c_147 ___Clock ___Cells a_Who a_Rv a_Phase a_At a_Wv a_Puts a_Reads (fun r0_Clock r0_Cells r1_Who r1_Rv r1_Phase r1_At r1_Wv r1_Puts r1_Reads => k (.tup [.agg [.int .i64 r0_Clock, .arr (.vecs 49 3 r0_Cells)], .agg [.int .i64 r1_Who, .int .i64 r1_Rv, .int .i64 r1_Phase, .int .i64 r1_At, .int .i64 r1_Wv, .arr (.vecs 135 2 r1_Puts), .arr (.ints 3 .i64 r1_Reads)]])) := by kernel_rfl

theorem impl_CommitStep_fn : PM.FnIs Try.prog 77 Try.f77 := .of Try.func77 (by kernel_rfl) (by kernel_rfl)
theorem impl_CommitStep_g : PM.GOk Try.prog cx 77 ⟨[], impl_CommitStep_w (impl_CommitStep PM.std), none⟩ := by
  refine ⟨impl_CommitStep_fn.enter, fun _ ds k r h => ?_, fun hm => absurd rfl hm, fun _ e => (by cases e)⟩
  change impl_CommitStep_w (impl_CommitStep PM.std) ds k = some r at h
  unfold impl_CommitStep_w at h
  split at h
  · exact PM.pfun_ok (E := impl_CommitStep_E PM.std (impl_MemOk PM.std) (impl_Commit_steps PM.std) (impl_CommitOk PM.std) (impl_copyCommit PM.std) (impl_copyMem PM.std) (impl_Lock PM.std) (impl_Tick PM.std) (impl_Store PM.std) (impl_Unlock PM.std)) (L := fun n => impl_CommitStep_L PM.std (impl_MemOk PM.std) (impl_Commit_steps PM.std) (impl_CommitOk PM.std) (impl_copyCommit PM.std) (impl_copyMem PM.std) (impl_Lock PM.std) (impl_Tick PM.std) (impl_Store PM.std) (impl_Unlock PM.std) n) (N := PM.std.fuel) cx_ok (.cons impl_MemOk_g (.cons impl_Commit_steps_g (.cons impl_CommitOk_g (.cons impl_copyCommit_g (.cons impl_copyMem_g (.cons impl_Lock_g (.cons impl_Tick_g (.cons impl_Store_g (.cons impl_Unlock_g .nil))))))))) mixed (.cons (.of Try.func143 (by kernel_rfl) (by kernel_rfl)) (by kernel_rfl) (.cons (.of Try.func145 (by kernel_rfl) (by kernel_rfl)) (by kernel_rfl) (.cons (.of Try.func134 (by kernel_rfl) (by kernel_rfl)) (by kernel_rfl) .nil))) impl_CommitStep_fn (by kernel_rfl) ⟨rfl, fun _ _ _ => rfl, fun n cur σ K r h => by cases h⟩
      ((impl_CommitStep_ok PM.std (impl_MemOk PM.std) (impl_Commit_steps PM.std) (impl_CommitOk PM.std) (impl_copyCommit PM.std) (impl_copyMem PM.std) (impl_Lock PM.std) (impl_Tick PM.std) (impl_Store PM.std) (impl_Unlock PM.std) _ _ _ _ _ _ _ _ _ k).trans h)
  · cases h

abbrev laws_markWordS_T := (List (List Int)) → (Int) → ((Int) → (List (List Int)) → PM.R) → PM.R
noncomputable def laws_markWordS_w (c : laws_markWordS_T) (ds : List PM.V) (k : PM.V → PM.R) : PM.R :=
  match ds with
  | [.arr (.vecs 49 3 a), .int .i64 k_] => c a k_ (fun r0 o0 => k (.tup [.int .i64 r0, .arr (.vecs 49 3 o0)]))
  | _ => none
noncomputable def laws_markWordS_l0 (A : PM.Prims) : Nat → (Int) → (Int) → (List (List Int)) → ((Int) → (List (List Int)) → PM.R) → PM.R
  | 0, _, _, _, _ => none
  | n + 1, k1, i2, o03, kx0_0 =>
    bif (A.lt i2 (A.vlen o03)) then
      bif (A.inb i2 (A.vlen o03)) then
        bif (A.inb i2 (A.vlen (A.vset o03 i2 0 k1))) then
          bif (A.inb i2 (A.vlen (A.vset (A.vset o03 i2 0 k1) i2 1 (A.add .i64 k1 1)))) then
            laws_markWordS_l0 A n (A.add .i64 (A.add .i64 (A.add .i64 k1 1) 1) 1) (A.add .i64 i2 1) (A.vset (A.vset (A.vset o03 i2 0 k1) i2 1 (A.add .i64 k1 1)) i2 2 (A.add .i64 (A.add .i64 k1 1) 1)) kx0_0
          else
            none
        else
          none
      else
        none
    else
      kx0_0 k1 o03
noncomputable def laws_markWordS_f (A : PM.Prims) (a : List (List Int)) (k_ : Int) (k : (Int) → (List (List Int)) → PM.R) : PM.R :=
  laws_markWordS_l0 A A.fuel k_ 0 a (fun k46 o057 =>
    k k46 o057)
noncomputable def laws_markWordS (A : PM.Prims) : laws_markWordS_T := laws_markWordS_f A
noncomputable def laws_markWordS_L (A : PM.Prims) (n : Nat) : PM.Lam := fun cur σ K =>
  match cur, σ, K with
  | 0, ⟨[(0, .sref 0), (1, .int .i64 k1), (5, .int .i64 i2)], [(0, .arr false (.vecs 49 3 o03))]⟩, K => laws_markWordS_l0 A n k1 i2 o03 (fun k4 o05 => K (.exit 0) ⟨[(0, .sref 0), (1, .int .i64 k4)], [(0, .arr false (.vecs 49 3 o05))]⟩)
  | _, _, _ => none
noncomputable def laws_markWordS_E (A : PM.Prims) : PM.Env := ⟨[], [], [(0, [0, 1, 5], [0, 1, 4])], [(0, [0, 1]), (1, [0, 1, 5]), (2, [0, 1, 5, 9]), (3, [0, 1, 5]), (4, [0, 1, 5]), (5, [0, 1, 5]), (6, [0, 1, 5]), (7, [0, 1, 5]), (8, [0, 1, 5]), (9, [0, 1, 5]), (10, [0, 4])], laws_markWordS_L A A.fuel⟩
theorem laws_markWordS_l0_ok (A : PM.Prims) (n : Nat) (k1 : Int) (i2 : Int) (o03 : List (List Int)) (K : Go.Exit → PM.S → PM.R) : laws_markWordS_L A (n + 1) 0 ⟨[(0, .sref 0), (1, .int .i64 k1), (5, .int .i64 i2)], [(0, .arr false (.vecs 49 3 o03))]⟩ K = PM.roundF A cx (PM.runD A cx (laws_markWordS_E A).inl (laws_markWordS_E A).Γ 3) (laws_markWordS_E A) (laws_markWordS_L A n) 0 Go.Proofs.Try.f148 ⟨[(0, .sref 0), (1, .int .i64 k1), (5, .int .i64 i2)], [(0, .arr false (.vecs 49 3 o03))]⟩ K := by kernel_rfl
theorem laws_markWordS_ok (A : PM.Prims) (a : List (List Int)) (k_ : Int) (k : PM.V → PM.R) : PM.pfun A cx [true, false] (laws_markWordS_E A) Go.Proofs.Try.f148 [.arr (.vecs 49 3 a), .int .i64 k_] k = laws_markWordS_f A a k_ (fun r0 o0 => k (.tup [.int .i64 r0, .arr (.vecs 49 3 o0)])) := by kernel_rfl

theorem laws_markWordS_fn : PM.FnIs Try.prog 148 Try.f148 := .of Try.func148 (by kernel_rfl) (by kernel_rfl)
theorem laws_markWordS_g : PM.GOk Try.prog cx 148 ⟨[true, false], laws_markWordS_w (laws_markWordS PM.std), none⟩ := by
  refine ⟨laws_markWordS_fn.enter, fun hm => (by cases hm), fun _ ds k r h => ?_, fun _ e => (by cases e)⟩
  change laws_markWordS_w (laws_markWordS PM.std) ds k = some r at h
  unfold laws_markWordS_w at h
  split at h
  · exact PM.pfun_okM (List.cons_ne_nil _ _) (E := laws_markWordS_E PM.std) (L := fun n => laws_markWordS_L PM.std n) (N := PM.std.fuel) cx_ok .nil mixed .nil laws_markWordS_fn (by kernel_rfl) ⟨rfl, fun cur σ K => by
      dsimp only [laws_markWordS_L]
      split <;> rfl, fun n cur σ K r h => by
      dsimp only [laws_markWordS_L] at h
      split at h
      · exact (laws_markWordS_l0_ok PM.std n _ _ _ K).symm.trans h
      · cases h⟩
      ((laws_markWordS_ok PM.std _ _ k).trans h)
  · cases h

abbrev laws_markMem_T := (Int) → (List (List Int)) → (Int) → ((Int) → (List (List Int)) → PM.R) → PM.R
noncomputable def laws_markMem_w (c : laws_markMem_T) (ds : List PM.V) (k : PM.V → PM.R) : PM.R :=
  match ds with
  | [.agg [.int .i64 a_Clock, .arr (.vecs 49 3 a_Cells)], .int .i64 k_] => c a_Clock a_Cells k_ (fun r0 o0_Cells => k (.tup [.int .i64 r0, .arr (.vecs 49 3 o0_Cells)]))
  | _ => none
noncomputable def laws_markMem_f (A : PM.Prims) (c_148 : laws_markWordS_T) (a_Clock : Int) (a_Cells : List (List Int)) (k_ : Int) (k : (Int) → (List (List Int)) → PM.R) : PM.R :=
  c_148 a_Cells k_ (fun r1 r2 =>
    k r1 r2)
noncomputable def laws_markMem (A : PM.Prims) : laws_markMem_T := laws_markMem_f A (laws_markWordS A)
noncomputable def laws_markMem_L (A : PM.Prims) (c_148 : laws_markWordS_T) (n : Nat) : PM.Lam := fun cur σ K =>
  match cur, σ, K with
  | _, _, _ => none
noncomputable def laws_markMem_E (A : PM.Prims) (c_148 : laws_markWordS_T) : PM.Env := ⟨[(148, ⟨[true, false], laws_markWordS_w c_148, none⟩)], [], [], [(0, [0, 1, 2]), (1, [0, 1]), (2, [0, 4])], laws_markMem_L A c_148 A.fuel⟩
theorem laws_markMem_ok (A : PM.Prims) (c_148 : laws_markWordS_T) (a_Clock : Int) (a_Cells : List (List Int)) (k_ : Int) (k : PM.V → PM.R) : PM.pfun A cx [true, false] (laws_markMem_E A c_148) Go.Proofs.Try.f78 [.agg [.int .i64 a_Clock, .arr (.vecs 49 3 a_Cells)], .int .i64 k_] k = laws_markMem_f A c_148 a_Clock a_Cells k_ (fun r0 o0_Cells => k (.tup [.int .i64 r0, .arr (.vecs 49 3 o0_Cells)])) := by kernel_rfl

theorem laws_markMem_fn : PM.FnIs Try.prog 78 Try.f78 := .of Try.func78 (by kernel_rfl) (by kernel_rfl)
theorem laws_markMem_g : PM.GOk Try.prog cx 78 ⟨[true, false], laws_markMem_w (laws_markMem PM.std), none⟩ := by
  refine ⟨laws_markMem_fn.enter, fun hm => (by cases hm), fun _ ds k r h => ?_, fun _ e => (by cases e)⟩
  change laws_markMem_w (laws_markMem PM.std) ds k = some r at h
  unfold laws_markMem_w at h
  split at h
  · exact PM.pfun_okM (List.cons_ne_nil _ _) (E := laws_markMem_E PM.std (laws_markWordS PM.std)) (L := fun n => laws_markMem_L PM.std (laws_markWordS PM.std) n) (N := PM.std.fuel) cx_ok (.cons laws_markWordS_g .nil) mixed .nil laws_markMem_fn (by kernel_rfl) ⟨rfl, fun _ _ _ => rfl, fun n cur σ K r h => by cases h⟩
      ((laws_markMem_ok PM.std (laws_markWordS PM.std) _ _ _ k).trans h)
  · cases h

abbrev laws_heldWordS_T := (List (List Int)) → (Int) → ((Int) → PM.R) → PM.R
noncomputable def laws_heldWordS_w (c : laws_heldWordS_T) (ds : List PM.V) (k : PM.V → PM.R) : PM.R :=
  match ds with
  | [.arr (.vecs 49 3 a), .int .i64 k_] => c a k_ (fun r0 => k (.int .i64 r0))
  | _ => none
noncomputable def laws_heldWordS_l0 (A : PM.Prims) : Nat → (List (List Int)) → (Int) → (Int) → ((Int) → PM.R) → ((Int) → PM.R) → PM.R
  | 0, _, _, _, _, _ => none
  | n + 1, a1, k2, i3, kret_0, kx0_0 =>
    bif (A.lt i3 (A.vlen a1)) then
      bif (A.inb i3 (A.vlen a1)) then
        bif (A.not (A.eq (A.vget a1 i3 0) k2)) then
          kret_0 (-1)
        else
          bif (A.inb i3 (A.vlen a1)) then
            bif (A.not (A.eq (A.vget a1 i3 1) (A.add .i64 k2 1))) then
              kret_0 (-1)
            else
              bif (A.inb i3 (A.vlen a1)) then
                bif (A.not (A.eq (A.vget a1 i3 2) (A.add .i64 (A.add .i64 k2 1) 1))) then
                  kret_0 (-1)
                else
                  laws_heldWordS_l0 A n a1 (A.add .i64 (A.add .i64 (A.add .i64 k2 1) 1) 1) (A.add .i64 i3 1) kret_0 kx0_0
              else
                none
          else
            none
      else
        none
    else
      kx0_0 k2
noncomputable def laws_heldWordS_f (A : PM.Prims) (a : List (List Int)) (k_ : Int) (k : (Int) → PM.R) : PM.R :=
  laws_heldWordS_l0 A A.fuel a k_ 0 (fun t446 =>
    k t446) (fun k57 =>
    k k57)
noncomputable def laws_heldWordS (A : PM.Prims) : laws_heldWordS_T := laws_heldWordS_f A
noncomputable def laws_heldWordS_L (A : PM.Prims) (n : Nat) : PM.Lam := fun cur σ K =>
  match cur, σ, K with
  | 0, ⟨[(0, .arr (.vecs 49 3 a1)), (1, .int .i64 k2), (5, .int .i64 i3)], []⟩, K => laws_heldWordS_l0 A n a1 k2 i3 (fun t44 => K .ret ⟨[(4, .int .i64 t44)], []⟩) (fun k5 => K (.exit 0) ⟨[(1, .int .i64 k5)], []⟩)
  | _, _, _ => none
noncomputable def laws_heldWordS_E (A : PM.Prims) : PM.Env := ⟨[], [], [(0, [0, 1, 5], [1, 4])], [(0, [0, 1]), (1, [0, 1, 5]), (2, [0, 1, 5, 9]), (3, [0, 1, 5]), (4, [0, 1, 5, 18]), (5, [4]), (6, [0, 1, 5]), (7, [0, 1, 5, 27]), (8, [4]), (9, [0, 1, 5]), (10, [0, 1, 5, 36]), (11, [4]), (12, [0, 1, 5]), (13, [4])], laws_heldWordS_L A A.fuel⟩
theorem laws_heldWordS_l0_ok (A : PM.Prims) (n : Nat) (a1 : List (List Int)) (k2 : Int) (i3 : Int) (K : Go.Exit → PM.S → PM.R) : laws_heldWordS_L A (n + 1) 0 ⟨[(0, .arr (.vecs 49 3 a1)), (1, .int .i64 k2), (5, .int .i64 i3)], []⟩ K = PM.roundF A cx (PM.runD A cx (laws_heldWordS_E A).inl (laws_heldWordS_E A).Γ 3) (laws_heldWordS_E A) (laws_heldWordS_L A n) 0 Go.Proofs.Try.f149 ⟨[(0, .arr (.vecs 49 3 a1)), (1, .int .i64 k2), (5, .int .i64 i3)], []⟩ K := by kernel_rfl
theorem laws_heldWordS_ok (A : PM.Prims) (a : List (List Int)) (k_ : Int) (k : PM.V → PM.R) : PM.pfun A cx [] (laws_heldWordS_E A) Go.Proofs.Try.f149 [.arr (.vecs 49 3 a), .int .i64 k_] k = laws_heldWordS_f A a k_ (fun r0 => k (.int .i64 r0)) := by kernel_rfl

theorem laws_heldWordS_fn : PM.FnIs Try.prog 149 Try.f149 := .of Try.func149 (by kernel_rfl) (by kernel_rfl)
theorem laws_heldWordS_g : PM.GOk Try.prog cx 149 ⟨[], laws_heldWordS_w (laws_heldWordS PM.std), none⟩ := by
  refine ⟨laws_heldWordS_fn.enter, fun _ ds k r h => ?_, fun hm => absurd rfl hm, fun _ e => (by cases e)⟩
  change laws_heldWordS_w (laws_heldWordS PM.std) ds k = some r at h
  unfold laws_heldWordS_w at h
  split at h
  · exact PM.pfun_ok (E := laws_heldWordS_E PM.std) (L := fun n => laws_heldWordS_L PM.std n) (N := PM.std.fuel) cx_ok .nil mixed .nil laws_heldWordS_fn (by kernel_rfl) ⟨rfl, fun cur σ K => by
      dsimp only [laws_heldWordS_L]
      split <;> rfl, fun n cur σ K r h => by
      dsimp only [laws_heldWordS_L] at h
      split at h
      · exact (laws_heldWordS_l0_ok PM.std n _ _ _ K).symm.trans h
      · cases h⟩
      ((laws_heldWordS_ok PM.std _ _ k).trans h)
  · cases h

abbrev laws_heldMem_T := (Int) → (List (List Int)) → (Int) → ((Int) → PM.R) → PM.R
noncomputable def laws_heldMem_w (c : laws_heldMem_T) (ds : List PM.V) (k : PM.V → PM.R) : PM.R :=
  match ds with
  | [.agg [.int .i64 a_Clock, .arr (.vecs 49 3 a_Cells)], .int .i64 k_] => c a_Clock a_Cells k_ (fun r0 => k (.int .i64 r0))
  | _ => none
noncomputable def laws_heldMem_f (A : PM.Prims) (c_149 : laws_heldWordS_T) (a_Clock : Int) (a_Cells : List (List Int)) (k_ : Int) (k : (Int) → PM.R) : PM.R :=
  c_149 a_Cells k_ (fun r1 =>
    bif (A.lt r1 0) then
      k (-1)
    else
      k r1)
noncomputable def laws_heldMem (A : PM.Prims) : laws_heldMem_T := laws_heldMem_f A (laws_heldWordS A)
noncomputable def laws_heldMem_L (A : PM.Prims) (c_149 : laws_heldWordS_T) (n : Nat) : PM.Lam := fun cur σ K =>
  match cur, σ, K with
  | _, _, _ => none
noncomputable def laws_heldMem_E (A : PM.Prims) (c_149 : laws_heldWordS_T) : PM.Env := ⟨[(149, ⟨[], laws_heldWordS_w c_149, none⟩)], [], [], [(0, [1, 2]), (1, [1]), (2, [1, 10]), (3, [4]), (4, [4])], laws_heldMem_L A c_149 A.fuel⟩
theorem laws_heldMem_ok (A : PM.Prims) (c_149 : laws_heldWordS_T) (a_Clock : Int) (a_Cells : List (List Int)) (k_ : Int) (k : PM.V → PM.R) : PM.pfun A cx [] (laws_heldMem_E A c_149) Go.Proofs.Try.f79 [.agg [.int .i64 a_Clock, .arr (.vecs 49 3 a_Cells)], .int .i64 k_] k = laws_heldMem_f A c_149 a_Clock a_Cells k_ (fun r0 => k (.int .i64 r0)) := by kernel_rfl

theorem laws_heldMem_fn : PM.FnIs Try.prog 79 Try.f79 := .of Try.func79 (by kernel_rfl) (by kernel_rfl)
theorem laws_heldMem_g : PM.GOk Try.prog cx 79 ⟨[], laws_heldMem_w (laws_heldMem PM.std), none⟩ := by
  refine ⟨laws_heldMem_fn.enter, fun _ ds k r h => ?_, fun hm => absurd rfl hm, fun _ e => (by cases e)⟩
  change laws_heldMem_w (laws_heldMem PM.std) ds k = some r at h
  unfold laws_heldMem_w at h
  split at h
  · exact PM.pfun_ok (E := laws_heldMem_E PM.std (laws_heldWordS PM.std)) (L := fun n => laws_heldMem_L PM.std (laws_heldWordS PM.std) n) (N := PM.std.fuel) cx_ok (.cons laws_heldWordS_g .nil) mixed .nil laws_heldMem_fn (by kernel_rfl) ⟨rfl, fun _ _ _ => rfl, fun n cur σ K r h => by cases h⟩
      ((laws_heldMem_ok PM.std (laws_heldWordS PM.std) _ _ _ k).trans h)
  · cases h

abbrev laws_FnExactProbeOk_T := (Int) → (Int) → (Int) → (Int) → ((Bool) → PM.R) → PM.R
noncomputable def laws_FnExactProbeOk_w (c : laws_FnExactProbeOk_T) (ds : List PM.V) (k : PM.V → PM.R) : PM.R :=
  match ds with
  | [.agg [.int .i64 aP_Cell, .int .i64 aP_Phase, .int .i64 aP_Ver, .int .i64 aP_Val]] => c aP_Cell aP_Phase aP_Ver aP_Val (fun r0 => k (.bool r0))
  | _ => none
noncomputable def laws_FnExactProbeOk_f (A : PM.Prims) (c_23 : laws_toProbe_T) (c_22 : spec_ProbeOk_T) (c_24 : impl_ProbeOk_T) (aP_Cell : Int) (aP_Phase : Int) (aP_Ver : Int) (aP_Val : Int) (k : (Bool) → PM.R) : PM.R :=
  c_23 aP_Cell aP_Phase aP_Ver aP_Val (fun r1 r2 r3 r4 =>
    c_22 r1 r2 r3 r4 (fun r5 =>
      c_23 aP_Cell aP_Phase aP_Ver aP_Val (fun r6 r7 r8 r9 =>
        c_24 r6 r7 r8 r9 (fun r10 =>
          bif (A.not (A.beq r10 r5)) then
            k false
          else
            k true))))
noncomputable def laws_FnExactProbeOk (A : PM.Prims) : laws_FnExactProbeOk_T := laws_FnExactProbeOk_f A (laws_toProbe A) (spec_ProbeOk A) (impl_ProbeOk A)
noncomputable def laws_FnExactProbeOk_L (A : PM.Prims) (c_23 : laws_toProbe_T) (c_22 : spec_ProbeOk_T) (c_24 : impl_ProbeOk_T) (n : Nat) : PM.Lam := fun cur σ K =>
  match cur, σ, K with
  | _, _, _ => none
noncomputable def laws_FnExactProbeOk_E (A : PM.Prims) (c_23 : laws_toProbe_T) (c_22 : spec_ProbeOk_T) (c_24 : impl_ProbeOk_T) : PM.Env := ⟨[(23, ⟨[], laws_toProbe_w c_23, none⟩), (22, ⟨[], spec_ProbeOk_w c_22, none⟩), (24, ⟨[], impl_ProbeOk_w c_24, none⟩)], [], [], [(0, [1]), (1, [1, 3]), (2, [3, 4]), (3, [13]), (4, [2]), (5, [2])], laws_FnExactProbeOk_L A c_23 c_22 c_24 A.fuel⟩
theorem laws_FnExactProbeOk_ok (A : PM.Prims) (c_23 : laws_toProbe_T) (c_22 : spec_ProbeOk_T) (c_24 : impl_ProbeOk_T) (aP_Cell : Int) (aP_Phase : Int) (aP_Ver : Int) (aP_Val : Int) (k : PM.V → PM.R) : PM.pfun A cx [] (laws_FnExactProbeOk_E A c_23 c_22 c_24) Go.Proofs.Try.f3 [.agg [.int .i64 aP_Cell, .int .i64 aP_Phase, .int .i64 aP_Ver, .int .i64 aP_Val]] k = laws_FnExactProbeOk_f A c_23 c_22 c_24 aP_Cell aP_Phase aP_Ver aP_Val (fun r0 => k (.bool r0)) := by kernel_rfl

theorem laws_FnExactProbeOk_fn : PM.FnIs Try.prog 3 Try.f3 := .of Try.func3 (by kernel_rfl) (by kernel_rfl)
theorem laws_FnExactProbeOk_g : PM.GOk Try.prog cx 3 ⟨[], laws_FnExactProbeOk_w (laws_FnExactProbeOk PM.std), none⟩ := by
  refine ⟨laws_FnExactProbeOk_fn.enter, fun _ ds k r h => ?_, fun hm => absurd rfl hm, fun _ e => (by cases e)⟩
  change laws_FnExactProbeOk_w (laws_FnExactProbeOk PM.std) ds k = some r at h
  unfold laws_FnExactProbeOk_w at h
  split at h
  · exact PM.pfun_ok (E := laws_FnExactProbeOk_E PM.std (laws_toProbe PM.std) (spec_ProbeOk PM.std) (impl_ProbeOk PM.std)) (L := fun n => laws_FnExactProbeOk_L PM.std (laws_toProbe PM.std) (spec_ProbeOk PM.std) (impl_ProbeOk PM.std) n) (N := PM.std.fuel) cx_ok (.cons laws_toProbe_g (.cons spec_ProbeOk_g (.cons impl_ProbeOk_g .nil))) mixed .nil laws_FnExactProbeOk_fn (by kernel_rfl) ⟨rfl, fun _ _ _ => rfl, fun n cur σ K r h => by cases h⟩
      ((laws_FnExactProbeOk_ok PM.std (laws_toProbe PM.std) (spec_ProbeOk PM.std) (impl_ProbeOk PM.std) _ _ _ _ k).trans h)
  · cases h

abbrev spec_ProbeNew_T := (Int) → ((Int) → (Int) → (Int) → (Int) → (Bool) → PM.R) → PM.R
noncomputable def spec_ProbeNew_w (c : spec_ProbeNew_T) (ds : List PM.V) (k : PM.V → PM.R) : PM.R :=
  match ds with
  | [.int .i64 cell] => c cell (fun r0_Cell r0_Phase r0_Ver r0_Val r1 => k (.tup [.agg [.int .i64 r0_Cell, .int .i64 r0_Phase, .int .i64 r0_Ver, .int .i64 r0_Val], .bool r1]))
  | _ => none
noncomputable def spec_ProbeNew_f (A : PM.Prims) (c_93 : spec_l3Cell_T) (cell : Int) (k : (Int) → (Int) → (Int) → (Int) → (Bool) → PM.R) : PM.R :=
  c_93 cell (fun r1 =>
    bif (A.not r1) then
      k 0 0 0 0 false
    else
      k cell 0 0 0 true)
noncomputable def spec_ProbeNew (A : PM.Prims) : spec_ProbeNew_T := spec_ProbeNew_f A (spec_l3Cell A)
noncomputable def spec_ProbeNew_L (A : PM.Prims) (c_93 : spec_l3Cell_T) (n : Nat) : PM.Lam := fun cur σ K =>
  match cur, σ, K with
  | _, _, _ => none
noncomputable def spec_ProbeNew_E (A : PM.Prims) (c_93 : spec_l3Cell_T) : PM.Env := ⟨[(93, ⟨[], spec_l3Cell_w c_93, none⟩)], [], [], [(0, [0, 2]), (1, [0, 2, 6]), (2, [2, 3]), (3, [2, 3])], spec_ProbeNew_L A c_93 A.fuel⟩
theorem spec_ProbeNew_ok (A : PM.Prims) (c_93 : spec_l3Cell_T) (cell : Int) (k : PM.V → PM.R) : PM.pfun A cx [] (spec_ProbeNew_E A c_93) Go.Proofs.Try.f25 [.int .i64 cell] k = spec_ProbeNew_f A c_93 cell (fun r0_Cell r0_Phase r0_Ver r0_Val r1 => k (.tup [.agg [.int .i64 r0_Cell, .int .i64 r0_Phase, .int .i64 r0_Ver, .int .i64 r0_Val], .bool r1])) := by kernel_rfl

theorem spec_ProbeNew_fn : PM.FnIs Try.prog 25 Try.f25 := .of Try.func25 (by kernel_rfl) (by kernel_rfl)
theorem spec_ProbeNew_g : PM.GOk Try.prog cx 25 ⟨[], spec_ProbeNew_w (spec_ProbeNew PM.std), none⟩ := by
  refine ⟨spec_ProbeNew_fn.enter, fun _ ds k r h => ?_, fun hm => absurd rfl hm, fun _ e => (by cases e)⟩
  change spec_ProbeNew_w (spec_ProbeNew PM.std) ds k = some r at h
  unfold spec_ProbeNew_w at h
  split at h
  · exact PM.pfun_ok (E := spec_ProbeNew_E PM.std (spec_l3Cell PM.std)) (L := fun n => spec_ProbeNew_L PM.std (spec_l3Cell PM.std) n) (N := PM.std.fuel) cx_ok (.cons spec_l3Cell_g .nil) mixed .nil spec_ProbeNew_fn (by kernel_rfl) ⟨rfl, fun _ _ _ => rfl, fun n cur σ K r h => by cases h⟩
      ((spec_ProbeNew_ok PM.std (spec_l3Cell PM.std) _ k).trans h)
  · cases h

abbrev impl_ProbeNew_T := (Int) → ((Int) → (Int) → (Int) → (Int) → (Bool) → PM.R) → PM.R
noncomputable def impl_ProbeNew_w (c : impl_ProbeNew_T) (ds : List PM.V) (k : PM.V → PM.R) : PM.R :=
  match ds with
  | [.int .i64 cell] => c cell (fun r0_Cell r0_Phase r0_Ver r0_Val r1 => k (.tup [.agg [.int .i64 r0_Cell, .int .i64 r0_Phase, .int .i64 r0_Ver, .int .i64 r0_Val], .bool r1]))
  | _ => none
noncomputable def impl_ProbeNew_f (A : PM.Prims) (c_96 : impl_isCell_T) (cell : Int) (k : (Int) → (Int) → (Int) → (Int) → (Bool) → PM.R) : PM.R :=
  c_96 cell (fun r1 =>
    bif (A.not r1) then
      k 0 0 0 0 false
    else
      k cell 0 0 0 true)
noncomputable def impl_ProbeNew (A : PM.Prims) : impl_ProbeNew_T := impl_ProbeNew_f A (impl_isCell A)
noncomputable def impl_ProbeNew_L (A : PM.Prims) (c_96 : impl_isCell_T) (n : Nat) : PM.Lam := fun cur σ K =>
  match cur, σ, K with
  | _, _, _ => none
noncomputable def impl_ProbeNew_E (A : PM.Prims) (c_96 : impl_isCell_T) : PM.Env := ⟨[(96, ⟨[], impl_isCell_w c_96, none⟩)], [], [], [(0, [0, 2]), (1, [0, 2, 6]), (2, [2, 3]), (3, [2, 3])], impl_ProbeNew_L A c_96 A.fuel⟩
theorem impl_ProbeNew_ok (A : PM.Prims) (c_96 : impl_isCell_T) (cell : Int) (k : PM.V → PM.R) : PM.pfun A cx [] (impl_ProbeNew_E A c_96) Go.Proofs.Try.f26 [.int .i64 cell] k = impl_ProbeNew_f A c_96 cell (fun r0_Cell r0_Phase r0_Ver r0_Val r1 => k (.tup [.agg [.int .i64 r0_Cell, .int .i64 r0_Phase, .int .i64 r0_Ver, .int .i64 r0_Val], .bool r1])) := by kernel_rfl

theorem impl_ProbeNew_fn : PM.FnIs Try.prog 26 Try.f26 := .of Try.func26 (by kernel_rfl) (by kernel_rfl)
theorem impl_ProbeNew_g : PM.GOk Try.prog cx 26 ⟨[], impl_ProbeNew_w (impl_ProbeNew PM.std), none⟩ := by
  refine ⟨impl_ProbeNew_fn.enter, fun _ ds k r h => ?_, fun hm => absurd rfl hm, fun _ e => (by cases e)⟩
  change impl_ProbeNew_w (impl_ProbeNew PM.std) ds k = some r at h
  unfold impl_ProbeNew_w at h
  split at h
  · exact PM.pfun_ok (E := impl_ProbeNew_E PM.std (impl_isCell PM.std)) (L := fun n => impl_ProbeNew_L PM.std (impl_isCell PM.std) n) (N := PM.std.fuel) cx_ok (.cons impl_isCell_g .nil) mixed .nil impl_ProbeNew_fn (by kernel_rfl) ⟨rfl, fun _ _ _ => rfl, fun n cur σ K r h => by cases h⟩
      ((impl_ProbeNew_ok PM.std (impl_isCell PM.std) _ k).trans h)
  · cases h

abbrev laws_FnExactProbeNew_T := (Int) → ((Bool) → PM.R) → PM.R
noncomputable def laws_FnExactProbeNew_w (c : laws_FnExactProbeNew_T) (ds : List PM.V) (k : PM.V → PM.R) : PM.R :=
  match ds with
  | [.int .i64 aCell] => c aCell (fun r0 => k (.bool r0))
  | _ => none
noncomputable def laws_FnExactProbeNew_f (A : PM.Prims) (c_27 : laws_eqProbe_T) (c_25 : spec_ProbeNew_T) (c_26 : impl_ProbeNew_T) (aCell : Int) (k : (Bool) → PM.R) : PM.R :=
  c_25 aCell (fun r1 r2 r3 r4 r5 =>
    c_26 aCell (fun r6 r7 r8 r9 r10 =>
      c_27 r6 r7 r8 r9 r1 r2 r3 r4 (fun r11 =>
        bif (A.not r11) then
          k false
        else
          bif (A.not (A.beq r10 r5)) then
            k false
          else
            k true)))
noncomputable def laws_FnExactProbeNew (A : PM.Prims) : laws_FnExactProbeNew_T := laws_FnExactProbeNew_f A (laws_eqProbe A) (spec_ProbeNew A) (impl_ProbeNew A)
noncomputable def laws_FnExactProbeNew_L (A : PM.Prims) (c_27 : laws_eqProbe_T) (c_25 : spec_ProbeNew_T) (c_26 : impl_ProbeNew_T) (n : Nat) : PM.Lam := fun cur σ K =>
  match cur, σ, K with
  | _, _, _ => none
noncomputable def laws_FnExactProbeNew_E (A : PM.Prims) (c_27 : laws_eqProbe_T) (c_25 : spec_ProbeNew_T) (c_26 : impl_ProbeNew_T) : PM.Env := ⟨[(27, ⟨[], laws_eqProbe_w c_27, none⟩), (25, ⟨[], spec_ProbeNew_w c_25, none⟩), (26, ⟨[], impl_ProbeNew_w c_26, none⟩)], [], [], [(0, [0]), (1, [0, 3, 4]), (2, [3, 4, 5, 6]), (3, [25]), (4, [2]), (5, [2])], laws_FnExactProbeNew_L A c_27 c_25 c_26 A.fuel⟩
theorem laws_FnExactProbeNew_ok (A : PM.Prims) (c_27 : laws_eqProbe_T) (c_25 : spec_ProbeNew_T) (c_26 : impl_ProbeNew_T) (aCell : Int) (k : PM.V → PM.R) : PM.pfun A cx [] (laws_FnExactProbeNew_E A c_27 c_25 c_26) Go.Proofs.Try.f4 [.int .i64 aCell] k = laws_FnExactProbeNew_f A c_27 c_25 c_26 aCell (fun r0 => k (.bool r0)) := by kernel_rfl

theorem laws_FnExactProbeNew_fn : PM.FnIs Try.prog 4 Try.f4 := .of Try.func4 (by kernel_rfl) (by kernel_rfl)
theorem laws_FnExactProbeNew_g : PM.GOk Try.prog cx 4 ⟨[], laws_FnExactProbeNew_w (laws_FnExactProbeNew PM.std), none⟩ := by
  refine ⟨laws_FnExactProbeNew_fn.enter, fun _ ds k r h => ?_, fun hm => absurd rfl hm, fun _ e => (by cases e)⟩
  change laws_FnExactProbeNew_w (laws_FnExactProbeNew PM.std) ds k = some r at h
  unfold laws_FnExactProbeNew_w at h
  split at h
  · exact PM.pfun_ok (E := laws_FnExactProbeNew_E PM.std (laws_eqProbe PM.std) (spec_ProbeNew PM.std) (impl_ProbeNew PM.std)) (L := fun n => laws_FnExactProbeNew_L PM.std (laws_eqProbe PM.std) (spec_ProbeNew PM.std) (impl_ProbeNew PM.std) n) (N := PM.std.fuel) cx_ok (.cons laws_eqProbe_g (.cons spec_ProbeNew_g (.cons impl_ProbeNew_g .nil))) mixed .nil laws_FnExactProbeNew_fn (by kernel_rfl) ⟨rfl, fun _ _ _ => rfl, fun n cur σ K r h => by cases h⟩
      ((laws_FnExactProbeNew_ok PM.std (laws_eqProbe PM.std) (spec_ProbeNew PM.std) (impl_ProbeNew PM.std) _ k).trans h)
  · cases h

abbrev laws_FnExactHoldsOk_T := (List (List Int)) → ((Bool) → PM.R) → PM.R
noncomputable def laws_FnExactHoldsOk_w (c : laws_FnExactHoldsOk_T) (ds : List PM.V) (k : PM.V → PM.R) : PM.R :=
  match ds with
  | [.arr (.vecs 124 3 aL)] => c aL (fun r0 => k (.bool r0))
  | _ => none
noncomputable def laws_FnExactHoldsOk_f (A : PM.Prims) (c_36 : laws_szHoldS_T) (c_38 : laws_toHoldS_T) (c_37 : spec_HoldsOk_T) (c_39 : impl_HoldsOk_T) (c_40 : laws_eqHoldS_T) (aL : List (List Int)) (k : (Bool) → PM.R) : PM.R :=
  c_36 aL 1048576 (fun r1 =>
    bif (A.lt r1 0) then
      k true
    else
      c_38 aL (fun r2 =>
        c_37 r2 (fun r3 =>
          c_38 aL (fun r4 =>
            c_39 r4 (fun r5 =>
              bif (A.not (A.beq r5 r3)) then
                k false
              else
                c_38 aL (fun r6 =>
                  c_40 r4 r6 (fun r7 =>
                    bif (A.not r7) then
                      k false
                    else
                      k true)))))))
noncomputable def laws_FnExactHoldsOk (A : PM.Prims) : laws_FnExactHoldsOk_T := laws_FnExactHoldsOk_f A (laws_szHoldS A) (laws_toHoldS A) (spec_HoldsOk A) (impl_HoldsOk A) (laws_eqHoldS A)
noncomputable def laws_FnExactHoldsOk_L (A : PM.Prims) (c_36 : laws_szHoldS_T) (c_38 : laws_toHoldS_T) (c_37 : spec_HoldsOk_T) (c_39 : impl_HoldsOk_T) (c_40 : laws_eqHoldS_T) (n : Nat) : PM.Lam := fun cur σ K =>
  match cur, σ, K with
  | _, _, _ => none
noncomputable def laws_FnExactHoldsOk_E (A : PM.Prims) (c_36 : laws_szHoldS_T) (c_38 : laws_toHoldS_T) (c_37 : spec_HoldsOk_T) (c_39 : impl_HoldsOk_T) (c_40 : laws_eqHoldS_T) : PM.Env := ⟨[(36, ⟨[], laws_szHoldS_w c_36, none⟩), (38, ⟨[], laws_toHoldS_w c_38, none⟩), (37, ⟨[], spec_HoldsOk_w c_37, none⟩), (39, ⟨[], impl_HoldsOk_w c_39, none⟩), (40, ⟨[], laws_eqHoldS_w c_40, none⟩)], [], [], [(0, [0]), (1, [0, 3]), (2, [0, 3]), (3, [0, 11]), (4, [2]), (5, [0, 4]), (6, [0, 4, 5]), (7, [0, 4, 5, 6]), (8, [0, 5, 21]), (9, [2]), (10, [26]), (11, [2]), (12, [2])], laws_FnExactHoldsOk_L A c_36 c_38 c_37 c_39 c_40 A.fuel⟩
theorem laws_FnExactHoldsOk_ok (A : PM.Prims) (c_36 : laws_szHoldS_T) (c_38 : laws_toHoldS_T) (c_37 : spec_HoldsOk_T) (c_39 : impl_HoldsOk_T) (c_40 : laws_eqHoldS_T) (aL : List (List Int)) (k : PM.V → PM.R) : PM.pfun A cx [] (laws_FnExactHoldsOk_E A c_36 c_38 c_37 c_39 c_40) Go.Proofs.Try.f7 [.arr (.vecs 124 3 aL)] k = laws_FnExactHoldsOk_f A c_36 c_38 c_37 c_39 c_40 aL (fun r0 => k (.bool r0)) := by kernel_rfl

theorem laws_FnExactHoldsOk_fn : PM.FnIs Try.prog 7 Try.f7 := .of Try.func7 (by kernel_rfl) (by kernel_rfl)
theorem laws_FnExactHoldsOk_g : PM.GOk Try.prog cx 7 ⟨[], laws_FnExactHoldsOk_w (laws_FnExactHoldsOk PM.std), none⟩ := by
  refine ⟨laws_FnExactHoldsOk_fn.enter, fun _ ds k r h => ?_, fun hm => absurd rfl hm, fun _ e => (by cases e)⟩
  change laws_FnExactHoldsOk_w (laws_FnExactHoldsOk PM.std) ds k = some r at h
  unfold laws_FnExactHoldsOk_w at h
  split at h
  · exact PM.pfun_ok (E := laws_FnExactHoldsOk_E PM.std (laws_szHoldS PM.std) (laws_toHoldS PM.std) (spec_HoldsOk PM.std) (impl_HoldsOk PM.std) (laws_eqHoldS PM.std)) (L := fun n => laws_FnExactHoldsOk_L PM.std (laws_szHoldS PM.std) (laws_toHoldS PM.std) (spec_HoldsOk PM.std) (impl_HoldsOk PM.std) (laws_eqHoldS PM.std) n) (N := PM.std.fuel) cx_ok (.cons laws_szHoldS_g (.cons laws_toHoldS_g (.cons spec_HoldsOk_g (.cons impl_HoldsOk_g (.cons laws_eqHoldS_g .nil))))) mixed .nil laws_FnExactHoldsOk_fn (by kernel_rfl) ⟨rfl, fun _ _ _ => rfl, fun n cur σ K r h => by cases h⟩
      ((laws_FnExactHoldsOk_ok PM.std (laws_szHoldS PM.std) (laws_toHoldS PM.std) (spec_HoldsOk PM.std) (impl_HoldsOk PM.std) (laws_eqHoldS PM.std) _ k).trans h)
  · cases h

abbrev impl_HoldOf_T := (List (List Int)) → (Int) → (Int) → ((Int) → PM.R) → PM.R
noncomputable def impl_HoldOf_w (c : impl_HoldOf_T) (ds : List PM.V) (k : PM.V → PM.R) : PM.R :=
  match ds with
  | [.arr (.vecs 73 3 l), .int .i64 who, .int .i64 what] => c l who what (fun r0 => k (.int .i64 r0))
  | _ => none
noncomputable def impl_HoldOf_l0 (A : PM.Prims) (c_39 : impl_HoldsOk_T) : Nat → (Int) → (Int) → (List (List Int)) → (Int) → (Int) → ((Int) → PM.R) → (Unit → PM.R) → PM.R
  | 0, _, _, _, _, _, _, _ => none
  | n + 1, who2, what3, t124, t135, t146, kret_0, kx0_0 =>
    bif (A.lt t146 t135) then
      bif (A.inb t146 (A.vlen t124)) then
        bif (A.eq (A.vget t124 t146 0) who2) then
          bif (A.eq (A.vget t124 t146 1) what3) then
            kret_0 (A.vget t124 t146 2)
          else
            impl_HoldOf_l0 A c_39 n who2 what3 t124 t135 (A.add .i64 t146 1) kret_0 kx0_0
        else
          impl_HoldOf_l0 A c_39 n who2 what3 t124 t135 (A.add .i64 t146 1) kret_0 kx0_0
      else
        none
    else
      kx0_0 ()
noncomputable def impl_HoldOf_f (A : PM.Prims) (c_39 : impl_HoldsOk_T) (l : List (List Int)) (who : Int) (what : Int) (k : (Int) → PM.R) : PM.R :=
  c_39 l (fun r1 =>
    bif (A.not r1) then
      k 0
    else
      impl_HoldOf_l0 A c_39 A.fuel who what l (A.vlen l) 0 (fun t678 =>
        k t678) (fun _ =>
        k 0))
noncomputable def impl_HoldOf (A : PM.Prims) : impl_HoldOf_T := impl_HoldOf_f A (impl_HoldsOk A)
noncomputable def impl_HoldOf_L (A : PM.Prims) (c_39 : impl_HoldsOk_T) (n : Nat) : PM.Lam := fun cur σ K =>
  match cur, σ, K with
  | 0, ⟨[(1, .int .i64 who2), (2, .int .i64 what3), (12, .arr (.vecs 73 3 t124)), (13, .int .i64 t135), (14, .int .i64 t146)], []⟩, K => impl_HoldOf_l0 A c_39 n who2 what3 t124 t135 t146 (fun t67 => K .ret ⟨[(6, .int .i64 t67)], []⟩) (fun _ => K (.exit 0) ⟨[], []⟩)
  | _, _, _ => none
noncomputable def impl_HoldOf_E (A : PM.Prims) (c_39 : impl_HoldsOk_T) : PM.Env := ⟨[(39, ⟨[], impl_HoldsOk_w c_39, none⟩)], [], [(0, [1, 2, 12, 13, 14], [6])], [(0, [0, 1, 2]), (1, [0, 1, 2, 11]), (2, [6]), (3, [1, 2, 12, 13, 14]), (4, [1, 2, 12, 13, 14, 15]), (5, [1, 2, 8, 12, 13, 14]), (6, [1, 2, 8, 12, 13, 14, 27]), (7, [6]), (8, [1, 2, 12, 13, 14]), (9, [6])], impl_HoldOf_L A c_39 A.fuel⟩
theorem impl_HoldOf_l0_ok (A : PM.Prims) (c_39 : impl_HoldsOk_T) (n : Nat) (who2 : Int) (what3 : Int) (t124 : List (List Int)) (t135 : Int) (t146 : Int) (K : Go.Exit → PM.S → PM.R) : impl_HoldOf_L A c_39 (n + 1) 0 ⟨[(1, .int .i64 who2), (2, .int .i64 what3), (12, .arr (.vecs 73 3 t124)), (13, .int .i64 t135), (14, .int .i64 t146)], []⟩ K = PM.roundF A cx (PM.runD A cx (impl_HoldOf_E A c_39).inl (impl_HoldOf_E A c_39).Γ 3) (impl_HoldOf_E A c_39) (impl_HoldOf_L A c_39 n) 0 Go.Proofs.Try.f42 ⟨[(1, .int .i64 who2), (2, .int .i64 what3), (12, .arr (.vecs 73 3 t124)), (13, .int .i64 t135), (14, .int .i64 t146)], []⟩ K := by kernel_rfl
theorem impl_HoldOf_ok (A : PM.Prims) (c_39 : impl_HoldsOk_T) (l : List (List Int)) (who : Int) (what : Int) (k : PM.V → PM.R) : PM.pfun A cx [] (impl_HoldOf_E A c_39) Go.Proofs.Try.f42 [.arr (.vecs 73 3 l), .int .i64 who, .int .i64 what] k = impl_HoldOf_f A c_39 l who what (fun r0 => k (.int .i64 r0)) := by kernel_rfl

theorem impl_HoldOf_fn : PM.FnIs Try.prog 42 Try.f42 := .of Try.func42 (by kernel_rfl) (by kernel_rfl)
theorem impl_HoldOf_g : PM.GOk Try.prog cx 42 ⟨[], impl_HoldOf_w (impl_HoldOf PM.std), none⟩ := by
  refine ⟨impl_HoldOf_fn.enter, fun _ ds k r h => ?_, fun hm => absurd rfl hm, fun _ e => (by cases e)⟩
  change impl_HoldOf_w (impl_HoldOf PM.std) ds k = some r at h
  unfold impl_HoldOf_w at h
  split at h
  · exact PM.pfun_ok (E := impl_HoldOf_E PM.std (impl_HoldsOk PM.std)) (L := fun n => impl_HoldOf_L PM.std (impl_HoldsOk PM.std) n) (N := PM.std.fuel) cx_ok (.cons impl_HoldsOk_g .nil) mixed .nil impl_HoldOf_fn (by kernel_rfl) ⟨rfl, fun cur σ K => by
      dsimp only [impl_HoldOf_L]
      split <;> rfl, fun n cur σ K r h => by
      dsimp only [impl_HoldOf_L] at h
      split at h
      · exact (impl_HoldOf_l0_ok PM.std (impl_HoldsOk PM.std) n _ _ _ _ _ K).symm.trans h
      · cases h⟩
      ((impl_HoldOf_ok PM.std (impl_HoldsOk PM.std) _ _ _ k).trans h)
  · cases h

abbrev laws_FnExactHoldOf_T := (List (List Int)) → (Int) → (Int) → ((Bool) → PM.R) → PM.R
noncomputable def laws_FnExactHoldOf_w (c : laws_FnExactHoldOf_T) (ds : List PM.V) (k : PM.V → PM.R) : PM.R :=
  match ds with
  | [.arr (.vecs 124 3 aL), .int .i64 aWho, .int .i64 aWhat] => c aL aWho aWhat (fun r0 => k (.bool r0))
  | _ => none
noncomputable def laws_FnExactHoldOf_f (A : PM.Prims) (c_36 : laws_szHoldS_T) (c_38 : laws_toHoldS_T) (c_40 : laws_eqHoldS_T) (c_41 : spec_HoldOf_T) (c_42 : impl_HoldOf_T) (aL : List (List Int)) (aWho : Int) (aWhat : Int) (k : (Bool) → PM.R) : PM.R :=
  c_36 aL 1048576 (fun r1 =>
    bif (A.lt r1 0) then
      k true
    else
      c_38 aL (fun r2 =>
        c_41 r2 aWho aWhat (fun r3 =>
          c_38 aL (fun r4 =>
            c_42 r4 aWho aWhat (fun r5 =>
              bif (A.not (A.eq r5 r3)) then
                k false
              else
                c_38 aL (fun r6 =>
                  c_40 r4 r6 (fun r7 =>
                    bif (A.not r7) then
                      k false
                    else
                      k true)))))))
noncomputable def laws_FnExactHoldOf (A : PM.Prims) : laws_FnExactHoldOf_T := laws_FnExactHoldOf_f A (laws_szHoldS A) (laws_toHoldS A) (laws_eqHoldS A) (spec_HoldOf A) (impl_HoldOf A)
noncomputable def laws_FnExactHoldOf_L (A : PM.Prims) (c_36 : laws_szHoldS_T) (c_38 : laws_toHoldS_T) (c_40 : laws_eqHoldS_T) (c_41 : spec_HoldOf_T) (c_42 : impl_HoldOf_T) (n : Nat) : PM.Lam := fun cur σ K =>
  match cur, σ, K with
  | _, _, _ => none
noncomputable def laws_FnExactHoldOf_E (A : PM.Prims) (c_36 : laws_szHoldS_T) (c_38 : laws_toHoldS_T) (c_40 : laws_eqHoldS_T) (c_41 : spec_HoldOf_T) (c_42 : impl_HoldOf_T) : PM.Env := ⟨[(36, ⟨[], laws_szHoldS_w c_36, none⟩), (38, ⟨[], laws_toHoldS_w c_38, none⟩), (40, ⟨[], laws_eqHoldS_w c_40, none⟩), (41, ⟨[], spec_HoldOf_w c_41, none⟩), (42, ⟨[], impl_HoldOf_w c_42, none⟩)], [], [], [(0, [0, 1, 2]), (1, [0, 1, 2, 7]), (2, [0, 1, 2, 7]), (3, [0, 1, 2, 15]), (4, [6]), (5, [0, 1, 2, 8]), (6, [0, 1, 2, 8, 9]), (7, [0, 8, 9, 10]), (8, [0, 9, 29]), (9, [6]), (10, [34]), (11, [6]), (12, [6])], laws_FnExactHoldOf_L A c_36 c_38 c_40 c_41 c_42 A.fuel⟩
theorem laws_FnExactHoldOf_ok (A : PM.Prims) (c_36 : laws_szHoldS_T) (c_38 : laws_toHoldS_T) (c_40 : laws_eqHoldS_T) (c_41 : spec_HoldOf_T) (c_42 : impl_HoldOf_T) (aL : List (List Int)) (aWho : Int) (aWhat : Int) (k : PM.V → PM.R) : PM.pfun A cx [] (laws_FnExactHoldOf_E A c_36 c_38 c_40 c_41 c_42) Go.Proofs.Try.f8 [.arr (.vecs 124 3 aL), .int .i64 aWho, .int .i64 aWhat] k = laws_FnExactHoldOf_f A c_36 c_38 c_40 c_41 c_42 aL aWho aWhat (fun r0 => k (.bool r0)) := by kernel_rfl

theorem laws_FnExactHoldOf_fn : PM.FnIs Try.prog 8 Try.f8 := .of Try.func8 (by kernel_rfl) (by kernel_rfl)
theorem laws_FnExactHoldOf_g : PM.GOk Try.prog cx 8 ⟨[], laws_FnExactHoldOf_w (laws_FnExactHoldOf PM.std), none⟩ := by
  refine ⟨laws_FnExactHoldOf_fn.enter, fun _ ds k r h => ?_, fun hm => absurd rfl hm, fun _ e => (by cases e)⟩
  change laws_FnExactHoldOf_w (laws_FnExactHoldOf PM.std) ds k = some r at h
  unfold laws_FnExactHoldOf_w at h
  split at h
  · exact PM.pfun_ok (E := laws_FnExactHoldOf_E PM.std (laws_szHoldS PM.std) (laws_toHoldS PM.std) (laws_eqHoldS PM.std) (spec_HoldOf PM.std) (impl_HoldOf PM.std)) (L := fun n => laws_FnExactHoldOf_L PM.std (laws_szHoldS PM.std) (laws_toHoldS PM.std) (laws_eqHoldS PM.std) (spec_HoldOf PM.std) (impl_HoldOf PM.std) n) (N := PM.std.fuel) cx_ok (.cons laws_szHoldS_g (.cons laws_toHoldS_g (.cons laws_eqHoldS_g (.cons spec_HoldOf_g (.cons impl_HoldOf_g .nil))))) mixed .nil laws_FnExactHoldOf_fn (by kernel_rfl) ⟨rfl, fun _ _ _ => rfl, fun n cur σ K r h => by cases h⟩
      ((laws_FnExactHoldOf_ok PM.std (laws_szHoldS PM.std) (laws_toHoldS PM.std) (laws_eqHoldS PM.std) (spec_HoldOf PM.std) (impl_HoldOf PM.std) _ _ _ k).trans h)
  · cases h

abbrev spec_HoldFree_T := (List (List Int)) → (Int) → ((List (List Int)) → PM.R) → PM.R
noncomputable def spec_HoldFree_w (c : spec_HoldFree_T) (ds : List PM.V) (k : PM.V → PM.R) : PM.R :=
  match ds with
  | [.arr (.vecs 73 3 l), .int .i64 who] => c l who (fun r0 => k (.arr (.vecs 73 3 r0)))
  | _ => none
noncomputable def spec_HoldFree_l0 (A : PM.Prims) (c_37 : spec_HoldsOk_T) : Nat → (List (List Int)) → (Int) → (Bool) → (Int) → (List (List Int)) → ((List (List Int)) → PM.R) → PM.R
  | 0, _, _, _, _, _, _ => none
  | n + 1, l2, who3, free4, i5, o06, kx0_0 =>
    bif (A.lt i5 (A.vlen l2)) then
      bif (A.not free4) then
        bif (A.inb i5 (A.vlen l2)) then
          bif (A.room (A.vlen o06) (A.vlen [[(A.vget l2 i5 0), (A.vget l2 i5 1), (A.vget l2 i5 2)]])) then
            spec_HoldFree_l0 A c_37 n l2 who3 free4 (A.add .i64 i5 1) (A.vapp o06 [[(A.vget l2 i5 0), (A.vget l2 i5 1), (A.vget l2 i5 2)]]) kx0_0
          else
            none
        else
          none
      else
        bif (A.inb i5 (A.vlen l2)) then
          bif (A.not (A.eq (A.vget l2 i5 0) who3)) then
            bif (A.inb i5 (A.vlen l2)) then
              bif (A.room (A.vlen o06) (A.vlen [[(A.vget l2 i5 0), (A.vget l2 i5 1), (A.vget l2 i5 2)]])) then
                spec_HoldFree_l0 A c_37 n l2 who3 free4 (A.add .i64 i5 1) (A.vapp o06 [[(A.vget l2 i5 0), (A.vget l2 i5 1), (A.vget l2 i5 2)]]) kx0_0
              else
                none
            else
              none
          else
            spec_HoldFree_l0 A c_37 n l2 who3 free4 (A.add .i64 i5 1) o06 kx0_0
        else
          none
    else
      kx0_0 o06
noncomputable def spec_HoldFree_f (A : PM.Prims) (c_37 : spec_HoldsOk_T) (l : List (List Int)) (who : Int) (k : (List (List Int)) → PM.R) : PM.R :=
  c_37 l (fun r1 =>
    spec_HoldFree_l0 A c_37 A.fuel l who r1 0 [] (fun o078 =>
      k o078))
noncomputable def spec_HoldFree (A : PM.Prims) : spec_HoldFree_T := spec_HoldFree_f A (spec_HoldsOk A)
noncomputable def spec_HoldFree_L (A : PM.Prims) (c_37 : spec_HoldsOk_T) (n : Nat) : PM.Lam := fun cur σ K =>
  match cur, σ, K with
  | 0, ⟨[(0, .arr (.vecs 73 3 l2)), (1, .int .i64 who3), (5, .sref 0), (6, .bool free4), (7, .int .i64 i5)], [(0, .arr true (.vecs 73 3 o06))]⟩, K => spec_HoldFree_l0 A c_37 n l2 who3 free4 i5 o06 (fun o07 => K (.exit 0) ⟨[(5, .sref 0)], [(0, .arr true (.vecs 73 3 o07))]⟩)
  | _, _, _ => none
noncomputable def spec_HoldFree_E (A : PM.Prims) (c_37 : spec_HoldsOk_T) : PM.Env := ⟨[(37, ⟨[], spec_HoldsOk_w c_37, none⟩)], [], [(0, [0, 1, 5, 6, 7], [4, 5])], [(0, [0, 1]), (1, [0, 1, 5]), (2, [0, 1, 5, 6]), (3, [0, 1, 5, 6, 7]), (4, [0, 1, 5, 6, 7, 14]), (5, [0, 1, 5, 6, 7]), (6, [0, 1, 5, 6, 7, 27]), (7, [0, 1, 5, 6, 7]), (8, [4])], spec_HoldFree_L A c_37 A.fuel⟩
theorem spec_HoldFree_l0_ok (A : PM.Prims) (c_37 : spec_HoldsOk_T) (n : Nat) (l2 : List (List Int)) (who3 : Int) (free4 : Bool) (i5 : Int) (o06 : List (List Int)) (K : Go.Exit → PM.S → PM.R) : spec_HoldFree_L A c_37 (n + 1) 0 ⟨[(0, .arr (.vecs 73 3 l2)), (1, .int .i64 who3), (5, .sref 0), (6, .bool free4), (7, .int .i64 i5)], [(0, .arr true (.vecs 73 3 o06))]⟩ K = PM.roundF A cx (PM.runD A cx (spec_HoldFree_E A c_37).inl (spec_HoldFree_E A c_37).Γ 3) (spec_HoldFree_E A c_37) (spec_HoldFree_L A c_37 n) 0 Go.Proofs.Try.f49 ⟨[(0, .arr (.vecs 73 3 l2)), (1, .int .i64 who3), (5, .sref 0), (6, .bool free4), (7, .int .i64 i5)], [(0, .arr true (.vecs 73 3 o06))]⟩ K := by kernel_rfl
theorem spec_HoldFree_ok (A : PM.Prims) (c_37 : spec_HoldsOk_T) (l : List (List Int)) (who : Int) (k : PM.V → PM.R) : PM.pfun A cx [] (spec_HoldFree_E A c_37) Go.Proofs.Try.f49 [.arr (.vecs 73 3 l), .int .i64 who] k = spec_HoldFree_f A c_37 l who (fun r0 => k (.arr (.vecs 73 3 r0))) := by kernel_rfl

theorem spec_HoldFree_fn : PM.FnIs Try.prog 49 Try.f49 := .of Try.func49 (by kernel_rfl) (by kernel_rfl)
theorem spec_HoldFree_g : PM.GOk Try.prog cx 49 ⟨[], spec_HoldFree_w (spec_HoldFree PM.std), none⟩ := by
  refine ⟨spec_HoldFree_fn.enter, fun _ ds k r h => ?_, fun hm => absurd rfl hm, fun _ e => (by cases e)⟩
  change spec_HoldFree_w (spec_HoldFree PM.std) ds k = some r at h
  unfold spec_HoldFree_w at h
  split at h
  · exact PM.pfun_ok (E := spec_HoldFree_E PM.std (spec_HoldsOk PM.std)) (L := fun n => spec_HoldFree_L PM.std (spec_HoldsOk PM.std) n) (N := PM.std.fuel) cx_ok (.cons spec_HoldsOk_g .nil) mixed .nil spec_HoldFree_fn (by kernel_rfl) ⟨rfl, fun cur σ K => by
      dsimp only [spec_HoldFree_L]
      split <;> rfl, fun n cur σ K r h => by
      dsimp only [spec_HoldFree_L] at h
      split at h
      · exact (spec_HoldFree_l0_ok PM.std (spec_HoldsOk PM.std) n _ _ _ _ _ K).symm.trans h
      · cases h⟩
      ((spec_HoldFree_ok PM.std (spec_HoldsOk PM.std) _ _ k).trans h)
  · cases h

abbrev impl_copyHolds_T := (List (List Int)) → ((List (List Int)) → PM.R) → PM.R
noncomputable def impl_copyHolds_w (c : impl_copyHolds_T) (ds : List PM.V) (k : PM.V → PM.R) : PM.R :=
  match ds with
  | [.arr (.vecs 73 3 l)] => c l (fun r0 => k (.arr (.vecs 73 3 r0)))
  | _ => none
noncomputable def impl_copyHolds_f (A : PM.Prims) (l : List (List Int)) (k : (List (List Int)) → PM.R) : PM.R :=
  bif (A.room (A.vlen []) (A.vlen l)) then
    k (A.vapp [] l)
  else
    none
noncomputable def impl_copyHolds (A : PM.Prims) : impl_copyHolds_T := impl_copyHolds_f A
noncomputable def impl_copyHolds_L (A : PM.Prims) (n : Nat) : PM.Lam := fun cur σ K =>
  match cur, σ, K with
  | _, _, _ => none
noncomputable def impl_copyHolds_E (A : PM.Prims) : PM.Env := ⟨[], [], [], [(0, [0]), (1, [2])], impl_copyHolds_L A A.fuel⟩
theorem impl_copyHolds_ok (A : PM.Prims) (l : List (List Int)) (k : PM.V → PM.R) : PM.pfun A cx [] (impl_copyHolds_E A) Go.Proofs.Try.f113 [.arr (.vecs 73 3 l)] k = impl_copyHolds_f A l (fun r0 => k (.arr (.vecs 73 3 r0))) := by kernel_rfl

theorem impl_copyHolds_fn : PM.FnIs Try.prog 113 Try.f113 := .of Try.func113 (by kernel_rfl) (by kernel_rfl)
theorem impl_copyHolds_g : PM.GOk Try.prog cx 113 ⟨[], impl_copyHolds_w (impl_copyHolds PM.std), none⟩ := by
  refine ⟨impl_copyHolds_fn.enter, fun _ ds k r h => ?_, fun hm => absurd rfl hm, fun _ e => (by cases e)⟩
  change impl_copyHolds_w (impl_copyHolds PM.std) ds k = some r at h
  unfold impl_copyHolds_w at h
  split at h
  · exact PM.pfun_ok (E := impl_copyHolds_E PM.std) (L := fun n => impl_copyHolds_L PM.std n) (N := PM.std.fuel) cx_ok .nil mixed .nil impl_copyHolds_fn (by kernel_rfl) ⟨rfl, fun _ _ _ => rfl, fun n cur σ K r h => by cases h⟩
      ((impl_copyHolds_ok PM.std _ k).trans h)
  · cases h

abbrev impl_HoldFree_T := (List (List Int)) → (Int) → ((List (List Int)) → PM.R) → PM.R
noncomputable def impl_HoldFree_w (c : impl_HoldFree_T) (ds : List PM.V) (k : PM.V → PM.R) : PM.R :=
  match ds with
  | [.arr (.vecs 73 3 l), .int .i64 who] => c l who (fun r0 => k (.arr (.vecs 73 3 r0)))
  | _ => none
noncomputable def impl_HoldFree_f (A : PM.Prims) (c_39 : impl_HoldsOk_T) (c_113 : impl_copyHolds_T) (l : List (List Int)) (who : Int) (k : (List (List Int)) → PM.R) : PM.R :=
  c_113 l (fun r1 =>
    c_39 l (fun r2 =>
      bif (A.not r2) then
        k r1
      else
        none))
noncomputable def impl_HoldFree (A : PM.Prims) : impl_HoldFree_T := impl_HoldFree_f A (impl_HoldsOk A) (impl_copyHolds A)
noncomputable def impl_HoldFree_L (A : PM.Prims) (c_39 : impl_HoldsOk_T) (c_113 : impl_copyHolds_T) (n : Nat) : PM.Lam := fun cur σ K =>
  match cur, σ, K with
  | _, _, _ => none
noncomputable def impl_HoldFree_E (A : PM.Prims) (c_39 : impl_HoldsOk_T) (c_113 : impl_copyHolds_T) : PM.Env := ⟨[(39, ⟨[], impl_HoldsOk_w c_39, none⟩), (113, ⟨[], impl_copyHolds_w c_113, none⟩)], [], [], [(0, [0, 3]), (1, [0, 3, 5]), (2, [3, 5, 10]), (3, [4]), (4, [4])], impl_HoldFree_L A c_39 c_113 A.fuel⟩
theorem impl_HoldFree_ok (A : PM.Prims) (c_39 : impl_HoldsOk_T) (c_113 : impl_copyHolds_T) (l : List (List Int)) (who : Int) (k : PM.V → PM.R) : PM.pfun A cx [] (impl_HoldFree_E A c_39 c_113) Go.Proofs.Try.f50 [.arr (.vecs 73 3 l), .int .i64 who] k = impl_HoldFree_f A c_39 c_113 l who (fun r0 => k (.arr (.vecs 73 3 r0))) := by kernel_rfl

theorem impl_HoldFree_fn : PM.FnIs Try.prog 50 Try.f50 := .of Try.func50 (by kernel_rfl) (by kernel_rfl)
theorem impl_HoldFree_g : PM.GOk Try.prog cx 50 ⟨[], impl_HoldFree_w (impl_HoldFree PM.std), none⟩ := by
  refine ⟨impl_HoldFree_fn.enter, fun _ ds k r h => ?_, fun hm => absurd rfl hm, fun _ e => (by cases e)⟩
  change impl_HoldFree_w (impl_HoldFree PM.std) ds k = some r at h
  unfold impl_HoldFree_w at h
  split at h
  · exact PM.pfun_ok (E := impl_HoldFree_E PM.std (impl_HoldsOk PM.std) (impl_copyHolds PM.std)) (L := fun n => impl_HoldFree_L PM.std (impl_HoldsOk PM.std) (impl_copyHolds PM.std) n) (N := PM.std.fuel) cx_ok (.cons impl_HoldsOk_g (.cons impl_copyHolds_g .nil)) mixed .nil impl_HoldFree_fn (by kernel_rfl) ⟨rfl, fun _ _ _ => rfl, fun n cur σ K r h => by cases h⟩
      ((impl_HoldFree_ok PM.std (impl_HoldsOk PM.std) (impl_copyHolds PM.std) _ _ k).trans h)
  · cases h

abbrev laws_heldHoldS_T := (List (List Int)) → (Int) → ((Int) → PM.R) → PM.R
noncomputable def laws_heldHoldS_w (c : laws_heldHoldS_T) (ds : List PM.V) (k : PM.V → PM.R) : PM.R :=
  match ds with
  | [.arr (.vecs 73 3 a), .int .i64 k_] => c a k_ (fun r0 => k (.int .i64 r0))
  | _ => none
noncomputable def laws_heldHoldS_l0 (A : PM.Prims) : Nat → (List (List Int)) → (Int) → (Int) → ((Int) → PM.R) → ((Int) → PM.R) → PM.R
  | 0, _, _, _, _, _ => none
  | n + 1, a1, k2, i3, kret_0, kx0_0 =>
    bif (A.lt i3 (A.vlen a1)) then
      bif (A.inb i3 (A.vlen a1)) then
        bif (A.not (A.eq (A.vget a1 i3 0) k2)) then
          kret_0 (-1)
        else
          bif (A.inb i3 (A.vlen a1)) then
            bif (A.not (A.eq (A.vget a1 i3 1) (A.add .i64 k2 1))) then
              kret_0 (-1)
            else
              bif (A.inb i3 (A.vlen a1)) then
                bif (A.not (A.eq (A.vget a1 i3 2) (A.add .i64 (A.add .i64 k2 1) 1))) then
                  kret_0 (-1)
                else
                  laws_heldHoldS_l0 A n a1 (A.add .i64 (A.add .i64 (A.add .i64 k2 1) 1) 1) (A.add .i64 i3 1) kret_0 kx0_0
              else
                none
          else
            none
      else
        none
    else
      kx0_0 k2
noncomputable def laws_heldHoldS_f (A : PM.Prims) (a : List (List Int)) (k_ : Int) (k : (Int) → PM.R) : PM.R :=
  laws_heldHoldS_l0 A A.fuel a k_ 0 (fun t446 =>
    k t446) (fun k57 =>
    k k57)
noncomputable def laws_heldHoldS (A : PM.Prims) : laws_heldHoldS_T := laws_heldHoldS_f A
noncomputable def laws_heldHoldS_L (A : PM.Prims) (n : Nat) : PM.Lam := fun cur σ K =>
  match cur, σ, K with
  | 0, ⟨[(0, .arr (.vecs 73 3 a1)), (1, .int .i64 k2), (5, .int .i64 i3)], []⟩, K => laws_heldHoldS_l0 A n a1 k2 i3 (fun t44 => K .ret ⟨[(4, .int .i64 t44)], []⟩) (fun k5 => K (.exit 0) ⟨[(1, .int .i64 k5)], []⟩)
  | _, _, _ => none
noncomputable def laws_heldHoldS_E (A : PM.Prims) : PM.Env := ⟨[], [], [(0, [0, 1, 5], [1, 4])], [(0, [0, 1]), (1, [0, 1, 5]), (2, [0, 1, 5, 9]), (3, [0, 1, 5]), (4, [0, 1, 5, 18]), (5, [4]), (6, [0, 1, 5]), (7, [0, 1, 5, 27]), (8, [4]), (9, [0, 1, 5]), (10, [0, 1, 5, 36]), (11, [4]), (12, [0, 1, 5]), (13, [4])], laws_heldHoldS_L A A.fuel⟩
theorem laws_heldHoldS_l0_ok (A : PM.Prims) (n : Nat) (a1 : List (List Int)) (k2 : Int) (i3 : Int) (K : Go.Exit → PM.S → PM.R) : laws_heldHoldS_L A (n + 1) 0 ⟨[(0, .arr (.vecs 73 3 a1)), (1, .int .i64 k2), (5, .int .i64 i3)], []⟩ K = PM.roundF A cx (PM.runD A cx (laws_heldHoldS_E A).inl (laws_heldHoldS_E A).Γ 3) (laws_heldHoldS_E A) (laws_heldHoldS_L A n) 0 Go.Proofs.Try.f51 ⟨[(0, .arr (.vecs 73 3 a1)), (1, .int .i64 k2), (5, .int .i64 i3)], []⟩ K := by kernel_rfl
theorem laws_heldHoldS_ok (A : PM.Prims) (a : List (List Int)) (k_ : Int) (k : PM.V → PM.R) : PM.pfun A cx [] (laws_heldHoldS_E A) Go.Proofs.Try.f51 [.arr (.vecs 73 3 a), .int .i64 k_] k = laws_heldHoldS_f A a k_ (fun r0 => k (.int .i64 r0)) := by kernel_rfl

theorem laws_heldHoldS_fn : PM.FnIs Try.prog 51 Try.f51 := .of Try.func51 (by kernel_rfl) (by kernel_rfl)
theorem laws_heldHoldS_g : PM.GOk Try.prog cx 51 ⟨[], laws_heldHoldS_w (laws_heldHoldS PM.std), none⟩ := by
  refine ⟨laws_heldHoldS_fn.enter, fun _ ds k r h => ?_, fun hm => absurd rfl hm, fun _ e => (by cases e)⟩
  change laws_heldHoldS_w (laws_heldHoldS PM.std) ds k = some r at h
  unfold laws_heldHoldS_w at h
  split at h
  · exact PM.pfun_ok (E := laws_heldHoldS_E PM.std) (L := fun n => laws_heldHoldS_L PM.std n) (N := PM.std.fuel) cx_ok .nil mixed .nil laws_heldHoldS_fn (by kernel_rfl) ⟨rfl, fun cur σ K => by
      dsimp only [laws_heldHoldS_L]
      split <;> rfl, fun n cur σ K r h => by
      dsimp only [laws_heldHoldS_L] at h
      split at h
      · exact (laws_heldHoldS_l0_ok PM.std n _ _ _ K).symm.trans h
      · cases h⟩
      ((laws_heldHoldS_ok PM.std _ _ k).trans h)
  · cases h

abbrev laws_FnExactHoldFree_T := (List (List Int)) → (Int) → ((Bool) → PM.R) → PM.R
noncomputable def laws_FnExactHoldFree_w (c : laws_FnExactHoldFree_T) (ds : List PM.V) (k : PM.V → PM.R) : PM.R :=
  match ds with
  | [.arr (.vecs 124 3 __), .int .i64 a] => c __ a (fun r0 => k (.bool r0))
  | _ => none
noncomputable def laws_FnExactHoldFree_f (A : PM.Prims) (c_36 : laws_szHoldS_T) (c_38 : laws_toHoldS_T) (c_40 : laws_eqHoldS_T) (c_46 : laws_markHoldS_T) (c_49 : spec_HoldFree_T) (c_50 : impl_HoldFree_T) (c_51 : laws_heldHoldS_T) (__ : List (List Int)) (a : Int) (k : (Bool) → PM.R) : PM.R :=
  c_36 __ 1048576 (fun r1 =>
    bif (A.lt r1 0) then
      k true
    else
      c_38 __ (fun r2 =>
        c_49 r2 a (fun r3 =>
          c_38 __ (fun r4 =>
            c_50 r4 a (fun r5 =>
              c_40 r5 r3 (fun r6 =>
                bif (A.not r6) then
                  k false
                else
                  c_38 __ (fun r7 =>
                    c_40 r4 r7 (fun r8 =>
                      bif (A.not r8) then
                        k false
                      else
                        c_46 r4 1 (fun r9 r10 =>
                          bif (A.lt r9 0) then
                            k false
                          else
                            c_40 r5 r3 (fun r11 =>
                              bif (A.not r11) then
                                k false
                              else
                                c_46 r5 1 (fun r12 r13 =>
                                  c_51 r13 1 (fun r14 =>
                                    bif (A.lt r14 0) then
                                      k false
                                    else
                                      bif (A.not (A.eq r14 r12)) then
                                        k false
                                      else
                                        c_38 __ (fun r15 =>
                                          c_50 r15 a (fun r16 =>
                                            c_40 r16 r3 (fun r17 =>
                                              bif (A.not r17) then
                                                k false
                                              else
                                                c_51 r13 1 (fun r18 =>
                                                  bif (A.lt r18 0) then
                                                    k false
                                                  else
                                                    bif (A.not (A.eq r18 r12)) then
                                                      k false
                                                    else
                                                      k true))))))))))))))))
noncomputable def laws_FnExactHoldFree (A : PM.Prims) : laws_FnExactHoldFree_T := laws_FnExactHoldFree_f A (laws_szHoldS A) (laws_toHoldS A) (laws_eqHoldS A) (laws_markHoldS A) (spec_HoldFree A) (impl_HoldFree A) (laws_heldHoldS A)
noncomputable def laws_FnExactHoldFree_L (A : PM.Prims) (c_36 : laws_szHoldS_T) (c_38 : laws_toHoldS_T) (c_40 : laws_eqHoldS_T) (c_46 : laws_markHoldS_T) (c_49 : spec_HoldFree_T) (c_50 : impl_HoldFree_T) (c_51 : laws_heldHoldS_T) (n : Nat) : PM.Lam := fun cur σ K =>
  match cur, σ, K with
  | _, _, _ => none
noncomputable def laws_FnExactHoldFree_E (A : PM.Prims) (c_36 : laws_szHoldS_T) (c_38 : laws_toHoldS_T) (c_40 : laws_eqHoldS_T) (c_46 : laws_markHoldS_T) (c_49 : spec_HoldFree_T) (c_50 : impl_HoldFree_T) (c_51 : laws_heldHoldS_T) : PM.Env := ⟨[(36, ⟨[], laws_szHoldS_w c_36, none⟩), (38, ⟨[], laws_toHoldS_w c_38, none⟩), (40, ⟨[], laws_eqHoldS_w c_40, none⟩), (46, ⟨[true, false], laws_markHoldS_w c_46, none⟩), (49, ⟨[], spec_HoldFree_w c_49, none⟩), (50, ⟨[], impl_HoldFree_w c_50, none⟩), (51, ⟨[], laws_heldHoldS_w c_51, none⟩)], [], [], [(0, [0, 1]), (1, [0, 1, 5]), (2, [0, 1, 5]), (3, [0, 1, 17]), (4, [4]), (5, [0, 1, 6]), (6, [0, 1, 6, 7]), (7, [0, 1, 6, 7, 8]), (8, [0, 1, 6, 7, 8, 30]), (9, [4]), (10, [0, 1, 6, 7, 8, 35]), (11, [4]), (12, [0, 1, 6, 7, 8, 9]), (13, [0, 1, 6, 8, 9]), (14, [0, 1, 6, 8, 46]), (15, [4]), (16, [0, 1, 6, 8, 10]), (17, [0, 1, 6, 8, 10]), (18, [0, 1, 6, 8, 10, 11]), (19, [0, 1, 6, 8, 10, 11]), (20, [0, 1, 6, 8, 10, 11, 54]), (21, [4]), (22, [0, 1, 6, 8, 10, 57]), (23, [4]), (24, [6, 8, 10, 12]), (25, [8, 10, 65]), (26, [4]), (27, [8, 10, 11]), (28, [10, 11]), (29, [10, 11, 70]), (30, [4]), (31, [73]), (32, [4]), (33, [4])], laws_FnExactHoldFree_L A c_36 c_38 c_40 c_46 c_49 c_50 c_51 A.fuel⟩
theorem laws_FnExactHoldFree_ok (A : PM.Prims) (c_36 : laws_szHoldS_T) (c_38 : laws_toHoldS_T) (c_40 : laws_eqHoldS_T) (c_46 : laws_markHoldS_T) (c_49 : spec_HoldFree_T) (c_50 : impl_HoldFree_T) (c_51 : laws_heldHoldS_T) (__ : List (List Int)) (a : Int) (k : PM.V → PM.R) : PM.pfun A cx [] (laws_FnExactHoldFree_E A c_36 c_38 c_40 c_46 c_49 c_50 c_51) Go.Proofs.Try.f10 [.arr (.vecs 124 3 __), .int .i64 a] k = laws_FnExactHoldFree_f A c_36 c_38 c_40 c_46 c_49 c_50 c_51 __ a (fun r0 => k (.bool r0)) := by kernel_rfl

theorem laws_FnExactHoldFree_fn : PM.FnIs Try.prog 10 Try.f10 := .of Try.func10 (by kernel_rfl) (by kernel_rfl)
theorem laws_FnExactHoldFree_g : PM.GOk Try.prog cx 10 ⟨[], laws_FnExactHoldFree_w (laws_FnExactHoldFree PM.std), none⟩ := by
  refine ⟨laws_FnExactHoldFree_fn.enter, fun _ ds k r h => ?_, fun hm => absurd rfl hm, fun _ e => (by cases e)⟩
  change laws_FnExactHoldFree_w (laws_FnExactHoldFree PM.std) ds k = some r at h
  unfold laws_FnExactHoldFree_w at h
  split at h
  · exact PM.pfun_ok (E := laws_FnExactHoldFree_E PM.std (laws_szHoldS PM.std) (laws_toHoldS PM.std) (laws_eqHoldS PM.std) (laws_markHoldS PM.std) (spec_HoldFree PM.std) (impl_HoldFree PM.std) (laws_heldHoldS PM.std)) (L := fun n => laws_FnExactHoldFree_L PM.std (laws_szHoldS PM.std) (laws_toHoldS PM.std) (laws_eqHoldS PM.std) (laws_markHoldS PM.std) (spec_HoldFree PM.std) (impl_HoldFree PM.std) (laws_heldHoldS PM.std) n) (N := PM.std.fuel) cx_ok (.cons laws_szHoldS_g (.cons laws_toHoldS_g (.cons laws_eqHoldS_g (.cons laws_markHoldS_g (.cons spec_HoldFree_g (.cons impl_HoldFree_g (.cons laws_heldHoldS_g .nil))))))) mixed .nil laws_FnExactHoldFree_fn (by kernel_rfl) ⟨rfl, fun _ _ _ => rfl, fun n cur σ K r h => by cases h⟩
      ((laws_FnExactHoldFree_ok PM.std (laws_szHoldS PM.std) (laws_toHoldS PM.std) (laws_eqHoldS PM.std) (laws_markHoldS PM.std) (spec_HoldFree PM.std) (impl_HoldFree PM.std) (laws_heldHoldS PM.std) _ _ k).trans h)
  · cases h

abbrev spec_CommitBreak_T := (Int) → (Int) → (Int) → (Int) → (Int) → (List (List Int)) → (List Int) → ((Int) → (Int) → (Int) → (Int) → (Int) → (List (List Int)) → (List Int) → (Bool) → PM.R) → PM.R
noncomputable def spec_CommitBreak_w (c : spec_CommitBreak_T) (ds : List PM.V) (k : PM.V → PM.R) : PM.R :=
  match ds with
  | [.agg [.int .i64 c_Who, .int .i64 c_Rv, .int .i64 c_Phase, .int .i64 c_At, .int .i64 c_Wv, .arr (.vecs 135 2 c_Puts), .arr (.ints 3 .i64 c_Reads)]] => c c_Who c_Rv c_Phase c_At c_Wv c_Puts c_Reads (fun r0_Who r0_Rv r0_Phase r0_At r0_Wv r0_Puts r0_Reads r1 => k (.tup [.agg [.int .i64 r0_Who, .int .i64 r0_Rv, .int .i64 r0_Phase, .int .i64 r0_At, .int .i64 r0_Wv, .arr (.vecs 135 2 r0_Puts), .arr (.ints 3 .i64 r0_Reads)], .bool r1]))
  | _ => none
noncomputable def spec_CommitBreak_f (A : PM.Prims) (c_60 : spec_CommitOk_T) (c_131 : spec_l10Copy_T) (c_Who : Int) (c_Rv : Int) (c_Phase : Int) (c_At : Int) (c_Wv : Int) (c_Puts : List (List Int)) (c_Reads : List Int) (k : (Int) → (Int) → (Int) → (Int) → (Int) → (List (List Int)) → (List Int) → (Bool) → PM.R) : PM.R :=
  c_131 c_Who c_Rv c_Phase c_At c_Wv c_Puts c_Reads (fun r1 r2 r3 r4 r5 r6 r7 =>
    c_60 c_Who c_Rv c_Phase c_At c_Wv c_Puts c_Reads (fun r8 =>
      bif (A.not r8) then
        k r1 r2 r3 r4 r5 r6 r7 false
      else
        bif (A.lt 3 c_Phase) then
          k r1 r2 r3 r4 r5 r6 r7 false
        else
          bif (A.eq c_Phase 1) then
            bif (A.eq c_At 0) then
              k r1 r2 8 0 r5 r6 r7 true
            else
              k r1 r2 7 (A.sub .i64 c_At 1) r5 r6 r7 true
          else
            bif (A.eq (A.vlen c_Puts) 0) then
              k r1 r2 8 0 r5 r6 r7 true
            else
              k r1 r2 7 (A.sub .i64 (A.vlen c_Puts) 1) r5 r6 r7 true))
noncomputable def spec_CommitBreak (A : PM.Prims) : spec_CommitBreak_T := spec_CommitBreak_f A (spec_CommitOk A) (spec_l10Copy A)
noncomputable def spec_CommitBreak_L (A : PM.Prims) (c_60 : spec_CommitOk_T) (c_131 : spec_l10Copy_T) (n : Nat) : PM.Lam := fun cur σ K =>
  match cur, σ, K with
  | _, _, _ => none
noncomputable def spec_CommitBreak_E (A : PM.Prims) (c_60 : spec_CommitOk_T) (c_131 : spec_l10Copy_T) : PM.Env := ⟨[(60, ⟨[], spec_CommitOk_w c_60, none⟩), (131, ⟨[], spec_l10Copy_w c_131, none⟩), (132, ⟨[], fun _ _ => none, some (PM.spT (X.l10Back_t A))⟩)], [], [], [(0, [1, 2]), (1, [1, 2, 4]), (2, [1, 2, 4, 14]), (3, [2, 3]), (4, [1, 2, 4, 18]), (5, [2, 3]), (6, [2, 3])], spec_CommitBreak_L A c_60 c_131 A.fuel⟩
theorem spec_CommitBreak_ok (A : PM.Prims) (c_60 : spec_CommitOk_T) (c_131 : spec_l10Copy_T) (c_Who : Int) (c_Rv : Int) (c_Phase : Int) (c_At : Int) (c_Wv : Int) (c_Puts : List (List Int)) (c_Reads : List Int) (k : PM.V → PM.R) : PM.pfun A cx [] (spec_CommitBreak_E A c_60 c_131) Go.Proofs.Try.f74 [.agg [.int .i64 c_Who, .int .i64 c_Rv, .int .i64 c_Phase, .int .i64 c_At, .int .i64 c_Wv, .arr (.vecs 135 2 c_Puts), .arr (.ints 3 .i64 c_Reads)]] k = spec_CommitBreak_f A c_60 c_131 c_Who c_Rv c_Phase c_At c_Wv c_Puts c_Reads (fun r0_Who r0_Rv r0_Phase r0_At r0_Wv r0_Puts r0_Reads r1 => k (.tup [.agg [.int .i64 r0_Who, .int .i64 r0_Rv, .int .i64 r0_Phase, .int .i64 r0_At, .int .i64 r0_Wv, .arr (.vecs 135 2 r0_Puts), .arr (.ints 3 .i64 r0_Reads)], .bool r1])) := by kernel_rfl

theorem spec_CommitBreak_fn : PM.FnIs Try.prog 74 Try.f74 := .of Try.func74 (by kernel_rfl) (by kernel_rfl)
theorem spec_CommitBreak_g : PM.GOk Try.prog cx 74 ⟨[], spec_CommitBreak_w (spec_CommitBreak PM.std), none⟩ := by
  refine ⟨spec_CommitBreak_fn.enter, fun _ ds k r h => ?_, fun hm => absurd rfl hm, fun _ e => (by cases e)⟩
  change spec_CommitBreak_w (spec_CommitBreak PM.std) ds k = some r at h
  unfold spec_CommitBreak_w at h
  split at h
  · exact PM.pfun_ok (E := spec_CommitBreak_E PM.std (spec_CommitOk PM.std) (spec_l10Copy PM.std)) (L := fun n => spec_CommitBreak_L PM.std (spec_CommitOk PM.std) (spec_l10Copy PM.std) n) (N := PM.std.fuel) cx_ok (.cons spec_CommitOk_g (.cons spec_l10Copy_g (.cons X.l10Back_gok .nil))) mixed .nil spec_CommitBreak_fn (by kernel_rfl) ⟨rfl, fun _ _ _ => rfl, fun n cur σ K r h => by cases h⟩
      ((spec_CommitBreak_ok PM.std (spec_CommitOk PM.std) (spec_l10Copy PM.std) _ _ _ _ _ _ _ k).trans h)
  · cases h

abbrev laws_FnExactCommitBreak_T := (Int) → (Int) → (Int) → (Int) → (Int) → (List (List Int)) → (List Int) → ((Bool) → PM.R) → PM.R
noncomputable def laws_FnExactCommitBreak_w (c : laws_FnExactCommitBreak_T) (ds : List PM.V) (k : PM.V → PM.R) : PM.R :=
  match ds with
  | [.agg [.int .i64 ___Who, .int .i64 ___Rv, .int .i64 ___Phase, .int .i64 ___At, .int .i64 ___Wv, .arr (.vecs 139 2 ___Puts), .arr (.ints 3 .i64 ___Reads)]] => c ___Who ___Rv ___Phase ___At ___Wv ___Puts ___Reads (fun r0 => k (.bool r0))
  | _ => none
noncomputable def laws_FnExactCommitBreak_f (A : PM.Prims) (c_59 : laws_szCommit_T) (c_61 : laws_toCommit_T) (c_63 : laws_eqCommit_T) (c_72 : laws_markCommit_T) (c_73 : laws_heldCommit_T) (c_75 : impl_CommitBreak_T) (c_74 : spec_CommitBreak_T) (___Who : Int) (___Rv : Int) (___Phase : Int) (___At : Int) (___Wv : Int) (___Puts : List (List Int)) (___Reads : List Int) (k : (Bool) → PM.R) : PM.R :=
  c_59 ___Who ___Rv ___Phase ___At ___Wv ___Puts ___Reads 1048576 (fun r1 =>
    bif (A.lt r1 0) then
      k true
    else
      c_61 ___Who ___Rv ___Phase ___At ___Wv ___Puts ___Reads (fun r2 r3 r4 r5 r6 r7 r8 =>
        c_74 r2 r3 r4 r5 r6 r7 r8 (fun r9 r10 r11 r12 r13 r14 r15 r16 =>
          c_61 ___Who ___Rv ___Phase ___At ___Wv ___Puts ___Reads (fun r17 r18 r19 r20 r21 r22 r23 =>
            c_75 r17 r18 r19 r20 r21 r22 r23 (fun r24 r25 r26 r27 r28 r29 r30 r31 =>
              c_63 r24 r25 r26 r27 r28 r29 r30 r9 r10 r11 r12 r13 r14 r15 (fun r32 =>
                bif (A.not r32) then
                  k false
                else
                  bif (A.not (A.beq r31 r16)) then
                    k false
                  else
                    c_61 ___Who ___Rv ___Phase ___At ___Wv ___Puts ___Reads (fun r33 r34 r35 r36 r37 r38 r39 =>
                      c_63 r17 r18 r19 r20 r21 r22 r23 r33 r34 r35 r36 r37 r38 r39 (fun r40 =>
                        bif (A.not r40) then
                          k false
                        else
                          c_72 r17 r18 r19 r20 r21 r22 r23 1 (fun r41 r42 r43 =>
                            bif (A.lt r41 0) then
                              k false
                            else
                              c_63 r24 r25 r26 r27 r28 r29 r30 r9 r10 r11 r12 r13 r14 r15 (fun r44 =>
                                bif (A.not r44) then
                                  k false
                                else
                                  bif (A.not (A.beq r31 r16)) then
                                    k false
                                  else
                                    c_72 r24 r25 r26 r27 r28 r29 r30 1 (fun r45 r46 r47 =>
                                      c_73 r24 r25 r26 r27 r28 r46 r47 1 (fun r48 =>
                                        bif (A.lt r48 0) then
                                          k false
                                        else
                                          bif (A.not (A.eq r48 r45)) then
                                            k false
                                          else
                                            c_61 ___Who ___Rv ___Phase ___At ___Wv ___Puts ___Reads (fun r49 r50 r51 r52 r53 r54 r55 =>
                                              c_75 r49 r50 r51 r52 r53 r54 r55 (fun r56 r57 r58 r59 r60 r61 r62 r63 =>
                                                c_63 r56 r57 r58 r59 r60 r61 r62 r9 r10 r11 r12 r13 r14 r15 (fun r64 =>
                                                  bif (A.not r64) then
                                                    k false
                                                  else
                                                    bif (A.not (A.beq r63 r16)) then
                                                      k false
                                                    else
                                                      c_73 r24 r25 r26 r27 r28 r46 r47 1 (fun r65 =>
                                                        bif (A.lt r65 0) then
                                                          k false
                                                        else
                                                          bif (A.not (A.eq r65 r45)) then
                                                            k false
                                                          else
                                                            k true))))))))))))))))
noncomputable def laws_FnExactCommitBreak (A : PM.Prims) : laws_FnExactCommitBreak_T := laws_FnExactCommitBreak_f A (laws_szCommit A) (laws_toCommit A) (laws_eqCommit A) (laws_markCommit A) (laws_heldCommit A) (impl_CommitBreak A) (spec_CommitBreak A)
noncomputable def laws_FnExactCommitBreak_L (A : PM.Prims) (c_59 : laws_szCommit_T) (c_61 : laws_toCommit_T) (c_63 : laws_eqCommit_T) (c_72 : laws_markCommit_T) (c_73 : laws_heldCommit_T) (c_75 : impl_CommitBreak_T) (c_74 : spec_CommitBreak_T) (n : Nat) : PM.Lam := fun cur σ K =>
  match cur, σ, K with
  | _, _, _ => none
noncomputable def laws_FnExactCommitBreak_E (A : PM.Prims) (c_59 : laws_szCommit_T) (c_61 : laws_toCommit_T) (c_63 : laws_eqCommit_T) (c_72 : laws_markCommit_T) (c_73 : laws_heldCommit_T) (c_75 : impl_CommitBreak_T) (c_74 : spec_CommitBreak_T) : PM.Env := ⟨[(59, ⟨[], laws_szCommit_w c_59, none⟩), (61, ⟨[], laws_toCommit_w c_61, none⟩), (63, ⟨[], laws_eqCommit_w c_63, none⟩), (72, ⟨[true, false], laws_markCommit_w c_72, none⟩), (73, ⟨[], laws_heldCommit_w c_73, none⟩), (75, ⟨[], impl_CommitBreak_w c_75, none⟩), (74, ⟨[], spec_CommitBreak_w c_74, none⟩)], [], [], [(0, [1]), (1, [1, 3]), (2, [1, 3]), (3, [1, 18]), (4, [2]), (5, [1, 4, 5]), (6, [1, 4, 5, 6]), (7, [1, 4, 5, 6, 7, 8]), (8, [1, 4, 5, 6, 7, 8, 40]), (9, [2]), (10, [1, 4, 5, 6, 7, 8, 45]), (11, [2]), (12, [1, 4, 5, 6, 7, 8, 9]), (13, [1, 4, 5, 7, 8, 9]), (14, [1, 4, 5, 7, 61]), (15, [2]), (16, [1, 4, 5, 7, 10]), (17, [1, 4, 5, 7, 10]), (18, [1, 4, 5, 7, 10, 11]), (19, [1, 4, 5, 7, 10, 11]), (20, [1, 4, 5, 7, 10, 11, 69]), (21, [2]), (22, [1, 4, 5, 7, 10, 72]), (23, [2]), (24, [4, 5, 7, 10, 12, 13]), (25, [7, 10, 87]), (26, [2]), (27, [7, 10, 11]), (28, [10, 11]), (29, [10, 11, 92]), (30, [2]), (31, [95]), (32, [2]), (33, [2])], laws_FnExactCommitBreak_L A c_59 c_61 c_63 c_72 c_73 c_75 c_74 A.fuel⟩
theorem laws_FnExactCommitBreak_ok (A : PM.Prims) (c_59 : laws_szCommit_T) (c_61 : laws_toCommit_T) (c_63 : laws_eqCommit_T) (c_72 : laws_markCommit_T) (c_73 : laws_heldCommit_T) (c_75 : impl_CommitBreak_T) (c_74 : spec_CommitBreak_T) (___Who : Int) (___Rv : Int) (___Phase : Int) (___At : Int) (___Wv : Int) (___Puts : List (List Int)) (___Reads : List Int) (k : PM.V → PM.R) : PM.pfun A cx [] (laws_FnExactCommitBreak_E A c_59 c_61 c_63 c_72 c_73 c_75 c_74) Go.Proofs.Try.f17 [.agg [.int .i64 ___Who, .int .i64 ___Rv, .int .i64 ___Phase, .int .i64 ___At, .int .i64 ___Wv, .arr (.vecs 139 2 ___Puts), .arr (.ints 3 .i64 ___Reads)]] k = laws_FnExactCommitBreak_f A c_59 c_61 c_63 c_72 c_73 c_75 c_74 ___Who ___Rv ___Phase ___At ___Wv ___Puts ___Reads (fun r0 => k (.bool r0)) := by kernel_rfl

theorem laws_FnExactCommitBreak_fn : PM.FnIs Try.prog 17 Try.f17 := .of Try.func17 (by kernel_rfl) (by kernel_rfl)
theorem laws_FnExactCommitBreak_g : PM.GOk Try.prog cx 17 ⟨[], laws_FnExactCommitBreak_w (laws_FnExactCommitBreak PM.std), none⟩ := by
  refine ⟨laws_FnExactCommitBreak_fn.enter, fun _ ds k r h => ?_, fun hm => absurd rfl hm, fun _ e => (by cases e)⟩
  change laws_FnExactCommitBreak_w (laws_FnExactCommitBreak PM.std) ds k = some r at h
  unfold laws_FnExactCommitBreak_w at h
  split at h
  · exact PM.pfun_ok (E := laws_FnExactCommitBreak_E PM.std (laws_szCommit PM.std) (laws_toCommit PM.std) (laws_eqCommit PM.std) (laws_markCommit PM.std) (laws_heldCommit PM.std) (impl_CommitBreak PM.std) (spec_CommitBreak PM.std)) (L := fun n => laws_FnExactCommitBreak_L PM.std (laws_szCommit PM.std) (laws_toCommit PM.std) (laws_eqCommit PM.std) (laws_markCommit PM.std) (laws_heldCommit PM.std) (impl_CommitBreak PM.std) (spec_CommitBreak PM.std) n) (N := PM.std.fuel) cx_ok (.cons laws_szCommit_g (.cons laws_toCommit_g (.cons laws_eqCommit_g (.cons laws_markCommit_g (.cons laws_heldCommit_g (.cons impl_CommitBreak_g (.cons spec_CommitBreak_g .nil))))))) mixed .nil laws_FnExactCommitBreak_fn (by kernel_rfl) ⟨rfl, fun _ _ _ => rfl, fun n cur σ K r h => by cases h⟩
      ((laws_FnExactCommitBreak_ok PM.std (laws_szCommit PM.std) (laws_toCommit PM.std) (laws_eqCommit PM.std) (laws_markCommit PM.std) (laws_heldCommit PM.std) (impl_CommitBreak PM.std) (spec_CommitBreak PM.std) _ _ _ _ _ _ _ k).trans h)
  · cases h

abbrev spec_CommitStep_T := (Int) → (List (List Int)) → (Int) → (Int) → (Int) → (Int) → (Int) → (List (List Int)) → (List Int) → ((Int) → (List (List Int)) → (Int) → (Int) → (Int) → (Int) → (Int) → (List (List Int)) → (List Int) → PM.R) → PM.R
noncomputable def spec_CommitStep_w (c : spec_CommitStep_T) (ds : List PM.V) (k : PM.V → PM.R) : PM.R :=
  match ds with
  | [.agg [.int .i64 ___Clock, .arr (.vecs 49 3 ___Cells)], .agg [.int .i64 a_Who, .int .i64 a_Rv, .int .i64 a_Phase, .int .i64 a_At, .int .i64 a_Wv, .arr (.vecs 135 2 a_Puts), .arr (.ints 3 .i64 a_Reads)]] => c ___Clock ___Cells a_Who a_Rv a_Phase a_At a_Wv a_Puts a_Reads (fun r0_Clock r0_Cells r1_Who r1_Rv r1_Phase r1_At r1_Wv r1_Puts r1_Reads => k (.tup [.agg [.int .i64 r0_Clock, .arr (.vecs 49 3 r0_Cells)], .agg [.int .i64 r1_Who, .int .i64 r1_Rv, .int .i64 r1_Phase, .int .i64 r1_At, .int .i64 r1_Wv, .arr (.vecs 135 2 r1_Puts), .arr (.ints 3 .i64 r1_Reads)]]))
  | _ => none
noncomputable def spec_CommitStep_f (A : PM.Prims) (c_35 : spec_MemOk_T) (c_60 : spec_CommitOk_T) (c_131 : spec_l10Copy_T) (c_135 : spec_l3Copy_T) (c_136 : spec_Lock_T) (c_138 : spec_Tick_T) (c_139 : spec_Store_T) (c_140 : spec_Unlock_T) (___Clock : Int) (___Cells : List (List Int)) (a_Who : Int) (a_Rv : Int) (a_Phase : Int) (a_At : Int) (a_Wv : Int) (a_Puts : List (List Int)) (a_Reads : List Int) (k : (Int) → (List (List Int)) → (Int) → (Int) → (Int) → (Int) → (Int) → (List (List Int)) → (List Int) → PM.R) : PM.R :=
  c_135 ___Clock ___Cells (fun r1 r2 =>
    c_131 a_Who a_Rv a_Phase a_At a_Wv a_Puts a_Reads (fun r3 r4 r5 r6 r7 r8 r9 =>
      c_35 ___Clock ___Cells (fun r10 =>
        bif (A.not r10) then
          k r1 r2 r3 r4 r5 r6 r7 r8 r9
        else
          c_60 a_Who a_Rv a_Phase a_At a_Wv a_Puts a_Reads (fun r11 =>
            bif (A.not r11) then
              k r1 r2 r3 r4 r5 r6 r7 r8 r9
            else
              bif (A.eq a_Phase 1) then
                bif (A.inb a_At (A.vlen a_Puts)) then
                  c_136 ___Clock ___Cells (A.vget a_Puts a_At 0) a_Who (fun r12 r13 r14 =>
                    bif (A.not r14) then
                      bif (A.eq a_At 0) then
                        k r1 r2 r3 r4 8 0 r7 r8 r9
                      else
                        k r1 r2 r3 r4 7 (A.sub .i64 a_At 1) r7 r8 r9
                    else
                      bif (A.eq (A.add .i64 a_At 1) (A.vlen a_Puts)) then
                        bif (A.eq 2 3) then
                          bif (A.eq (A.ilen r9) 0) then
                            bif (A.eq 4 4) then
                              bif (A.eq (A.vlen r8) 0) then
                                k r12 r13 r3 r4 6 0 r7 r8 r9
                              else
                                k r12 r13 r3 r4 4 0 r7 r8 r9
                            else
                              k r12 r13 r3 r4 4 0 r7 r8 r9
                          else
                            bif (A.eq 2 4) then
                              bif (A.eq (A.vlen r8) 0) then
                                k r12 r13 r3 r4 6 0 r7 r8 r9
                              else
                                k r12 r13 r3 r4 2 0 r7 r8 r9
                            else
                              k r12 r13 r3 r4 2 0 r7 r8 r9
                        else
                          bif (A.eq 2 4) then
                            bif (A.eq (A.vlen r8) 0) then
                              k r12 r13 r3 r4 6 0 r7 r8 r9
                            else
                              k r12 r13 r3 r4 2 0 r7 r8 r9
                          else
                            k r12 r13 r3 r4 2 0 r7 r8 r9
                      else
                        k r12 r13 r3 r4 r5 (A.add .i64 a_At 1) r7 r8 r9)
                else
                  none
              else
                bif (A.eq a_Phase 2) then
                  c_138 ___Clock ___Cells (fun r15 r16 r17 =>
                    bif (A.eq r17 0) then
                      bif (A.eq (A.vlen a_Puts) 0) then
                        k r1 r2 r3 r4 8 0 r7 r8 r9
                      else
                        k r1 r2 r3 r4 7 (A.sub .i64 (A.vlen a_Puts) 1) r7 r8 r9
                    else
                      bif (A.eq 3 3) then
                        bif (A.eq (A.ilen r9) 0) then
                          bif (A.eq 4 4) then
                            bif (A.eq (A.vlen r8) 0) then
                              k r15 r16 r3 r4 6 0 r17 r8 r9
                            else
                              k r15 r16 r3 r4 4 0 r17 r8 r9
                          else
                            k r15 r16 r3 r4 4 0 r17 r8 r9
                        else
                          bif (A.eq 3 4) then
                            bif (A.eq (A.vlen r8) 0) then
                              k r15 r16 r3 r4 6 0 r17 r8 r9
                            else
                              k r15 r16 r3 r4 3 0 r17 r8 r9
                          else
                            k r15 r16 r3 r4 3 0 r17 r8 r9
                      else
                        bif (A.eq 3 4) then
                          bif (A.eq (A.vlen r8) 0) then
                            k r15 r16 r3 r4 6 0 r17 r8 r9
                          else
                            k r15 r16 r3 r4 3 0 r17 r8 r9
                        else
                          k r15 r16 r3 r4 3 0 r17 r8 r9)
                else
                  bif (A.eq a_Phase 3) then
                    bif (A.inb a_At (A.ilen a_Reads)) then
                      bif (A.inb (A.iget a_Reads a_At) (A.vlen ___Cells)) then
                        bif (A.not (A.eq (A.vget ___Cells (A.iget a_Reads a_At) 2) 0)) then
                          bif (A.not (A.eq (A.vget ___Cells (A.iget a_Reads a_At) 2) a_Who)) then
                            bif (A.eq (A.vlen a_Puts) 0) then
                              k r1 r2 r3 r4 8 0 r7 r8 r9
                            else
                              k r1 r2 r3 r4 7 (A.sub .i64 (A.vlen a_Puts) 1) r7 r8 r9
                          else
                            bif (A.lt a_Rv (A.vget ___Cells (A.iget a_Reads a_At) 1)) then
                              bif (A.eq (A.vlen a_Puts) 0) then
                                k r1 r2 r3 r4 8 0 r7 r8 r9
                              else
                                k r1 r2 r3 r4 7 (A.sub .i64 (A.vlen a_Puts) 1) r7 r8 r9
                            else
                              bif (A.eq (A.add .i64 a_At 1) (A.ilen a_Reads)) then
                                bif (A.eq 4 3) then
                                  bif (A.eq (A.ilen r9) 0) then
                                    bif (A.eq 4 4) then
                                      bif (A.eq (A.vlen r8) 0) then
                                        k r1 r2 r3 r4 6 0 r7 r8 r9
                                      else
                                        k r1 r2 r3 r4 4 0 r7 r8 r9
                                    else
                                      k r1 r2 r3 r4 4 0 r7 r8 r9
                                  else
                                    bif (A.eq 4 4) then
                                      bif (A.eq (A.vlen r8) 0) then
                                        k r1 r2 r3 r4 6 0 r7 r8 r9
                                      else
                                        k r1 r2 r3 r4 4 0 r7 r8 r9
                                    else
                                      k r1 r2 r3 r4 4 0 r7 r8 r9
                                else
                                  bif (A.eq 4 4) then
                                    bif (A.eq (A.vlen r8) 0) then
                                      k r1 r2 r3 r4 6 0 r7 r8 r9
                                    else
                                      k r1 r2 r3 r4 4 0 r7 r8 r9
                                  else
                                    k r1 r2 r3 r4 4 0 r7 r8 r9
                              else
                                k r1 r2 r3 r4 r5 (A.add .i64 a_At 1) r7 r8 r9
                        else
                          bif (A.lt a_Rv (A.vget ___Cells (A.iget a_Reads a_At) 1)) then
                            bif (A.eq (A.vlen a_Puts) 0) then
                              k r1 r2 r3 r4 8 0 r7 r8 r9
                            else
                              k r1 r2 r3 r4 7 (A.sub .i64 (A.vlen a_Puts) 1) r7 r8 r9
                          else
                            bif (A.eq (A.add .i64 a_At 1) (A.ilen a_Reads)) then
                              bif (A.eq 4 3) then
                                bif (A.eq (A.ilen r9) 0) then
                                  bif (A.eq 4 4) then
                                    bif (A.eq (A.vlen r8) 0) then
                                      k r1 r2 r3 r4 6 0 r7 r8 r9
                                    else
                                      k r1 r2 r3 r4 4 0 r7 r8 r9
                                  else
                                    k r1 r2 r3 r4 4 0 r7 r8 r9
                                else
                                  bif (A.eq 4 4) then
                                    bif (A.eq (A.vlen r8) 0) then
                                      k r1 r2 r3 r4 6 0 r7 r8 r9
                                    else
                                      k r1 r2 r3 r4 4 0 r7 r8 r9
                                  else
                                    k r1 r2 r3 r4 4 0 r7 r8 r9
                              else
                                bif (A.eq 4 4) then
                                  bif (A.eq (A.vlen r8) 0) then
                                    k r1 r2 r3 r4 6 0 r7 r8 r9
                                  else
                                    k r1 r2 r3 r4 4 0 r7 r8 r9
                                else
                                  k r1 r2 r3 r4 4 0 r7 r8 r9
                            else
                              k r1 r2 r3 r4 r5 (A.add .i64 a_At 1) r7 r8 r9
                      else
                        none
                    else
                      none
                  else
                    bif (A.eq a_Phase 4) then
                      bif (A.inb a_At (A.vlen a_Puts)) then
                        bif (A.inb a_At (A.vlen a_Puts)) then
                          c_139 ___Clock ___Cells (A.vget a_Puts a_At 0) a_Who (A.vget a_Puts a_At 1) (fun r18 r19 r20 =>
                            bif (A.eq (A.add .i64 a_At 1) (A.vlen a_Puts)) then
                              bif (A.eq 5 3) then
                                bif (A.eq (A.ilen r9) 0) then
                                  bif (A.eq 4 4) then
                                    bif (A.eq (A.vlen r8) 0) then
                                      k r18 r19 r3 r4 6 0 r7 r8 r9
                                    else
                                      k r18 r19 r3 r4 4 0 r7 r8 r9
                                  else
                                    k r18 r19 r3 r4 4 0 r7 r8 r9
                                else
                                  bif (A.eq 5 4) then
                                    bif (A.eq (A.vlen r8) 0) then
                                      k r18 r19 r3 r4 6 0 r7 r8 r9
                                    else
                                      k r18 r19 r3 r4 5 0 r7 r8 r9
                                  else
                                    k r18 r19 r3 r4 5 0 r7 r8 r9
                              else
                                bif (A.eq 5 4) then
                                  bif (A.eq (A.vlen r8) 0) then
                                    k r18 r19 r3 r4 6 0 r7 r8 r9
                                  else
                                    k r18 r19 r3 r4 5 0 r7 r8 r9
                                else
                                  k r18 r19 r3 r4 5 0 r7 r8 r9
                            else
                              k r18 r19 r3 r4 r5 (A.add .i64 a_At 1) r7 r8 r9)
                        else
                          none
                      else
                        none
                    else
                      bif (A.eq a_Phase 5) then
                        bif (A.inb a_At (A.vlen a_Puts)) then
                          c_140 ___Clock ___Cells (A.vget a_Puts a_At 0) a_Who a_Wv (fun r21 r22 r23 =>
                            bif (A.eq (A.add .i64 a_At 1) (A.vlen a_Puts)) then
                              k r21 r22 r3 r4 6 0 r7 r8 r9
                            else
                              k r21 r22 r3 r4 r5 (A.add .i64 a_At 1) r7 r8 r9)
                        else
                          none
                      else
                        bif (A.eq a_Phase 7) then
                          bif (A.inb a_At (A.vlen a_Puts)) then
                            bif (A.inb (A.vget a_Puts a_At 0) (A.vlen ___Cells)) then
                              c_140 ___Clock ___Cells (A.vget a_Puts a_At 0) a_Who (A.vget ___Cells (A.vget a_Puts a_At 0) 1) (fun r24 r25 r26 =>
                                bif (A.eq a_At 0) then
                                  k r24 r25 r3 r4 8 0 r7 r8 r9
                                else
                                  k r24 r25 r3 r4 7 (A.sub .i64 a_At 1) r7 r8 r9)
                            else
                              none
                          else
                            none
                        else
                          k r1 r2 r3 r4 r5 r6 r7 r8 r9))))
noncomputable def spec_CommitStep (A : PM.Prims) : spec_CommitStep_T := spec_CommitStep_f A (spec_MemOk A) (spec_CommitOk A) (spec_l10Copy A) (spec_l3Copy A) (spec_Lock A) (spec_Tick A) (spec_Store A) (spec_Unlock A)
noncomputable def spec_CommitStep_L (A : PM.Prims) (c_35 : spec_MemOk_T) (c_60 : spec_CommitOk_T) (c_131 : spec_l10Copy_T) (c_135 : spec_l3Copy_T) (c_136 : spec_Lock_T) (c_138 : spec_Tick_T) (c_139 : spec_Store_T) (c_140 : spec_Unlock_T) (n : Nat) : PM.Lam := fun cur σ K =>
  match cur, σ, K with
  | _, _, _ => none
noncomputable def spec_CommitStep_E (A : PM.Prims) (c_35 : spec_MemOk_T) (c_60 : spec_CommitOk_T) (c_131 : spec_l10Copy_T) (c_135 : spec_l3Copy_T) (c_136 : spec_Lock_T) (c_138 : spec_Tick_T) (c_139 : spec_Store_T) (c_140 : spec_Unlock_T) : PM.Env := ⟨[(35, ⟨[], spec_MemOk_w c_35, none⟩), (60, ⟨[], spec_CommitOk_w c_60, none⟩), (131, ⟨[], spec_l10Copy_w c_131, none⟩), (135, ⟨[], spec_l3Copy_w c_135, none⟩), (136, ⟨[], spec_Lock_w c_136, none⟩), (138, ⟨[], spec_Tick_w c_138, none⟩), (139, ⟨[], spec_Store_w c_139, none⟩), (140, ⟨[], spec_Unlock_w c_140, none⟩), (132, ⟨[], fun _ _ => none, some (PM.spT (X.l10Back_t A))⟩)], [(137, Go.Proofs.Try.f137)], [], [(0, [2, 3, 4, 5]), (1, [2, 3, 4, 5, 6]), (2, [2, 3, 4, 5, 6, 7]), (3, [2, 3, 4, 5, 6, 7, 31]), (4, [4, 5]), (5, [2, 3, 4, 5, 6, 7, 35]), (6, [2, 3, 4, 5, 6, 7, 35, 36]), (7, [3, 4, 5, 6, 7, 8, 9]), (8, [3, 4, 5, 6, 7, 8, 53]), (9, [4, 5]), (10, [3, 4, 5, 6, 7]), (11, [3, 4, 5, 6, 7]), (12, [4, 5, 6, 7, 69]), (13, [4, 5, 6, 7]), (14, [2, 3, 4, 5, 6, 7, 35, 72]), (15, [3, 4, 5, 6, 7, 10, 11]), (16, [3, 4, 5, 6, 7, 10, 11, 80]), (17, [4, 5]), (18, [4, 5, 6, 7, 11]), (19, [4, 5, 6, 7]), (20, [4, 5, 6, 7]), (21, [2, 3, 4, 5, 6, 7, 35, 92]), (22, [3, 4, 5, 6, 7, 12]), (23, [3, 4, 5, 6, 7, 120]), (24, [4, 5]), (25, [3, 4, 5, 6, 7]), (26, [4, 5, 6, 7, 136]), (27, [4, 5, 6, 7]), (28, [2, 3, 4, 5, 6, 7, 35, 139]), (29, [3, 4, 5, 6, 7, 13]), (30, [3, 4, 5, 6, 7]), (31, [3, 4, 5, 6, 7]), (32, [4, 5, 6, 7, 172]), (33, [4, 5, 6, 7]), (34, [2, 3, 4, 5, 6, 7, 35, 175]), (35, [3, 4, 5, 6, 7, 15]), (36, [3, 4, 5, 6, 7]), (37, [3, 4, 5, 6, 7]), (38, [4, 5, 6, 7, 203]), (39, [4, 5, 6, 7]), (40, [4, 5, 6, 7]), (41, [2, 3, 4, 5, 6, 7, 206]), (42, [2, 3, 4, 5, 6, 7, 17]), (43, [3, 4, 5, 6, 7, 18]), (44, [3, 4, 5, 6, 7]), (45, [4, 5, 6, 7]), (46, [4, 5])], spec_CommitStep_L A c_35 c_60 c_131 c_135 c_136 c_138 c_139 c_140 A.fuel⟩
theorem spec_CommitStep_ok (A : PM.Prims) (c_35 : spec_MemOk_T) (c_60 : spec_CommitOk_T) (c_131 : spec_l10Copy_T) (c_135 : spec_l3Copy_T) (c_136 : spec_Lock_T) (c_138 : spec_Tick_T) (c_139 : spec_Store_T) (c_140 : spec_Unlock_T) (___Clock : Int) (___Cells : List (List Int)) (a_Who : Int) (a_Rv : Int) (a_Phase : Int) (a_At : Int) (a_Wv : Int) (a_Puts : List (List Int)) (a_Reads : List Int) (k : PM.V → PM.R) : PM.pfun A cx [] (spec_CommitStep_E A c_35 c_60 c_131 c_135 c_136 c_138 c_139 c_140) Go.Proofs.Try.f76 [.agg [.int .i64 ___Clock, .arr (.vecs 49 3 ___Cells)], .agg [.int .i64 a_Who, .int .i64 a_Rv, .int .i64 a_Phase, .int .i64 a_At, .int .i64 a_Wv, .arr (.vecs 135 2 a_Puts), .arr (.ints 3 .i64 a_Reads)]] k = spec_CommitStep_f A c_35 c_60 c_131 c_135 c_136 c_138 c_139 c_140 ___Clock ___Cells a_Who a_Rv a_Phase a_At a_Wv a_Puts a_Reads (fun r0_Clock r0_Cells r1_Who r1_Rv r1_Phase r1_At r1_Wv r1_Puts r1_Reads => k (.tup [.agg [.int .i64 r0_Clock, .arr (.vecs 49 3 r0_Cells)], .agg [.int .i64 r1_Who, .int .i64 r1_Rv, .int .i64 r1_Phase, .int .i64 r1_At, .int .i64 r1_Wv, .arr (.vecs 135 2 r1_Puts), .arr (.ints 3 .i64 r1_Reads)]])) := by kernel_rfl

theorem spec_CommitStep_fn : PM.FnIs Try.prog 76 Try.f76 := .of Try.func76 (by kernel_rfl) (by kernel_rfl)
theorem spec_CommitStep_g : PM.GOk Try.prog cx 76 ⟨[], spec_CommitStep_w (spec_CommitStep PM.std), none⟩ := by
  refine ⟨spec_CommitStep_fn.enter, fun _ ds k r h => ?_, fun hm => absurd rfl hm, fun _ e => (by cases e)⟩
  change spec_CommitStep_w (spec_CommitStep PM.std) ds k = some r at h
  unfold spec_CommitStep_w at h
  split at h
  · exact PM.pfun_ok (E := spec_CommitStep_E PM.std (spec_MemOk PM.std) (spec_CommitOk PM.std) (spec_l10Copy PM.std) (spec_l3Copy PM.std) (spec_Lock PM.std) (spec_Tick PM.std) (spec_Store PM.std) (spec_Unlock PM.std)) (L := fun n => spec_CommitStep_L PM.std (spec_MemOk PM.std) (spec_CommitOk PM.std) (spec_l10Copy PM.std) (spec_l3Copy PM.std) (spec_Lock PM.std) (spec_Tick PM.std) (spec_Store PM.std) (spec_Unlock PM.std) n) (N := PM.std.fuel) cx_ok (.cons spec_MemOk_g (.cons spec_CommitOk_g (.cons spec_l10Copy_g (.cons spec_l3Copy_g (.cons spec_Lock_g (.cons spec_Tick_g (.cons spec_Store_g (.cons spec_Unlock_g (.cons X.l10Back_gok .nil))))))))) mixed (.cons (.of Try.func137 (by kernel_rfl) (by kernel_rfl)) (by kernel_rfl) .nil) spec_CommitStep_fn (by kernel_rfl) ⟨rfl, fun _ _ _ => rfl, fun n cur σ K r h => by cases h⟩
      ((spec_CommitStep_ok PM.std (spec_MemOk PM.std) (spec_CommitOk PM.std) (spec_l10Copy PM.std) (spec_l3Copy PM.std) (spec_Lock PM.std) (spec_Tick PM.std) (spec_Store PM.std) (spec_Unlock PM.std) _ _ _ _ _ _ _ _ _ k).trans h)
  · cases h

abbrev laws_FnExactCommitStep_T := (Int) → (List (List Int)) → (Int) → (Int) → (Int) → (Int) → (Int) → (List (List Int)) → (List Int) → ((Bool) → PM.R) → PM.R
noncomputable def laws_FnExactCommitStep_w (c : laws_FnExactCommitStep_T) (ds : List PM.V) (k : PM.V → PM.R) : PM.R :=
  match ds with
  | [.agg [.int .i64 ___Clock, .arr (.vecs 155 3 ___Cells)], .agg [.int .i64 a_Who, .int .i64 a_Rv, .int .i64 a_Phase, .int .i64 a_At, .int .i64 a_Wv, .arr (.vecs 139 2 a_Puts), .arr (.ints 3 .i64 a_Reads)]] => c ___Clock ___Cells a_Who a_Rv a_Phase a_At a_Wv a_Puts a_Reads (fun r0 => k (.bool r0))
  | _ => none
noncomputable def laws_FnExactCommitStep_f (A : PM.Prims) (c_28 : laws_szMem_T) (c_30 : laws_toMem_T) (c_32 : laws_eqMem_T) (c_59 : laws_szCommit_T) (c_61 : laws_toCommit_T) (c_63 : laws_eqCommit_T) (c_72 : laws_markCommit_T) (c_73 : laws_heldCommit_T) (c_77 : impl_CommitStep_T) (c_78 : laws_markMem_T) (c_79 : laws_heldMem_T) (c_76 : spec_CommitStep_T) (___Clock : Int) (___Cells : List (List Int)) (a_Who : Int) (a_Rv : Int) (a_Phase : Int) (a_At : Int) (a_Wv : Int) (a_Puts : List (List Int)) (a_Reads : List Int) (k : (Bool) → PM.R) : PM.R :=
  c_28 ___Clock ___Cells 1048576 (fun r1 =>
    bif (A.lt r1 0) then
      k true
    else
      c_59 a_Who a_Rv a_Phase a_At a_Wv a_Puts a_Reads r1 (fun r2 =>
        bif (A.lt r2 0) then
          k true
        else
          c_30 ___Clock ___Cells (fun r3 r4 =>
            c_61 a_Who a_Rv a_Phase a_At a_Wv a_Puts a_Reads (fun r5 r6 r7 r8 r9 r10 r11 =>
              c_76 r3 r4 r5 r6 r7 r8 r9 r10 r11 (fun r12 r13 r14 r15 r16 r17 r18 r19 r20 =>
                c_30 ___Clock ___Cells (fun r21 r22 =>
                  c_61 a_Who a_Rv a_Phase a_At a_Wv a_Puts a_Reads (fun r23 r24 r25 r26 r27 r28 r29 =>
                    c_77 r21 r22 r23 r24 r25 r26 r27 r28 r29 (fun r30 r31 r32 r33 r34 r35 r36 r37 r38 =>
                      c_32 r30 r31 r12 r13 (fun r39 =>
                        bif (A.not r39) then
                          k false
                        else
                          c_63 r32 r33 r34 r35 r36 r37 r38 r14 r15 r16 r17 r18 r19 r20 (fun r40 =>
                            bif (A.not r40) then
                              k false
                            else
                              c_30 ___Clock ___Cells (fun r41 r42 =>
                                c_32 r21 r22 r41 r42 (fun r43 =>
                                  bif (A.not r43) then
                                    k false
                                  else
                                    c_61 a_Who a_Rv a_Phase a_At a_Wv a_Puts a_Reads (fun r44 r45 r46 r47 r48 r49 r50 =>
                                      c_63 r23 r24 r25 r26 r27 r28 r29 r44 r45 r46 r47 r48 r49 r50 (fun r51 =>
                                        bif (A.not r51) then
                                          k false
                                        else
                                          c_78 r21 r22 1 (fun r52 r53 =>
                                            c_72 r23 r24 r25 r26 r27 r28 r29 r52 (fun r54 r55 r56 =>
                                              bif (A.lt r54 0) then
                                                k false
                                              else
                                                c_32 r30 r31 r12 r13 (fun r57 =>
                                                  bif (A.not r57) then
                                                    k false
                                                  else
                                                    c_63 r32 r33 r34 r35 r36 r37 r38 r14 r15 r16 r17 r18 r19 r20 (fun r58 =>
                                                      bif (A.not r58) then
                                                        k false
                                                      else
                                                        c_78 r30 r31 1 (fun r59 r60 =>
                                                          c_72 r32 r33 r34 r35 r36 r37 r38 r59 (fun r61 r62 r63 =>
                                                            c_79 r30 r60 1 (fun r64 =>
                                                              bif (A.lt r64 0) then
                                                                k false
                                                              else
                                                                c_73 r32 r33 r34 r35 r36 r62 r63 r64 (fun r65 =>
                                                                  bif (A.lt r65 0) then
                                                                    k false
                                                                  else
                                                                    bif (A.not (A.eq r65 r61)) then
                                                                      k false
                                                                    else
                                                                      c_30 ___Clock ___Cells (fun r66 r67 =>
                                                                        c_61 a_Who a_Rv a_Phase a_At a_Wv a_Puts a_Reads (fun r68 r69 r70 r71 r72 r73 r74 =>
                                                                          c_77 r66 r67 r68 r69 r70 r71 r72 r73 r74 (fun r75 r76 r77 r78 r79 r80 r81 r82 r83 =>
                                                                            c_32 r75 r76 r12 r13 (fun r84 =>
                                                                              bif (A.not r84) then
                                                                                k false
                                                                              else
                                                                                c_63 r77 r78 r79 r80 r81 r82 r83 r14 r15 r16 r17 r18 r19 r20 (fun r85 =>
                                                                                  bif (A.not r85) then
                                                                                    k false
                                                                                  else
                                                                                    c_79 r30 r60 1 (fun r86 =>
                                                                                      bif (A.lt r86 0) then
                                                                                        k false
                                                                                      else
                                                                                        c_73 r32 r33 r34 r35 r36 r62 r63 r86 (fun r87 =>
                                                                                          bif (A.lt r87 0) then
                                                                                            k false
                                                                                          else
                                                                                            bif (A.not (A.eq r87 r61)) then
                                                                                              k false
                                                                                            else
                                                                                              k true)))))))))))))))))))))))))))))
noncomputable def laws_FnExactCommitStep (A : PM.Prims) : laws_FnExactCommitStep_T := laws_FnExactCommitStep_f A (laws_szMem A) (laws_toMem A) (laws_eqMem A) (laws_szCommit A) (laws_toCommit A) (laws_eqCommit A) (laws_markCommit A) (laws_heldCommit A) (impl_CommitStep A) (laws_markMem A) (laws_heldMem A) (spec_CommitStep A)
noncomputable def laws_FnExactCommitStep_L (A : PM.Prims) (c_28 : laws_szMem_T) (c_30 : laws_toMem_T) (c_32 : laws_eqMem_T) (c_59 : laws_szCommit_T) (c_61 : laws_toCommit_T) (c_63 : laws_eqCommit_T) (c_72 : laws_markCommit_T) (c_73 : laws_heldCommit_T) (c_77 : impl_CommitStep_T) (c_78 : laws_markMem_T) (c_79 : laws_heldMem_T) (c_76 : spec_CommitStep_T) (n : Nat) : PM.Lam := fun cur σ K =>
  match cur, σ, K with
  | _, _, _ => none
noncomputable def laws_FnExactCommitStep_E (A : PM.Prims) (c_28 : laws_szMem_T) (c_30 : laws_toMem_T) (c_32 : laws_eqMem_T) (c_59 : laws_szCommit_T) (c_61 : laws_toCommit_T) (c_63 : laws_eqCommit_T) (c_72 : laws_markCommit_T) (c_73 : laws_heldCommit_T) (c_77 : impl_CommitStep_T) (c_78 : laws_markMem_T) (c_79 : laws_heldMem_T) (c_76 : spec_CommitStep_T) : PM.Env := ⟨[(28, ⟨[], laws_szMem_w c_28, none⟩), (30, ⟨[], laws_toMem_w c_30, none⟩), (32, ⟨[], laws_eqMem_w c_32, none⟩), (59, ⟨[], laws_szCommit_w c_59, none⟩), (61, ⟨[], laws_toCommit_w c_61, none⟩), (63, ⟨[], laws_eqCommit_w c_63, none⟩), (72, ⟨[true, false], laws_markCommit_w c_72, none⟩), (73, ⟨[], laws_heldCommit_w c_73, none⟩), (77, ⟨[], impl_CommitStep_w c_77, none⟩), (78, ⟨[true, false], laws_markMem_w c_78, none⟩), (79, ⟨[], laws_heldMem_w c_79, none⟩), (76, ⟨[], spec_CommitStep_w c_76, none⟩)], [], [], [(0, [2, 3]), (1, [2, 3, 5]), (2, [2, 3, 5]), (3, [2, 3, 5, 21]), (4, [4]), (5, [2, 3, 5]), (6, [2, 3, 26]), (7, [4]), (8, [2, 3, 6, 7]), (9, [2, 3, 6, 7, 8]), (10, [2, 3, 6, 7, 8, 9]), (11, [2, 3, 6, 7, 8, 9, 10, 11]), (12, [2, 3, 6, 7, 8, 9, 10, 11, 54]), (13, [4]), (14, [2, 3, 6, 7, 8, 9, 10, 11, 59]), (15, [4]), (16, [2, 3, 6, 7, 8, 9, 10, 11, 64]), (17, [4]), (18, [2, 3, 6, 7, 8, 9, 10, 11, 12]), (19, [2, 3, 6, 7, 9, 10, 11, 12]), (20, [2, 3, 6, 7, 10, 11, 12]), (21, [2, 3, 6, 7, 10, 11, 84]), (22, [4]), (23, [2, 3, 6, 7, 10, 11, 13]), (24, [2, 3, 6, 7, 10, 11, 13]), (25, [2, 3, 6, 7, 10, 11, 13]), (26, [2, 3, 6, 7, 10, 11, 13, 14]), (27, [2, 3, 6, 7, 10, 11, 13, 14]), (28, [2, 3, 6, 7, 10, 11, 13, 14, 95]), (29, [4]), (30, [2, 3, 6, 7, 10, 11, 13, 14]), (31, [2, 3, 6, 7, 10, 11, 13, 14, 100]), (32, [4]), (33, [2, 3, 6, 7, 10, 11, 13, 103]), (34, [4]), (35, [6, 7, 10, 11, 13, 15, 16]), (36, [10, 11, 13, 121]), (37, [4]), (38, [10, 11, 13, 14]), (39, [11, 13, 14]), (40, [11, 13, 14, 126]), (41, [4]), (42, [13, 14]), (43, [13, 14, 131]), (44, [4]), (45, [134]), (46, [4]), (47, [4])], laws_FnExactCommitStep_L A c_28 c_30 c_32 c_59 c_61 c_63 c_72 c_73 c_77 c_78 c_79 c_76 A.fuel⟩
theorem laws_FnExactCommitStep_ok (A : PM.Prims) (c_28 : laws_szMem_T) (c_30 : laws_toMem_T) (c_32 : laws_eqMem_T) (c_59 : laws_szCommit_T) (c_61 : laws_toCommit_T) (c_63 : laws_eqCommit_T) (c_72 : laws_markCommit_T) (c_73 : laws_heldCommit_T) (c_77 : impl_CommitStep_T) (c_78 : laws_markMem_T) (c_79 : laws_heldMem_T) (c_76 : spec_CommitStep_T) (___Clock : Int) (___Cells : List (List Int)) (a_Who : Int) (a_Rv : Int) (a_Phase : Int) (a_At : Int) (a_Wv : Int) (a_Puts : List (List Int)) (a_Reads : List Int) (k : PM.V → PM.R) : PM.pfun A cx [] (laws_FnExactCommitStep_E A c_28 c_30 c_32 c_59 c_61 c_63 c_72 c_73 c_77 c_78 c_79 c_76) Go.Proofs.Try.f18 [.agg [.int .i64 ___Clock, .arr (.vecs 155 3 ___Cells)], .agg [.int .i64 a_Who, .int .i64 a_Rv, .int .i64 a_Phase, .int .i64 a_At, .int .i64 a_Wv, .arr (.vecs 139 2 a_Puts), .arr (.ints 3 .i64 a_Reads)]] k = laws_FnExactCommitStep_f A c_28 c_30 c_32 c_59 c_61 c_63 c_72 c_73 c_77 c_78 c_79 c_76 ___Clock ___Cells a_Who a_Rv a_Phase a_At a_Wv a_Puts a_Reads (fun r0 => k (.bool r0)) := by kernel_rfl

theorem laws_FnExactCommitStep_fn : PM.FnIs Try.prog 18 Try.f18 := .of Try.func18 (by kernel_rfl) (by kernel_rfl)
theorem laws_FnExactCommitStep_g : PM.GOk Try.prog cx 18 ⟨[], laws_FnExactCommitStep_w (laws_FnExactCommitStep PM.std), none⟩ := by
  refine ⟨laws_FnExactCommitStep_fn.enter, fun _ ds k r h => ?_, fun hm => absurd rfl hm, fun _ e => (by cases e)⟩
  change laws_FnExactCommitStep_w (laws_FnExactCommitStep PM.std) ds k = some r at h
  unfold laws_FnExactCommitStep_w at h
  split at h
  · exact PM.pfun_ok (E := laws_FnExactCommitStep_E PM.std (laws_szMem PM.std) (laws_toMem PM.std) (laws_eqMem PM.std) (laws_szCommit PM.std) (laws_toCommit PM.std) (laws_eqCommit PM.std) (laws_markCommit PM.std) (laws_heldCommit PM.std) (impl_CommitStep PM.std) (laws_markMem PM.std) (laws_heldMem PM.std) (spec_CommitStep PM.std)) (L := fun n => laws_FnExactCommitStep_L PM.std (laws_szMem PM.std) (laws_toMem PM.std) (laws_eqMem PM.std) (laws_szCommit PM.std) (laws_toCommit PM.std) (laws_eqCommit PM.std) (laws_markCommit PM.std) (laws_heldCommit PM.std) (impl_CommitStep PM.std) (laws_markMem PM.std) (laws_heldMem PM.std) (spec_CommitStep PM.std) n) (N := PM.std.fuel) cx_ok (.cons laws_szMem_g (.cons laws_toMem_g (.cons laws_eqMem_g (.cons laws_szCommit_g (.cons laws_toCommit_g (.cons laws_eqCommit_g (.cons laws_markCommit_g (.cons laws_heldCommit_g (.cons impl_CommitStep_g (.cons laws_markMem_g (.cons laws_heldMem_g (.cons spec_CommitStep_g .nil)))))))))))) mixed .nil laws_FnExactCommitStep_fn (by kernel_rfl) ⟨rfl, fun _ _ _ => rfl, fun n cur σ K r h => by cases h⟩
      ((laws_FnExactCommitStep_ok PM.std (laws_szMem PM.std) (laws_toMem PM.std) (laws_eqMem PM.std) (laws_szCommit PM.std) (laws_toCommit PM.std) (laws_eqCommit PM.std) (laws_markCommit PM.std) (laws_heldCommit PM.std) (impl_CommitStep PM.std) (laws_markMem PM.std) (laws_heldMem PM.std) (spec_CommitStep PM.std) _ _ _ _ _ _ _ _ _ k).trans h)
  · cases h

end X
