/- Models of the functions, or plain laws about them; each theorem states its own conditions. -/
import Derived.Test.YtnkgcegeinemjaaMdlA
import Derived.Test.YtnkgcegeinemjaaL3
import Derived.Test.YtnkgcegeinemjaaProg
import Derived.KernelRfl
set_option linter.unusedVariables false
set_option linter.unusedSimpArgs false
open Go.Proofs
namespace X
open PM
set_option maxRecDepth 100000
set_option maxHeartbeats 4000000
abbrev spec_Last_T := (List (List Int)) → (Int) → ((Int) → (Bool) → PM.R) → PM.R
noncomputable def spec_Last_w (c : spec_Last_T) (ds : List PM.V) (k : PM.V → PM.R) : PM.R :=
  match ds with
  | [.arr (.vecs 135 2 l), .int .i64 cell] => c l cell (fun r0 r1 => k (.tup [.int .i64 r0, .bool r1]))
  | _ => none
noncomputable def spec_Last_l0 (A : PM.Prims) (c_82 : spec_RowsOk_T) : Nat → (List (List Int)) → (Int) → (Int) → ((Int) → (Bool) → PM.R) → (Unit → PM.R) → PM.R
  | 0, _, _, _, _, _ => none
  | n + 1, l2, cell3, i4, kret_0, kx0_0 =>
    bif (A.le 0 i4) then
      bif (A.inb i4 (A.vlen l2)) then
        bif (A.eq (A.vget l2 i4 0) cell3) then
          bif (A.inb i4 (A.vlen l2)) then
            kret_0 (A.vget l2 i4 1) true
          else
            none
        else
          spec_Last_l0 A c_82 n l2 cell3 (A.sub .i64 i4 1) kret_0 kx0_0
      else
        none
    else
      kx0_0 ()
noncomputable def spec_Last_f (A : PM.Prims) (c_82 : spec_RowsOk_T) (l : List (List Int)) (cell : Int) (k : (Int) → (Bool) → PM.R) : PM.R :=
  c_82 l (fun r1 =>
    bif (A.not r1) then
      k 0 false
    else
      spec_Last_l0 A c_82 A.fuel l cell (A.sub .i64 (A.vlen l) 1) (fun t457 t568 =>
        k t457 t568) (fun _ =>
        k 0 false))
noncomputable def spec_Last (A : PM.Prims) : spec_Last_T := spec_Last_f A (spec_RowsOk A)
noncomputable def spec_Last_L (A : PM.Prims) (c_82 : spec_RowsOk_T) (n : Nat) : PM.Lam := fun cur σ K =>
  match cur, σ, K with
  | 0, ⟨[(0, .arr (.vecs 135 2 l2)), (1, .int .i64 cell3), (6, .int .i64 i4)], []⟩, K => spec_Last_l0 A c_82 n l2 cell3 i4 (fun t45 t56 => K .ret ⟨[(4, .int .i64 t45), (5, .bool t56)], []⟩) (fun _ => K (.exit 0) ⟨[], []⟩)
  | _, _, _ => none
noncomputable def spec_Last_E (A : PM.Prims) (c_82 : spec_RowsOk_T) : PM.Env := ⟨[(82, ⟨[], spec_RowsOk_w c_82, none⟩)], [], [(0, [0, 1, 6], [4, 5])], [(0, [0, 1]), (1, [0, 1, 9]), (2, [4, 5]), (3, [0, 1, 6]), (4, [0, 1, 6, 14]), (5, [0, 1, 6]), (6, [0, 1, 6, 23]), (7, [4, 5]), (8, [4, 5])], spec_Last_L A c_82 A.fuel⟩
theorem spec_Last_l0_ok (A : PM.Prims) (c_82 : spec_RowsOk_T) (n : Nat) (l2 : List (List Int)) (cell3 : Int) (i4 : Int) (K : Go.Exit → PM.S → PM.R) : spec_Last_L A c_82 (n + 1) 0 ⟨[(0, .arr (.vecs 135 2 l2)), (1, .int .i64 cell3), (6, .int .i64 i4)], []⟩ K = PM.roundF A cx (PM.runD A cx (spec_Last_E A c_82).inl (spec_Last_E A c_82).Γ 3) (spec_Last_E A c_82) (spec_Last_L A c_82 n) 0 Go.Proofs.Try.f83 ⟨[(0, .arr (.vecs 135 2 l2)), (1, .int .i64 cell3), (6, .int .i64 i4)], []⟩ K := by kernel_rfl
theorem spec_Last_ok (A : PM.Prims) (c_82 : spec_RowsOk_T) (l : List (List Int)) (cell : Int) (k : PM.V → PM.R) : PM.pfun A cx [] (spec_Last_E A c_82) Go.Proofs.Try.f83 [.arr (.vecs 135 2 l), .int .i64 cell] k = spec_Last_f A c_82 l cell (fun r0 r1 => k (.tup [.int .i64 r0, .bool r1])) := by kernel_rfl

theorem spec_Last_fn : PM.FnIs Try.prog 83 Try.f83 := .of Try.func83 (by kernel_rfl) (by kernel_rfl)
theorem spec_Last_g : PM.GOk Try.prog cx 83 ⟨[], spec_Last_w (spec_Last PM.std), none⟩ := by
  refine ⟨spec_Last_fn.enter, fun _ ds k r h => ?_, fun hm => absurd rfl hm, fun _ e => (by cases e)⟩
  change spec_Last_w (spec_Last PM.std) ds k = some r at h
  unfold spec_Last_w at h
  split at h
  · exact PM.pfun_ok (E := spec_Last_E PM.std (spec_RowsOk PM.std)) (L := fun n => spec_Last_L PM.std (spec_RowsOk PM.std) n) (N := PM.std.fuel) cx_ok (.cons spec_RowsOk_g .nil) mixed .nil spec_Last_fn (by kernel_rfl) ⟨rfl, fun cur σ K => by
      dsimp only [spec_Last_L]
      split <;> rfl, fun n cur σ K r h => by
      dsimp only [spec_Last_L] at h
      split at h
      · exact (spec_Last_l0_ok PM.std (spec_RowsOk PM.std) n _ _ _ K).symm.trans h
      · cases h⟩
      ((spec_Last_ok PM.std (spec_RowsOk PM.std) _ _ k).trans h)
  · cases h

abbrev spec_Net_T := (List (List Int)) → ((List (List Int)) → PM.R) → PM.R
noncomputable def spec_Net_w (c : spec_Net_T) (ds : List PM.V) (k : PM.V → PM.R) : PM.R :=
  match ds with
  | [.arr (.vecs 135 2 l)] => c l (fun r0 => k (.arr (.vecs 135 2 r0)))
  | _ => none
noncomputable def spec_Net_l0 (A : PM.Prims) (c_83 : spec_Last_T) : Nat → (List (List Int)) → (Int) → (List (List Int)) → ((List (List Int)) → PM.R) → PM.R
  | 0, _, _, _, _ => none
  | n + 1, l1, i2, o03, kx0_0 =>
    bif (A.lt i2 8) then
      c_83 l1 i2 (fun r4 r5 =>
        bif r5 then
          bif (A.room (A.vlen o03) (A.vlen [[i2, r4]])) then
            spec_Net_l0 A c_83 n l1 (A.add .i64 i2 1) (A.vapp o03 [[i2, r4]]) kx0_0
          else
            none
        else
          spec_Net_l0 A c_83 n l1 (A.add .i64 i2 1) o03 kx0_0)
    else
      kx0_0 o03
noncomputable def spec_Net_f (A : PM.Prims) (c_83 : spec_Last_T) (l : List (List Int)) (k : (List (List Int)) → PM.R) : PM.R :=
  spec_Net_l0 A c_83 A.fuel l 0 [] (fun o067 =>
    k o067)
noncomputable def spec_Net (A : PM.Prims) : spec_Net_T := spec_Net_f A (spec_Last A)
noncomputable def spec_Net_L (A : PM.Prims) (c_83 : spec_Last_T) (n : Nat) : PM.Lam := fun cur σ K =>
  match cur, σ, K with
  | 0, ⟨[(0, .arr (.vecs 135 2 l1)), (3, .sref 0), (4, .int .i64 i2)], [(0, .arr true (.vecs 135 2 o03))]⟩, K => spec_Net_l0 A c_83 n l1 i2 o03 (fun o06 => K (.exit 0) ⟨[(3, .sref 0)], [(0, .arr true (.vecs 135 2 o06))]⟩)
  | _, _, _ => none
noncomputable def spec_Net_E (A : PM.Prims) (c_83 : spec_Last_T) : PM.Env := ⟨[(83, ⟨[], spec_Last_w c_83, none⟩)], [], [(0, [0, 3, 4], [2, 3])], [(0, [0]), (1, [0, 3]), (2, [0, 3, 4]), (3, [0, 3, 4, 9]), (4, [0, 3, 4]), (5, [0, 3, 4, 5, 6]), (6, [0, 3, 4, 5, 18]), (7, [0, 3, 4]), (8, [2])], spec_Net_L A c_83 A.fuel⟩
theorem spec_Net_l0_ok (A : PM.Prims) (c_83 : spec_Last_T) (n : Nat) (l1 : List (List Int)) (i2 : Int) (o03 : List (List Int)) (K : Go.Exit → PM.S → PM.R) : spec_Net_L A c_83 (n + 1) 0 ⟨[(0, .arr (.vecs 135 2 l1)), (3, .sref 0), (4, .int .i64 i2)], [(0, .arr true (.vecs 135 2 o03))]⟩ K = PM.roundF A cx (PM.runD A cx (spec_Net_E A c_83).inl (spec_Net_E A c_83).Γ 3) (spec_Net_E A c_83) (spec_Net_L A c_83 n) 0 Go.Proofs.Try.f126 ⟨[(0, .arr (.vecs 135 2 l1)), (3, .sref 0), (4, .int .i64 i2)], [(0, .arr true (.vecs 135 2 o03))]⟩ K := by kernel_rfl
theorem spec_Net_ok (A : PM.Prims) (c_83 : spec_Last_T) (l : List (List Int)) (k : PM.V → PM.R) : PM.pfun A cx [] (spec_Net_E A c_83) Go.Proofs.Try.f126 [.arr (.vecs 135 2 l)] k = spec_Net_f A c_83 l (fun r0 => k (.arr (.vecs 135 2 r0))) := by kernel_rfl

theorem spec_Net_fn : PM.FnIs Try.prog 126 Try.f126 := .of Try.func126 (by kernel_rfl) (by kernel_rfl)
theorem spec_Net_g : PM.GOk Try.prog cx 126 ⟨[], spec_Net_w (spec_Net PM.std), none⟩ := by
  refine ⟨spec_Net_fn.enter, fun _ ds k r h => ?_, fun hm => absurd rfl hm, fun _ e => (by cases e)⟩
  change spec_Net_w (spec_Net PM.std) ds k = some r at h
  unfold spec_Net_w at h
  split at h
  · exact PM.pfun_ok (E := spec_Net_E PM.std (spec_Last PM.std)) (L := fun n => spec_Net_L PM.std (spec_Last PM.std) n) (N := PM.std.fuel) cx_ok (.cons spec_Last_g .nil) mixed .nil spec_Net_fn (by kernel_rfl) ⟨rfl, fun cur σ K => by
      dsimp only [spec_Net_L]
      split <;> rfl, fun n cur σ K r h => by
      dsimp only [spec_Net_L] at h
      split at h
      · exact (spec_Net_l0_ok PM.std (spec_Last PM.std) n _ _ _ K).symm.trans h
      · cases h⟩
      ((spec_Net_ok PM.std (spec_Last PM.std) _ k).trans h)
  · cases h

abbrev spec_CellsOf_T := (List (List Int)) → ((List Int) → PM.R) → PM.R
noncomputable def spec_CellsOf_w (c : spec_CellsOf_T) (ds : List PM.V) (k : PM.V → PM.R) : PM.R :=
  match ds with
  | [.arr (.vecs 135 2 l)] => c l (fun r0 => k (.arr (.ints 3 .i64 r0)))
  | _ => none
noncomputable def spec_CellsOf_l0 (A : PM.Prims) (c_126 : spec_Net_T) : Nat → (Int) → (List Int) → (List (List Int)) → ((List Int) → PM.R) → PM.R
  | 0, _, _, _, _ => none
  | n + 1, i2, o03, o14, kx0_0 =>
    bif (A.lt i2 (A.vlen o14)) then
      bif (A.inb i2 (A.vlen o14)) then
        bif (A.room (A.ilen o03) (A.ilen [(A.vget o14 i2 0)])) then
          spec_CellsOf_l0 A c_126 n (A.add .i64 i2 1) (A.iapp o03 [(A.vget o14 i2 0)]) o14 kx0_0
        else
          none
      else
        none
    else
      kx0_0 o03
noncomputable def spec_CellsOf_f (A : PM.Prims) (c_126 : spec_Net_T) (l : List (List Int)) (k : (List Int) → PM.R) : PM.R :=
  c_126 l (fun r1 =>
    spec_CellsOf_l0 A c_126 A.fuel 0 [] r1 (fun o056 =>
      k o056))
noncomputable def spec_CellsOf (A : PM.Prims) : spec_CellsOf_T := spec_CellsOf_f A (spec_Net A)
noncomputable def spec_CellsOf_L (A : PM.Prims) (c_126 : spec_Net_T) (n : Nat) : PM.Lam := fun cur σ K =>
  match cur, σ, K with
  | 0, ⟨[(3, .sref 0), (4, .sref 1), (5, .int .i64 i2)], [(0, .arr true (.ints 3 .i64 o03)), (1, .arr true (.vecs 135 2 o14))]⟩, K => spec_CellsOf_l0 A c_126 n i2 o03 o14 (fun o05 => K (.exit 0) ⟨[(3, .sref 0)], [(0, .arr true (.ints 3 .i64 o05))]⟩)
  | _, _, _ => none
noncomputable def spec_CellsOf_E (A : PM.Prims) (c_126 : spec_Net_T) : PM.Env := ⟨[(126, ⟨[], spec_Net_w c_126, none⟩)], [], [(0, [3, 4, 5], [2, 3])], [(0, [0]), (1, [0, 3]), (2, [3, 4]), (3, [3, 4, 5]), (4, [3, 4, 5, 12]), (5, [3, 4, 5]), (6, [3, 4, 5]), (7, [2])], spec_CellsOf_L A c_126 A.fuel⟩
theorem spec_CellsOf_l0_ok (A : PM.Prims) (c_126 : spec_Net_T) (n : Nat) (i2 : Int) (o03 : List Int) (o14 : List (List Int)) (K : Go.Exit → PM.S → PM.R) : spec_CellsOf_L A c_126 (n + 1) 0 ⟨[(3, .sref 0), (4, .sref 1), (5, .int .i64 i2)], [(0, .arr true (.ints 3 .i64 o03)), (1, .arr true (.vecs 135 2 o14))]⟩ K = PM.roundF A cx (PM.runD A cx (spec_CellsOf_E A c_126).inl (spec_CellsOf_E A c_126).Γ 3) (spec_CellsOf_E A c_126) (spec_CellsOf_L A c_126 n) 0 Go.Proofs.Try.f127 ⟨[(3, .sref 0), (4, .sref 1), (5, .int .i64 i2)], [(0, .arr true (.ints 3 .i64 o03)), (1, .arr true (.vecs 135 2 o14))]⟩ K := by kernel_rfl
theorem spec_CellsOf_ok (A : PM.Prims) (c_126 : spec_Net_T) (l : List (List Int)) (k : PM.V → PM.R) : PM.pfun A cx [] (spec_CellsOf_E A c_126) Go.Proofs.Try.f127 [.arr (.vecs 135 2 l)] k = spec_CellsOf_f A c_126 l (fun r0 => k (.arr (.ints 3 .i64 r0))) := by kernel_rfl

theorem spec_CellsOf_fn : PM.FnIs Try.prog 127 Try.f127 := .of Try.func127 (by kernel_rfl) (by kernel_rfl)
theorem spec_CellsOf_g : PM.GOk Try.prog cx 127 ⟨[], spec_CellsOf_w (spec_CellsOf PM.std), none⟩ := by
  refine ⟨spec_CellsOf_fn.enter, fun _ ds k r h => ?_, fun hm => absurd rfl hm, fun _ e => (by cases e)⟩
  change spec_CellsOf_w (spec_CellsOf PM.std) ds k = some r at h
  unfold spec_CellsOf_w at h
  split at h
  · exact PM.pfun_ok (E := spec_CellsOf_E PM.std (spec_Net PM.std)) (L := fun n => spec_CellsOf_L PM.std (spec_Net PM.std) n) (N := PM.std.fuel) cx_ok (.cons spec_Net_g .nil) mixed .nil spec_CellsOf_fn (by kernel_rfl) ⟨rfl, fun cur σ K => by
      dsimp only [spec_CellsOf_L]
      split <;> rfl, fun n cur σ K r h => by
      dsimp only [spec_CellsOf_L] at h
      split at h
      · exact (spec_CellsOf_l0_ok PM.std (spec_Net PM.std) n _ _ _ K).symm.trans h
      · cases h⟩
      ((spec_CellsOf_ok PM.std (spec_Net PM.std) _ k).trans h)
  · cases h

abbrev spec_CommitNew_T := (Int) → (Int) → (List (List Int)) → (List (List Int)) → ((Int) → (Int) → (Int) → (Int) → (Int) → (List (List Int)) → (List Int) → (Bool) → PM.R) → PM.R
noncomputable def spec_CommitNew_w (c : spec_CommitNew_T) (ds : List PM.V) (k : PM.V → PM.R) : PM.R :=
  match ds with
  | [.int .i64 who, .int .i64 rv, .arr (.vecs 135 2 puts), .arr (.vecs 135 2 reads)] => c who rv puts reads (fun r0_Who r0_Rv r0_Phase r0_At r0_Wv r0_Puts r0_Reads r1 => k (.tup [.agg [.int .i64 r0_Who, .int .i64 r0_Rv, .int .i64 r0_Phase, .int .i64 r0_At, .int .i64 r0_Wv, .arr (.vecs 135 2 r0_Puts), .arr (.ints 3 .i64 r0_Reads)], .bool r1]))
  | _ => none
noncomputable def spec_CommitNew_f (A : PM.Prims) (c_94 : spec_l1In_T) (c_82 : spec_RowsOk_T) (c_126 : spec_Net_T) (c_127 : spec_CellsOf_T) (who : Int) (rv : Int) (puts : List (List Int)) (reads : List (List Int)) (k : (Int) → (Int) → (Int) → (Int) → (Int) → (List (List Int)) → (List Int) → (Bool) → PM.R) : PM.R :=
  c_94 who 1 99 (fun r1 =>
    bif (A.not r1) then
      k 0 0 0 0 0 [] [] false
    else
      c_94 rv 0 1000000 (fun r2 =>
        bif (A.not r2) then
          k 0 0 0 0 0 [] [] false
        else
          c_82 puts (fun r3 =>
            bif (A.not r3) then
              k 0 0 0 0 0 [] [] false
            else
              c_82 reads (fun r4 =>
                bif (A.not r4) then
                  k 0 0 0 0 0 [] [] false
                else
                  c_126 puts (fun r5 =>
                    c_127 reads (fun r6 =>
                      bif (A.eq (A.vlen r5) 0) then
                        k who rv 2 0 0 r5 r6 true
                      else
                        k who rv 1 0 0 r5 r6 true))))))
noncomputable def spec_CommitNew (A : PM.Prims) : spec_CommitNew_T := spec_CommitNew_f A (spec_l1In A) (spec_RowsOk A) (spec_Net A) (spec_CellsOf A)
noncomputable def spec_CommitNew_L (A : PM.Prims) (c_94 : spec_l1In_T) (c_82 : spec_RowsOk_T) (c_126 : spec_Net_T) (c_127 : spec_CellsOf_T) (n : Nat) : PM.Lam := fun cur σ K =>
  match cur, σ, K with
  | _, _, _ => none
noncomputable def spec_CommitNew_E (A : PM.Prims) (c_94 : spec_l1In_T) (c_82 : spec_RowsOk_T) (c_126 : spec_Net_T) (c_127 : spec_CellsOf_T) : PM.Env := ⟨[(94, ⟨[], spec_l1In_w c_94, none⟩), (82, ⟨[], spec_RowsOk_w c_82, none⟩), (126, ⟨[], spec_Net_w c_126, none⟩), (127, ⟨[], spec_CellsOf_w c_127, none⟩)], [], [], [(0, [0, 1, 2, 3, 8]), (1, [0, 1, 2, 3, 8, 28]), (2, [8, 9]), (3, [8, 10]), (4, [8, 10, 40]), (5, [8, 10]), (6, [8, 9])], spec_CommitNew_L A c_94 c_82 c_126 c_127 A.fuel⟩
theorem spec_CommitNew_ok (A : PM.Prims) (c_94 : spec_l1In_T) (c_82 : spec_RowsOk_T) (c_126 : spec_Net_T) (c_127 : spec_CellsOf_T) (who : Int) (rv : Int) (puts : List (List Int)) (reads : List (List Int)) (k : PM.V → PM.R) : PM.pfun A cx [] (spec_CommitNew_E A c_94 c_82 c_126 c_127) Go.Proofs.Try.f67 [.int .i64 who, .int .i64 rv, .arr (.vecs 135 2 puts), .arr (.vecs 135 2 reads)] k = spec_CommitNew_f A c_94 c_82 c_126 c_127 who rv puts reads (fun r0_Who r0_Rv r0_Phase r0_At r0_Wv r0_Puts r0_Reads r1 => k (.tup [.agg [.int .i64 r0_Who, .int .i64 r0_Rv, .int .i64 r0_Phase, .int .i64 r0_At, .int .i64 r0_Wv, .arr (.vecs 135 2 r0_Puts), .arr (.ints 3 .i64 r0_Reads)], .bool r1])) := by kernel_rfl

theorem spec_CommitNew_fn : PM.FnIs Try.prog 67 Try.f67 := .of Try.func67 (by kernel_rfl) (by kernel_rfl)
theorem spec_CommitNew_g : PM.GOk Try.prog cx 67 ⟨[], spec_CommitNew_w (spec_CommitNew PM.std), none⟩ := by
  refine ⟨spec_CommitNew_fn.enter, fun _ ds k r h => ?_, fun hm => absurd rfl hm, fun _ e => (by cases e)⟩
  change spec_CommitNew_w (spec_CommitNew PM.std) ds k = some r at h
  unfold spec_CommitNew_w at h
  split at h
  · exact PM.pfun_ok (E := spec_CommitNew_E PM.std (spec_l1In PM.std) (spec_RowsOk PM.std) (spec_Net PM.std) (spec_CellsOf PM.std)) (L := fun n => spec_CommitNew_L PM.std (spec_l1In PM.std) (spec_RowsOk PM.std) (spec_Net PM.std) (spec_CellsOf PM.std) n) (N := PM.std.fuel) cx_ok (.cons spec_l1In_g (.cons spec_RowsOk_g (.cons spec_Net_g (.cons spec_CellsOf_g .nil)))) mixed .nil spec_CommitNew_fn (by kernel_rfl) ⟨rfl, fun _ _ _ => rfl, fun n cur σ K r h => by cases h⟩
      ((spec_CommitNew_ok PM.std (spec_l1In PM.std) (spec_RowsOk PM.std) (spec_Net PM.std) (spec_CellsOf PM.std) _ _ _ _ k).trans h)
  · cases h

abbrev impl_Last_T := (List (List Int)) → (Int) → ((Int) → (Bool) → PM.R) → PM.R
noncomputable def impl_Last_w (c : impl_Last_T) (ds : List PM.V) (k : PM.V → PM.R) : PM.R :=
  match ds with
  | [.arr (.vecs 135 2 l), .int .i64 cell] => c l cell (fun r0 r1 => k (.tup [.int .i64 r0, .bool r1]))
  | _ => none
noncomputable def impl_Last_l0 (A : PM.Prims) (c_124 : impl_RowsOk_T) : Nat → (List (List Int)) → (Int) → (Int) → ((Int) → (Bool) → PM.R) → (Unit → PM.R) → PM.R
  | 0, _, _, _, _, _ => none
  | n + 1, l2, cell3, i4, kret_0, kx0_0 =>
    bif (A.le 0 i4) then
      bif (A.inb i4 (A.vlen l2)) then
        bif (A.eq (A.vget l2 i4 0) cell3) then
          bif (A.inb i4 (A.vlen l2)) then
            kret_0 (A.vget l2 i4 1) true
          else
            none
        else
          impl_Last_l0 A c_124 n l2 cell3 (A.sub .i64 i4 1) kret_0 kx0_0
      else
        none
    else
      kx0_0 ()
noncomputable def impl_Last_f (A : PM.Prims) (c_124 : impl_RowsOk_T) (l : List (List Int)) (cell : Int) (k : (Int) → (Bool) → PM.R) : PM.R :=
  c_124 l (fun r1 =>
    bif (A.not r1) then
      k 0 false
    else
      impl_Last_l0 A c_124 A.fuel l cell (A.sub .i64 (A.vlen l) 1) (fun t457 t568 =>
        k t457 t568) (fun _ =>
        k 0 false))
noncomputable def impl_Last (A : PM.Prims) : impl_Last_T := impl_Last_f A (impl_RowsOk A)
noncomputable def impl_Last_L (A : PM.Prims) (c_124 : impl_RowsOk_T) (n : Nat) : PM.Lam := fun cur σ K =>
  match cur, σ, K with
  | 0, ⟨[(0, .arr (.vecs 135 2 l2)), (1, .int .i64 cell3), (6, .int .i64 i4)], []⟩, K => impl_Last_l0 A c_124 n l2 cell3 i4 (fun t45 t56 => K .ret ⟨[(4, .int .i64 t45), (5, .bool t56)], []⟩) (fun _ => K (.exit 0) ⟨[], []⟩)
  | _, _, _ => none
noncomputable def impl_Last_E (A : PM.Prims) (c_124 : impl_RowsOk_T) : PM.Env := ⟨[(124, ⟨[], impl_RowsOk_w c_124, none⟩)], [], [(0, [0, 1, 6], [4, 5])], [(0, [0, 1]), (1, [0, 1, 9]), (2, [4, 5]), (3, [0, 1, 6]), (4, [0, 1, 6, 14]), (5, [0, 1, 6]), (6, [0, 1, 6, 23]), (7, [4, 5]), (8, [4, 5])], impl_Last_L A c_124 A.fuel⟩
theorem impl_Last_l0_ok (A : PM.Prims) (c_124 : impl_RowsOk_T) (n : Nat) (l2 : List (List Int)) (cell3 : Int) (i4 : Int) (K : Go.Exit → PM.S → PM.R) : impl_Last_L A c_124 (n + 1) 0 ⟨[(0, .arr (.vecs 135 2 l2)), (1, .int .i64 cell3), (6, .int .i64 i4)], []⟩ K = PM.roundF A cx (PM.runD A cx (impl_Last_E A c_124).inl (impl_Last_E A c_124).Γ 3) (impl_Last_E A c_124) (impl_Last_L A c_124 n) 0 Go.Proofs.Try.f91 ⟨[(0, .arr (.vecs 135 2 l2)), (1, .int .i64 cell3), (6, .int .i64 i4)], []⟩ K := by kernel_rfl
theorem impl_Last_ok (A : PM.Prims) (c_124 : impl_RowsOk_T) (l : List (List Int)) (cell : Int) (k : PM.V → PM.R) : PM.pfun A cx [] (impl_Last_E A c_124) Go.Proofs.Try.f91 [.arr (.vecs 135 2 l), .int .i64 cell] k = impl_Last_f A c_124 l cell (fun r0 r1 => k (.tup [.int .i64 r0, .bool r1])) := by kernel_rfl

theorem impl_Last_fn : PM.FnIs Try.prog 91 Try.f91 := .of Try.func91 (by kernel_rfl) (by kernel_rfl)
theorem impl_Last_g : PM.GOk Try.prog cx 91 ⟨[], impl_Last_w (impl_Last PM.std), none⟩ := by
  refine ⟨impl_Last_fn.enter, fun _ ds k r h => ?_, fun hm => absurd rfl hm, fun _ e => (by cases e)⟩
  change impl_Last_w (impl_Last PM.std) ds k = some r at h
  unfold impl_Last_w at h
  split at h
  · exact PM.pfun_ok (E := impl_Last_E PM.std (impl_RowsOk PM.std)) (L := fun n => impl_Last_L PM.std (impl_RowsOk PM.std) n) (N := PM.std.fuel) cx_ok (.cons impl_RowsOk_g .nil) mixed .nil impl_Last_fn (by kernel_rfl) ⟨rfl, fun cur σ K => by
      dsimp only [impl_Last_L]
      split <;> rfl, fun n cur σ K r h => by
      dsimp only [impl_Last_L] at h
      split at h
      · exact (impl_Last_l0_ok PM.std (impl_RowsOk PM.std) n _ _ _ K).symm.trans h
      · cases h⟩
      ((impl_Last_ok PM.std (impl_RowsOk PM.std) _ _ k).trans h)
  · cases h

abbrev impl_Net_T := (List (List Int)) → ((List (List Int)) → PM.R) → PM.R
noncomputable def impl_Net_w (c : impl_Net_T) (ds : List PM.V) (k : PM.V → PM.R) : PM.R :=
  match ds with
  | [.arr (.vecs 135 2 l)] => c l (fun r0 => k (.arr (.vecs 135 2 r0)))
  | _ => none
noncomputable def impl_Net_l0 (A : PM.Prims) (c_124 : impl_RowsOk_T) (c_91 : impl_Last_T) : Nat → (List (List Int)) → (Int) → (List (List Int)) → ((List (List Int)) → PM.R) → PM.R
  | 0, _, _, _, _ => none
  | n + 1, l2, t113, o04, kx0_0 =>
    bif (A.lt t113 8) then
      c_91 l2 t113 (fun r5 r6 =>
        bif r6 then
          bif (A.room (A.vlen o04) (A.vlen [[t113, r5]])) then
            impl_Net_l0 A c_124 c_91 n l2 (A.add .i64 t113 1) (A.vapp o04 [[t113, r5]]) kx0_0
          else
            none
        else
          impl_Net_l0 A c_124 c_91 n l2 (A.add .i64 t113 1) o04 kx0_0)
    else
      kx0_0 o04
noncomputable def impl_Net_f (A : PM.Prims) (c_124 : impl_RowsOk_T) (c_91 : impl_Last_T) (l : List (List Int)) (k : (List (List Int)) → PM.R) : PM.R :=
  c_124 l (fun r1 =>
    bif (A.not r1) then
      k []
    else
      impl_Net_l0 A c_124 c_91 A.fuel l 0 [] (fun o078 =>
        k o078))
noncomputable def impl_Net (A : PM.Prims) : impl_Net_T := impl_Net_f A (impl_RowsOk A) (impl_Last A)
noncomputable def impl_Net_L (A : PM.Prims) (c_124 : impl_RowsOk_T) (c_91 : impl_Last_T) (n : Nat) : PM.Lam := fun cur σ K =>
  match cur, σ, K with
  | 0, ⟨[(0, .arr (.vecs 135 2 l2)), (3, .sref 0), (11, .int .i64 t113)], [(0, .arr true (.vecs 135 2 o04))]⟩, K => impl_Net_l0 A c_124 c_91 n l2 t113 o04 (fun o07 => K (.exit 0) ⟨[(3, .sref 0)], [(0, .arr true (.vecs 135 2 o07))]⟩)
  | _, _, _ => none
noncomputable def impl_Net_E (A : PM.Prims) (c_124 : impl_RowsOk_T) (c_91 : impl_Last_T) : PM.Env := ⟨[(124, ⟨[], impl_RowsOk_w c_124, none⟩), (91, ⟨[], impl_Last_w c_91, none⟩)], [], [(0, [0, 3, 11], [2, 3])], [(0, [0]), (1, [0, 9]), (2, [2]), (3, [0, 3]), (4, [0, 3, 11]), (5, [0, 3, 11, 12]), (6, [0, 3, 4, 11]), (7, [0, 3, 4, 5, 6, 11]), (8, [0, 3, 4, 5, 11, 20]), (9, [0, 3, 11]), (10, [0, 3, 11]), (11, [2])], impl_Net_L A c_124 c_91 A.fuel⟩
theorem impl_Net_l0_ok (A : PM.Prims) (c_124 : impl_RowsOk_T) (c_91 : impl_Last_T) (n : Nat) (l2 : List (List Int)) (t113 : Int) (o04 : List (List Int)) (K : Go.Exit → PM.S → PM.R) : impl_Net_L A c_124 c_91 (n + 1) 0 ⟨[(0, .arr (.vecs 135 2 l2)), (3, .sref 0), (11, .int .i64 t113)], [(0, .arr true (.vecs 135 2 o04))]⟩ K = PM.roundF A cx (PM.runD A cx (impl_Net_E A c_124 c_91).inl (impl_Net_E A c_124 c_91).Γ 3) (impl_Net_E A c_124 c_91) (impl_Net_L A c_124 c_91 n) 0 Go.Proofs.Try.f87 ⟨[(0, .arr (.vecs 135 2 l2)), (3, .sref 0), (11, .int .i64 t113)], [(0, .arr true (.vecs 135 2 o04))]⟩ K := by kernel_rfl
theorem impl_Net_ok (A : PM.Prims) (c_124 : impl_RowsOk_T) (c_91 : impl_Last_T) (l : List (List Int)) (k : PM.V → PM.R) : PM.pfun A cx [] (impl_Net_E A c_124 c_91) Go.Proofs.Try.f87 [.arr (.vecs 135 2 l)] k = impl_Net_f A c_124 c_91 l (fun r0 => k (.arr (.vecs 135 2 r0))) := by kernel_rfl

theorem impl_Net_fn : PM.FnIs Try.prog 87 Try.f87 := .of Try.func87 (by kernel_rfl) (by kernel_rfl)
theorem impl_Net_g : PM.GOk Try.prog cx 87 ⟨[], impl_Net_w (impl_Net PM.std), none⟩ := by
  refine ⟨impl_Net_fn.enter, fun _ ds k r h => ?_, fun hm => absurd rfl hm, fun _ e => (by cases e)⟩
  change impl_Net_w (impl_Net PM.std) ds k = some r at h
  unfold impl_Net_w at h
  split at h
  · exact PM.pfun_ok (E := impl_Net_E PM.std (impl_RowsOk PM.std) (impl_Last PM.std)) (L := fun n => impl_Net_L PM.std (impl_RowsOk PM.std) (impl_Last PM.std) n) (N := PM.std.fuel) cx_ok (.cons impl_RowsOk_g (.cons impl_Last_g .nil)) mixed .nil impl_Net_fn (by kernel_rfl) ⟨rfl, fun cur σ K => by
      dsimp only [impl_Net_L]
      split <;> rfl, fun n cur σ K r h => by
      dsimp only [impl_Net_L] at h
      split at h
      · exact (impl_Net_l0_ok PM.std (impl_RowsOk PM.std) (impl_Last PM.std) n _ _ _ K).symm.trans h
      · cases h⟩
      ((impl_Net_ok PM.std (impl_RowsOk PM.std) (impl_Last PM.std) _ k).trans h)
  · cases h

abbrev impl_CellsOf_T := (List (List Int)) → ((List Int) → PM.R) → PM.R
noncomputable def impl_CellsOf_w (c : impl_CellsOf_T) (ds : List PM.V) (k : PM.V → PM.R) : PM.R :=
  match ds with
  | [.arr (.vecs 135 2 l)] => c l (fun r0 => k (.arr (.ints 3 .i64 r0)))
  | _ => none
noncomputable def impl_CellsOf_l0 (A : PM.Prims) (c_87 : impl_Net_T) : Nat → (Int) → (Int) → (List Int) → (List (List Int)) → ((List Int) → PM.R) → PM.R
  | 0, _, _, _, _, _ => none
  | n + 1, t92, t103, o04, o15, kx0_0 =>
    bif (A.lt t103 t92) then
      bif (A.inb t103 (A.vlen o15)) then
        bif (A.room (A.ilen o04) (A.ilen [(A.vget o15 t103 0)])) then
          impl_CellsOf_l0 A c_87 n t92 (A.add .i64 t103 1) (A.iapp o04 [(A.vget o15 t103 0)]) o15 kx0_0
        else
          none
      else
        none
    else
      kx0_0 o04
noncomputable def impl_CellsOf_f (A : PM.Prims) (c_87 : impl_Net_T) (l : List (List Int)) (k : (List Int) → PM.R) : PM.R :=
  c_87 l (fun r1 =>
    impl_CellsOf_l0 A c_87 A.fuel (A.vlen r1) 0 [] r1 (fun o067 =>
      k o067))
noncomputable def impl_CellsOf (A : PM.Prims) : impl_CellsOf_T := impl_CellsOf_f A (impl_Net A)
noncomputable def impl_CellsOf_L (A : PM.Prims) (c_87 : impl_Net_T) (n : Nat) : PM.Lam := fun cur σ K =>
  match cur, σ, K with
  | 0, ⟨[(3, .sref 0), (8, .sref 1), (9, .int .i64 t92), (10, .int .i64 t103)], [(0, .arr true (.ints 3 .i64 o04)), (1, .arr true (.vecs 135 2 o15))]⟩, K => impl_CellsOf_l0 A c_87 n t92 t103 o04 o15 (fun o06 => K (.exit 0) ⟨[(3, .sref 0)], [(0, .arr true (.ints 3 .i64 o06))]⟩)
  | _, _, _ => none
noncomputable def impl_CellsOf_E (A : PM.Prims) (c_87 : impl_Net_T) : PM.Env := ⟨[(87, ⟨[], impl_Net_w c_87, none⟩)], [], [(0, [3, 8, 9, 10], [2, 3])], [(0, [0]), (1, [0, 3]), (2, [3, 8, 9, 10]), (3, [3, 8, 9, 10, 11]), (4, [3, 5, 8, 9, 10]), (5, [3, 8, 9, 10]), (6, [3, 8, 9, 10]), (7, [2])], impl_CellsOf_L A c_87 A.fuel⟩
theorem impl_CellsOf_l0_ok (A : PM.Prims) (c_87 : impl_Net_T) (n : Nat) (t92 : Int) (t103 : Int) (o04 : List Int) (o15 : List (List Int)) (K : Go.Exit → PM.S → PM.R) : impl_CellsOf_L A c_87 (n + 1) 0 ⟨[(3, .sref 0), (8, .sref 1), (9, .int .i64 t92), (10, .int .i64 t103)], [(0, .arr true (.ints 3 .i64 o04)), (1, .arr true (.vecs 135 2 o15))]⟩ K = PM.roundF A cx (PM.runD A cx (impl_CellsOf_E A c_87).inl (impl_CellsOf_E A c_87).Γ 3) (impl_CellsOf_E A c_87) (impl_CellsOf_L A c_87 n) 0 Go.Proofs.Try.f90 ⟨[(3, .sref 0), (8, .sref 1), (9, .int .i64 t92), (10, .int .i64 t103)], [(0, .arr true (.ints 3 .i64 o04)), (1, .arr true (.vecs 135 2 o15))]⟩ K := by kernel_rfl
theorem impl_CellsOf_ok (A : PM.Prims) (c_87 : impl_Net_T) (l : List (List Int)) (k : PM.V → PM.R) : PM.pfun A cx [] (impl_CellsOf_E A c_87) Go.Proofs.Try.f90 [.arr (.vecs 135 2 l)] k = impl_CellsOf_f A c_87 l (fun r0 => k (.arr (.ints 3 .i64 r0))) := by kernel_rfl

theorem impl_CellsOf_fn : PM.FnIs Try.prog 90 Try.f90 := .of Try.func90 (by kernel_rfl) (by kernel_rfl)
theorem impl_CellsOf_g : PM.GOk Try.prog cx 90 ⟨[], impl_CellsOf_w (impl_CellsOf PM.std), none⟩ := by
  refine ⟨impl_CellsOf_fn.enter, fun _ ds k r h => ?_, fun hm => absurd rfl hm, fun _ e => (by cases e)⟩
  change impl_CellsOf_w (impl_CellsOf PM.std) ds k = some r at h
  unfold impl_CellsOf_w at h
  split at h
  · exact PM.pfun_ok (E := impl_CellsOf_E PM.std (impl_Net PM.std)) (L := fun n => impl_CellsOf_L PM.std (impl_Net PM.std) n) (N := PM.std.fuel) cx_ok (.cons impl_Net_g .nil) mixed .nil impl_CellsOf_fn (by kernel_rfl) ⟨rfl, fun cur σ K => by
      dsimp only [impl_CellsOf_L]
      split <;> rfl, fun n cur σ K r h => by
      dsimp only [impl_CellsOf_L] at h
      split at h
      · exact (impl_CellsOf_l0_ok PM.std (impl_Net PM.std) n _ _ _ _ K).symm.trans h
      · cases h⟩
      ((impl_CellsOf_ok PM.std (impl_Net PM.std) _ k).trans h)
  · cases h

abbrev impl_CommitNew_T := (Int) → (Int) → (List (List Int)) → (List (List Int)) → ((Int) → (Int) → (Int) → (Int) → (Int) → (List (List Int)) → (List Int) → (Bool) → PM.R) → PM.R
noncomputable def impl_CommitNew_w (c : impl_CommitNew_T) (ds : List PM.V) (k : PM.V → PM.R) : PM.R :=
  match ds with
  | [.int .i64 who, .int .i64 rv, .arr (.vecs 135 2 puts), .arr (.vecs 135 2 reads)] => c who rv puts reads (fun r0_Who r0_Rv r0_Phase r0_At r0_Wv r0_Puts r0_Reads r1 => k (.tup [.agg [.int .i64 r0_Who, .int .i64 r0_Rv, .int .i64 r0_Phase, .int .i64 r0_At, .int .i64 r0_Wv, .arr (.vecs 135 2 r0_Puts), .arr (.ints 3 .i64 r0_Reads)], .bool r1]))
  | _ => none
noncomputable def impl_CommitNew_f (A : PM.Prims) (c_97 : impl_within_T) (c_123 : impl_isOwner_T) (c_124 : impl_RowsOk_T) (c_87 : impl_Net_T) (c_90 : impl_CellsOf_T) (who : Int) (rv : Int) (puts : List (List Int)) (reads : List (List Int)) (k : (Int) → (Int) → (Int) → (Int) → (Int) → (List (List Int)) → (List Int) → (Bool) → PM.R) : PM.R :=
  c_123 who (fun r1 =>
    bif (A.not r1) then
      k 0 0 0 0 0 [] [] false
    else
      c_97 rv 0 1000000 (fun r2 =>
        bif (A.not r2) then
          k 0 0 0 0 0 [] [] false
        else
          c_124 puts (fun r3 =>
            bif (A.not r3) then
              k 0 0 0 0 0 [] [] false
            else
              c_124 reads (fun r4 =>
                bif (A.not r4) then
                  k 0 0 0 0 0 [] [] false
                else
                  c_87 puts (fun r5 =>
                    c_90 reads (fun r6 =>
                      bif (A.eq (A.vlen r5) 0) then
                        k who rv 2 0 0 r5 r6 true
                      else
                        k who rv 1 0 0 r5 r6 true))))))
noncomputable def impl_CommitNew (A : PM.Prims) : impl_CommitNew_T := impl_CommitNew_f A (impl_within A) (impl_isOwner A) (impl_RowsOk A) (impl_Net A) (impl_CellsOf A)
noncomputable def impl_CommitNew_L (A : PM.Prims) (c_97 : impl_within_T) (c_123 : impl_isOwner_T) (c_124 : impl_RowsOk_T) (c_87 : impl_Net_T) (c_90 : impl_CellsOf_T) (n : Nat) : PM.Lam := fun cur σ K =>
  match cur, σ, K with
  | _, _, _ => none
noncomputable def impl_CommitNew_E (A : PM.Prims) (c_97 : impl_within_T) (c_123 : impl_isOwner_T) (c_124 : impl_RowsOk_T) (c_87 : impl_Net_T) (c_90 : impl_CellsOf_T) : PM.Env := ⟨[(97, ⟨[], impl_within_w c_97, none⟩), (123, ⟨[], impl_isOwner_w c_123, none⟩), (124, ⟨[], impl_RowsOk_w c_124, none⟩), (87, ⟨[], impl_Net_w c_87, none⟩), (90, ⟨[], impl_CellsOf_w c_90, none⟩)], [], [], [(0, [0, 1, 2, 3, 8]), (1, [0, 1, 2, 3, 8, 28]), (2, [8, 9]), (3, [8, 10]), (4, [8, 10, 40]), (5, [8, 10]), (6, [8, 9])], impl_CommitNew_L A c_97 c_123 c_124 c_87 c_90 A.fuel⟩
theorem impl_CommitNew_ok (A : PM.Prims) (c_97 : impl_within_T) (c_123 : impl_isOwner_T) (c_124 : impl_RowsOk_T) (c_87 : impl_Net_T) (c_90 : impl_CellsOf_T) (who : Int) (rv : Int) (puts : List (List Int)) (reads : List (List Int)) (k : PM.V → PM.R) : PM.pfun A cx [] (impl_CommitNew_E A c_97 c_123 c_124 c_87 c_90) Go.Proofs.Try.f69 [.int .i64 who, .int .i64 rv, .arr (.vecs 135 2 puts), .arr (.vecs 135 2 reads)] k = impl_CommitNew_f A c_97 c_123 c_124 c_87 c_90 who rv puts reads (fun r0_Who r0_Rv r0_Phase r0_At r0_Wv r0_Puts r0_Reads r1 => k (.tup [.agg [.int .i64 r0_Who, .int .i64 r0_Rv, .int .i64 r0_Phase, .int .i64 r0_At, .int .i64 r0_Wv, .arr (.vecs 135 2 r0_Puts), .arr (.ints 3 .i64 r0_Reads)], .bool r1])) := by kernel_rfl

theorem impl_CommitNew_fn : PM.FnIs Try.prog 69 Try.f69 := .of Try.func69 (by kernel_rfl) (by kernel_rfl)
theorem impl_CommitNew_g : PM.GOk Try.prog cx 69 ⟨[], impl_CommitNew_w (impl_CommitNew PM.std), none⟩ := by
  refine ⟨impl_CommitNew_fn.enter, fun _ ds k r h => ?_, fun hm => absurd rfl hm, fun _ e => (by cases e)⟩
  change impl_CommitNew_w (impl_CommitNew PM.std) ds k = some r at h
  unfold impl_CommitNew_w at h
  split at h
  · exact PM.pfun_ok (E := impl_CommitNew_E PM.std (impl_within PM.std) (impl_isOwner PM.std) (impl_RowsOk PM.std) (impl_Net PM.std) (impl_CellsOf PM.std)) (L := fun n => impl_CommitNew_L PM.std (impl_within PM.std) (impl_isOwner PM.std) (impl_RowsOk PM.std) (impl_Net PM.std) (impl_CellsOf PM.std) n) (N := PM.std.fuel) cx_ok (.cons impl_within_g (.cons impl_isOwner_g (.cons impl_RowsOk_g (.cons impl_Net_g (.cons impl_CellsOf_g .nil))))) mixed .nil impl_CommitNew_fn (by kernel_rfl) ⟨rfl, fun _ _ _ => rfl, fun n cur σ K r h => by cases h⟩
      ((impl_CommitNew_ok PM.std (impl_within PM.std) (impl_isOwner PM.std) (impl_RowsOk PM.std) (impl_Net PM.std) (impl_CellsOf PM.std) _ _ _ _ k).trans h)
  · cases h

abbrev laws_markRowS_T := (List (List Int)) → (Int) → ((Int) → (List (List Int)) → PM.R) → PM.R
noncomputable def laws_markRowS_w (c : laws_markRowS_T) (ds : List PM.V) (k : PM.V → PM.R) : PM.R :=
  match ds with
  | [.arr (.vecs 135 2 a), .int .i64 k_] => c a k_ (fun r0 o0 => k (.tup [.int .i64 r0, .arr (.vecs 135 2 o0)]))
  | _ => none
noncomputable def laws_markRowS_l0 (A : PM.Prims) : Nat → (Int) → (Int) → (List (List Int)) → ((Int) → (List (List Int)) → PM.R) → PM.R
  | 0, _, _, _, _ => none
  | n + 1, k1, i2, o03, kx0_0 =>
    bif (A.lt i2 (A.vlen o03)) then
      bif (A.inb i2 (A.vlen o03)) then
        bif (A.inb i2 (A.vlen (A.vset o03 i2 0 k1))) then
          laws_markRowS_l0 A n (A.add .i64 (A.add .i64 k1 1) 1) (A.add .i64 i2 1) (A.vset (A.vset o03 i2 0 k1) i2 1 (A.add .i64 k1 1)) kx0_0
        else
          none
      else
        none
    else
      kx0_0 k1 o03
noncomputable def laws_markRowS_f (A : PM.Prims) (a : List (List Int)) (k_ : Int) (k : (Int) → (List (List Int)) → PM.R) : PM.R :=
  laws_markRowS_l0 A A.fuel k_ 0 a (fun k46 o057 =>
    k k46 o057)
noncomputable def laws_markRowS (A : PM.Prims) : laws_markRowS_T := laws_markRowS_f A
noncomputable def laws_markRowS_L (A : PM.Prims) (n : Nat) : PM.Lam := fun cur σ K =>
  match cur, σ, K with
  | 0, ⟨[(0, .sref 0), (1, .int .i64 k1), (5, .int .i64 i2)], [(0, .arr false (.vecs 135 2 o03))]⟩, K => laws_markRowS_l0 A n k1 i2 o03 (fun k4 o05 => K (.exit 0) ⟨[(0, .sref 0), (1, .int .i64 k4)], [(0, .arr false (.vecs 135 2 o05))]⟩)
  | _, _, _ => none
noncomputable def laws_markRowS_E (A : PM.Prims) : PM.Env := ⟨[], [], [(0, [0, 1, 5], [0, 1, 4])], [(0, [0, 1]), (1, [0, 1, 5]), (2, [0, 1, 5, 9]), (3, [0, 1, 5]), (4, [0, 1, 5]), (5, [0, 1, 5]), (6, [0, 1, 5]), (7, [0, 1, 5]), (8, [0, 4])], laws_markRowS_L A A.fuel⟩
theorem laws_markRowS_l0_ok (A : PM.Prims) (n : Nat) (k1 : Int) (i2 : Int) (o03 : List (List Int)) (K : Go.Exit → PM.S → PM.R) : laws_markRowS_L A (n + 1) 0 ⟨[(0, .sref 0), (1, .int .i64 k1), (5, .int .i64 i2)], [(0, .arr false (.vecs 135 2 o03))]⟩ K = PM.roundF A cx (PM.runD A cx (laws_markRowS_E A).inl (laws_markRowS_E A).Γ 3) (laws_markRowS_E A) (laws_markRowS_L A n) 0 Go.Proofs.Try.f71 ⟨[(0, .sref 0), (1, .int .i64 k1), (5, .int .i64 i2)], [(0, .arr false (.vecs 135 2 o03))]⟩ K := by kernel_rfl
theorem laws_markRowS_ok (A : PM.Prims) (a : List (List Int)) (k_ : Int) (k : PM.V → PM.R) : PM.pfun A cx [true, false] (laws_markRowS_E A) Go.Proofs.Try.f71 [.arr (.vecs 135 2 a), .int .i64 k_] k = laws_markRowS_f A a k_ (fun r0 o0 => k (.tup [.int .i64 r0, .arr (.vecs 135 2 o0)])) := by kernel_rfl

theorem laws_markRowS_fn : PM.FnIs Try.prog 71 Try.f71 := .of Try.func71 (by kernel_rfl) (by kernel_rfl)
theorem laws_markRowS_g : PM.GOk Try.prog cx 71 ⟨[true, false], laws_markRowS_w (laws_markRowS PM.std), none⟩ := by
  refine ⟨laws_markRowS_fn.enter, fun hm => (by cases hm), fun _ ds k r h => ?_, fun _ e => (by cases e)⟩
  change laws_markRowS_w (laws_markRowS PM.std) ds k = some r at h
  unfold laws_markRowS_w at h
  split at h
  · exact PM.pfun_okM (List.cons_ne_nil _ _) (E := laws_markRowS_E PM.std) (L := fun n => laws_markRowS_L PM.std n) (N := PM.std.fuel) cx_ok .nil mixed .nil laws_markRowS_fn (by kernel_rfl) ⟨rfl, fun cur σ K => by
      dsimp only [laws_markRowS_L]
      split <;> rfl, fun n cur σ K r h => by
      dsimp only [laws_markRowS_L] at h
      split at h
      · exact (laws_markRowS_l0_ok PM.std n _ _ _ K).symm.trans h
      · cases h⟩
      ((laws_markRowS_ok PM.std _ _ k).trans h)
  · cases h

abbrev laws_markCommit_T := (Int) → (Int) → (Int) → (Int) → (Int) → (List (List Int)) → (List Int) → (Int) → ((Int) → (List (List Int)) → (List Int) → PM.R) → PM.R
noncomputable def laws_markCommit_w (c : laws_markCommit_T) (ds : List PM.V) (k : PM.V → PM.R) : PM.R :=
  match ds with
  | [.agg [.int .i64 a_Who, .int .i64 a_Rv, .int .i64 a_Phase, .int .i64 a_At, .int .i64 a_Wv, .arr (.vecs 135 2 a_Puts), .arr (.ints 3 .i64 a_Reads)], .int .i64 k_] => c a_Who a_Rv a_Phase a_At a_Wv a_Puts a_Reads k_ (fun r0 o0_Puts o0_Reads => k (.tup [.int .i64 r0, .arr (.vecs 135 2 o0_Puts), .arr (.ints 3 .i64 o0_Reads)]))
  | _ => none
noncomputable def laws_markCommit_f (A : PM.Prims) (c_47 : laws_markIntS_T) (c_71 : laws_markRowS_T) (a_Who : Int) (a_Rv : Int) (a_Phase : Int) (a_At : Int) (a_Wv : Int) (a_Puts : List (List Int)) (a_Reads : List Int) (k_ : Int) (k : (Int) → (List (List Int)) → (List Int) → PM.R) : PM.R :=
  c_71 a_Puts k_ (fun r1 r2 =>
    c_47 a_Reads r1 (fun r3 r4 =>
      k r3 r2 r4))
noncomputable def laws_markCommit (A : PM.Prims) : laws_markCommit_T := laws_markCommit_f A (laws_markIntS A) (laws_markRowS A)
noncomputable def laws_markCommit_L (A : PM.Prims) (c_47 : laws_markIntS_T) (c_71 : laws_markRowS_T) (n : Nat) : PM.Lam := fun cur σ K =>
  match cur, σ, K with
  | _, _, _ => none
noncomputable def laws_markCommit_E (A : PM.Prims) (c_47 : laws_markIntS_T) (c_71 : laws_markRowS_T) : PM.Env := ⟨[(47, ⟨[true, false], laws_markIntS_w c_47, none⟩), (71, ⟨[true, false], laws_markRowS_w c_71, none⟩)], [], [], [(0, [0, 1, 2]), (1, [0, 1, 2]), (2, [0, 1]), (3, [0, 4])], laws_markCommit_L A c_47 c_71 A.fuel⟩
theorem laws_markCommit_ok (A : PM.Prims) (c_47 : laws_markIntS_T) (c_71 : laws_markRowS_T) (a_Who : Int) (a_Rv : Int) (a_Phase : Int) (a_At : Int) (a_Wv : Int) (a_Puts : List (List Int)) (a_Reads : List Int) (k_ : Int) (k : PM.V → PM.R) : PM.pfun A cx [true, false] (laws_markCommit_E A c_47 c_71) Go.Proofs.Try.f72 [.agg [.int .i64 a_Who, .int .i64 a_Rv, .int .i64 a_Phase, .int .i64 a_At, .int .i64 a_Wv, .arr (.vecs 135 2 a_Puts), .arr (.ints 3 .i64 a_Reads)], .int .i64 k_] k = laws_markCommit_f A c_47 c_71 a_Who a_Rv a_Phase a_At a_Wv a_Puts a_Reads k_ (fun r0 o0_Puts o0_Reads => k (.tup [.int .i64 r0, .arr (.vecs 135 2 o0_Puts), .arr (.ints 3 .i64 o0_Reads)])) := by kernel_rfl

theorem laws_markCommit_fn : PM.FnIs Try.prog 72 Try.f72 := .of Try.func72 (by kernel_rfl) (by kernel_rfl)
theorem laws_markCommit_g : PM.GOk Try.prog cx 72 ⟨[true, false], laws_markCommit_w (laws_markCommit PM.std), none⟩ := by
  refine ⟨laws_markCommit_fn.enter, fun hm => (by cases hm), fun _ ds k r h => ?_, fun _ e => (by cases e)⟩
  change laws_markCommit_w (laws_markCommit PM.std) ds k = some r at h
  unfold laws_markCommit_w at h
  split at h
  · exact PM.pfun_okM (List.cons_ne_nil _ _) (E := laws_markCommit_E PM.std (laws_markIntS PM.std) (laws_markRowS PM.std)) (L := fun n => laws_markCommit_L PM.std (laws_markIntS PM.std) (laws_markRowS PM.std) n) (N := PM.std.fuel) cx_ok (.cons laws_markIntS_g (.cons laws_markRowS_g .nil)) mixed .nil laws_markCommit_fn (by kernel_rfl) ⟨rfl, fun _ _ _ => rfl, fun n cur σ K r h => by cases h⟩
      ((laws_markCommit_ok PM.std (laws_markIntS PM.std) (laws_markRowS PM.std) _ _ _ _ _ _ _ _ k).trans h)
  · cases h

abbrev laws_heldRowS_T := (List (List Int)) → (Int) → ((Int) → PM.R) → PM.R
noncomputable def laws_heldRowS_w (c : laws_heldRowS_T) (ds : List PM.V) (k : PM.V → PM.R) : PM.R :=
  match ds with
  | [.arr (.vecs 135 2 a), .int .i64 k_] => c a k_ (fun r0 => k (.int .i64 r0))
  | _ => none
noncomputable def laws_heldRowS_l0 (A : PM.Prims) : Nat → (List (List Int)) → (Int) → (Int) → ((Int) → PM.R) → ((Int) → PM.R) → PM.R
  | 0, _, _, _, _, _ => none
  | n + 1, a1, k2, i3, kret_0, kx0_0 =>
    bif (A.lt i3 (A.vlen a1)) then
      bif (A.inb i3 (A.vlen a1)) then
        bif (A.not (A.eq (A.vget a1 i3 0) k2)) then
          kret_0 (-1)
        else
          bif (A.inb i3 (A.vlen a1)) then
            bif (A.not (A.eq (A.vget a1 i3 1) (A.add .i64 k2 1))) then
              kret_0 (-1)
            else
              laws_heldRowS_l0 A n a1 (A.add .i64 (A.add .i64 k2 1) 1) (A.add .i64 i3 1) kret_0 kx0_0
          else
            none
      else
        none
    else
      kx0_0 k2
noncomputable def laws_heldRowS_f (A : PM.Prims) (a : List (List Int)) (k_ : Int) (k : (Int) → PM.R) : PM.R :=
  laws_heldRowS_l0 A A.fuel a k_ 0 (fun t446 =>
    k t446) (fun k57 =>
    k k57)
noncomputable def laws_heldRowS (A : PM.Prims) : laws_heldRowS_T := laws_heldRowS_f A
noncomputable def laws_heldRowS_L (A : PM.Prims) (n : Nat) : PM.Lam := fun cur σ K =>
  match cur, σ, K with
  | 0, ⟨[(0, .arr (.vecs 135 2 a1)), (1, .int .i64 k2), (5, .int .i64 i3)], []⟩, K => laws_heldRowS_l0 A n a1 k2 i3 (fun t44 => K .ret ⟨[(4, .int .i64 t44)], []⟩) (fun k5 => K (.exit 0) ⟨[(1, .int .i64 k5)], []⟩)
  | _, _, _ => none
noncomputable def laws_heldRowS_E (A : PM.Prims) : PM.Env := ⟨[], [], [(0, [0, 1, 5], [1, 4])], [(0, [0, 1]), (1, [0, 1, 5]), (2, [0, 1, 5, 9]), (3, [0, 1, 5]), (4, [0, 1, 5, 18]), (5, [4]), (6, [0, 1, 5]), (7, [0, 1, 5, 27]), (8, [4]), (9, [0, 1, 5]), (10, [4])], laws_heldRowS_L A A.fuel⟩
theorem laws_heldRowS_l0_ok (A : PM.Prims) (n : Nat) (a1 : List (List Int)) (k2 : Int) (i3 : Int) (K : Go.Exit → PM.S → PM.R) : laws_heldRowS_L A (n + 1) 0 ⟨[(0, .arr (.vecs 135 2 a1)), (1, .int .i64 k2), (5, .int .i64 i3)], []⟩ K = PM.roundF A cx (PM.runD A cx (laws_heldRowS_E A).inl (laws_heldRowS_E A).Γ 3) (laws_heldRowS_E A) (laws_heldRowS_L A n) 0 Go.Proofs.Try.f130 ⟨[(0, .arr (.vecs 135 2 a1)), (1, .int .i64 k2), (5, .int .i64 i3)], []⟩ K := by kernel_rfl
theorem laws_heldRowS_ok (A : PM.Prims) (a : List (List Int)) (k_ : Int) (k : PM.V → PM.R) : PM.pfun A cx [] (laws_heldRowS_E A) Go.Proofs.Try.f130 [.arr (.vecs 135 2 a), .int .i64 k_] k = laws_heldRowS_f A a k_ (fun r0 => k (.int .i64 r0)) := by kernel_rfl

theorem laws_heldRowS_fn : PM.FnIs Try.prog 130 Try.f130 := .of Try.func130 (by kernel_rfl) (by kernel_rfl)
theorem laws_heldRowS_g : PM.GOk Try.prog cx 130 ⟨[], laws_heldRowS_w (laws_heldRowS PM.std), none⟩ := by
  refine ⟨laws_heldRowS_fn.enter, fun _ ds k r h => ?_, fun hm => absurd rfl hm, fun _ e => (by cases e)⟩
  change laws_heldRowS_w (laws_heldRowS PM.std) ds k = some r at h
  unfold laws_heldRowS_w at h
  split at h
  · exact PM.pfun_ok (E := laws_heldRowS_E PM.std) (L := fun n => laws_heldRowS_L PM.std n) (N := PM.std.fuel) cx_ok .nil mixed .nil laws_heldRowS_fn (by kernel_rfl) ⟨rfl, fun cur σ K => by
      dsimp only [laws_heldRowS_L]
      split <;> rfl, fun n cur σ K r h => by
      dsimp only [laws_heldRowS_L] at h
      split at h
      · exact (laws_heldRowS_l0_ok PM.std n _ _ _ K).symm.trans h
      · cases h⟩
      ((laws_heldRowS_ok PM.std _ _ k).trans h)
  · cases h

abbrev laws_heldCommit_T := (Int) → (Int) → (Int) → (Int) → (Int) → (List (List Int)) → (List Int) → (Int) → ((Int) → PM.R) → PM.R
noncomputable def laws_heldCommit_w (c : laws_heldCommit_T) (ds : List PM.V) (k : PM.V → PM.R) : PM.R :=
  match ds with
  | [.agg [.int .i64 a_Who, .int .i64 a_Rv, .int .i64 a_Phase, .int .i64 a_At, .int .i64 a_Wv, .arr (.vecs 135 2 a_Puts), .arr (.ints 3 .i64 a_Reads)], .int .i64 k_] => c a_Who a_Rv a_Phase a_At a_Wv a_Puts a_Reads k_ (fun r0 => k (.int .i64 r0))
  | _ => none
noncomputable def laws_heldCommit_f (A : PM.Prims) (c_48 : laws_heldIntS_T) (c_130 : laws_heldRowS_T) (a_Who : Int) (a_Rv : Int) (a_Phase : Int) (a_At : Int) (a_Wv : Int) (a_Puts : List (List Int)) (a_Reads : List Int) (k_ : Int) (k : (Int) → PM.R) : PM.R :=
  c_130 a_Puts k_ (fun r1 =>
    bif (A.lt r1 0) then
      k (-1)
    else
      c_48 a_Reads r1 (fun r2 =>
        bif (A.lt r2 0) then
          k (-1)
        else
          k r2))
noncomputable def laws_heldCommit (A : PM.Prims) : laws_heldCommit_T := laws_heldCommit_f A (laws_heldIntS A) (laws_heldRowS A)
noncomputable def laws_heldCommit_L (A : PM.Prims) (c_48 : laws_heldIntS_T) (c_130 : laws_heldRowS_T) (n : Nat) : PM.Lam := fun cur σ K =>
  match cur, σ, K with
  | _, _, _ => none
noncomputable def laws_heldCommit_E (A : PM.Prims) (c_48 : laws_heldIntS_T) (c_130 : laws_heldRowS_T) : PM.Env := ⟨[(48, ⟨[], laws_heldIntS_w c_48, none⟩), (130, ⟨[], laws_heldRowS_w c_130, none⟩)], [], [], [(0, [1, 2]), (1, [1, 2]), (2, [1, 2, 10]), (3, [4]), (4, [1]), (5, [1, 16]), (6, [4]), (7, [4])], laws_heldCommit_L A c_48 c_130 A.fuel⟩
theorem laws_heldCommit_ok (A : PM.Prims) (c_48 : laws_heldIntS_T) (c_130 : laws_heldRowS_T) (a_Who : Int) (a_Rv : Int) (a_Phase : Int) (a_At : Int) (a_Wv : Int) (a_Puts : List (List Int)) (a_Reads : List Int) (k_ : Int) (k : PM.V → PM.R) : PM.pfun A cx [] (laws_heldCommit_E A c_48 c_130) Go.Proofs.Try.f73 [.agg [.int .i64 a_Who, .int .i64 a_Rv, .int .i64 a_Phase, .int .i64 a_At, .int .i64 a_Wv, .arr (.vecs 135 2 a_Puts), .arr (.ints 3 .i64 a_Reads)], .int .i64 k_] k = laws_heldCommit_f A c_48 c_130 a_Who a_Rv a_Phase a_At a_Wv a_Puts a_Reads k_ (fun r0 => k (.int .i64 r0)) := by kernel_rfl

theorem laws_heldCommit_fn : PM.FnIs Try.prog 73 Try.f73 := .of Try.func73 (by kernel_rfl) (by kernel_rfl)
theorem laws_heldCommit_g : PM.GOk Try.prog cx 73 ⟨[], laws_heldCommit_w (laws_heldCommit PM.std), none⟩ := by
  refine ⟨laws_heldCommit_fn.enter, fun _ ds k r h => ?_, fun hm => absurd rfl hm, fun _ e => (by cases e)⟩
  change laws_heldCommit_w (laws_heldCommit PM.std) ds k = some r at h
  unfold laws_heldCommit_w at h
  split at h
  · exact PM.pfun_ok (E := laws_heldCommit_E PM.std (laws_heldIntS PM.std) (laws_heldRowS PM.std)) (L := fun n => laws_heldCommit_L PM.std (laws_heldIntS PM.std) (laws_heldRowS PM.std) n) (N := PM.std.fuel) cx_ok (.cons laws_heldIntS_g (.cons laws_heldRowS_g .nil)) mixed .nil laws_heldCommit_fn (by kernel_rfl) ⟨rfl, fun _ _ _ => rfl, fun n cur σ K r h => by cases h⟩
      ((laws_heldCommit_ok PM.std (laws_heldIntS PM.std) (laws_heldRowS PM.std) _ _ _ _ _ _ _ _ k).trans h)
  · cases h

abbrev laws_FnExactCommitNew_T := (Int) → (Int) → (List (List Int)) → (List (List Int)) → ((Bool) → PM.R) → PM.R
noncomputable def laws_FnExactCommitNew_w (c : laws_FnExactCommitNew_T) (ds : List PM.V) (k : PM.V → PM.R) : PM.R :=
  match ds with
  | [.int .i64 __, .int .i64 a, .arr (.vecs 139 2 r), .arr (.vecs 139 2 r_3)] => c __ a r r_3 (fun r0 => k (.bool r0))
  | _ => none
noncomputable def laws_FnExactCommitNew_f (A : PM.Prims) (c_66 : laws_szRowS_T) (c_68 : laws_toRowS_T) (c_70 : laws_eqRowS_T) (c_63 : laws_eqCommit_T) (c_67 : spec_CommitNew_T) (c_69 : impl_CommitNew_T) (c_71 : laws_markRowS_T) (c_72 : laws_markCommit_T) (c_73 : laws_heldCommit_T) (__ : Int) (a : Int) (r : List (List Int)) (r_3 : List (List Int)) (k : (Bool) → PM.R) : PM.R :=
  c_66 r 1048576 (fun r1 =>
    bif (A.lt r1 0) then
      k true
    else
      c_66 r_3 r1 (fun r2 =>
        bif (A.lt r2 0) then
          k true
        else
          c_68 r (fun r3 =>
            c_68 r_3 (fun r4 =>
              c_67 __ a r3 r4 (fun r5 r6 r7 r8 r9 r10 r11 r12 =>
                c_68 r (fun r13 =>
                  c_68 r_3 (fun r14 =>
                    c_69 __ a r13 r14 (fun r15 r16 r17 r18 r19 r20 r21 r22 =>
                      c_63 r15 r16 r17 r18 r19 r20 r21 r5 r6 r7 r8 r9 r10 r11 (fun r23 =>
                        bif (A.not r23) then
                          k false
                        else
                          bif (A.not (A.beq r22 r12)) then
                            k false
                          else
                            c_68 r (fun r24 =>
                              c_70 r13 r24 (fun r25 =>
                                bif (A.not r25) then
                                  k false
                                else
                                  c_68 r_3 (fun r26 =>
                                    c_70 r14 r26 (fun r27 =>
                                      bif (A.not r27) then
                                        k false
                                      else
                                        c_71 r13 1 (fun r28 r29 =>
                                          c_71 r14 r28 (fun r30 r31 =>
                                            bif (A.lt r30 0) then
                                              k false
                                            else
                                              c_63 r15 r16 r17 r18 r19 r20 r21 r5 r6 r7 r8 r9 r10 r11 (fun r32 =>
                                                bif (A.not r32) then
                                                  k false
                                                else
                                                  bif (A.not (A.beq r22 r12)) then
                                                    k false
                                                  else
                                                    c_72 r15 r16 r17 r18 r19 r20 r21 1 (fun r33 r34 r35 =>
                                                      c_73 r15 r16 r17 r18 r19 r34 r35 1 (fun r36 =>
                                                        bif (A.lt r36 0) then
                                                          k false
                                                        else
                                                          bif (A.not (A.eq r36 r33)) then
                                                            k false
                                                          else
                                                            c_68 r (fun r37 =>
                                                              c_68 r_3 (fun r38 =>
                                                                c_69 __ a r37 r38 (fun r39 r40 r41 r42 r43 r44 r45 r46 =>
                                                                  c_63 r39 r40 r41 r42 r43 r44 r45 r5 r6 r7 r8 r9 r10 r11 (fun r47 =>
                                                                    bif (A.not r47) then
                                                                      k false
                                                                    else
                                                                      bif (A.not (A.beq r46 r12)) then
                                                                        k false
                                                                      else
                                                                        c_73 r15 r16 r17 r18 r19 r34 r35 1 (fun r48 =>
                                                                          bif (A.lt r48 0) then
                                                                            k false
                                                                          else
                                                                            bif (A.not (A.eq r48 r33)) then
                                                                              k false
                                                                            else
                                                                              k true)))))))))))))))))))))))
noncomputable def laws_FnExactCommitNew (A : PM.Prims) : laws_FnExactCommitNew_T := laws_FnExactCommitNew_f A (laws_szRowS A) (laws_toRowS A) (laws_eqRowS A) (laws_eqCommit A) (spec_CommitNew A) (impl_CommitNew A) (laws_markRowS A) (laws_markCommit A) (laws_heldCommit A)
noncomputable def laws_FnExactCommitNew_L (A : PM.Prims) (c_66 : laws_szRowS_T) (c_68 : laws_toRowS_T) (c_70 : laws_eqRowS_T) (c_63 : laws_eqCommit_T) (c_67 : spec_CommitNew_T) (c_69 : impl_CommitNew_T) (c_71 : laws_markRowS_T) (c_72 : laws_markCommit_T) (c_73 : laws_heldCommit_T) (n : Nat) : PM.Lam := fun cur σ K =>
  match cur, σ, K with
  | _, _, _ => none
noncomputable def laws_FnExactCommitNew_E (A : PM.Prims) (c_66 : laws_szRowS_T) (c_68 : laws_toRowS_T) (c_70 : laws_eqRowS_T) (c_63 : laws_eqCommit_T) (c_67 : spec_CommitNew_T) (c_69 : impl_CommitNew_T) (c_71 : laws_markRowS_T) (c_72 : laws_markCommit_T) (c_73 : laws_heldCommit_T) : PM.Env := ⟨[(66, ⟨[], laws_szRowS_w c_66, none⟩), (68, ⟨[], laws_toRowS_w c_68, none⟩), (70, ⟨[], laws_eqRowS_w c_70, none⟩), (63, ⟨[], laws_eqCommit_w c_63, none⟩), (67, ⟨[], spec_CommitNew_w c_67, none⟩), (69, ⟨[], impl_CommitNew_w c_69, none⟩), (71, ⟨[true, false], laws_markRowS_w c_71, none⟩), (72, ⟨[true, false], laws_markCommit_w c_72, none⟩), (73, ⟨[], laws_heldCommit_w c_73, none⟩)], [], [], [(0, [0, 1, 2, 3]), (1, [0, 1, 2, 3, 9]), (2, [0, 1, 2, 3, 9]), (3, [0, 1, 2, 3, 9, 25]), (4, [8]), (5, [0, 1, 2, 3, 9]), (6, [0, 1, 2, 3, 30]), (7, [8]), (8, [0, 1, 2, 3, 10, 11]), (9, [0, 1, 2, 3, 10, 11, 12]), (10, [0, 1, 2, 3, 10, 11, 12, 13]), (11, [0, 1, 2, 3, 10, 11, 12, 13, 14, 15]), (12, [0, 1, 2, 3, 10, 11, 12, 13, 14, 15, 61]), (13, [8]), (14, [0, 1, 2, 3, 10, 11, 12, 13, 14, 15, 66]), (15, [8]), (16, [0, 1, 2, 3, 10, 11, 12, 13, 14, 15, 71]), (17, [8]), (18, [0, 1, 2, 3, 10, 11, 12, 13, 14, 15, 16]), (19, [0, 1, 2, 3, 10, 11, 13, 14, 15, 16]), (20, [0, 1, 2, 3, 10, 11, 14, 15, 16]), (21, [0, 1, 2, 3, 10, 11, 14, 90]), (22, [8]), (23, [0, 1, 2, 3, 10, 11, 14, 17]), (24, [0, 1, 2, 3, 10, 11, 14, 17]), (25, [0, 1, 2, 3, 10, 11, 14, 17, 18]), (26, [0, 1, 2, 3, 10, 11, 14, 17, 18]), (27, [0, 1, 2, 3, 10, 11, 14, 17, 18, 98]), (28, [8]), (29, [0, 1, 2, 3, 10, 11, 14, 17, 101]), (30, [8]), (31, [10, 11, 14, 17, 19, 20]), (32, [14, 17, 120]), (33, [8]), (34, [14, 17, 18]), (35, [17, 18]), (36, [17, 18, 125]), (37, [8]), (38, [128]), (39, [8]), (40, [8])], laws_FnExactCommitNew_L A c_66 c_68 c_70 c_63 c_67 c_69 c_71 c_72 c_73 A.fuel⟩
theorem laws_FnExactCommitNew_ok (A : PM.Prims) (c_66 : laws_szRowS_T) (c_68 : laws_toRowS_T) (c_70 : laws_eqRowS_T) (c_63 : laws_eqCommit_T) (c_67 : spec_CommitNew_T) (c_69 : impl_CommitNew_T) (c_71 : laws_markRowS_T) (c_72 : laws_markCommit_T) (c_73 : laws_heldCommit_T) (__ : Int) (a : Int) (r : List (List Int)) (r_3 : List (List Int)) (k : PM.V → PM.R) : PM.pfun A cx [] (laws_FnExactCommitNew_E A c_66 c_68 c_70 c_63 c_67 c_69 c_71 c_72 c_73) Go.Proofs.Try.f16 [.int .i64 __, .int .i64 a, .arr (.vecs 139 2 r), .arr (.vecs 139 2 r_3)] k = laws_FnExactCommitNew_f A c_66 c_68 c_70 c_63 c_67 c_69 c_71 c_72 c_73 __ a r r_3 (fun r0 => k (.bool r0)) := by kernel_rfl

theorem laws_FnExactCommitNew_fn : PM.FnIs Try.prog 16 Try.f16 := .of Try.func16 (by kernel_rfl) (by kernel_rfl)
theorem laws_FnExactCommitNew_g : PM.GOk Try.prog cx 16 ⟨[], laws_FnExactCommitNew_w (laws_FnExactCommitNew PM.std), none⟩ := by
  refine ⟨laws_FnExactCommitNew_fn.enter, fun _ ds k r h => ?_, fun hm => absurd rfl hm, fun _ e => (by cases e)⟩
  change laws_FnExactCommitNew_w (laws_FnExactCommitNew PM.std) ds k = some r at h
  unfold laws_FnExactCommitNew_w at h
  split at h
  · exact PM.pfun_ok (E := laws_FnExactCommitNew_E PM.std (laws_szRowS PM.std) (laws_toRowS PM.std) (laws_eqRowS PM.std) (laws_eqCommit PM.std) (spec_CommitNew PM.std) (impl_CommitNew PM.std) (laws_markRowS PM.std) (laws_markCommit PM.std) (laws_heldCommit PM.std)) (L := fun n => laws_FnExactCommitNew_L PM.std (laws_szRowS PM.std) (laws_toRowS PM.std) (laws_eqRowS PM.std) (laws_eqCommit PM.std) (spec_CommitNew PM.std) (impl_CommitNew PM.std) (laws_markRowS PM.std) (laws_markCommit PM.std) (laws_heldCommit PM.std) n) (N := PM.std.fuel) cx_ok (.cons laws_szRowS_g (.cons laws_toRowS_g (.cons laws_eqRowS_g (.cons laws_eqCommit_g (.cons spec_CommitNew_g (.cons impl_CommitNew_g (.cons laws_markRowS_g (.cons laws_markCommit_g (.cons laws_heldCommit_g .nil))))))))) mixed .nil laws_FnExactCommitNew_fn (by kernel_rfl) ⟨rfl, fun _ _ _ => rfl, fun n cur σ K r h => by cases h⟩
      ((laws_FnExactCommitNew_ok PM.std (laws_szRowS PM.std) (laws_toRowS PM.std) (laws_eqRowS PM.std) (laws_eqCommit PM.std) (spec_CommitNew PM.std) (impl_CommitNew PM.std) (laws_markRowS PM.std) (laws_markCommit PM.std) (laws_heldCommit PM.std) _ _ _ _ k).trans h)
  · cases h

abbrev impl_copyRows_T := (List (List Int)) → ((List (List Int)) → PM.R) → PM.R
noncomputable def impl_copyRows_w (c : impl_copyRows_T) (ds : List PM.V) (k : PM.V → PM.R) : PM.R :=
  match ds with
  | [.arr (.vecs 135 2 l)] => c l (fun r0 => k (.arr (.vecs 135 2 r0)))
  | _ => none
noncomputable def impl_copyRows_f (A : PM.Prims) (l : List (List Int)) (k : (List (List Int)) → PM.R) : PM.R :=
  bif (A.room (A.vlen []) (A.vlen l)) then
    k (A.vapp [] l)
  else
    none
noncomputable def impl_copyRows (A : PM.Prims) : impl_copyRows_T := impl_copyRows_f A
noncomputable def impl_copyRows_L (A : PM.Prims) (n : Nat) : PM.Lam := fun cur σ K =>
  match cur, σ, K with
  | _, _, _ => none
noncomputable def impl_copyRows_E (A : PM.Prims) : PM.Env := ⟨[], [], [], [(0, [0]), (1, [2])], impl_copyRows_L A A.fuel⟩
theorem impl_copyRows_ok (A : PM.Prims) (l : List (List Int)) (k : PM.V → PM.R) : PM.pfun A cx [] (impl_copyRows_E A) Go.Proofs.Try.f155 [.arr (.vecs 135 2 l)] k = impl_copyRows_f A l (fun r0 => k (.arr (.vecs 135 2 r0))) := by kernel_rfl

theorem impl_copyRows_fn : PM.FnIs Try.prog 155 Try.f155 := .of Try.func155 (by kernel_rfl) (by kernel_rfl)
theorem impl_copyRows_g : PM.GOk Try.prog cx 155 ⟨[], impl_copyRows_w (impl_copyRows PM.std), none⟩ := by
  refine ⟨impl_copyRows_fn.enter, fun _ ds k r h => ?_, fun hm => absurd rfl hm, fun _ e => (by cases e)⟩
  change impl_copyRows_w (impl_copyRows PM.std) ds k = some r at h
  unfold impl_copyRows_w at h
  split at h
  · exact PM.pfun_ok (E := impl_copyRows_E PM.std) (L := fun n => impl_copyRows_L PM.std n) (N := PM.std.fuel) cx_ok .nil mixed .nil impl_copyRows_fn (by kernel_rfl) ⟨rfl, fun _ _ _ => rfl, fun n cur σ K r h => by cases h⟩
      ((impl_copyRows_ok PM.std _ k).trans h)
  · cases h

abbrev impl_copyInts_T := (List Int) → ((List Int) → PM.R) → PM.R
noncomputable def impl_copyInts_w (c : impl_copyInts_T) (ds : List PM.V) (k : PM.V → PM.R) : PM.R :=
  match ds with
  | [.arr (.ints 3 .i64 l)] => c l (fun r0 => k (.arr (.ints 3 .i64 r0)))
  | _ => none
noncomputable def impl_copyInts_f (A : PM.Prims) (l : List Int) (k : (List Int) → PM.R) : PM.R :=
  bif (A.room (A.ilen []) (A.ilen l)) then
    k (A.iapp [] l)
  else
    none
noncomputable def impl_copyInts (A : PM.Prims) : impl_copyInts_T := impl_copyInts_f A
noncomputable def impl_copyInts_L (A : PM.Prims) (n : Nat) : PM.Lam := fun cur σ K =>
  match cur, σ, K with
  | _, _, _ => none
noncomputable def impl_copyInts_E (A : PM.Prims) : PM.Env := ⟨[], [], [], [(0, [0]), (1, [2])], impl_copyInts_L A A.fuel⟩
theorem impl_copyInts_ok (A : PM.Prims) (l : List Int) (k : PM.V → PM.R) : PM.pfun A cx [] (impl_copyInts_E A) Go.Proofs.Try.f154 [.arr (.ints 3 .i64 l)] k = impl_copyInts_f A l (fun r0 => k (.arr (.ints 3 .i64 r0))) := by kernel_rfl

theorem impl_copyInts_fn : PM.FnIs Try.prog 154 Try.f154 := .of Try.func154 (by kernel_rfl) (by kernel_rfl)
theorem impl_copyInts_g : PM.GOk Try.prog cx 154 ⟨[], impl_copyInts_w (impl_copyInts PM.std), none⟩ := by
  refine ⟨impl_copyInts_fn.enter, fun _ ds k r h => ?_, fun hm => absurd rfl hm, fun _ e => (by cases e)⟩
  change impl_copyInts_w (impl_copyInts PM.std) ds k = some r at h
  unfold impl_copyInts_w at h
  split at h
  · exact PM.pfun_ok (E := impl_copyInts_E PM.std) (L := fun n => impl_copyInts_L PM.std n) (N := PM.std.fuel) cx_ok .nil mixed .nil impl_copyInts_fn (by kernel_rfl) ⟨rfl, fun _ _ _ => rfl, fun n cur σ K r h => by cases h⟩
      ((impl_copyInts_ok PM.std _ k).trans h)
  · cases h

abbrev laws_FnExactProbeOk_T := (Int) → (Int) → (Int) → (Int) → ((Bool) → PM.R) → PM.R
noncomputable def laws_FnExactProbeOk_w (c : laws_FnExactProbeOk_T) (ds : List PM.V) (k : PM.V → PM.R) : PM.R :=
  match ds with
  | [.agg [.int .i64 aP_Cell, .int .i64 aP_Phase, .int .i64 aP_Ver, .int .i64 aP_Val]] => c aP_Cell aP_Phase aP_Ver aP_Val (fun r0 => k (.bool r0))
  | _ => none
noncomputable def laws_FnExactProbeOk_f (A : PM.Prims) (c_23 : laws_toProbe_T) (c_22 : spec_ProbeOk_T) (c_24 : impl_ProbeOk_T) (aP_Cell : Int) (aP_Phase : Int) (aP_Ver : Int) (aP_Val : Int) (k : (Bool) → PM.R) : PM.R :=
  c_23 aP_Cell aP_Phase aP_Ver aP_Val (fun r1 r2 r3 r4 =>
    c_22 r1 r2 r3 r4 (fun r5 =>
      c_23 aP_Cell aP_Phase aP_Ver aP_Val (fun r6 r7 r8 r9 =>
        c_24 r6 r7 r8 r9 (fun r10 =>
          bif (A.not (A.beq r10 r5)) then
            k false
          else
            k true))))
noncomputable def laws_FnExactProbeOk (A : PM.Prims) : laws_FnExactProbeOk_T := laws_FnExactProbeOk_f A (laws_toProbe A) (spec_ProbeOk A) (impl_ProbeOk A)
noncomputable def laws_FnExactProbeOk_L (A : PM.Prims) (c_23 : laws_toProbe_T) (c_22 : spec_ProbeOk_T) (c_24 : impl_ProbeOk_T) (n : Nat) : PM.Lam := fun cur σ K =>
  match cur, σ, K with
  | _, _, _ => none
noncomputable def laws_FnExactProbeOk_E (A : PM.Prims) (c_23 : laws_toProbe_T) (c_22 : spec_ProbeOk_T) (c_24 : impl_ProbeOk_T) : PM.Env := ⟨[(23, ⟨[], laws_toProbe_w c_23, none⟩), (22, ⟨[], spec_ProbeOk_w c_22, none⟩), (24, ⟨[], impl_ProbeOk_w c_24, none⟩)], [], [], [(0, [1]), (1, [1, 3]), (2, [3, 4]), (3, [13]), (4, [2]), (5, [2])], laws_FnExactProbeOk_L A c_23 c_22 c_24 A.fuel⟩
theorem laws_FnExactProbeOk_ok (A : PM.Prims) (c_23 : laws_toProbe_T) (c_22 : spec_ProbeOk_T) (c_24 : impl_ProbeOk_T) (aP_Cell : Int) (aP_Phase : Int) (aP_Ver : Int) (aP_Val : Int) (k : PM.V → PM.R) : PM.pfun A cx [] (laws_FnExactProbeOk_E A c_23 c_22 c_24) Go.Proofs.Try.f3 [.agg [.int .i64 aP_Cell, .int .i64 aP_Phase, .int .i64 aP_Ver, .int .i64 aP_Val]] k = laws_FnExactProbeOk_f A c_23 c_22 c_24 aP_Cell aP_Phase aP_Ver aP_Val (fun r0 => k (.bool r0)) := by kernel_rfl

theorem laws_FnExactProbeOk_fn : PM.FnIs Try.prog 3 Try.f3 := .of Try.func3 (by kernel_rfl) (by kernel_rfl)
theorem laws_FnExactProbeOk_g : PM.GOk Try.prog cx 3 ⟨[], laws_FnExactProbeOk_w (laws_FnExactProbeOk PM.std), none⟩ := by
  refine ⟨laws_FnExactProbeOk_fn.enter, fun _ ds k r h => ?_, fun hm => absurd rfl hm, fun _ e => (by cases e)⟩
  change laws_FnExactProbeOk_w (laws_FnExactProbeOk PM.std) ds k = some r at h
  unfold laws_FnExactProbeOk_w at h
  split at h
  · exact PM.pfun_ok (E := laws_FnExactProbeOk_E PM.std (laws_toProbe PM.std) (spec_ProbeOk PM.std) (impl_ProbeOk PM.std)) (L := fun n => laws_FnExactProbeOk_L PM.std (laws_toProbe PM.std) (spec_ProbeOk PM.std) (impl_ProbeOk PM.std) n) (N := PM.std.fuel) cx_ok (.cons laws_toProbe_g (.cons spec_ProbeOk_g (.cons impl_ProbeOk_g .nil))) mixed .nil laws_FnExactProbeOk_fn (by kernel_rfl) ⟨rfl, fun _ _ _ => rfl, fun n cur σ K r h => by cases h⟩
      ((laws_FnExactProbeOk_ok PM.std (laws_toProbe PM.std) (spec_ProbeOk PM.std) (impl_ProbeOk PM.std) _ _ _ _ k).trans h)
  · cases h

abbrev spec_ProbeNew_T := (Int) → ((Int) → (Int) → (Int) → (Int) → (Bool) → PM.R) → PM.R
noncomputable def spec_ProbeNew_w (c : spec_ProbeNew_T) (ds : List PM.V) (k : PM.V → PM.R) : PM.R :=
  match ds with
  | [.int .i64 cell] => c cell (fun r0_Cell r0_Phase r0_Ver r0_Val r1 => k (.tup [.agg [.int .i64 r0_Cell, .int .i64 r0_Phase, .int .i64 r0_Ver, .int .i64 r0_Val], .bool r1]))
  | _ => none
noncomputable def spec_ProbeNew_f (A : PM.Prims) (c_93 : spec_l3Cell_T) (cell : Int) (k : (Int) → (Int) → (Int) → (Int) → (Bool) → PM.R) : PM.R :=
  c_93 cell (fun r1 =>
    bif (A.not r1) then
      k 0 0 0 0 false
    else
      k cell 0 0 0 true)
noncomputable def spec_ProbeNew (A : PM.Prims) : spec_ProbeNew_T := spec_ProbeNew_f A (spec_l3Cell A)
noncomputable def spec_ProbeNew_L (A : PM.Prims) (c_93 : spec_l3Cell_T) (n : Nat) : PM.Lam := fun cur σ K =>
  match cur, σ, K with
  | _, _, _ => none
noncomputable def spec_ProbeNew_E (A : PM.Prims) (c_93 : spec_l3Cell_T) : PM.Env := ⟨[(93, ⟨[], spec_l3Cell_w c_93, none⟩)], [], [], [(0, [0, 2]), (1, [0, 2, 6]), (2, [2, 3]), (3, [2, 3])], spec_ProbeNew_L A c_93 A.fuel⟩
theorem spec_ProbeNew_ok (A : PM.Prims) (c_93 : spec_l3Cell_T) (cell : Int) (k : PM.V → PM.R) : PM.pfun A cx [] (spec_ProbeNew_E A c_93) Go.Proofs.Try.f25 [.int .i64 cell] k = spec_ProbeNew_f A c_93 cell (fun r0_Cell r0_Phase r0_Ver r0_Val r1 => k (.tup [.agg [.int .i64 r0_Cell, .int .i64 r0_Phase, .int .i64 r0_Ver, .int .i64 r0_Val], .bool r1])) := by kernel_rfl

theorem spec_ProbeNew_fn : PM.FnIs Try.prog 25 Try.f25 := .of Try.func25 (by kernel_rfl) (by kernel_rfl)
theorem spec_ProbeNew_g : PM.GOk Try.prog cx 25 ⟨[], spec_ProbeNew_w (spec_ProbeNew PM.std), none⟩ := by
  refine ⟨spec_ProbeNew_fn.enter, fun _ ds k r h => ?_, fun hm => absurd rfl hm, fun _ e => (by cases e)⟩
  change spec_ProbeNew_w (spec_ProbeNew PM.std) ds k = some r at h
  unfold spec_ProbeNew_w at h
  split at h
  · exact PM.pfun_ok (E := spec_ProbeNew_E PM.std (spec_l3Cell PM.std)) (L := fun n => spec_ProbeNew_L PM.std (spec_l3Cell PM.std) n) (N := PM.std.fuel) cx_ok (.cons spec_l3Cell_g .nil) mixed .nil spec_ProbeNew_fn (by kernel_rfl) ⟨rfl, fun _ _ _ => rfl, fun n cur σ K r h => by cases h⟩
      ((spec_ProbeNew_ok PM.std (spec_l3Cell PM.std) _ k).trans h)
  · cases h

abbrev impl_ProbeNew_T := (Int) → ((Int) → (Int) → (Int) → (Int) → (Bool) → PM.R) → PM.R
noncomputable def impl_ProbeNew_w (c : impl_ProbeNew_T) (ds : List PM.V) (k : PM.V → PM.R) : PM.R :=
  match ds with
  | [.int .i64 cell] => c cell (fun r0_Cell r0_Phase r0_Ver r0_Val r1 => k (.tup [.agg [.int .i64 r0_Cell, .int .i64 r0_Phase, .int .i64 r0_Ver, .int .i64 r0_Val], .bool r1]))
  | _ => none
noncomputable def impl_ProbeNew_f (A : PM.Prims) (c_96 : impl_isCell_T) (cell : Int) (k : (Int) → (Int) → (Int) → (Int) → (Bool) → PM.R) : PM.R :=
  c_96 cell (fun r1 =>
    bif (A.not r1) then
      k 0 0 0 0 false
    else
      k cell 0 0 0 true)
noncomputable def impl_ProbeNew (A : PM.Prims) : impl_ProbeNew_T := impl_ProbeNew_f A (impl_isCell A)
noncomputable def impl_ProbeNew_L (A : PM.Prims) (c_96 : impl_isCell_T) (n : Nat) : PM.Lam := fun cur σ K =>
  match cur, σ, K with
  | _, _, _ => none
noncomputable def impl_ProbeNew_E (A : PM.Prims) (c_96 : impl_isCell_T) : PM.Env := ⟨[(96, ⟨[], impl_isCell_w c_96, none⟩)], [], [], [(0, [0, 2]), (1, [0, 2, 6]), (2, [2, 3]), (3, [2, 3])], impl_ProbeNew_L A c_96 A.fuel⟩
theorem impl_ProbeNew_ok (A : PM.Prims) (c_96 : impl_isCell_T) (cell : Int) (k : PM.V → PM.R) : PM.pfun A cx [] (impl_ProbeNew_E A c_96) Go.Proofs.Try.f26 [.int .i64 cell] k = impl_ProbeNew_f A c_96 cell (fun r0_Cell r0_Phase r0_Ver r0_Val r1 => k (.tup [.agg [.int .i64 r0_Cell, .int .i64 r0_Phase, .int .i64 r0_Ver, .int .i64 r0_Val], .bool r1])) := by kernel_rfl

theorem impl_ProbeNew_fn : PM.FnIs Try.prog 26 Try.f26 := .of Try.func26 (by kernel_rfl) (by kernel_rfl)
theorem impl_ProbeNew_g : PM.GOk Try.prog cx 26 ⟨[], impl_ProbeNew_w (impl_ProbeNew PM.std), none⟩ := by
  refine ⟨impl_ProbeNew_fn.enter, fun _ ds k r h => ?_, fun hm => absurd rfl hm, fun _ e => (by cases e)⟩
  change impl_ProbeNew_w (impl_ProbeNew PM.std) ds k = some r at h
  unfold impl_ProbeNew_w at h
  split at h
  · exact PM.pfun_ok (E := impl_ProbeNew_E PM.std (impl_isCell PM.std)) (L := fun n => impl_ProbeNew_L PM.std (impl_isCell PM.std) n) (N := PM.std.fuel) cx_ok (.cons impl_isCell_g .nil) mixed .nil impl_ProbeNew_fn (by kernel_rfl) ⟨rfl, fun _ _ _ => rfl, fun n cur σ K r h => by cases h⟩
      ((impl_ProbeNew_ok PM.std (impl_isCell PM.std) _ k).trans h)
  · cases h

abbrev laws_FnExactProbeNew_T := (Int) → ((Bool) → PM.R) → PM.R
noncomputable def laws_FnExactProbeNew_w (c : laws_FnExactProbeNew_T) (ds : List PM.V) (k : PM.V → PM.R) : PM.R :=
  match ds with
  | [.int .i64 aCell] => c aCell (fun r0 => k (.bool r0))
  | _ => none
noncomputable def laws_FnExactProbeNew_f (A : PM.Prims) (c_27 : laws_eqProbe_T) (c_25 : spec_ProbeNew_T) (c_26 : impl_ProbeNew_T) (aCell : Int) (k : (Bool) → PM.R) : PM.R :=
  c_25 aCell (fun r1 r2 r3 r4 r5 =>
    c_26 aCell (fun r6 r7 r8 r9 r10 =>
      c_27 r6 r7 r8 r9 r1 r2 r3 r4 (fun r11 =>
        bif (A.not r11) then
          k false
        else
          bif (A.not (A.beq r10 r5)) then
            k false
          else
            k true)))
noncomputable def laws_FnExactProbeNew (A : PM.Prims) : laws_FnExactProbeNew_T := laws_FnExactProbeNew_f A (laws_eqProbe A) (spec_ProbeNew A) (impl_ProbeNew A)
noncomputable def laws_FnExactProbeNew_L (A : PM.Prims) (c_27 : laws_eqProbe_T) (c_25 : spec_ProbeNew_T) (c_26 : impl_ProbeNew_T) (n : Nat) : PM.Lam := fun cur σ K =>
  match cur, σ, K with
  | _, _, _ => none
noncomputable def laws_FnExactProbeNew_E (A : PM.Prims) (c_27 : laws_eqProbe_T) (c_25 : spec_ProbeNew_T) (c_26 : impl_ProbeNew_T) : PM.Env := ⟨[(27, ⟨[], laws_eqProbe_w c_27, none⟩), (25, ⟨[], spec_ProbeNew_w c_25, none⟩), (26, ⟨[], impl_ProbeNew_w c_26, none⟩)], [], [], [(0, [0]), (1, [0, 3, 4]), (2, [3, 4, 5, 6]), (3, [25]), (4, [2]), (5, [2])], laws_FnExactProbeNew_L A c_27 c_25 c_26 A.fuel⟩
theorem laws_FnExactProbeNew_ok (A : PM.Prims) (c_27 : laws_eqProbe_T) (c_25 : spec_ProbeNew_T) (c_26 : impl_ProbeNew_T) (aCell : Int) (k : PM.V → PM.R) : PM.pfun A cx [] (laws_FnExactProbeNew_E A c_27 c_25 c_26) Go.Proofs.Try.f4 [.int .i64 aCell] k = laws_FnExactProbeNew_f A c_27 c_25 c_26 aCell (fun r0 => k (.bool r0)) := by kernel_rfl

theorem laws_FnExactProbeNew_fn : PM.FnIs Try.prog 4 Try.f4 := .of Try.func4 (by kernel_rfl) (by kernel_rfl)
theorem laws_FnExactProbeNew_g : PM.GOk Try.prog cx 4 ⟨[], laws_FnExactProbeNew_w (laws_FnExactProbeNew PM.std), none⟩ := by
  refine ⟨laws_FnExactProbeNew_fn.enter, fun _ ds k r h => ?_, fun hm => absurd rfl hm, fun _ e => (by cases e)⟩
  change laws_FnExactProbeNew_w (laws_FnExactProbeNew PM.std) ds k = some r at h
  unfold laws_FnExactProbeNew_w at h
  split at h
  · exact PM.pfun_ok (E := laws_FnExactProbeNew_E PM.std (laws_eqProbe PM.std) (spec_ProbeNew PM.std) (impl_ProbeNew PM.std)) (L := fun n => laws_FnExactProbeNew_L PM.std (laws_eqProbe PM.std) (spec_ProbeNew PM.std) (impl_ProbeNew PM.std) n) (N := PM.std.fuel) cx_ok (.cons laws_eqProbe_g (.cons spec_ProbeNew_g (.cons impl_ProbeNew_g .nil))) mixed .nil laws_FnExactProbeNew_fn (by kernel_rfl) ⟨rfl, fun _ _ _ => rfl, fun n cur σ K r h => by cases h⟩
      ((laws_FnExactProbeNew_ok PM.std (laws_eqProbe PM.std) (spec_ProbeNew PM.std) (impl_ProbeNew PM.std) _ k).trans h)
  · cases h

abbrev laws_FnExactHoldsOk_T := (List (List Int)) → ((Bool) → PM.R) → PM.R
noncomputable def laws_FnExactHoldsOk_w (c : laws_FnExactHoldsOk_T) (ds : List PM.V) (k : PM.V → PM.R) : PM.R :=
  match ds with
  | [.arr (.vecs 124 3 aL)] => c aL (fun r0 => k (.bool r0))
  | _ => none
noncomputable def laws_FnExactHoldsOk_f (A : PM.Prims) (c_36 : laws_szHoldS_T) (c_38 : laws_toHoldS_T) (c_37 : spec_HoldsOk_T) (c_39 : impl_HoldsOk_T) (c_40 : laws_eqHoldS_T) (aL : List (List Int)) (k : (Bool) → PM.R) : PM.R :=
  c_36 aL 1048576 (fun r1 =>
    bif (A.lt r1 0) then
      k true
    else
      c_38 aL (fun r2 =>
        c_37 r2 (fun r3 =>
          c_38 aL (fun r4 =>
            c_39 r4 (fun r5 =>
              bif (A.not (A.beq r5 r3)) then
                k false
              else
                c_38 aL (fun r6 =>
                  c_40 r4 r6 (fun r7 =>
                    bif (A.not r7) then
                      k false
                    else
                      k true)))))))
noncomputable def laws_FnExactHoldsOk (A : PM.Prims) : laws_FnExactHoldsOk_T := laws_FnExactHoldsOk_f A (laws_szHoldS A) (laws_toHoldS A) (spec_HoldsOk A) (impl_HoldsOk A) (laws_eqHoldS A)
noncomputable def laws_FnExactHoldsOk_L (A : PM.Prims) (c_36 : laws_szHoldS_T) (c_38 : laws_toHoldS_T) (c_37 : spec_HoldsOk_T) (c_39 : impl_HoldsOk_T) (c_40 : laws_eqHoldS_T) (n : Nat) : PM.Lam := fun cur σ K =>
  match cur, σ, K with
  | _, _, _ => none
noncomputable def laws_FnExactHoldsOk_E (A : PM.Prims) (c_36 : laws_szHoldS_T) (c_38 : laws_toHoldS_T) (c_37 : spec_HoldsOk_T) (c_39 : impl_HoldsOk_T) (c_40 : laws_eqHoldS_T) : PM.Env := ⟨[(36, ⟨[], laws_szHoldS_w c_36, none⟩), (38, ⟨[], laws_toHoldS_w c_38, none⟩), (37, ⟨[], spec_HoldsOk_w c_37, none⟩), (39, ⟨[], impl_HoldsOk_w c_39, none⟩), (40, ⟨[], laws_eqHoldS_w c_40, none⟩)], [], [], [(0, [0]), (1, [0, 3]), (2, [0, 3]), (3, [0, 11]), (4, [2]), (5, [0, 4]), (6, [0, 4, 5]), (7, [0, 4, 5, 6]), (8, [0, 5, 21]), (9, [2]), (10, [26]), (11, [2]), (12, [2])], laws_FnExactHoldsOk_L A c_36 c_38 c_37 c_39 c_40 A.fuel⟩
theorem laws_FnExactHoldsOk_ok (A : PM.Prims) (c_36 : laws_szHoldS_T) (c_38 : laws_toHoldS_T) (c_37 : spec_HoldsOk_T) (c_39 : impl_HoldsOk_T) (c_40 : laws_eqHoldS_T) (aL : List (List Int)) (k : PM.V → PM.R) : PM.pfun A cx [] (laws_FnExactHoldsOk_E A c_36 c_38 c_37 c_39 c_40) Go.Proofs.Try.f7 [.arr (.vecs 124 3 aL)] k = laws_FnExactHoldsOk_f A c_36 c_38 c_37 c_39 c_40 aL (fun r0 => k (.bool r0)) := by kernel_rfl

theorem laws_FnExactHoldsOk_fn : PM.FnIs Try.prog 7 Try.f7 := .of Try.func7 (by kernel_rfl) (by kernel_rfl)
theorem laws_FnExactHoldsOk_g : PM.GOk Try.prog cx 7 ⟨[], laws_FnExactHoldsOk_w (laws_FnExactHoldsOk PM.std), none⟩ := by
  refine ⟨laws_FnExactHoldsOk_fn.enter, fun _ ds k r h => ?_, fun hm => absurd rfl hm, fun _ e => (by cases e)⟩
  change laws_FnExactHoldsOk_w (laws_FnExactHoldsOk PM.std) ds k = some r at h
  unfold laws_FnExactHoldsOk_w at h
  split at h
  · exact PM.pfun_ok (E := laws_FnExactHoldsOk_E PM.std (laws_szHoldS PM.std) (laws_toHoldS PM.std) (spec_HoldsOk PM.std) (impl_HoldsOk PM.std) (laws_eqHoldS PM.std)) (L := fun n => laws_FnExactHoldsOk_L PM.std (laws_szHoldS PM.std) (laws_toHoldS PM.std) (spec_HoldsOk PM.std) (impl_HoldsOk PM.std) (laws_eqHoldS PM.std) n) (N := PM.std.fuel) cx_ok (.cons laws_szHoldS_g (.cons laws_toHoldS_g (.cons spec_HoldsOk_g (.cons impl_HoldsOk_g (.cons laws_eqHoldS_g .nil))))) mixed .nil laws_FnExactHoldsOk_fn (by kernel_rfl) ⟨rfl, fun _ _ _ => rfl, fun n cur σ K r h => by cases h⟩
      ((laws_FnExactHoldsOk_ok PM.std (laws_szHoldS PM.std) (laws_toHoldS PM.std) (spec_HoldsOk PM.std) (impl_HoldsOk PM.std) (laws_eqHoldS PM.std) _ k).trans h)
  · cases h

abbrev impl_HoldOf_T := (List (List Int)) → (Int) → (Int) → ((Int) → PM.R) → PM.R
noncomputable def impl_HoldOf_w (c : impl_HoldOf_T) (ds : List PM.V) (k : PM.V → PM.R) : PM.R :=
  match ds with
  | [.arr (.vecs 73 3 l), .int .i64 who, .int .i64 what] => c l who what (fun r0 => k (.int .i64 r0))
  | _ => none
noncomputable def impl_HoldOf_l0 (A : PM.Prims) (c_39 : impl_HoldsOk_T) : Nat → (Int) → (Int) → (List (List Int)) → (Int) → (Int) → ((Int) → PM.R) → (Unit → PM.R) → PM.R
  | 0, _, _, _, _, _, _, _ => none
  | n + 1, who2, what3, t124, t135, t146, kret_0, kx0_0 =>
    bif (A.lt t146 t135) then
      bif (A.inb t146 (A.vlen t124)) then
        bif (A.eq (A.vget t124 t146 0) who2) then
          bif (A.eq (A.vget t124 t146 1) what3) then
            kret_0 (A.vget t124 t146 2)
          else
            impl_HoldOf_l0 A c_39 n who2 what3 t124 t135 (A.add .i64 t146 1) kret_0 kx0_0
        else
          impl_HoldOf_l0 A c_39 n who2 what3 t124 t135 (A.add .i64 t146 1) kret_0 kx0_0
      else
        none
    else
      kx0_0 ()
noncomputable def impl_HoldOf_f (A : PM.Prims) (c_39 : impl_HoldsOk_T) (l : List (List Int)) (who : Int) (what : Int) (k : (Int) → PM.R) : PM.R :=
  c_39 l (fun r1 =>
    bif (A.not r1) then
      k 0
    else
      impl_HoldOf_l0 A c_39 A.fuel who what l (A.vlen l) 0 (fun t678 =>
        k t678) (fun _ =>
        k 0))
noncomputable def impl_HoldOf (A : PM.Prims) : impl_HoldOf_T := impl_HoldOf_f A (impl_HoldsOk A)
noncomputable def impl_HoldOf_L (A : PM.Prims) (c_39 : impl_HoldsOk_T) (n : Nat) : PM.Lam := fun cur σ K =>
  match cur, σ, K with
  | 0, ⟨[(1, .int .i64 who2), (2, .int .i64 what3), (12, .arr (.vecs 73 3 t124)), (13, .int .i64 t135), (14, .int .i64 t146)], []⟩, K => impl_HoldOf_l0 A c_39 n who2 what3 t124 t135 t146 (fun t67 => K .ret ⟨[(6, .int .i64 t67)], []⟩) (fun _ => K (.exit 0) ⟨[], []⟩)
  | _, _, _ => none
noncomputable def impl_HoldOf_E (A : PM.Prims) (c_39 : impl_HoldsOk_T) : PM.Env := ⟨[(39, ⟨[], impl_HoldsOk_w c_39, none⟩)], [], [(0, [1, 2, 12, 13, 14], [6])], [(0, [0, 1, 2]), (1, [0, 1, 2, 11]), (2, [6]), (3, [1, 2, 12, 13, 14]), (4, [1, 2, 12, 13, 14, 15]), (5, [1, 2, 8, 12, 13, 14]), (6, [1, 2, 8, 12, 13, 14, 27]), (7, [6]), (8, [1, 2, 12, 13, 14]), (9, [6])], impl_HoldOf_L A c_39 A.fuel⟩
theorem impl_HoldOf_l0_ok (A : PM.Prims) (c_39 : impl_HoldsOk_T) (n : Nat) (who2 : Int) (what3 : Int) (t124 : List (List Int)) (t135 : Int) (t146 : Int) (K : Go.Exit → PM.S → PM.R) : impl_HoldOf_L A c_39 (n + 1) 0 ⟨[(1, .int .i64 who2), (2, .int .i64 what3), (12, .arr (.vecs 73 3 t124)), (13, .int .i64 t135), (14, .int .i64 t146)], []⟩ K = PM.roundF A cx (PM.runD A cx (impl_HoldOf_E A c_39).inl (impl_HoldOf_E A c_39).Γ 3) (impl_HoldOf_E A c_39) (impl_HoldOf_L A c_39 n) 0 Go.Proofs.Try.f42 ⟨[(1, .int .i64 who2), (2, .int .i64 what3), (12, .arr (.vecs 73 3 t124)), (13, .int .i64 t135), (14, .int .i64 t146)], []⟩ K := by kernel_rfl
theorem impl_HoldOf_ok (A : PM.Prims) (c_39 : impl_HoldsOk_T) (l : List (List Int)) (who : Int) (what : Int) (k : PM.V → PM.R) : PM.pfun A cx [] (impl_HoldOf_E A c_39) Go.Proofs.Try.f42 [.arr (.vecs 73 3 l), .int .i64 who, .int .i64 what] k = impl_HoldOf_f A c_39 l who what (fun r0 => k (.int .i64 r0)) := by kernel_rfl

theorem impl_HoldOf_fn : PM.FnIs Try.prog 42 Try.f42 := .of Try.func42 (by kernel_rfl) (by kernel_rfl)
theorem impl_HoldOf_g : PM.GOk Try.prog cx 42 ⟨[], impl_HoldOf_w (impl_HoldOf PM.std), none⟩ := by
  refine ⟨impl_HoldOf_fn.enter, fun _ ds k r h => ?_, fun hm => absurd rfl hm, fun _ e => (by cases e)⟩
  change impl_HoldOf_w (impl_HoldOf PM.std) ds k = some r at h
  unfold impl_HoldOf_w at h
  split at h
  · exact PM.pfun_ok (E := impl_HoldOf_E PM.std (impl_HoldsOk PM.std)) (L := fun n => impl_HoldOf_L PM.std (impl_HoldsOk PM.std) n) (N := PM.std.fuel) cx_ok (.cons impl_HoldsOk_g .nil) mixed .nil impl_HoldOf_fn (by kernel_rfl) ⟨rfl, fun cur σ K => by
      dsimp only [impl_HoldOf_L]
      split <;> rfl, fun n cur σ K r h => by
      dsimp only [impl_HoldOf_L] at h
      split at h
      · exact (impl_HoldOf_l0_ok PM.std (impl_HoldsOk PM.std) n _ _ _ _ _ K).symm.trans h
      · cases h⟩
      ((impl_HoldOf_ok PM.std (impl_HoldsOk PM.std) _ _ _ k).trans h)
  · cases h

abbrev laws_FnExactHoldOf_T := (List (List Int)) → (Int) → (Int) → ((Bool) → PM.R) → PM.R
noncomputable def laws_FnExactHoldOf_w (c : laws_FnExactHoldOf_T) (ds : List PM.V) (k : PM.V → PM.R) : PM.R :=
  match ds with
  | [.arr (.vecs 124 3 aL), .int .i64 aWho, .int .i64 aWhat] => c aL aWho aWhat (fun r0 => k (.bool r0))
  | _ => none
noncomputable def laws_FnExactHoldOf_f (A : PM.Prims) (c_36 : laws_szHoldS_T) (c_38 : laws_toHoldS_T) (c_40 : laws_eqHoldS_T) (c_41 : spec_HoldOf_T) (c_42 : impl_HoldOf_T) (aL : List (List Int)) (aWho : Int) (aWhat : Int) (k : (Bool) → PM.R) : PM.R :=
  c_36 aL 1048576 (fun r1 =>
    bif (A.lt r1 0) then
      k true
    else
      c_38 aL (fun r2 =>
        c_41 r2 aWho aWhat (fun r3 =>
          c_38 aL (fun r4 =>
            c_42 r4 aWho aWhat (fun r5 =>
              bif (A.not (A.eq r5 r3)) then
                k false
              else
                c_38 aL (fun r6 =>
                  c_40 r4 r6 (fun r7 =>
                    bif (A.not r7) then
                      k false
                    else
                      k true)))))))
noncomputable def laws_FnExactHoldOf (A : PM.Prims) : laws_FnExactHoldOf_T := laws_FnExactHoldOf_f A (laws_szHoldS A) (laws_toHoldS A) (laws_eqHoldS A) (spec_HoldOf A) (impl_HoldOf A)
noncomputable def laws_FnExactHoldOf_L (A : PM.Prims) (c_36 : laws_szHoldS_T) (c_38 : laws_toHoldS_T) (c_40 : laws_eqHoldS_T) (c_41 : spec_HoldOf_T) (c_42 : impl_HoldOf_T) (n : Nat) : PM.Lam := fun cur σ K =>
  match cur, σ, K with
  | _, _, _ => none
noncomputable def laws_FnExactHoldOf_E (A : PM.Prims) (c_36 : laws_szHoldS_T) (c_38 : laws_toHoldS_T) (c_40 : laws_eqHoldS_T) (c_41 : spec_HoldOf_T) (c_42 : impl_HoldOf_T) : PM.Env := ⟨[(36, ⟨[], laws_szHoldS_w c_36, none⟩), (38, ⟨[], laws_toHoldS_w c_38, none⟩), (40, ⟨[], laws_eqHoldS_w c_40, none⟩), (41, ⟨[], spec_HoldOf_w c_41, none⟩), (42, ⟨[], impl_HoldOf_w c_42, none⟩)], [], [], [(0, [0, 1, 2]), (1, [0, 1, 2, 7]), (2, [0, 1, 2, 7]), (3, [0, 1, 2, 15]), (4, [6]), (5, [0, 1, 2, 8]), (6, [0, 1, 2, 8, 9]), (7, [0, 8, 9, 10]), (8, [0, 9, 29]), (9, [6]), (10, [34]), (11, [6]), (12, [6])], laws_FnExactHoldOf_L A c_36 c_38 c_40 c_41 c_42 A.fuel⟩
theorem laws_FnExactHoldOf_ok (A : PM.Prims) (c_36 : laws_szHoldS_T) (c_38 : laws_toHoldS_T) (c_40 : laws_eqHoldS_T) (c_41 : spec_HoldOf_T) (c_42 : impl_HoldOf_T) (aL : List (List Int)) (aWho : Int) (aWhat : Int) (k : PM.V → PM.R) : PM.pfun A cx [] (laws_FnExactHoldOf_E A c_36 c_38 c_40 c_41 c_42) Go.Proofs.Try.f8 [.arr (.vecs 124 3 aL), .int .i64 aWho, .int .i64 aWhat] k = laws_FnExactHoldOf_f A c_36 c_38 c_40 c_41 c_42 aL aWho aWhat (fun r0 => k (.bool r0)) := by kernel_rfl

theorem laws_FnExactHoldOf_fn : PM.FnIs Try.prog 8 Try.f8 := .of Try.func8 (by kernel_rfl) (by kernel_rfl)
theorem laws_FnExactHoldOf_g : PM.GOk Try.prog cx 8 ⟨[], laws_FnExactHoldOf_w (laws_FnExactHoldOf PM.std), none⟩ := by
  refine ⟨laws_FnExactHoldOf_fn.enter, fun _ ds k r h => ?_, fun hm => absurd rfl hm, fun _ e => (by cases e)⟩
  change laws_FnExactHoldOf_w (laws_FnExactHoldOf PM.std) ds k = some r at h
  unfold laws_FnExactHoldOf_w at h
  split at h
  · exact PM.pfun_ok (E := laws_FnExactHoldOf_E PM.std (laws_szHoldS PM.std) (laws_toHoldS PM.std) (laws_eqHoldS PM.std) (spec_HoldOf PM.std) (impl_HoldOf PM.std)) (L := fun n => laws_FnExactHoldOf_L PM.std (laws_szHoldS PM.std) (laws_toHoldS PM.std) (laws_eqHoldS PM.std) (spec_HoldOf PM.std) (impl_HoldOf PM.std) n) (N := PM.std.fuel) cx_ok (.cons laws_szHoldS_g (.cons laws_toHoldS_g (.cons laws_eqHoldS_g (.cons spec_HoldOf_g (.cons impl_HoldOf_g .nil))))) mixed .nil laws_FnExactHoldOf_fn (by kernel_rfl) ⟨rfl, fun _ _ _ => rfl, fun n cur σ K r h => by cases h⟩
      ((laws_FnExactHoldOf_ok PM.std (laws_szHoldS PM.std) (laws_toHoldS PM.std) (laws_eqHoldS PM.std) (spec_HoldOf PM.std) (impl_HoldOf PM.std) _ _ _ k).trans h)
  · cases h

abbrev laws_big_T := (List Int) → ((Bool) → PM.R) → PM.R
noncomputable def laws_big_w (c : laws_big_T) (ds : List PM.V) (k : PM.V → PM.R) : PM.R :=
  match ds with
  | [.arr (.ints 5 .u8 code)] => c code (fun r0 => k (.bool r0))
  | _ => none
noncomputable def laws_big_f (A : PM.Prims) (code : List Int) (k : (Bool) → PM.R) : PM.R :=
  k (A.lt 1048576 (A.ilen code))
noncomputable def laws_big (A : PM.Prims) : laws_big_T := laws_big_f A
noncomputable def laws_big_L (A : PM.Prims) (n : Nat) : PM.Lam := fun cur σ K =>
  match cur, σ, K with
  | _, _, _ => none
noncomputable def laws_big_E (A : PM.Prims) : PM.Env := ⟨[], [], [], [(0, [0]), (1, [2])], laws_big_L A A.fuel⟩
theorem laws_big_ok (A : PM.Prims) (code : List Int) (k : PM.V → PM.R) : PM.pfun A cx [] (laws_big_E A) Go.Proofs.Try.f33 [.arr (.ints 5 .u8 code)] k = laws_big_f A code (fun r0 => k (.bool r0)) := by kernel_rfl

theorem laws_big_fn : PM.FnIs Try.prog 33 Try.f33 := .of Try.func33 (by kernel_rfl) (by kernel_rfl)
theorem laws_big_g : PM.GOk Try.prog cx 33 ⟨[], laws_big_w (laws_big PM.std), none⟩ := by
  refine ⟨laws_big_fn.enter, fun _ ds k r h => ?_, fun hm => absurd rfl hm, fun _ e => (by cases e)⟩
  change laws_big_w (laws_big PM.std) ds k = some r at h
  unfold laws_big_w at h
  split at h
  · exact PM.pfun_ok (E := laws_big_E PM.std) (L := fun n => laws_big_L PM.std n) (N := PM.std.fuel) cx_ok .nil mixed .nil laws_big_fn (by kernel_rfl) ⟨rfl, fun _ _ _ => rfl, fun n cur σ K r h => by cases h⟩
      ((laws_big_ok PM.std _ k).trans h)
  · cases h

abbrev spec_l1Byte_T := (List Int) → (Int) → (Int) → ((Int) → (List Int) → (Int) → (Int) → PM.R) → PM.R
noncomputable def spec_l1Byte_w (c : spec_l1Byte_T) (ds : List PM.V) (k : PM.V → PM.R) : PM.R :=
  match ds with
  | [.tup [.arr (.ints 5 .u8 c_b), .int .i64 c_i, .int .i64 c_h]] => c c_b c_i c_h (fun r0 bx_b bx_i bx_h => k (.tup [.int .i64 r0, .tup [.arr (.ints 5 .u8 bx_b), .int .i64 bx_i, .int .i64 bx_h]]))
  | _ => none
noncomputable def spec_l1Byte_f (A : PM.Prims) (c_b : List Int) (c_i : Int) (c_h : Int) (k : (Int) → (List Int) → (Int) → (Int) → PM.R) : PM.R :=
  bif (A.shOk .i64 33) then
    bif (A.shOk .i64 45) then
      bif (A.lt c_i (A.ilen c_b)) then
        bif (A.inb c_i (A.ilen c_b)) then
          k (A.bits .and .i64 (A.add .i64 (A.bits .and .i64 (A.bits .xor .i64 (A.shift .shr .i64 (A.add .i64 (A.mul .i64 c_h 6364136223846793005) 1442695040888963407) 33) (A.shift .shr .i64 (A.add .i64 (A.mul .i64 c_h 6364136223846793005) 1442695040888963407) 45)) 255) (A.wrap .i64 (A.iget c_b c_i))) 255) c_b (A.add .i64 c_i 1) (A.add .i64 (A.mul .i64 c_h 6364136223846793005) 1442695040888963407)
        else
          none
      else
        k (A.bits .and .i64 (A.bits .xor .i64 (A.shift .shr .i64 (A.add .i64 (A.mul .i64 c_h 6364136223846793005) 1442695040888963407) 33) (A.shift .shr .i64 (A.add .i64 (A.mul .i64 c_h 6364136223846793005) 1442695040888963407) 45)) 255) c_b c_i (A.add .i64 (A.mul .i64 c_h 6364136223846793005) 1442695040888963407)
    else
      none
  else
    none
noncomputable def spec_l1Byte (A : PM.Prims) : spec_l1Byte_T := spec_l1Byte_f A
noncomputable def spec_l1Byte_L (A : PM.Prims) (n : Nat) : PM.Lam := fun cur σ K =>
  match cur, σ, K with
  | _, _, _ => none
noncomputable def spec_l1Byte_E (A : PM.Prims) : PM.Env := ⟨[], [], [], [(0, [0]), (1, [0]), (2, [0, 3]), (3, [0, 3, 34]), (4, [0, 3]), (5, [0, 3]), (6, [0, 2])], spec_l1Byte_L A A.fuel⟩
theorem spec_l1Byte_ok (A : PM.Prims) (c_b : List Int) (c_i : Int) (c_h : Int) (k : PM.V → PM.R) : PM.pfunB A cx (spec_l1Byte_E A) Go.Proofs.Try.f159 [.tup [.arr (.ints 5 .u8 c_b), .int .i64 c_i, .int .i64 c_h]] k = spec_l1Byte_f A c_b c_i c_h (fun r0 bx_b bx_i bx_h => k (.tup [.int .i64 r0, .tup [.arr (.ints 5 .u8 bx_b), .int .i64 bx_i, .int .i64 bx_h]])) := by kernel_rfl

theorem spec_l1Byte_fn : PM.FnIs Try.prog 159 Try.f159 := .of Try.func159 (by kernel_rfl) (by kernel_rfl)
theorem spec_l1Byte_g : PM.GOk Try.prog cx 159 ⟨[], fun _ _ => none, some (PM.spBox (spec_l1Byte_w (spec_l1Byte PM.std)))⟩ := by
  refine PM.GOk.ofS spec_l1Byte_fn.enter (PM.spBox_ok fun ds k r h => ?_)
  change spec_l1Byte_w (spec_l1Byte PM.std) ds k = some r at h
  unfold spec_l1Byte_w at h
  split at h
  · exact PM.pfunB_ok (E := spec_l1Byte_E PM.std) (L := fun n => spec_l1Byte_L PM.std n) (N := PM.std.fuel) cx_ok .nil mixed .nil spec_l1Byte_fn (by kernel_rfl) ⟨rfl, fun _ _ _ => rfl, fun n cur σ K r h => by cases h⟩
      ((spec_l1Byte_ok PM.std _ _ _ k).trans h)
  · cases h

abbrev spec_l1Below_T := (List Int) → (Int) → (Int) → (Int) → ((Int) → (List Int) → (Int) → (Int) → PM.R) → PM.R
noncomputable def spec_l1Below_w (c : spec_l1Below_T) (ds : List PM.V) (k : PM.V → PM.R) : PM.R :=
  match ds with
  | [.tup [.arr (.ints 5 .u8 c_b), .int .i64 c_i, .int .i64 c_h], .int .i64 n_] => c c_b c_i c_h n_ (fun r0 bx_b bx_i bx_h => k (.tup [.int .i64 r0, .tup [.arr (.ints 5 .u8 bx_b), .int .i64 bx_i, .int .i64 bx_h]]))
  | _ => none
noncomputable def spec_l1Below_f (A : PM.Prims) (c_159 : spec_l1Byte_T) (c_b : List Int) (c_i : Int) (c_h : Int) (n_ : Int) (k : (Int) → (List Int) → (Int) → (Int) → PM.R) : PM.R :=
  bif (A.le n_ 0) then
    k 0 c_b c_i c_h
  else
    bif (A.le n_ 256) then
      c_159 c_b c_i c_h (fun r1 r2 r3 r4 =>
        bif (A.nz n_) then
          k (A.rem .i64 r1 n_) r2 r3 r4
        else
          none)
    else
      c_159 c_b c_i c_h (fun r5 r6 r7 r8 =>
        c_159 r6 r7 r8 (fun r9 r10 r11 r12 =>
          c_159 r10 r11 r12 (fun r13 r14 r15 r16 =>
            c_159 r14 r15 r16 (fun r17 r18 r19 r20 =>
              bif (A.nz n_) then
                k (A.rem .i64 (A.add .i64 (A.add .i64 (A.add .i64 (A.mul .i64 r5 16777216) (A.mul .i64 r9 65536)) (A.mul .i64 r13 256)) r17) n_) r18 r19 r20
              else
                none))))
noncomputable def spec_l1Below (A : PM.Prims) : spec_l1Below_T := spec_l1Below_f A (spec_l1Byte A)
noncomputable def spec_l1Below_L (A : PM.Prims) (c_159 : spec_l1Byte_T) (n : Nat) : PM.Lam := fun cur σ K =>
  match cur, σ, K with
  | _, _, _ => none
noncomputable def spec_l1Below_E (A : PM.Prims) (c_159 : spec_l1Byte_T) : PM.Env := ⟨[(159, ⟨[], fun _ _ => none, some (PM.spBox (spec_l1Byte_w c_159))⟩)], [], [], [(0, [0, 1]), (1, [0, 1, 10]), (2, [0, 4]), (3, [0, 1, 12]), (4, [0, 4]), (5, [0, 1, 5]), (6, [0, 1, 5, 6]), (7, [0, 1, 5, 6, 7]), (8, [0, 1, 5, 6, 7, 8]), (9, [0, 4])], spec_l1Below_L A c_159 A.fuel⟩
theorem spec_l1Below_ok (A : PM.Prims) (c_159 : spec_l1Byte_T) (c_b : List Int) (c_i : Int) (c_h : Int) (n_ : Int) (k : PM.V → PM.R) : PM.pfunB A cx (spec_l1Below_E A c_159) Go.Proofs.Try.f108 [.tup [.arr (.ints 5 .u8 c_b), .int .i64 c_i, .int .i64 c_h], .int .i64 n_] k = spec_l1Below_f A c_159 c_b c_i c_h n_ (fun r0 bx_b bx_i bx_h => k (.tup [.int .i64 r0, .tup [.arr (.ints 5 .u8 bx_b), .int .i64 bx_i, .int .i64 bx_h]])) := by kernel_rfl

theorem spec_l1Below_fn : PM.FnIs Try.prog 108 Try.f108 := .of Try.func108 (by kernel_rfl) (by kernel_rfl)
theorem spec_l1Below_g : PM.GOk Try.prog cx 108 ⟨[], fun _ _ => none, some (PM.spBox (spec_l1Below_w (spec_l1Below PM.std)))⟩ := by
  refine PM.GOk.ofS spec_l1Below_fn.enter (PM.spBox_ok fun ds k r h => ?_)
  change spec_l1Below_w (spec_l1Below PM.std) ds k = some r at h
  unfold spec_l1Below_w at h
  split at h
  · exact PM.pfunB_ok (E := spec_l1Below_E PM.std (spec_l1Byte PM.std)) (L := fun n => spec_l1Below_L PM.std (spec_l1Byte PM.std) n) (N := PM.std.fuel) cx_ok (.cons spec_l1Byte_g .nil) mixed .nil spec_l1Below_fn (by kernel_rfl) ⟨rfl, fun _ _ _ => rfl, fun n cur σ K r h => by cases h⟩
      ((spec_l1Below_ok PM.std (spec_l1Byte PM.std) _ _ _ _ k).trans h)
  · cases h

abbrev spec_l1Once_T := (List Int) → (Int) → (Int) → (Int) → ((Bool) → (List Int) → (Int) → (Int) → PM.R) → PM.R
noncomputable def spec_l1Once_w (c : spec_l1Once_T) (ds : List PM.V) (k : PM.V → PM.R) : PM.R :=
  match ds with
  | [.tup [.arr (.ints 5 .u8 c_b), .int .i64 c_i, .int .i64 c_h], .int .i64 n_] => c c_b c_i c_h n_ (fun r0 bx_b bx_i bx_h => k (.tup [.bool r0, .tup [.arr (.ints 5 .u8 bx_b), .int .i64 bx_i, .int .i64 bx_h]]))
  | _ => none
noncomputable def spec_l1Once_f (A : PM.Prims) (c_108 : spec_l1Below_T) (c_b : List Int) (c_i : Int) (c_h : Int) (n_ : Int) (k : (Bool) → (List Int) → (Int) → (Int) → PM.R) : PM.R :=
  c_108 c_b c_i c_h n_ (fun r1 r2 r3 r4 =>
    k (A.eq r1 0) r2 r3 r4)
noncomputable def spec_l1Once (A : PM.Prims) : spec_l1Once_T := spec_l1Once_f A (spec_l1Below A)
noncomputable def spec_l1Once_L (A : PM.Prims) (c_108 : spec_l1Below_T) (n : Nat) : PM.Lam := fun cur σ K =>
  match cur, σ, K with
  | _, _, _ => none
noncomputable def spec_l1Once_E (A : PM.Prims) (c_108 : spec_l1Below_T) : PM.Env := ⟨[(108, ⟨[], fun _ _ => none, some (PM.spBox (spec_l1Below_w c_108))⟩)], [], [], [(0, [0, 1]), (1, [0, 4])], spec_l1Once_L A c_108 A.fuel⟩
theorem spec_l1Once_ok (A : PM.Prims) (c_108 : spec_l1Below_T) (c_b : List Int) (c_i : Int) (c_h : Int) (n_ : Int) (k : PM.V → PM.R) : PM.pfunB A cx (spec_l1Once_E A c_108) Go.Proofs.Try.f105 [.tup [.arr (.ints 5 .u8 c_b), .int .i64 c_i, .int .i64 c_h], .int .i64 n_] k = spec_l1Once_f A c_108 c_b c_i c_h n_ (fun r0 bx_b bx_i bx_h => k (.tup [.bool r0, .tup [.arr (.ints 5 .u8 bx_b), .int .i64 bx_i, .int .i64 bx_h]])) := by kernel_rfl

theorem spec_l1Once_fn : PM.FnIs Try.prog 105 Try.f105 := .of Try.func105 (by kernel_rfl) (by kernel_rfl)
theorem spec_l1Once_g : PM.GOk Try.prog cx 105 ⟨[], fun _ _ => none, some (PM.spBox (spec_l1Once_w (spec_l1Once PM.std)))⟩ := by
  refine PM.GOk.ofS spec_l1Once_fn.enter (PM.spBox_ok fun ds k r h => ?_)
  change spec_l1Once_w (spec_l1Once PM.std) ds k = some r at h
  unfold spec_l1Once_w at h
  split at h
  · exact PM.pfunB_ok (E := spec_l1Once_E PM.std (spec_l1Below PM.std)) (L := fun n => spec_l1Once_L PM.std (spec_l1Below PM.std) n) (N := PM.std.fuel) cx_ok (.cons spec_l1Below_g .nil) mixed .nil spec_l1Once_fn (by kernel_rfl) ⟨rfl, fun _ _ _ => rfl, fun n cur σ K r h => by cases h⟩
      ((spec_l1Once_ok PM.std (spec_l1Below PM.std) _ _ _ _ k).trans h)
  · cases h

abbrev spec_l3Draw_T := (List Int) → (Int) → (Int) → ((Int) → (List Int) → (Int) → (Int) → PM.R) → PM.R
noncomputable def spec_l3Draw_w (c : spec_l3Draw_T) (ds : List PM.V) (k : PM.V → PM.R) : PM.R :=
  match ds with
  | [.tup [.arr (.ints 5 .u8 c_b), .int .i64 c_i, .int .i64 c_h]] => c c_b c_i c_h (fun r0 bx_b bx_i bx_h => k (.tup [.int .i64 r0, .tup [.arr (.ints 5 .u8 bx_b), .int .i64 bx_i, .int .i64 bx_h]]))
  | _ => none
noncomputable def spec_l3Draw_f (A : PM.Prims) (c_108 : spec_l1Below_T) (c_105 : spec_l1Once_T) (c_b : List Int) (c_i : Int) (c_h : Int) (k : (Int) → (List Int) → (Int) → (Int) → PM.R) : PM.R :=
  c_105 c_b c_i c_h 6 (fun r1 r2 r3 r4 =>
    bif r1 then
      c_108 r2 r3 r4 (A.ilen [0, 65535, 65534, 256]) (fun r5 r6 r7 r8 =>
        bif (A.inb r5 (A.ilen [0, 65535, 65534, 256])) then
          k (A.iget [0, 65535, 65534, 256] r5) r6 r7 r8
        else
          none)
    else
      c_108 r2 r3 r4 9 (fun r9 r10 r11 r12 =>
        k r9 r10 r11 r12))
noncomputable def spec_l3Draw (A : PM.Prims) : spec_l3Draw_T := spec_l3Draw_f A (spec_l1Below A) (spec_l1Once A)
noncomputable def spec_l3Draw_L (A : PM.Prims) (c_108 : spec_l1Below_T) (c_105 : spec_l1Once_T) (n : Nat) : PM.Lam := fun cur σ K =>
  match cur, σ, K with
  | _, _, _ => none
noncomputable def spec_l3Draw_E (A : PM.Prims) (c_108 : spec_l1Below_T) (c_105 : spec_l1Once_T) : PM.Env := ⟨[(108, ⟨[], fun _ _ => none, some (PM.spBox (spec_l1Below_w c_108))⟩), (105, ⟨[], fun _ _ => none, some (PM.spBox (spec_l1Once_w c_105))⟩)], [(118, Go.Proofs.Try.f118)], [], [(0, [0]), (1, [0, 4]), (2, [0, 2]), (3, [0, 2])], spec_l3Draw_L A c_108 c_105 A.fuel⟩
theorem spec_l3Draw_ok (A : PM.Prims) (c_108 : spec_l1Below_T) (c_105 : spec_l1Once_T) (c_b : List Int) (c_i : Int) (c_h : Int) (k : PM.V → PM.R) : PM.pfunB A cx (spec_l3Draw_E A c_108 c_105) Go.Proofs.Try.f158 [.tup [.arr (.ints 5 .u8 c_b), .int .i64 c_i, .int .i64 c_h]] k = spec_l3Draw_f A c_108 c_105 c_b c_i c_h (fun r0 bx_b bx_i bx_h => k (.tup [.int .i64 r0, .tup [.arr (.ints 5 .u8 bx_b), .int .i64 bx_i, .int .i64 bx_h]])) := by kernel_rfl

theorem spec_l3Draw_fn : PM.FnIs Try.prog 158 Try.f158 := .of Try.func158 (by kernel_rfl) (by kernel_rfl)
theorem spec_l3Draw_g : PM.GOk Try.prog cx 158 ⟨[], fun _ _ => none, some (PM.spBox (spec_l3Draw_w (spec_l3Draw PM.std)))⟩ := by
  refine PM.GOk.ofS spec_l3Draw_fn.enter (PM.spBox_ok fun ds k r h => ?_)
  change spec_l3Draw_w (spec_l3Draw PM.std) ds k = some r at h
  unfold spec_l3Draw_w at h
  split at h
  · exact PM.pfunB_ok (E := spec_l3Draw_E PM.std (spec_l1Below PM.std) (spec_l1Once PM.std)) (L := fun n => spec_l3Draw_L PM.std (spec_l1Below PM.std) (spec_l1Once PM.std) n) (N := PM.std.fuel) cx_ok (.cons spec_l1Below_g (.cons spec_l1Once_g .nil)) mixed (.cons (.of Try.func118 (by kernel_rfl) (by kernel_rfl)) (by kernel_rfl) .nil) spec_l3Draw_fn (by kernel_rfl) ⟨rfl, fun _ _ _ => rfl, fun n cur σ K r h => by cases h⟩
      ((spec_l3Draw_ok PM.std (spec_l1Below PM.std) (spec_l1Once PM.std) _ _ _ k).trans h)
  · cases h

abbrev spec_l3Mem_T := (List Int) → (Int) → (Int) → ((Int) → (List (List Int)) → (List Int) → (Int) → (Int) → PM.R) → PM.R
noncomputable def spec_l3Mem_w (c : spec_l3Mem_T) (ds : List PM.V) (k : PM.V → PM.R) : PM.R :=
  match ds with
  | [.tup [.arr (.ints 5 .u8 c_b), .int .i64 c_i, .int .i64 c_h]] => c c_b c_i c_h (fun r0_Clock r0_Cells bx_b bx_i bx_h => k (.tup [.agg [.int .i64 r0_Clock, .arr (.vecs 49 3 r0_Cells)], .tup [.arr (.ints 5 .u8 bx_b), .int .i64 bx_i, .int .i64 bx_h]]))
  | _ => none
noncomputable def spec_l3Mem_l0 (A : PM.Prims) (c_108 : spec_l1Below_T) (c_105 : spec_l1Once_T) (c_158 : spec_l3Draw_T) : Nat → (Int) → (Int) → (List Int) → (Int) → (Int) → (Int) → (Int) → (List (List Int)) → (List (List Int)) → ((List Int) → (Int) → (Int) → (Int) → (Int) → (List (List Int)) → (List (List Int)) → PM.R) → PM.R
  | 0, _, _, _, _, _, _, _, _, _, _ => none
  | n + 1, busy17, i18, o019, o020, o021, o122, o223, o324, o425, kx0_0 =>
    bif (A.lt i18 8) then
      c_158 o019 o020 o021 (fun r26 r27 r28 r29 =>
        c_108 r27 r28 r29 (A.add .i64 o223 1) (fun r30 r31 r32 r33 =>
          bif (A.lt 0 busy17) then
            c_105 r31 r32 r33 4 (fun r34 r35 r36 r37 =>
              bif r34 then
                c_108 r35 r36 r37 4 (fun r38 r39 r40 r41 =>
                  bif (A.room (A.vlen o425) (A.vlen [[r26, r30, (A.add .i64 1 r38)]])) then
                    spec_l3Mem_l0 A c_108 c_105 c_158 n busy17 (A.add .i64 i18 1) r39 r40 r41 o122 o223 o324 (A.vapp o425 [[r26, r30, (A.add .i64 1 r38)]]) kx0_0
                  else
                    none)
              else
                bif (A.room (A.vlen o425) (A.vlen [[r26, r30, 0]])) then
                  spec_l3Mem_l0 A c_108 c_105 c_158 n busy17 (A.add .i64 i18 1) r35 r36 r37 o122 o223 o324 (A.vapp o425 [[r26, r30, 0]]) kx0_0
                else
                  none)
          else
            bif (A.room (A.vlen o425) (A.vlen [[r26, r30, 0]])) then
              spec_l3Mem_l0 A c_108 c_105 c_158 n busy17 (A.add .i64 i18 1) r31 r32 r33 o122 o223 o324 (A.vapp o425 [[r26, r30, 0]]) kx0_0
            else
              none))
    else
      kx0_0 o019 o020 o021 o122 o223 o324 o425
noncomputable def spec_l3Mem_f (A : PM.Prims) (c_108 : spec_l1Below_T) (c_105 : spec_l1Once_T) (c_158 : spec_l3Draw_T) (c_b : List Int) (c_i : Int) (c_h : Int) (k : (Int) → (List (List Int)) → (List Int) → (Int) → (Int) → PM.R) : PM.R :=
  c_108 c_b c_i c_h 12 (fun r1 r2 r3 r4 =>
    c_105 r2 r3 r4 20 (fun r5 r6 r7 r8 =>
      bif r5 then
        c_108 r6 r7 r8 2 (fun r9 r10 r11 r12 =>
          c_108 r10 r11 r12 3 (fun r13 r14 r15 r16 =>
            spec_l3Mem_l0 A c_108 c_105 c_158 A.fuel r13 0 r14 r15 r16 0 (A.sub .i64 1000000 r9) [] [] (fun o04249 o04350 o04451 o14552 o24653 o34754 o44855 =>
              k o24653 o44855 o04249 o04350 o04451)))
      else
        c_108 r6 r7 r8 3 (fun r56 r57 r58 r59 =>
          spec_l3Mem_l0 A c_108 c_105 c_158 A.fuel r56 0 r57 r58 r59 0 r1 [] [] (fun o04269 o04370 o04471 o14572 o24673 o34774 o44875 =>
            k o24673 o44875 o04269 o04370 o04471))))
noncomputable def spec_l3Mem (A : PM.Prims) : spec_l3Mem_T := spec_l3Mem_f A (spec_l1Below A) (spec_l1Once A) (spec_l3Draw A)
noncomputable def spec_l3Mem_L (A : PM.Prims) (c_108 : spec_l1Below_T) (c_105 : spec_l1Once_T) (c_158 : spec_l3Draw_T) (n : Nat) : PM.Lam := fun cur σ K =>
  match cur, σ, K with
  | 0, ⟨[(0, .pbox 0 0), (2, .pbox 1 0), (3, .pbox 2 0), (4, .int .i64 busy17), (5, .int .i64 i18)], [(0, .box [.arr (.ints 5 .u8 o019), .int .i64 o020, .int .i64 o021]), (1, .box [.int .i64 o122, .sref 3]), (2, .box [.int .i64 o223, .sref 4]), (3, .arr true (.vecs 49 3 o324)), (4, .arr true (.vecs 49 3 o425))]⟩, K => spec_l3Mem_l0 A c_108 c_105 c_158 n busy17 i18 o019 o020 o021 o122 o223 o324 o425 (fun o042 o043 o044 o145 o246 o347 o448 => K (.exit 0) ⟨[(0, .pbox 0 0), (2, .pbox 1 0), (3, .pbox 2 0)], [(0, .box [.arr (.ints 5 .u8 o042), .int .i64 o043, .int .i64 o044]), (1, .box [.int .i64 o145, .sref 3]), (2, .box [.int .i64 o246, .sref 4]), (3, .arr true (.vecs 49 3 o347)), (4, .arr true (.vecs 49 3 o448))]⟩)
  | _, _, _ => none
noncomputable def spec_l3Mem_E (A : PM.Prims) (c_108 : spec_l1Below_T) (c_105 : spec_l1Once_T) (c_158 : spec_l3Draw_T) : PM.Env := ⟨[(108, ⟨[], fun _ _ => none, some (PM.spBox (spec_l1Below_w c_108))⟩), (105, ⟨[], fun _ _ => none, some (PM.spBox (spec_l1Once_w c_105))⟩), (158, ⟨[], fun _ _ => none, some (PM.spBox (spec_l3Draw_w c_158))⟩)], [], [(0, [0, 2, 3, 4, 5], [0, 2, 3])], [(0, [0, 2]), (1, [0, 2, 3]), (2, [0, 2, 3, 11]), (3, [0, 2, 3]), (4, [0, 2, 3, 4]), (5, [0, 2, 3, 4, 5]), (6, [0, 2, 3, 4, 5, 19]), (7, [0, 2, 3, 4, 5]), (8, [0, 2, 3, 4, 5, 6]), (9, [0, 2, 3, 4, 5, 6]), (10, [0, 2, 3, 4, 5, 6, 36]), (11, [0, 2, 3, 4, 5, 6]), (12, [0, 2, 3, 4, 5]), (13, [0, 2])], spec_l3Mem_L A c_108 c_105 c_158 A.fuel⟩
theorem spec_l3Mem_l0_ok (A : PM.Prims) (c_108 : spec_l1Below_T) (c_105 : spec_l1Once_T) (c_158 : spec_l3Draw_T) (n : Nat) (busy17 : Int) (i18 : Int) (o019 : List Int) (o020 : Int) (o021 : Int) (o122 : Int) (o223 : Int) (o324 : List (List Int)) (o425 : List (List Int)) (K : Go.Exit → PM.S → PM.R) : spec_l3Mem_L A c_108 c_105 c_158 (n + 1) 0 ⟨[(0, .pbox 0 0), (2, .pbox 1 0), (3, .pbox 2 0), (4, .int .i64 busy17), (5, .int .i64 i18)], [(0, .box [.arr (.ints 5 .u8 o019), .int .i64 o020, .int .i64 o021]), (1, .box [.int .i64 o122, .sref 3]), (2, .box [.int .i64 o223, .sref 4]), (3, .arr true (.vecs 49 3 o324)), (4, .arr true (.vecs 49 3 o425))]⟩ K = PM.roundF A cx (PM.runD A cx (spec_l3Mem_E A c_108 c_105 c_158).inl (spec_l3Mem_E A c_108 c_105 c_158).Γ 3) (spec_l3Mem_E A c_108 c_105 c_158) (spec_l3Mem_L A c_108 c_105 c_158 n) 0 Go.Proofs.Try.f104 ⟨[(0, .pbox 0 0), (2, .pbox 1 0), (3, .pbox 2 0), (4, .int .i64 busy17), (5, .int .i64 i18)], [(0, .box [.arr (.ints 5 .u8 o019), .int .i64 o020, .int .i64 o021]), (1, .box [.int .i64 o122, .sref 3]), (2, .box [.int .i64 o223, .sref 4]), (3, .arr true (.vecs 49 3 o324)), (4, .arr true (.vecs 49 3 o425))]⟩ K := by kernel_rfl
theorem spec_l3Mem_ok (A : PM.Prims) (c_108 : spec_l1Below_T) (c_105 : spec_l1Once_T) (c_158 : spec_l3Draw_T) (c_b : List Int) (c_i : Int) (c_h : Int) (k : PM.V → PM.R) : PM.pfunB A cx (spec_l3Mem_E A c_108 c_105 c_158) Go.Proofs.Try.f104 [.tup [.arr (.ints 5 .u8 c_b), .int .i64 c_i, .int .i64 c_h]] k = spec_l3Mem_f A c_108 c_105 c_158 c_b c_i c_h (fun r0_Clock r0_Cells bx_b bx_i bx_h => k (.tup [.agg [.int .i64 r0_Clock, .arr (.vecs 49 3 r0_Cells)], .tup [.arr (.ints 5 .u8 bx_b), .int .i64 bx_i, .int .i64 bx_h]])) := by kernel_rfl

theorem spec_l3Mem_fn : PM.FnIs Try.prog 104 Try.f104 := .of Try.func104 (by kernel_rfl) (by kernel_rfl)
theorem spec_l3Mem_g : PM.GOk Try.prog cx 104 ⟨[], fun _ _ => none, some (PM.spBox (spec_l3Mem_w (spec_l3Mem PM.std)))⟩ := by
  refine PM.GOk.ofS spec_l3Mem_fn.enter (PM.spBox_ok fun ds k r h => ?_)
  change spec_l3Mem_w (spec_l3Mem PM.std) ds k = some r at h
  unfold spec_l3Mem_w at h
  split at h
  · exact PM.pfunB_ok (E := spec_l3Mem_E PM.std (spec_l1Below PM.std) (spec_l1Once PM.std) (spec_l3Draw PM.std)) (L := fun n => spec_l3Mem_L PM.std (spec_l1Below PM.std) (spec_l1Once PM.std) (spec_l3Draw PM.std) n) (N := PM.std.fuel) cx_ok (.cons spec_l1Below_g (.cons spec_l1Once_g (.cons spec_l3Draw_g .nil))) mixed .nil spec_l3Mem_fn (by kernel_rfl) ⟨rfl, fun cur σ K => by
      dsimp only [spec_l3Mem_L]
      split <;> rfl, fun n cur σ K r h => by
      dsimp only [spec_l3Mem_L] at h
      split at h
      · exact (spec_l3Mem_l0_ok PM.std (spec_l1Below PM.std) (spec_l1Once PM.std) (spec_l3Draw PM.std) n _ _ _ _ _ _ _ _ _ K).symm.trans h
      · cases h⟩
      ((spec_l3Mem_ok PM.std (spec_l1Below PM.std) (spec_l1Once PM.std) (spec_l3Draw PM.std) _ _ _ k).trans h)
  · cases h

abbrev spec_l9Any_T := (List Int) → (Int) → (Int) → ((Int) → (Int) → (Int) → (Int) → (List Int) → (Int) → (Int) → PM.R) → PM.R
noncomputable def spec_l9Any_w (c : spec_l9Any_T) (ds : List PM.V) (k : PM.V → PM.R) : PM.R :=
  match ds with
  | [.tup [.arr (.ints 5 .u8 c_b), .int .i64 c_i, .int .i64 c_h]] => c c_b c_i c_h (fun r0_Cell r0_Phase r0_Ver r0_Val bx_b bx_i bx_h => k (.tup [.agg [.int .i64 r0_Cell, .int .i64 r0_Phase, .int .i64 r0_Ver, .int .i64 r0_Val], .tup [.arr (.ints 5 .u8 bx_b), .int .i64 bx_i, .int .i64 bx_h]]))
  | _ => none
noncomputable def spec_l9Any_f (A : PM.Prims) (c_108 : spec_l1Below_T) (c_158 : spec_l3Draw_T) (c_b : List Int) (c_i : Int) (c_h : Int) (k : (Int) → (Int) → (Int) → (Int) → (List Int) → (Int) → (Int) → PM.R) : PM.R :=
  c_108 c_b c_i c_h 8 (fun r1 r2 r3 r4 =>
    c_108 r2 r3 r4 5 (fun r5 r6 r7 r8 =>
      bif (A.lt 0 r5) then
        c_108 r6 r7 r8 12 (fun r9 r10 r11 r12 =>
          bif (A.lt 1 r5) then
            c_158 r10 r11 r12 (fun r13 r14 r15 r16 =>
              c_108 r14 r15 r16 24 (fun r17 r18 r19 r20 =>
                bif (A.eq r17 0) then
                  k 8 r5 r9 r13 r18 r19 r20
                else
                  bif (A.eq r17 1) then
                    k r1 5 r9 r13 r18 r19 r20
                  else
                    bif (A.eq r17 2) then
                      k r1 r5 (-1) r13 r18 r19 r20
                    else
                      bif (A.eq r17 3) then
                        k r1 r5 r9 65536 r18 r19 r20
                      else
                        k r1 r5 r9 r13 r18 r19 r20))
          else
            c_108 r10 r11 r12 24 (fun r21 r22 r23 r24 =>
              bif (A.eq r21 0) then
                k 8 r5 r9 0 r22 r23 r24
              else
                bif (A.eq r21 1) then
                  k r1 5 r9 0 r22 r23 r24
                else
                  bif (A.eq r21 2) then
                    k r1 r5 (-1) 0 r22 r23 r24
                  else
                    bif (A.eq r21 3) then
                      k r1 r5 r9 65536 r22 r23 r24
                    else
                      k r1 r5 r9 0 r22 r23 r24))
      else
        bif (A.lt 1 r5) then
          c_158 r6 r7 r8 (fun r25 r26 r27 r28 =>
            c_108 r26 r27 r28 24 (fun r29 r30 r31 r32 =>
              bif (A.eq r29 0) then
                k 8 r5 0 r25 r30 r31 r32
              else
                bif (A.eq r29 1) then
                  k r1 5 0 r25 r30 r31 r32
                else
                  bif (A.eq r29 2) then
                    k r1 r5 (-1) r25 r30 r31 r32
                  else
                    bif (A.eq r29 3) then
                      k r1 r5 0 65536 r30 r31 r32
                    else
                      k r1 r5 0 r25 r30 r31 r32))
        else
          c_108 r6 r7 r8 24 (fun r33 r34 r35 r36 =>
            bif (A.eq r33 0) then
              k 8 r5 0 0 r34 r35 r36
            else
              bif (A.eq r33 1) then
                k r1 5 0 0 r34 r35 r36
              else
                bif (A.eq r33 2) then
                  k r1 r5 (-1) 0 r34 r35 r36
                else
                  bif (A.eq r33 3) then
                    k r1 r5 0 65536 r34 r35 r36
                  else
                    k r1 r5 0 0 r34 r35 r36)))
noncomputable def spec_l9Any (A : PM.Prims) : spec_l9Any_T := spec_l9Any_f A (spec_l1Below A) (spec_l3Draw A)
noncomputable def spec_l9Any_L (A : PM.Prims) (c_108 : spec_l1Below_T) (c_158 : spec_l3Draw_T) (n : Nat) : PM.Lam := fun cur σ K =>
  match cur, σ, K with
  | _, _, _ => none
noncomputable def spec_l9Any_E (A : PM.Prims) (c_108 : spec_l1Below_T) (c_158 : spec_l3Draw_T) : PM.Env := ⟨[(108, ⟨[], fun _ _ => none, some (PM.spBox (spec_l1Below_w c_108))⟩), (158, ⟨[], fun _ _ => none, some (PM.spBox (spec_l3Draw_w c_158))⟩)], [], [], [(0, [0, 2]), (1, [0, 2, 3]), (2, [0, 2, 3, 11]), (3, [0, 2, 3]), (4, [0, 2, 3, 17]), (5, [0, 2, 3]), (6, [0, 2, 3, 22]), (7, [0, 2, 3, 22, 23]), (8, [0, 2, 3]), (9, [0, 2, 3, 22, 26]), (10, [0, 2, 3]), (11, [0, 2, 3, 22, 29]), (12, [0, 2, 3]), (13, [0, 2, 3, 32]), (14, [0, 2, 3]), (15, [0, 2])], spec_l9Any_L A c_108 c_158 A.fuel⟩
theorem spec_l9Any_ok (A : PM.Prims) (c_108 : spec_l1Below_T) (c_158 : spec_l3Draw_T) (c_b : List Int) (c_i : Int) (c_h : Int) (k : PM.V → PM.R) : PM.pfunB A cx (spec_l9Any_E A c_108 c_158) Go.Proofs.Try.f107 [.tup [.arr (.ints 5 .u8 c_b), .int .i64 c_i, .int .i64 c_h]] k = spec_l9Any_f A c_108 c_158 c_b c_i c_h (fun r0_Cell r0_Phase r0_Ver r0_Val bx_b bx_i bx_h => k (.tup [.agg [.int .i64 r0_Cell, .int .i64 r0_Phase, .int .i64 r0_Ver, .int .i64 r0_Val], .tup [.arr (.ints 5 .u8 bx_b), .int .i64 bx_i, .int .i64 bx_h]])) := by kernel_rfl

theorem spec_l9Any_fn : PM.FnIs Try.prog 107 Try.f107 := .of Try.func107 (by kernel_rfl) (by kernel_rfl)
theorem spec_l9Any_g : PM.GOk Try.prog cx 107 ⟨[], fun _ _ => none, some (PM.spBox (spec_l9Any_w (spec_l9Any PM.std)))⟩ := by
  refine PM.GOk.ofS spec_l9Any_fn.enter (PM.spBox_ok fun ds k r h => ?_)
  change spec_l9Any_w (spec_l9Any PM.std) ds k = some r at h
  unfold spec_l9Any_w at h
  split at h
  · exact PM.pfunB_ok (E := spec_l9Any_E PM.std (spec_l1Below PM.std) (spec_l3Draw PM.std)) (L := fun n => spec_l9Any_L PM.std (spec_l1Below PM.std) (spec_l3Draw PM.std) n) (N := PM.std.fuel) cx_ok (.cons spec_l1Below_g (.cons spec_l3Draw_g .nil)) mixed .nil spec_l9Any_fn (by kernel_rfl) ⟨rfl, fun _ _ _ => rfl, fun n cur σ K r h => by cases h⟩
      ((spec_l9Any_ok PM.std (spec_l1Below PM.std) (spec_l3Draw PM.std) _ _ _ k).trans h)
  · cases h

abbrev spec_l1New_T := (List Int) → ((List Int) → (Int) → (Int) → PM.R) → PM.R
noncomputable def spec_l1New_w (c : spec_l1New_T) (ds : List PM.V) (k : PM.V → PM.R) : PM.R :=
  match ds with
  | [.arr (.ints 5 .u8 code)] => c code (fun r0_b r0_i r0_h => k (.tup [.arr (.ints 5 .u8 r0_b), .int .i64 r0_i, .int .i64 r0_h]))
  | _ => none
noncomputable def spec_l1New_l0 (A : PM.Prims) : Nat → (List Int) → (Int) → (Int) → ((List Int) → (Int) → PM.R) → PM.R
  | 0, _, _, _, _ => none
  | n + 1, code1, h2, i3, kx0_0 =>
    bif (A.lt i3 (A.ilen code1)) then
      bif (A.lt i3 4000) then
        bif (A.inb i3 (A.ilen code1)) then
          spec_l1New_l0 A n code1 (A.bits .and .i64 (A.add .i64 (A.add .i64 (A.mul .i64 h2 131) (A.wrap .i64 (A.iget code1 i3))) 7) 1073741823) (A.add .i64 i3 1) kx0_0
        else
          none
      else
        kx0_0 code1 h2
    else
      kx0_0 code1 h2
noncomputable def spec_l1New_f (A : PM.Prims) (code : List Int) (k : (List Int) → (Int) → (Int) → PM.R) : PM.R :=
  spec_l1New_l0 A A.fuel code (A.add .i64 10101 (A.ilen code)) 0 (fun code46 h57 =>
    k code46 0 h57)
noncomputable def spec_l1New (A : PM.Prims) : spec_l1New_T := spec_l1New_f A
noncomputable def spec_l1New_L (A : PM.Prims) (n : Nat) : PM.Lam := fun cur σ K =>
  match cur, σ, K with
  | 0, ⟨[(0, .arr (.ints 5 .u8 code1)), (3, .int .i64 h2), (4, .int .i64 i3)], []⟩, K => spec_l1New_l0 A n code1 h2 i3 (fun code4 h5 => K (.exit 0) ⟨[(0, .arr (.ints 5 .u8 code4)), (3, .int .i64 h5)], []⟩)
  | _, _, _ => none
noncomputable def spec_l1New_E (A : PM.Prims) : PM.Env := ⟨[], [], [(0, [0, 3, 4], [0, 2, 3])], [(0, [0]), (1, [0, 3]), (2, [0, 3, 4]), (3, [0, 3, 4, 15]), (4, [0, 3, 4]), (5, [0, 3, 4]), (6, [2])], spec_l1New_L A A.fuel⟩
theorem spec_l1New_l0_ok (A : PM.Prims) (n : Nat) (code1 : List Int) (h2 : Int) (i3 : Int) (K : Go.Exit → PM.S → PM.R) : spec_l1New_L A (n + 1) 0 ⟨[(0, .arr (.ints 5 .u8 code1)), (3, .int .i64 h2), (4, .int .i64 i3)], []⟩ K = PM.roundF A cx (PM.runD A cx (spec_l1New_E A).inl (spec_l1New_E A).Γ 3) (spec_l1New_E A) (spec_l1New_L A n) 0 Go.Proofs.Try.f103 ⟨[(0, .arr (.ints 5 .u8 code1)), (3, .int .i64 h2), (4, .int .i64 i3)], []⟩ K := by kernel_rfl
theorem spec_l1New_ok (A : PM.Prims) (code : List Int) (k : PM.V → PM.R) : PM.pfunN A cx (spec_l1New_E A) Go.Proofs.Try.f103 [.arr (.ints 5 .u8 code)] k = spec_l1New_f A code (fun r0_b r0_i r0_h => k (.tup [.arr (.ints 5 .u8 r0_b), .int .i64 r0_i, .int .i64 r0_h])) := by kernel_rfl

theorem spec_l1New_fn : PM.FnIs Try.prog 103 Try.f103 := .of Try.func103 (by kernel_rfl) (by kernel_rfl)
theorem spec_l1New_g : PM.GOk Try.prog cx 103 ⟨[], fun _ _ => none, some (PM.spNew (spec_l1New_w (spec_l1New PM.std)))⟩ := by
  refine PM.GOk.ofS spec_l1New_fn.enter (PM.spNew_ok fun ds k r h => ?_)
  change spec_l1New_w (spec_l1New PM.std) ds k = some r at h
  unfold spec_l1New_w at h
  split at h
  · exact PM.pfunN_ok (E := spec_l1New_E PM.std) (L := fun n => spec_l1New_L PM.std n) (N := PM.std.fuel) cx_ok .nil mixed .nil spec_l1New_fn (by kernel_rfl) ⟨rfl, fun cur σ K => by
      dsimp only [spec_l1New_L]
      split <;> rfl, fun n cur σ K r h => by
      dsimp only [spec_l1New_L] at h
      split at h
      · exact (spec_l1New_l0_ok PM.std n _ _ _ K).symm.trans h
      · cases h⟩
      ((spec_l1New_ok PM.std _ k).trans h)
  · cases h

abbrev spec_l3Any_T := (List Int) → (Int) → (Int) → ((Int) → (List (List Int)) → (List Int) → (Int) → (Int) → PM.R) → PM.R
noncomputable def spec_l3Any_w (c : spec_l3Any_T) (ds : List PM.V) (k : PM.V → PM.R) : PM.R :=
  match ds with
  | [.tup [.arr (.ints 5 .u8 c_b), .int .i64 c_i, .int .i64 c_h]] => c c_b c_i c_h (fun r0_Clock r0_Cells bx_b bx_i bx_h => k (.tup [.agg [.int .i64 r0_Clock, .arr (.vecs 49 3 r0_Cells)], .tup [.arr (.ints 5 .u8 bx_b), .int .i64 bx_i, .int .i64 bx_h]]))
  | _ => none
noncomputable def spec_l3Any_f (A : PM.Prims) (c_108 : spec_l1Below_T) (c_104 : spec_l3Mem_T) (c_b : List Int) (c_i : Int) (c_h : Int) (k : (Int) → (List (List Int)) → (List Int) → (Int) → (Int) → PM.R) : PM.R :=
  c_104 c_b c_i c_h (fun r1 r2 r3 r4 r5 =>
    c_108 r3 r4 r5 8 (fun r6 r7 r8 r9 =>
      c_108 r7 r8 r9 30 (fun r10 r11 r12 r13 =>
        bif (A.eq r10 0) then
          bif (A.subb 0 r6 (A.vlen r2)) then
            k r1 (A.vsub r2 0 r6) r11 r12 r13
          else
            none
        else
          bif (A.eq r10 1) then
            bif (A.inb r6 (A.vlen r2)) then
              k r1 (A.vset r2 r6 1 (A.add .i64 r1 1)) r11 r12 r13
            else
              none
          else
            bif (A.eq r10 2) then
              bif (A.inb r6 (A.vlen r2)) then
                k r1 (A.vset r2 r6 0 65536) r11 r12 r13
              else
                none
            else
              bif (A.eq r10 3) then
                c_108 r11 r12 r13 2 (fun r14 r15 r16 r17 =>
                  bif (A.inb r6 (A.vlen r2)) then
                    k r1 (A.vset r2 r6 2 (A.sub .i64 100 (A.mul .i64 r14 101))) r15 r16 r17
                  else
                    none)
              else
                bif (A.eq r10 4) then
                  k 1000001 r2 r11 r12 r13
                else
                  bif (A.eq r10 5) then
                    bif (A.inb r6 (A.vlen r2)) then
                      k r1 (A.vset r2 r6 1 (-1)) r11 r12 r13
                    else
                      none
                  else
                    k r1 r2 r11 r12 r13)))
noncomputable def spec_l3Any (A : PM.Prims) : spec_l3Any_T := spec_l3Any_f A (spec_l1Below A) (spec_l3Mem A)
noncomputable def spec_l3Any_L (A : PM.Prims) (c_108 : spec_l1Below_T) (c_104 : spec_l3Mem_T) (n : Nat) : PM.Lam := fun cur σ K =>
  match cur, σ, K with
  | _, _, _ => none
noncomputable def spec_l3Any_E (A : PM.Prims) (c_108 : spec_l1Below_T) (c_104 : spec_l3Mem_T) : PM.Env := ⟨[(108, ⟨[], fun _ _ => none, some (PM.spBox (spec_l1Below_w c_108))⟩), (104, ⟨[], fun _ _ => none, some (PM.spBox (spec_l3Mem_w c_104))⟩)], [], [], [(0, [0, 2]), (1, [0, 2, 3]), (2, [0, 2, 3, 4]), (3, [0, 2, 3, 4, 10]), (4, [0, 2, 3, 4, 10, 11]), (5, [0, 2, 3]), (6, [0, 2, 3, 4, 10, 18]), (7, [0, 2, 3]), (8, [0, 2, 3, 4, 10, 28]), (9, [0, 2, 3]), (10, [0, 2, 3, 4, 10, 35]), (11, [0, 2, 3]), (12, [0, 2, 3, 4, 10, 46]), (13, [0, 2, 3]), (14, [0, 2, 3, 4, 49]), (15, [0, 2, 3]), (16, [0, 2])], spec_l3Any_L A c_108 c_104 A.fuel⟩
theorem spec_l3Any_ok (A : PM.Prims) (c_108 : spec_l1Below_T) (c_104 : spec_l3Mem_T) (c_b : List Int) (c_i : Int) (c_h : Int) (k : PM.V → PM.R) : PM.pfunB A cx (spec_l3Any_E A c_108 c_104) Go.Proofs.Try.f106 [.tup [.arr (.ints 5 .u8 c_b), .int .i64 c_i, .int .i64 c_h]] k = spec_l3Any_f A c_108 c_104 c_b c_i c_h (fun r0_Clock r0_Cells bx_b bx_i bx_h => k (.tup [.agg [.int .i64 r0_Clock, .arr (.vecs 49 3 r0_Cells)], .tup [.arr (.ints 5 .u8 bx_b), .int .i64 bx_i, .int .i64 bx_h]])) := by kernel_rfl

theorem spec_l3Any_fn : PM.FnIs Try.prog 106 Try.f106 := .of Try.func106 (by kernel_rfl) (by kernel_rfl)
theorem spec_l3Any_g : PM.GOk Try.prog cx 106 ⟨[], fun _ _ => none, some (PM.spBox (spec_l3Any_w (spec_l3Any PM.std)))⟩ := by
  refine PM.GOk.ofS spec_l3Any_fn.enter (PM.spBox_ok fun ds k r h => ?_)
  change spec_l3Any_w (spec_l3Any PM.std) ds k = some r at h
  unfold spec_l3Any_w at h
  split at h
  · exact PM.pfunB_ok (E := spec_l3Any_E PM.std (spec_l1Below PM.std) (spec_l3Mem PM.std)) (L := fun n => spec_l3Any_L PM.std (spec_l1Below PM.std) (spec_l3Mem PM.std) n) (N := PM.std.fuel) cx_ok (.cons spec_l1Below_g (.cons spec_l3Mem_g .nil)) mixed .nil spec_l3Any_fn (by kernel_rfl) ⟨rfl, fun _ _ _ => rfl, fun n cur σ K r h => by cases h⟩
      ((spec_l3Any_ok PM.std (spec_l1Below PM.std) (spec_l3Mem PM.std) _ _ _ k).trans h)
  · cases h

abbrev spec_DrawProbeStep_T := (List Int) → ((Int) → (List (List Int)) → (Int) → (Int) → (Int) → (Int) → (Int) → PM.R) → PM.R
noncomputable def spec_DrawProbeStep_w (c : spec_DrawProbeStep_T) (ds : List PM.V) (k : PM.V → PM.R) : PM.R :=
  match ds with
  | [.arr (.ints 5 .u8 code)] => c code (fun r0_Clock r0_Cells r1 r2_Cell r2_Phase r2_Ver r2_Val => k (.tup [.agg [.int .i64 r0_Clock, .arr (.vecs 49 3 r0_Cells)], .int .i64 r1, .agg [.int .i64 r2_Cell, .int .i64 r2_Phase, .int .i64 r2_Ver, .int .i64 r2_Val]]))
  | _ => none
noncomputable def spec_DrawProbeStep_f (A : PM.Prims) (c_22 : spec_ProbeOk_T) (c_103 : spec_l1New_T) (c_108 : spec_l1Below_T) (c_105 : spec_l1Once_T) (c_104 : spec_l3Mem_T) (c_106 : spec_l3Any_T) (c_107 : spec_l9Any_T) (code : List Int) (k : (Int) → (List (List Int)) → (Int) → (Int) → (Int) → (Int) → (Int) → PM.R) : PM.R :=
  c_103 code (fun r1 r2 r3 =>
    c_104 r1 r2 r3 (fun r4 r5 r6 r7 r8 =>
      c_105 r6 r7 r8 15 (fun r9 r10 r11 r12 =>
        bif r9 then
          c_106 r10 r11 r12 (fun r13 r14 r15 r16 r17 =>
            c_107 r15 r16 r17 (fun r18 r19 r20 r21 r22 r23 r24 =>
              c_22 r18 r19 r20 r21 (fun r25 =>
                bif r25 then
                  bif (A.eq (A.vlen r14) 8) then
                    c_105 r22 r23 r24 2 (fun r26 r27 r28 r29 =>
                      bif r26 then
                        bif (A.inb r18 (A.vlen r14)) then
                          c_108 r27 r28 r29 14 (fun r30 r31 r32 r33 =>
                            k r13 r14 (A.sub .i64 r30 1) r18 r19 (A.vget r14 r18 1) r21)
                        else
                          none
                      else
                        c_108 r27 r28 r29 14 (fun r34 r35 r36 r37 =>
                          k r13 r14 (A.sub .i64 r34 1) r18 r19 r20 r21))
                  else
                    c_108 r22 r23 r24 14 (fun r38 r39 r40 r41 =>
                      k r13 r14 (A.sub .i64 r38 1) r18 r19 r20 r21)
                else
                  c_108 r22 r23 r24 14 (fun r42 r43 r44 r45 =>
                    k r13 r14 (A.sub .i64 r42 1) r18 r19 r20 r21))))
        else
          c_107 r10 r11 r12 (fun r46 r47 r48 r49 r50 r51 r52 =>
            c_22 r46 r47 r48 r49 (fun r53 =>
              bif r53 then
                bif (A.eq (A.vlen r5) 8) then
                  c_105 r50 r51 r52 2 (fun r54 r55 r56 r57 =>
                    bif r54 then
                      bif (A.inb r46 (A.vlen r5)) then
                        c_108 r55 r56 r57 14 (fun r58 r59 r60 r61 =>
                          k r4 r5 (A.sub .i64 r58 1) r46 r47 (A.vget r5 r46 1) r49)
                      else
                        none
                    else
                      c_108 r55 r56 r57 14 (fun r62 r63 r64 r65 =>
                        k r4 r5 (A.sub .i64 r62 1) r46 r47 r48 r49))
                else
                  c_108 r50 r51 r52 14 (fun r66 r67 r68 r69 =>
                    k r4 r5 (A.sub .i64 r66 1) r46 r47 r48 r49)
              else
                c_108 r50 r51 r52 14 (fun r70 r71 r72 r73 =>
                  k r4 r5 (A.sub .i64 r70 1) r46 r47 r48 r49))))))
noncomputable def spec_DrawProbeStep (A : PM.Prims) : spec_DrawProbeStep_T := spec_DrawProbeStep_f A (spec_ProbeOk A) (spec_l1New A) (spec_l1Below A) (spec_l1Once A) (spec_l3Mem A) (spec_l3Any A) (spec_l9Any A)
noncomputable def spec_DrawProbeStep_L (A : PM.Prims) (c_22 : spec_ProbeOk_T) (c_103 : spec_l1New_T) (c_108 : spec_l1Below_T) (c_105 : spec_l1Once_T) (c_104 : spec_l3Mem_T) (c_106 : spec_l3Any_T) (c_107 : spec_l9Any_T) (n : Nat) : PM.Lam := fun cur σ K =>
  match cur, σ, K with
  | _, _, _ => none
noncomputable def spec_DrawProbeStep_E (A : PM.Prims) (c_22 : spec_ProbeOk_T) (c_103 : spec_l1New_T) (c_108 : spec_l1Below_T) (c_105 : spec_l1Once_T) (c_104 : spec_l3Mem_T) (c_106 : spec_l3Any_T) (c_107 : spec_l9Any_T) : PM.Env := ⟨[(22, ⟨[], spec_ProbeOk_w c_22, none⟩), (103, ⟨[], fun _ _ => none, some (PM.spNew (spec_l1New_w c_103))⟩), (108, ⟨[], fun _ _ => none, some (PM.spBox (spec_l1Below_w c_108))⟩), (105, ⟨[], fun _ _ => none, some (PM.spBox (spec_l1Once_w c_105))⟩), (104, ⟨[], fun _ _ => none, some (PM.spBox (spec_l3Mem_w c_104))⟩), (106, ⟨[], fun _ _ => none, some (PM.spBox (spec_l3Any_w c_106))⟩), (107, ⟨[], fun _ _ => none, some (PM.spBox (spec_l9Any_w c_107))⟩)], [], [], [(0, [0, 2, 4]), (1, [2, 4, 5]), (2, [2, 4, 5, 6]), (3, [2, 4, 5, 6, 13]), (4, [2, 4, 5, 6]), (5, [2, 4, 5, 6, 7]), (6, [2, 4, 5, 6, 7, 29]), (7, [2, 4, 5, 6, 7]), (8, [2, 3, 4])], spec_DrawProbeStep_L A c_22 c_103 c_108 c_105 c_104 c_106 c_107 A.fuel⟩
theorem spec_DrawProbeStep_ok (A : PM.Prims) (c_22 : spec_ProbeOk_T) (c_103 : spec_l1New_T) (c_108 : spec_l1Below_T) (c_105 : spec_l1Once_T) (c_104 : spec_l3Mem_T) (c_106 : spec_l3Any_T) (c_107 : spec_l9Any_T) (code : List Int) (k : PM.V → PM.R) : PM.pfun A cx [] (spec_DrawProbeStep_E A c_22 c_103 c_108 c_105 c_104 c_106 c_107) Go.Proofs.Try.f34 [.arr (.ints 5 .u8 code)] k = spec_DrawProbeStep_f A c_22 c_103 c_108 c_105 c_104 c_106 c_107 code (fun r0_Clock r0_Cells r1 r2_Cell r2_Phase r2_Ver r2_Val => k (.tup [.agg [.int .i64 r0_Clock, .arr (.vecs 49 3 r0_Cells)], .int .i64 r1, .agg [.int .i64 r2_Cell, .int .i64 r2_Phase, .int .i64 r2_Ver, .int .i64 r2_Val]])) := by kernel_rfl

theorem spec_DrawProbeStep_fn : PM.FnIs Try.prog 34 Try.f34 := .of Try.func34 (by kernel_rfl) (by kernel_rfl)
theorem spec_DrawProbeStep_g : PM.GOk Try.prog cx 34 ⟨[], spec_DrawProbeStep_w (spec_DrawProbeStep PM.std), none⟩ := by
  refine ⟨spec_DrawProbeStep_fn.enter, fun _ ds k r h => ?_, fun hm => absurd rfl hm, fun _ e => (by cases e)⟩
  change spec_DrawProbeStep_w (spec_DrawProbeStep PM.std) ds k = some r at h
  unfold spec_DrawProbeStep_w at h
  split at h
  · exact PM.pfun_ok (E := spec_DrawProbeStep_E PM.std (spec_ProbeOk PM.std) (spec_l1New PM.std) (spec_l1Below PM.std) (spec_l1Once PM.std) (spec_l3Mem PM.std) (spec_l3Any PM.std) (spec_l9Any PM.std)) (L := fun n => spec_DrawProbeStep_L PM.std (spec_ProbeOk PM.std) (spec_l1New PM.std) (spec_l1Below PM.std) (spec_l1Once PM.std) (spec_l3Mem PM.std) (spec_l3Any PM.std) (spec_l9Any PM.std) n) (N := PM.std.fuel) cx_ok (.cons spec_ProbeOk_g (.cons spec_l1New_g (.cons spec_l1Below_g (.cons spec_l1Once_g (.cons spec_l3Mem_g (.cons spec_l3Any_g (.cons spec_l9Any_g .nil))))))) mixed .nil spec_DrawProbeStep_fn (by kernel_rfl) ⟨rfl, fun _ _ _ => rfl, fun n cur σ K r h => by cases h⟩
      ((spec_DrawProbeStep_ok PM.std (spec_ProbeOk PM.std) (spec_l1New PM.std) (spec_l1Below PM.std) (spec_l1Once PM.std) (spec_l3Mem PM.std) (spec_l3Any PM.std) (spec_l9Any PM.std) _ k).trans h)
  · cases h

abbrev spec_l4DrawCell_T := (List Int) → (Int) → (Int) → ((Int) → (List Int) → (Int) → (Int) → PM.R) → PM.R
noncomputable def spec_l4DrawCell_w (c : spec_l4DrawCell_T) (ds : List PM.V) (k : PM.V → PM.R) : PM.R :=
  match ds with
  | [.tup [.arr (.ints 5 .u8 c_b), .int .i64 c_i, .int .i64 c_h]] => c c_b c_i c_h (fun r0 bx_b bx_i bx_h => k (.tup [.int .i64 r0, .tup [.arr (.ints 5 .u8 bx_b), .int .i64 bx_i, .int .i64 bx_h]]))
  | _ => none
noncomputable def spec_l4DrawCell_f (A : PM.Prims) (c_108 : spec_l1Below_T) (c_105 : spec_l1Once_T) (c_b : List Int) (c_i : Int) (c_h : Int) (k : (Int) → (List Int) → (Int) → (Int) → PM.R) : PM.R :=
  c_105 c_b c_i c_h 8 (fun r1 r2 r3 r4 =>
    bif r1 then
      c_108 r2 r3 r4 8 (fun r5 r6 r7 r8 =>
        k r5 r6 r7 r8)
    else
      c_108 r2 r3 r4 3 (fun r9 r10 r11 r12 =>
        k r9 r10 r11 r12))
noncomputable def spec_l4DrawCell (A : PM.Prims) : spec_l4DrawCell_T := spec_l4DrawCell_f A (spec_l1Below A) (spec_l1Once A)
noncomputable def spec_l4DrawCell_L (A : PM.Prims) (c_108 : spec_l1Below_T) (c_105 : spec_l1Once_T) (n : Nat) : PM.Lam := fun cur σ K =>
  match cur, σ, K with
  | _, _, _ => none
noncomputable def spec_l4DrawCell_E (A : PM.Prims) (c_108 : spec_l1Below_T) (c_105 : spec_l1Once_T) : PM.Env := ⟨[(108, ⟨[], fun _ _ => none, some (PM.spBox (spec_l1Below_w c_108))⟩), (105, ⟨[], fun _ _ => none, some (PM.spBox (spec_l1Once_w c_105))⟩)], [], [], [(0, [0]), (1, [0, 4]), (2, [0, 2]), (3, [0, 2])], spec_l4DrawCell_L A c_108 c_105 A.fuel⟩
theorem spec_l4DrawCell_ok (A : PM.Prims) (c_108 : spec_l1Below_T) (c_105 : spec_l1Once_T) (c_b : List Int) (c_i : Int) (c_h : Int) (k : PM.V → PM.R) : PM.pfunB A cx (spec_l4DrawCell_E A c_108 c_105) Go.Proofs.Try.f177 [.tup [.arr (.ints 5 .u8 c_b), .int .i64 c_i, .int .i64 c_h]] k = spec_l4DrawCell_f A c_108 c_105 c_b c_i c_h (fun r0 bx_b bx_i bx_h => k (.tup [.int .i64 r0, .tup [.arr (.ints 5 .u8 bx_b), .int .i64 bx_i, .int .i64 bx_h]])) := by kernel_rfl

theorem spec_l4DrawCell_fn : PM.FnIs Try.prog 177 Try.f177 := .of Try.func177 (by kernel_rfl) (by kernel_rfl)
theorem spec_l4DrawCell_g : PM.GOk Try.prog cx 177 ⟨[], fun _ _ => none, some (PM.spBox (spec_l4DrawCell_w (spec_l4DrawCell PM.std)))⟩ := by
  refine PM.GOk.ofS spec_l4DrawCell_fn.enter (PM.spBox_ok fun ds k r h => ?_)
  change spec_l4DrawCell_w (spec_l4DrawCell PM.std) ds k = some r at h
  unfold spec_l4DrawCell_w at h
  split at h
  · exact PM.pfunB_ok (E := spec_l4DrawCell_E PM.std (spec_l1Below PM.std) (spec_l1Once PM.std)) (L := fun n => spec_l4DrawCell_L PM.std (spec_l1Below PM.std) (spec_l1Once PM.std) n) (N := PM.std.fuel) cx_ok (.cons spec_l1Below_g (.cons spec_l1Once_g .nil)) mixed .nil spec_l4DrawCell_fn (by kernel_rfl) ⟨rfl, fun _ _ _ => rfl, fun n cur σ K r h => by cases h⟩
      ((spec_l4DrawCell_ok PM.std (spec_l1Below PM.std) (spec_l1Once PM.std) _ _ _ k).trans h)
  · cases h

abbrev spec_l8Rows_T := (List Int) → (Int) → (Int) → (Int) → ((List (List Int)) → (List Int) → (Int) → (Int) → PM.R) → PM.R
noncomputable def spec_l8Rows_w (c : spec_l8Rows_T) (ds : List PM.V) (k : PM.V → PM.R) : PM.R :=
  match ds with
  | [.tup [.arr (.ints 5 .u8 c_b), .int .i64 c_i, .int .i64 c_h], .int .i64 most] => c c_b c_i c_h most (fun r0 bx_b bx_i bx_h => k (.tup [.arr (.vecs 135 2 r0), .tup [.arr (.ints 5 .u8 bx_b), .int .i64 bx_i, .int .i64 bx_h]]))
  | _ => none
noncomputable def spec_l8Rows_l0 (A : PM.Prims) (c_108 : spec_l1Below_T) (c_158 : spec_l3Draw_T) (c_177 : spec_l4DrawCell_T) : Nat → (Int) → (List Int) → (Int) → (Int) → (List (List Int)) → ((List Int) → (Int) → (Int) → (List (List Int)) → PM.R) → PM.R
  | 0, _, _, _, _, _, _ => none
  | n + 1, n5, o06, o07, o08, o19, kx0_0 =>
    bif (A.lt 0 n5) then
      c_177 o06 o07 o08 (fun r10 r11 r12 r13 =>
        c_158 r11 r12 r13 (fun r14 r15 r16 r17 =>
          bif (A.room (A.vlen o19) (A.vlen [[r10, r14]])) then
            spec_l8Rows_l0 A c_108 c_158 c_177 n (A.sub .i64 n5 1) r15 r16 r17 (A.vapp o19 [[r10, r14]]) kx0_0
          else
            none))
    else
      kx0_0 o06 o07 o08 o19
noncomputable def spec_l8Rows_f (A : PM.Prims) (c_108 : spec_l1Below_T) (c_158 : spec_l3Draw_T) (c_177 : spec_l4DrawCell_T) (c_b : List Int) (c_i : Int) (c_h : Int) (most : Int) (k : (List (List Int)) → (List Int) → (Int) → (Int) → PM.R) : PM.R :=
  c_108 c_b c_i c_h (A.add .i64 most 1) (fun r1 r2 r3 r4 =>
    spec_l8Rows_l0 A c_108 c_158 c_177 A.fuel r1 r2 r3 r4 [] (fun o01822 o01923 o02024 o12125 =>
      k o12125 o01822 o01923 o02024))
noncomputable def spec_l8Rows (A : PM.Prims) : spec_l8Rows_T := spec_l8Rows_f A (spec_l1Below A) (spec_l3Draw A) (spec_l4DrawCell A)
noncomputable def spec_l8Rows_L (A : PM.Prims) (c_108 : spec_l1Below_T) (c_158 : spec_l3Draw_T) (c_177 : spec_l4DrawCell_T) (n : Nat) : PM.Lam := fun cur σ K =>
  match cur, σ, K with
  | 0, ⟨[(0, .pbox 0 0), (5, .sref 1), (6, .int .i64 n5)], [(0, .box [.arr (.ints 5 .u8 o06), .int .i64 o07, .int .i64 o08]), (1, .arr true (.vecs 135 2 o19))]⟩, K => spec_l8Rows_l0 A c_108 c_158 c_177 n n5 o06 o07 o08 o19 (fun o018 o019 o020 o121 => K (.exit 0) ⟨[(0, .pbox 0 0), (5, .sref 1)], [(0, .box [.arr (.ints 5 .u8 o018), .int .i64 o019, .int .i64 o020]), (1, .arr true (.vecs 135 2 o121))]⟩)
  | _, _, _ => none
noncomputable def spec_l8Rows_E (A : PM.Prims) (c_108 : spec_l1Below_T) (c_158 : spec_l3Draw_T) (c_177 : spec_l4DrawCell_T) : PM.Env := ⟨[(108, ⟨[], fun _ _ => none, some (PM.spBox (spec_l1Below_w c_108))⟩), (158, ⟨[], fun _ _ => none, some (PM.spBox (spec_l3Draw_w c_158))⟩), (177, ⟨[], fun _ _ => none, some (PM.spBox (spec_l4DrawCell_w c_177))⟩)], [], [(0, [0, 5, 6], [0, 4, 5])], [(0, [0, 1]), (1, [0, 1, 5]), (2, [0, 5, 6]), (3, [0, 5, 6, 13]), (4, [0, 5, 6]), (5, [0, 5, 6]), (6, [0, 4])], spec_l8Rows_L A c_108 c_158 c_177 A.fuel⟩
theorem spec_l8Rows_l0_ok (A : PM.Prims) (c_108 : spec_l1Below_T) (c_158 : spec_l3Draw_T) (c_177 : spec_l4DrawCell_T) (n : Nat) (n5 : Int) (o06 : List Int) (o07 : Int) (o08 : Int) (o19 : List (List Int)) (K : Go.Exit → PM.S → PM.R) : spec_l8Rows_L A c_108 c_158 c_177 (n + 1) 0 ⟨[(0, .pbox 0 0), (5, .sref 1), (6, .int .i64 n5)], [(0, .box [.arr (.ints 5 .u8 o06), .int .i64 o07, .int .i64 o08]), (1, .arr true (.vecs 135 2 o19))]⟩ K = PM.roundF A cx (PM.runD A cx (spec_l8Rows_E A c_108 c_158 c_177).inl (spec_l8Rows_E A c_108 c_158 c_177).Γ 3) (spec_l8Rows_E A c_108 c_158 c_177) (spec_l8Rows_L A c_108 c_158 c_177 n) 0 Go.Proofs.Try.f166 ⟨[(0, .pbox 0 0), (5, .sref 1), (6, .int .i64 n5)], [(0, .box [.arr (.ints 5 .u8 o06), .int .i64 o07, .int .i64 o08]), (1, .arr true (.vecs 135 2 o19))]⟩ K := by kernel_rfl
theorem spec_l8Rows_ok (A : PM.Prims) (c_108 : spec_l1Below_T) (c_158 : spec_l3Draw_T) (c_177 : spec_l4DrawCell_T) (c_b : List Int) (c_i : Int) (c_h : Int) (most : Int) (k : PM.V → PM.R) : PM.pfunB A cx (spec_l8Rows_E A c_108 c_158 c_177) Go.Proofs.Try.f166 [.tup [.arr (.ints 5 .u8 c_b), .int .i64 c_i, .int .i64 c_h], .int .i64 most] k = spec_l8Rows_f A c_108 c_158 c_177 c_b c_i c_h most (fun r0 bx_b bx_i bx_h => k (.tup [.arr (.vecs 135 2 r0), .tup [.arr (.ints 5 .u8 bx_b), .int .i64 bx_i, .int .i64 bx_h]])) := by kernel_rfl

theorem spec_l8Rows_fn : PM.FnIs Try.prog 166 Try.f166 := .of Try.func166 (by kernel_rfl) (by kernel_rfl)
theorem spec_l8Rows_g : PM.GOk Try.prog cx 166 ⟨[], fun _ _ => none, some (PM.spBox (spec_l8Rows_w (spec_l8Rows PM.std)))⟩ := by
  refine PM.GOk.ofS spec_l8Rows_fn.enter (PM.spBox_ok fun ds k r h => ?_)
  change spec_l8Rows_w (spec_l8Rows PM.std) ds k = some r at h
  unfold spec_l8Rows_w at h
  split at h
  · exact PM.pfunB_ok (E := spec_l8Rows_E PM.std (spec_l1Below PM.std) (spec_l3Draw PM.std) (spec_l4DrawCell PM.std)) (L := fun n => spec_l8Rows_L PM.std (spec_l1Below PM.std) (spec_l3Draw PM.std) (spec_l4DrawCell PM.std) n) (N := PM.std.fuel) cx_ok (.cons spec_l1Below_g (.cons spec_l3Draw_g (.cons spec_l4DrawCell_g .nil))) mixed .nil spec_l8Rows_fn (by kernel_rfl) ⟨rfl, fun cur σ K => by
      dsimp only [spec_l8Rows_L]
      split <;> rfl, fun n cur σ K r h => by
      dsimp only [spec_l8Rows_L] at h
      split at h
      · exact (spec_l8Rows_l0_ok PM.std (spec_l1Below PM.std) (spec_l3Draw PM.std) (spec_l4DrawCell PM.std) n _ _ _ _ _ K).symm.trans h
      · cases h⟩
      ((spec_l8Rows_ok PM.std (spec_l1Below PM.std) (spec_l3Draw PM.std) (spec_l4DrawCell PM.std) _ _ _ _ k).trans h)
  · cases h

abbrev spec_l8Any_T := (List Int) → (Int) → (Int) → ((List (List Int)) → (List Int) → (Int) → (Int) → PM.R) → PM.R
noncomputable def spec_l8Any_w (c : spec_l8Any_T) (ds : List PM.V) (k : PM.V → PM.R) : PM.R :=
  match ds with
  | [.tup [.arr (.ints 5 .u8 c_b), .int .i64 c_i, .int .i64 c_h]] => c c_b c_i c_h (fun r0 bx_b bx_i bx_h => k (.tup [.arr (.vecs 135 2 r0), .tup [.arr (.ints 5 .u8 bx_b), .int .i64 bx_i, .int .i64 bx_h]]))
  | _ => none
noncomputable def spec_l8Any_l1 (A : PM.Prims) (c_108 : spec_l1Below_T) (c_105 : spec_l1Once_T) (c_166 : spec_l8Rows_T) : Nat → (List Int) → (Int) → (Int) → (List (List Int)) → ((List Int) → (Int) → (Int) → (List (List Int)) → PM.R) → PM.R
  | 0, _, _, _, _, _ => none
  | n + 1, o09, o010, o011, o112, kx1_1 =>
    bif (A.lt (A.vlen o112) 300) then
      bif (A.room (A.vlen o112) (A.vlen [[7, (A.vlen o112)]])) then
        spec_l8Any_l1 A c_108 c_105 c_166 n o09 o010 o011 (A.vapp o112 [[7, (A.vlen o112)]]) kx1_1
      else
        none
    else
      kx1_1 o09 o010 o011 o112
noncomputable def spec_l8Any_f (A : PM.Prims) (c_108 : spec_l1Below_T) (c_105 : spec_l1Once_T) (c_166 : spec_l8Rows_T) (c_b : List Int) (c_i : Int) (c_h : Int) (k : (List (List Int)) → (List Int) → (Int) → (Int) → PM.R) : PM.R :=
  c_166 c_b c_i c_h 10 (fun r1 r2 r3 r4 =>
    c_108 r2 r3 r4 20 (fun r5 r6 r7 r8 =>
      bif (A.eq r5 0) then
        bif (A.room (A.vlen r1) (A.vlen [[8, 0]])) then
          k (A.vapp r1 [[8, 0]]) r6 r7 r8
        else
          none
      else
        bif (A.eq r5 1) then
          bif (A.room (A.vlen r1) (A.vlen [[0, 65536]])) then
            k (A.vapp r1 [[0, 65536]]) r6 r7 r8
          else
            none
        else
          bif (A.eq r5 2) then
            spec_l8Any_l1 A c_108 c_105 c_166 A.fuel r6 r7 r8 r1 (fun o01317 o01418 o01519 o11620 =>
              c_105 o01317 o01418 o01519 2 (fun r21 r22 r23 r24 =>
                bif r21 then
                  bif (A.room (A.vlen o11620) (A.vlen [[0, 0]])) then
                    k (A.vapp o11620 [[0, 0]]) r22 r23 r24
                  else
                    none
                else
                  k o11620 r22 r23 r24))
          else
            bif (A.eq r5 3) then
              bif (A.room (A.vlen r1) (A.vlen [[(-1), 0]])) then
                k (A.vapp r1 [[(-1), 0]]) r6 r7 r8
              else
                none
            else
              k r1 r6 r7 r8))
noncomputable def spec_l8Any (A : PM.Prims) : spec_l8Any_T := spec_l8Any_f A (spec_l1Below A) (spec_l1Once A) (spec_l8Rows A)
noncomputable def spec_l8Any_L (A : PM.Prims) (c_108 : spec_l1Below_T) (c_105 : spec_l1Once_T) (c_166 : spec_l8Rows_T) (n : Nat) : PM.Lam := fun cur σ K =>
  match cur, σ, K with
  | 1, ⟨[(0, .pbox 0 0), (3, .sref 1)], [(0, .box [.arr (.ints 5 .u8 o09), .int .i64 o010, .int .i64 o011]), (1, .arr true (.vecs 135 2 o112))]⟩, K => spec_l8Any_l1 A c_108 c_105 c_166 n o09 o010 o011 o112 (fun o013 o014 o015 o116 => K (.exit 1) ⟨[(0, .pbox 0 0), (3, .sref 1)], [(0, .box [.arr (.ints 5 .u8 o013), .int .i64 o014, .int .i64 o015]), (1, .arr true (.vecs 135 2 o116))]⟩)
  | _, _, _ => none
noncomputable def spec_l8Any_E (A : PM.Prims) (c_108 : spec_l1Below_T) (c_105 : spec_l1Once_T) (c_166 : spec_l8Rows_T) : PM.Env := ⟨[(108, ⟨[], fun _ _ => none, some (PM.spBox (spec_l1Below_w c_108))⟩), (105, ⟨[], fun _ _ => none, some (PM.spBox (spec_l1Once_w c_105))⟩), (166, ⟨[], fun _ _ => none, some (PM.spBox (spec_l8Rows_w c_166))⟩)], [], [(1, [0, 3], [0, 2, 3])], [(0, [0]), (1, [0, 3]), (2, [0, 3, 7]), (3, [0, 3, 7, 8]), (4, [0, 2]), (5, [0, 3, 7, 14]), (6, [0, 2]), (7, [0, 3, 7, 20]), (8, [0, 3, 24]), (9, [0, 3]), (10, [0, 3, 32]), (11, [0, 3]), (12, [0, 3, 37]), (13, [0, 2]), (14, [0, 2])], spec_l8Any_L A c_108 c_105 c_166 A.fuel⟩
theorem spec_l8Any_l1_ok (A : PM.Prims) (c_108 : spec_l1Below_T) (c_105 : spec_l1Once_T) (c_166 : spec_l8Rows_T) (n : Nat) (o09 : List Int) (o010 : Int) (o011 : Int) (o112 : List (List Int)) (K : Go.Exit → PM.S → PM.R) : spec_l8Any_L A c_108 c_105 c_166 (n + 1) 1 ⟨[(0, .pbox 0 0), (3, .sref 1)], [(0, .box [.arr (.ints 5 .u8 o09), .int .i64 o010, .int .i64 o011]), (1, .arr true (.vecs 135 2 o112))]⟩ K = PM.roundF A cx (PM.runD A cx (spec_l8Any_E A c_108 c_105 c_166).inl (spec_l8Any_E A c_108 c_105 c_166).Γ 3) (spec_l8Any_E A c_108 c_105 c_166) (spec_l8Any_L A c_108 c_105 c_166 n) 1 Go.Proofs.Try.f151 ⟨[(0, .pbox 0 0), (3, .sref 1)], [(0, .box [.arr (.ints 5 .u8 o09), .int .i64 o010, .int .i64 o011]), (1, .arr true (.vecs 135 2 o112))]⟩ K := by kernel_rfl
theorem spec_l8Any_ok (A : PM.Prims) (c_108 : spec_l1Below_T) (c_105 : spec_l1Once_T) (c_166 : spec_l8Rows_T) (c_b : List Int) (c_i : Int) (c_h : Int) (k : PM.V → PM.R) : PM.pfunB A cx (spec_l8Any_E A c_108 c_105 c_166) Go.Proofs.Try.f151 [.tup [.arr (.ints 5 .u8 c_b), .int .i64 c_i, .int .i64 c_h]] k = spec_l8Any_f A c_108 c_105 c_166 c_b c_i c_h (fun r0 bx_b bx_i bx_h => k (.tup [.arr (.vecs 135 2 r0), .tup [.arr (.ints 5 .u8 bx_b), .int .i64 bx_i, .int .i64 bx_h]])) := by kernel_rfl

theorem spec_l8Any_fn : PM.FnIs Try.prog 151 Try.f151 := .of Try.func151 (by kernel_rfl) (by kernel_rfl)
theorem spec_l8Any_g : PM.GOk Try.prog cx 151 ⟨[], fun _ _ => none, some (PM.spBox (spec_l8Any_w (spec_l8Any PM.std)))⟩ := by
  refine PM.GOk.ofS spec_l8Any_fn.enter (PM.spBox_ok fun ds k r h => ?_)
  change spec_l8Any_w (spec_l8Any PM.std) ds k = some r at h
  unfold spec_l8Any_w at h
  split at h
  · exact PM.pfunB_ok (E := spec_l8Any_E PM.std (spec_l1Below PM.std) (spec_l1Once PM.std) (spec_l8Rows PM.std)) (L := fun n => spec_l8Any_L PM.std (spec_l1Below PM.std) (spec_l1Once PM.std) (spec_l8Rows PM.std) n) (N := PM.std.fuel) cx_ok (.cons spec_l1Below_g (.cons spec_l1Once_g (.cons spec_l8Rows_g .nil))) mixed .nil spec_l8Any_fn (by kernel_rfl) ⟨rfl, fun cur σ K => by
      dsimp only [spec_l8Any_L]
      split <;> rfl, fun n cur σ K r h => by
      dsimp only [spec_l8Any_L] at h
      split at h
      · exact (spec_l8Any_l1_ok PM.std (spec_l1Below PM.std) (spec_l1Once PM.std) (spec_l8Rows PM.std) n _ _ _ _ K).symm.trans h
      · cases h⟩
      ((spec_l8Any_ok PM.std (spec_l1Below PM.std) (spec_l1Once PM.std) (spec_l8Rows PM.std) _ _ _ k).trans h)
  · cases h

abbrev laws_at_T := (List Int) → (Int) → ((Int) → PM.R) → PM.R
noncomputable def laws_at_w (c : laws_at_T) (ds : List PM.V) (k : PM.V → PM.R) : PM.R :=
  match ds with
  | [.arr (.ints 5 .u8 code), .int .i64 i] => c code i (fun r0 => k (.int .i64 r0))
  | _ => none
noncomputable def laws_at_f (A : PM.Prims) (code : List Int) (i : Int) (k : (Int) → PM.R) : PM.R :=
  bif (A.lt i (A.ilen code)) then
    bif (A.inb i (A.ilen code)) then
      k (A.wrap .i64 (A.iget code i))
    else
      none
  else
    bif (A.nz 256) then
      k (A.rem .i64 (A.add .i64 (A.mul .i64 i 37) (A.mul .i64 (A.ilen code) 11)) 256)
    else
      none
noncomputable def laws_at (A : PM.Prims) : laws_at_T := laws_at_f A
noncomputable def laws_at_L (A : PM.Prims) (n : Nat) : PM.Lam := fun cur σ K =>
  match cur, σ, K with
  | _, _, _ => none
noncomputable def laws_at_E (A : PM.Prims) : PM.Env := ⟨[], [], [], [(0, [0, 1]), (1, [0, 1, 8]), (2, [4]), (3, [4])], laws_at_L A A.fuel⟩
theorem laws_at_ok (A : PM.Prims) (code : List Int) (i : Int) (k : PM.V → PM.R) : PM.pfun A cx [] (laws_at_E A) Go.Proofs.Try.f84 [.arr (.ints 5 .u8 code), .int .i64 i] k = laws_at_f A code i (fun r0 => k (.int .i64 r0)) := by kernel_rfl

theorem laws_at_fn : PM.FnIs Try.prog 84 Try.f84 := .of Try.func84 (by kernel_rfl) (by kernel_rfl)
theorem laws_at_g : PM.GOk Try.prog cx 84 ⟨[], laws_at_w (laws_at PM.std), none⟩ := by
  refine ⟨laws_at_fn.enter, fun _ ds k r h => ?_, fun hm => absurd rfl hm, fun _ e => (by cases e)⟩
  change laws_at_w (laws_at PM.std) ds k = some r at h
  unfold laws_at_w at h
  split at h
  · exact PM.pfun_ok (E := laws_at_E PM.std) (L := fun n => laws_at_L PM.std n) (N := PM.std.fuel) cx_ok .nil mixed .nil laws_at_fn (by kernel_rfl) ⟨rfl, fun _ _ _ => rfl, fun n cur σ K r h => by cases h⟩
      ((laws_at_ok PM.std _ _ k).trans h)
  · cases h

abbrev spec_l3DrawVals_T := (List Int) → (Int) → (Int) → ((List Int) → (List Int) → (Int) → (Int) → PM.R) → PM.R
noncomputable def spec_l3DrawVals_w (c : spec_l3DrawVals_T) (ds : List PM.V) (k : PM.V → PM.R) : PM.R :=
  match ds with
  | [.tup [.arr (.ints 5 .u8 c_b), .int .i64 c_i, .int .i64 c_h]] => c c_b c_i c_h (fun r0 bx_b bx_i bx_h => k (.tup [.arr (.ints 3 .i64 r0), .tup [.arr (.ints 5 .u8 bx_b), .int .i64 bx_i, .int .i64 bx_h]]))
  | _ => none
noncomputable def spec_l3DrawVals_l0 (A : PM.Prims) (c_158 : spec_l3Draw_T) : Nat → (Int) → (List Int) → (Int) → (Int) → (List Int) → ((List Int) → (Int) → (Int) → (List Int) → PM.R) → PM.R
  | 0, _, _, _, _, _, _ => none
  | n + 1, i1, o02, o03, o04, o15, kx0_0 =>
    bif (A.lt i1 8) then
      c_158 o02 o03 o04 (fun r6 r7 r8 r9 =>
        bif (A.room (A.ilen o15) (A.ilen [r6])) then
          spec_l3DrawVals_l0 A c_158 n (A.add .i64 i1 1) r7 r8 r9 (A.iapp o15 [r6]) kx0_0
        else
          none)
    else
      kx0_0 o02 o03 o04 o15
noncomputable def spec_l3DrawVals_f (A : PM.Prims) (c_158 : spec_l3Draw_T) (c_b : List Int) (c_i : Int) (c_h : Int) (k : (List Int) → (List Int) → (Int) → (Int) → PM.R) : PM.R :=
  spec_l3DrawVals_l0 A c_158 A.fuel 0 c_b c_i c_h [] (fun o01014 o01115 o01216 o11317 =>
    k o11317 o01014 o01115 o01216)
noncomputable def spec_l3DrawVals (A : PM.Prims) : spec_l3DrawVals_T := spec_l3DrawVals_f A (spec_l3Draw A)
noncomputable def spec_l3DrawVals_L (A : PM.Prims) (c_158 : spec_l3Draw_T) (n : Nat) : PM.Lam := fun cur σ K =>
  match cur, σ, K with
  | 0, ⟨[(0, .pbox 0 0), (3, .sref 1), (4, .int .i64 i1)], [(0, .box [.arr (.ints 5 .u8 o02), .int .i64 o03, .int .i64 o04]), (1, .arr true (.ints 3 .i64 o15))]⟩, K => spec_l3DrawVals_l0 A c_158 n i1 o02 o03 o04 o15 (fun o010 o011 o012 o113 => K (.exit 0) ⟨[(0, .pbox 0 0), (3, .sref 1)], [(0, .box [.arr (.ints 5 .u8 o010), .int .i64 o011, .int .i64 o012]), (1, .arr true (.ints 3 .i64 o113))]⟩)
  | _, _, _ => none
noncomputable def spec_l3DrawVals_E (A : PM.Prims) (c_158 : spec_l3Draw_T) : PM.Env := ⟨[(158, ⟨[], fun _ _ => none, some (PM.spBox (spec_l3Draw_w c_158))⟩)], [], [(0, [0, 3, 4], [0, 2, 3])], [(0, [0]), (1, [0, 3]), (2, [0, 3, 4]), (3, [0, 3, 4, 7]), (4, [0, 3, 4]), (5, [0, 3, 4]), (6, [0, 2])], spec_l3DrawVals_L A c_158 A.fuel⟩
theorem spec_l3DrawVals_l0_ok (A : PM.Prims) (c_158 : spec_l3Draw_T) (n : Nat) (i1 : Int) (o02 : List Int) (o03 : Int) (o04 : Int) (o15 : List Int) (K : Go.Exit → PM.S → PM.R) : spec_l3DrawVals_L A c_158 (n + 1) 0 ⟨[(0, .pbox 0 0), (3, .sref 1), (4, .int .i64 i1)], [(0, .box [.arr (.ints 5 .u8 o02), .int .i64 o03, .int .i64 o04]), (1, .arr true (.ints 3 .i64 o15))]⟩ K = PM.roundF A cx (PM.runD A cx (spec_l3DrawVals_E A c_158).inl (spec_l3DrawVals_E A c_158).Γ 3) (spec_l3DrawVals_E A c_158) (spec_l3DrawVals_L A c_158 n) 0 Go.Proofs.Try.f152 ⟨[(0, .pbox 0 0), (3, .sref 1), (4, .int .i64 i1)], [(0, .box [.arr (.ints 5 .u8 o02), .int .i64 o03, .int .i64 o04]), (1, .arr true (.ints 3 .i64 o15))]⟩ K := by kernel_rfl
theorem spec_l3DrawVals_ok (A : PM.Prims) (c_158 : spec_l3Draw_T) (c_b : List Int) (c_i : Int) (c_h : Int) (k : PM.V → PM.R) : PM.pfunB A cx (spec_l3DrawVals_E A c_158) Go.Proofs.Try.f152 [.tup [.arr (.ints 5 .u8 c_b), .int .i64 c_i, .int .i64 c_h]] k = spec_l3DrawVals_f A c_158 c_b c_i c_h (fun r0 bx_b bx_i bx_h => k (.tup [.arr (.ints 3 .i64 r0), .tup [.arr (.ints 5 .u8 bx_b), .int .i64 bx_i, .int .i64 bx_h]])) := by kernel_rfl

theorem spec_l3DrawVals_fn : PM.FnIs Try.prog 152 Try.f152 := .of Try.func152 (by kernel_rfl) (by kernel_rfl)
theorem spec_l3DrawVals_g : PM.GOk Try.prog cx 152 ⟨[], fun _ _ => none, some (PM.spBox (spec_l3DrawVals_w (spec_l3DrawVals PM.std)))⟩ := by
  refine PM.GOk.ofS spec_l3DrawVals_fn.enter (PM.spBox_ok fun ds k r h => ?_)
  change spec_l3DrawVals_w (spec_l3DrawVals PM.std) ds k = some r at h
  unfold spec_l3DrawVals_w at h
  split at h
  · exact PM.pfunB_ok (E := spec_l3DrawVals_E PM.std (spec_l3Draw PM.std)) (L := fun n => spec_l3DrawVals_L PM.std (spec_l3Draw PM.std) n) (N := PM.std.fuel) cx_ok (.cons spec_l3Draw_g .nil) mixed .nil spec_l3DrawVals_fn (by kernel_rfl) ⟨rfl, fun cur σ K => by
      dsimp only [spec_l3DrawVals_L]
      split <;> rfl, fun n cur σ K r h => by
      dsimp only [spec_l3DrawVals_L] at h
      split at h
      · exact (spec_l3DrawVals_l0_ok PM.std (spec_l3Draw PM.std) n _ _ _ _ _ K).symm.trans h
      · cases h⟩
      ((spec_l3DrawVals_ok PM.std (spec_l3Draw PM.std) _ _ _ k).trans h)
  · cases h

abbrev impl_areValues_T := (List Int) → (Int) → ((Bool) → PM.R) → PM.R
noncomputable def impl_areValues_w (c : impl_areValues_T) (ds : List PM.V) (k : PM.V → PM.R) : PM.R :=
  match ds with
  | [.arr (.ints 3 .i64 l), .int .i64 n_] => c l n_ (fun r0 => k (.bool r0))
  | _ => none
noncomputable def impl_areValues_l0 (A : PM.Prims) (c_98 : impl_isValue_T) : Nat → (List Int) → (Int) → (List Int) → (Int) → (Int) → ((Bool) → PM.R) → ((List Int) → (Int) → PM.R) → PM.R
  | 0, _, _, _, _, _, _, _ => none
  | n + 1, l1, n2, t73, t84, t95, kret_0, kx0_0 =>
    bif (A.lt t95 t84) then
      bif (A.inb t95 (A.ilen t73)) then
        c_98 (A.iget t73 t95) (fun r6 =>
          bif (A.not r6) then
            kret_0 false
          else
            impl_areValues_l0 A c_98 n l1 n2 t73 t84 (A.add .i64 t95 1) kret_0 kx0_0)
      else
        none
    else
      kx0_0 l1 n2
noncomputable def impl_areValues_f (A : PM.Prims) (c_98 : impl_isValue_T) (l : List Int) (n_ : Int) (k : (Bool) → PM.R) : PM.R :=
  impl_areValues_l0 A c_98 A.fuel l n_ l (A.ilen l) 0 (fun t4710 =>
    k t4710) (fun l811 n912 =>
    k (A.eq (A.ilen l811) n912))
noncomputable def impl_areValues (A : PM.Prims) : impl_areValues_T := impl_areValues_f A (impl_isValue A)
noncomputable def impl_areValues_L (A : PM.Prims) (c_98 : impl_isValue_T) (n : Nat) : PM.Lam := fun cur σ K =>
  match cur, σ, K with
  | 0, ⟨[(0, .arr (.ints 3 .i64 l1)), (1, .int .i64 n2), (7, .arr (.ints 3 .i64 t73)), (8, .int .i64 t84), (9, .int .i64 t95)], []⟩, K => impl_areValues_l0 A c_98 n l1 n2 t73 t84 t95 (fun t47 => K .ret ⟨[(4, .bool t47)], []⟩) (fun l8 n9 => K (.exit 0) ⟨[(0, .arr (.ints 3 .i64 l8)), (1, .int .i64 n9)], []⟩)
  | _, _, _ => none
noncomputable def impl_areValues_E (A : PM.Prims) (c_98 : impl_isValue_T) : PM.Env := ⟨[(98, ⟨[], impl_isValue_w c_98, none⟩)], [], [(0, [0, 1, 7, 8, 9], [0, 1, 4])], [(0, [0, 1]), (1, [0, 1, 7, 8, 9]), (2, [0, 1, 7, 8, 9, 10]), (3, [0, 1, 6, 7, 8, 9]), (4, [0, 1, 7, 8, 9, 15]), (5, [4]), (6, [0, 1, 7, 8, 9]), (7, [4])], impl_areValues_L A c_98 A.fuel⟩
theorem impl_areValues_l0_ok (A : PM.Prims) (c_98 : impl_isValue_T) (n : Nat) (l1 : List Int) (n2 : Int) (t73 : List Int) (t84 : Int) (t95 : Int) (K : Go.Exit → PM.S → PM.R) : impl_areValues_L A c_98 (n + 1) 0 ⟨[(0, .arr (.ints 3 .i64 l1)), (1, .int .i64 n2), (7, .arr (.ints 3 .i64 t73)), (8, .int .i64 t84), (9, .int .i64 t95)], []⟩ K = PM.roundF A cx (PM.runD A cx (impl_areValues_E A c_98).inl (impl_areValues_E A c_98).Γ 3) (impl_areValues_E A c_98) (impl_areValues_L A c_98 n) 0 Go.Proofs.Try.f153 ⟨[(0, .arr (.ints 3 .i64 l1)), (1, .int .i64 n2), (7, .arr (.ints 3 .i64 t73)), (8, .int .i64 t84), (9, .int .i64 t95)], []⟩ K := by kernel_rfl
theorem impl_areValues_ok (A : PM.Prims) (c_98 : impl_isValue_T) (l : List Int) (n_ : Int) (k : PM.V → PM.R) : PM.pfun A cx [] (impl_areValues_E A c_98) Go.Proofs.Try.f153 [.arr (.ints 3 .i64 l), .int .i64 n_] k = impl_areValues_f A c_98 l n_ (fun r0 => k (.bool r0)) := by kernel_rfl

theorem impl_areValues_fn : PM.FnIs Try.prog 153 Try.f153 := .of Try.func153 (by kernel_rfl) (by kernel_rfl)
theorem impl_areValues_g : PM.GOk Try.prog cx 153 ⟨[], impl_areValues_w (impl_areValues PM.std), none⟩ := by
  refine ⟨impl_areValues_fn.enter, fun _ ds k r h => ?_, fun hm => absurd rfl hm, fun _ e => (by cases e)⟩
  change impl_areValues_w (impl_areValues PM.std) ds k = some r at h
  unfold impl_areValues_w at h
  split at h
  · exact PM.pfun_ok (E := impl_areValues_E PM.std (impl_isValue PM.std)) (L := fun n => impl_areValues_L PM.std (impl_isValue PM.std) n) (N := PM.std.fuel) cx_ok (.cons impl_isValue_g .nil) mixed .nil impl_areValues_fn (by kernel_rfl) ⟨rfl, fun cur σ K => by
      dsimp only [impl_areValues_L]
      split <;> rfl, fun n cur σ K r h => by
      dsimp only [impl_areValues_L] at h
      split at h
      · exact (impl_areValues_l0_ok PM.std (impl_isValue PM.std) n _ _ _ _ _ K).symm.trans h
      · cases h⟩
      ((impl_areValues_ok PM.std (impl_isValue PM.std) _ _ k).trans h)
  · cases h

abbrev impl_Overlay_T := (List Int) → (List (List Int)) → ((List Int) → PM.R) → PM.R
noncomputable def impl_Overlay_w (c : impl_Overlay_T) (ds : List PM.V) (k : PM.V → PM.R) : PM.R :=
  match ds with
  | [.arr (.ints 3 .i64 cells), .arr (.vecs 135 2 l)] => c cells l (fun r0 => k (.arr (.ints 3 .i64 r0)))
  | _ => none
noncomputable def impl_Overlay_l0 (A : PM.Prims) (c_124 : impl_RowsOk_T) (c_154 : impl_copyInts_T) (c_153 : impl_areValues_T) : Nat → (List (List Int)) → (Int) → (Int) → (List Int) → ((List Int) → PM.R) → PM.R
  | 0, _, _, _, _, _ => none
  | n + 1, t184, t195, t206, o07, kx0_0 =>
    bif (A.lt t206 t195) then
      bif (A.inb t206 (A.vlen t184)) then
        bif (A.inb (A.vget t184 t206 0) (A.ilen o07)) then
          impl_Overlay_l0 A c_124 c_154 c_153 n t184 t195 (A.add .i64 t206 1) (A.iset o07 (A.vget t184 t206 0) (A.vget t184 t206 1)) kx0_0
        else
          none
      else
        none
    else
      kx0_0 o07
noncomputable def impl_Overlay_f (A : PM.Prims) (c_124 : impl_RowsOk_T) (c_154 : impl_copyInts_T) (c_153 : impl_areValues_T) (cells : List Int) (l : List (List Int)) (k : (List Int) → PM.R) : PM.R :=
  c_153 cells 8 (fun r1 =>
    bif (A.not r1) then
      k []
    else
      c_124 l (fun r2 =>
        bif (A.not r2) then
          k []
        else
          c_154 cells (fun r3 =>
            impl_Overlay_l0 A c_124 c_154 c_153 A.fuel l (A.vlen l) 0 r3 (fun o089 =>
              k o089))))
noncomputable def impl_Overlay (A : PM.Prims) : impl_Overlay_T := impl_Overlay_f A (impl_RowsOk A) (impl_copyInts A) (impl_areValues A)
noncomputable def impl_Overlay_L (A : PM.Prims) (c_124 : impl_RowsOk_T) (c_154 : impl_copyInts_T) (c_153 : impl_areValues_T) (n : Nat) : PM.Lam := fun cur σ K =>
  match cur, σ, K with
  | 0, ⟨[(5, .sref 0), (18, .arr (.vecs 135 2 t184)), (19, .int .i64 t195), (20, .int .i64 t206)], [(0, .arr true (.ints 3 .i64 o07))]⟩, K => impl_Overlay_l0 A c_124 c_154 c_153 n t184 t195 t206 o07 (fun o08 => K (.exit 0) ⟨[(5, .sref 0)], [(0, .arr true (.ints 3 .i64 o08))]⟩)
  | _, _, _ => none
noncomputable def impl_Overlay_E (A : PM.Prims) (c_124 : impl_RowsOk_T) (c_154 : impl_copyInts_T) (c_153 : impl_areValues_T) : PM.Env := ⟨[(124, ⟨[], impl_RowsOk_w c_124, none⟩), (154, ⟨[], impl_copyInts_w c_154, none⟩), (153, ⟨[], impl_areValues_w c_153, none⟩)], [], [(0, [5, 18, 19, 20], [4, 5])], [(0, [0, 1]), (1, [0, 1, 15]), (2, [4]), (3, [1, 5]), (4, [5, 18, 19, 20]), (5, [5, 18, 19, 20, 21]), (6, [5, 7, 18, 19, 20]), (7, [5, 18, 19, 20]), (8, [5, 18, 19, 20]), (9, [4])], impl_Overlay_L A c_124 c_154 c_153 A.fuel⟩
theorem impl_Overlay_l0_ok (A : PM.Prims) (c_124 : impl_RowsOk_T) (c_154 : impl_copyInts_T) (c_153 : impl_areValues_T) (n : Nat) (t184 : List (List Int)) (t195 : Int) (t206 : Int) (o07 : List Int) (K : Go.Exit → PM.S → PM.R) : impl_Overlay_L A c_124 c_154 c_153 (n + 1) 0 ⟨[(5, .sref 0), (18, .arr (.vecs 135 2 t184)), (19, .int .i64 t195), (20, .int .i64 t206)], [(0, .arr true (.ints 3 .i64 o07))]⟩ K = PM.roundF A cx (PM.runD A cx (impl_Overlay_E A c_124 c_154 c_153).inl (impl_Overlay_E A c_124 c_154 c_153).Γ 3) (impl_Overlay_E A c_124 c_154 c_153) (impl_Overlay_L A c_124 c_154 c_153 n) 0 Go.Proofs.Try.f86 ⟨[(5, .sref 0), (18, .arr (.vecs 135 2 t184)), (19, .int .i64 t195), (20, .int .i64 t206)], [(0, .arr true (.ints 3 .i64 o07))]⟩ K := by kernel_rfl
theorem impl_Overlay_ok (A : PM.Prims) (c_124 : impl_RowsOk_T) (c_154 : impl_copyInts_T) (c_153 : impl_areValues_T) (cells : List Int) (l : List (List Int)) (k : PM.V → PM.R) : PM.pfun A cx [] (impl_Overlay_E A c_124 c_154 c_153) Go.Proofs.Try.f86 [.arr (.ints 3 .i64 cells), .arr (.vecs 135 2 l)] k = impl_Overlay_f A c_124 c_154 c_153 cells l (fun r0 => k (.arr (.ints 3 .i64 r0))) := by kernel_rfl

theorem impl_Overlay_fn : PM.FnIs Try.prog 86 Try.f86 := .of Try.func86 (by kernel_rfl) (by kernel_rfl)
theorem impl_Overlay_g : PM.GOk Try.prog cx 86 ⟨[], impl_Overlay_w (impl_Overlay PM.std), none⟩ := by
  refine ⟨impl_Overlay_fn.enter, fun _ ds k r h => ?_, fun hm => absurd rfl hm, fun _ e => (by cases e)⟩
  change impl_Overlay_w (impl_Overlay PM.std) ds k = some r at h
  unfold impl_Overlay_w at h
  split at h
  · exact PM.pfun_ok (E := impl_Overlay_E PM.std (impl_RowsOk PM.std) (impl_copyInts PM.std) (impl_areValues PM.std)) (L := fun n => impl_Overlay_L PM.std (impl_RowsOk PM.std) (impl_copyInts PM.std) (impl_areValues PM.std) n) (N := PM.std.fuel) cx_ok (.cons impl_RowsOk_g (.cons impl_copyInts_g (.cons impl_areValues_g .nil))) mixed .nil impl_Overlay_fn (by kernel_rfl) ⟨rfl, fun cur σ K => by
      dsimp only [impl_Overlay_L]
      split <;> rfl, fun n cur σ K r h => by
      dsimp only [impl_Overlay_L] at h
      split at h
      · exact (impl_Overlay_l0_ok PM.std (impl_RowsOk PM.std) (impl_copyInts PM.std) (impl_areValues PM.std) n _ _ _ _ K).symm.trans h
      · cases h⟩
      ((impl_Overlay_ok PM.std (impl_RowsOk PM.std) (impl_copyInts PM.std) (impl_areValues PM.std) _ _ k).trans h)
  · cases h

abbrev laws_sameInts_T := (List Int) → (List Int) → ((Bool) → PM.R) → PM.R
noncomputable def laws_sameInts_w (c : laws_sameInts_T) (ds : List PM.V) (k : PM.V → PM.R) : PM.R :=
  match ds with
  | [.arr (.ints 3 .i64 a), .arr (.ints 3 .i64 b)] => c a b (fun r0 => k (.bool r0))
  | _ => none
noncomputable def laws_sameInts_l0 (A : PM.Prims) : Nat → (List Int) → (List Int) → (Int) → ((Bool) → PM.R) → (Unit → PM.R) → PM.R
  | 0, _, _, _, _, _ => none
  | n + 1, a1, b2, i3, kret_0, kx0_0 =>
    bif (A.lt i3 (A.ilen a1)) then
      bif (A.inb i3 (A.ilen a1)) then
        bif (A.inb i3 (A.ilen b2)) then
          bif (A.not (A.eq (A.iget a1 i3) (A.iget b2 i3))) then
            kret_0 false
          else
            laws_sameInts_l0 A n a1 b2 (A.add .i64 i3 1) kret_0 kx0_0
        else
          none
      else
        none
    else
      kx0_0 ()
noncomputable def laws_sameInts_f (A : PM.Prims) (a : List Int) (b : List Int) (k : (Bool) → PM.R) : PM.R :=
  bif (A.not (A.eq (A.ilen a) (A.ilen b))) then
    k false
  else
    laws_sameInts_l0 A A.fuel a b 0 (fun t445 =>
      k t445) (fun _ =>
      k true)
noncomputable def laws_sameInts (A : PM.Prims) : laws_sameInts_T := laws_sameInts_f A
noncomputable def laws_sameInts_L (A : PM.Prims) (n : Nat) : PM.Lam := fun cur σ K =>
  match cur, σ, K with
  | 0, ⟨[(0, .arr (.ints 3 .i64 a1)), (1, .arr (.ints 3 .i64 b2)), (5, .int .i64 i3)], []⟩, K => laws_sameInts_l0 A n a1 b2 i3 (fun t44 => K .ret ⟨[(4, .bool t44)], []⟩) (fun _ => K (.exit 0) ⟨[], []⟩)
  | _, _, _ => none
noncomputable def laws_sameInts_E (A : PM.Prims) : PM.Env := ⟨[], [], [(0, [0, 1, 5], [4])], [(0, [0, 1]), (1, [0, 1, 10]), (2, [4]), (3, [0, 1, 5]), (4, [0, 1, 5, 14]), (5, [0, 1, 5]), (6, [0, 1, 5, 25]), (7, [4]), (8, [4])], laws_sameInts_L A A.fuel⟩
theorem laws_sameInts_l0_ok (A : PM.Prims) (n : Nat) (a1 : List Int) (b2 : List Int) (i3 : Int) (K : Go.Exit → PM.S → PM.R) : laws_sameInts_L A (n + 1) 0 ⟨[(0, .arr (.ints 3 .i64 a1)), (1, .arr (.ints 3 .i64 b2)), (5, .int .i64 i3)], []⟩ K = PM.roundF A cx (PM.runD A cx (laws_sameInts_E A).inl (laws_sameInts_E A).Γ 3) (laws_sameInts_E A) (laws_sameInts_L A n) 0 Go.Proofs.Try.f88 ⟨[(0, .arr (.ints 3 .i64 a1)), (1, .arr (.ints 3 .i64 b2)), (5, .int .i64 i3)], []⟩ K := by kernel_rfl
theorem laws_sameInts_ok (A : PM.Prims) (a : List Int) (b : List Int) (k : PM.V → PM.R) : PM.pfun A cx [] (laws_sameInts_E A) Go.Proofs.Try.f88 [.arr (.ints 3 .i64 a), .arr (.ints 3 .i64 b)] k = laws_sameInts_f A a b (fun r0 => k (.bool r0)) := by kernel_rfl

theorem laws_sameInts_fn : PM.FnIs Try.prog 88 Try.f88 := .of Try.func88 (by kernel_rfl) (by kernel_rfl)
theorem laws_sameInts_g : PM.GOk Try.prog cx 88 ⟨[], laws_sameInts_w (laws_sameInts PM.std), none⟩ := by
  refine ⟨laws_sameInts_fn.enter, fun _ ds k r h => ?_, fun hm => absurd rfl hm, fun _ e => (by cases e)⟩
  change laws_sameInts_w (laws_sameInts PM.std) ds k = some r at h
  unfold laws_sameInts_w at h
  split at h
  · exact PM.pfun_ok (E := laws_sameInts_E PM.std) (L := fun n => laws_sameInts_L PM.std n) (N := PM.std.fuel) cx_ok .nil mixed .nil laws_sameInts_fn (by kernel_rfl) ⟨rfl, fun cur σ K => by
      dsimp only [laws_sameInts_L]
      split <;> rfl, fun n cur σ K r h => by
      dsimp only [laws_sameInts_L] at h
      split at h
      · exact (laws_sameInts_l0_ok PM.std n _ _ _ K).symm.trans h
      · cases h⟩
      ((laws_sameInts_ok PM.std _ _ k).trans h)
  · cases h

abbrev laws_sameRows_T := (List (List Int)) → (List (List Int)) → ((Bool) → PM.R) → PM.R
noncomputable def laws_sameRows_w (c : laws_sameRows_T) (ds : List PM.V) (k : PM.V → PM.R) : PM.R :=
  match ds with
  | [.arr (.vecs 135 2 a), .arr (.vecs 135 2 b)] => c a b (fun r0 => k (.bool r0))
  | _ => none
noncomputable def laws_sameRows_l0 (A : PM.Prims) : Nat → (List (List Int)) → (List (List Int)) → (Int) → ((Bool) → PM.R) → (Unit → PM.R) → PM.R
  | 0, _, _, _, _, _ => none
  | n + 1, a1, b2, i3, kret_0, kx0_0 =>
    bif (A.lt i3 (A.vlen a1)) then
      bif (A.inb i3 (A.vlen a1)) then
        bif (A.inb i3 (A.vlen b2)) then
          bif (A.not (A.and (A.eq (A.vget a1 i3 0) (A.vget b2 i3 0)) (A.eq (A.vget a1 i3 1) (A.vget b2 i3 1)))) then
            kret_0 false
          else
            laws_sameRows_l0 A n a1 b2 (A.add .i64 i3 1) kret_0 kx0_0
        else
          none
      else
        none
    else
      kx0_0 ()
noncomputable def laws_sameRows_f (A : PM.Prims) (a : List (List Int)) (b : List (List Int)) (k : (Bool) → PM.R) : PM.R :=
  bif (A.not (A.eq (A.vlen a) (A.vlen b))) then
    k false
  else
    laws_sameRows_l0 A A.fuel a b 0 (fun t445 =>
      k t445) (fun _ =>
      k true)
noncomputable def laws_sameRows (A : PM.Prims) : laws_sameRows_T := laws_sameRows_f A
noncomputable def laws_sameRows_L (A : PM.Prims) (n : Nat) : PM.Lam := fun cur σ K =>
  match cur, σ, K with
  | 0, ⟨[(0, .arr (.vecs 135 2 a1)), (1, .arr (.vecs 135 2 b2)), (5, .int .i64 i3)], []⟩, K => laws_sameRows_l0 A n a1 b2 i3 (fun t44 => K .ret ⟨[(4, .bool t44)], []⟩) (fun _ => K (.exit 0) ⟨[], []⟩)
  | _, _, _ => none
noncomputable def laws_sameRows_E (A : PM.Prims) : PM.Env := ⟨[], [], [(0, [0, 1, 5], [4])], [(0, [0, 1]), (1, [0, 1, 10]), (2, [4]), (3, [0, 1, 5]), (4, [0, 1, 5, 14]), (5, [0, 1, 5]), (6, [0, 1, 5, 25]), (7, [4]), (8, [4])], laws_sameRows_L A A.fuel⟩
theorem laws_sameRows_l0_ok (A : PM.Prims) (n : Nat) (a1 : List (List Int)) (b2 : List (List Int)) (i3 : Int) (K : Go.Exit → PM.S → PM.R) : laws_sameRows_L A (n + 1) 0 ⟨[(0, .arr (.vecs 135 2 a1)), (1, .arr (.vecs 135 2 b2)), (5, .int .i64 i3)], []⟩ K = PM.roundF A cx (PM.runD A cx (laws_sameRows_E A).inl (laws_sameRows_E A).Γ 3) (laws_sameRows_E A) (laws_sameRows_L A n) 0 Go.Proofs.Try.f89 ⟨[(0, .arr (.vecs 135 2 a1)), (1, .arr (.vecs 135 2 b2)), (5, .int .i64 i3)], []⟩ K := by kernel_rfl
theorem laws_sameRows_ok (A : PM.Prims) (a : List (List Int)) (b : List (List Int)) (k : PM.V → PM.R) : PM.pfun A cx [] (laws_sameRows_E A) Go.Proofs.Try.f89 [.arr (.vecs 135 2 a), .arr (.vecs 135 2 b)] k = laws_sameRows_f A a b (fun r0 => k (.bool r0)) := by kernel_rfl

theorem laws_sameRows_fn : PM.FnIs Try.prog 89 Try.f89 := .of Try.func89 (by kernel_rfl) (by kernel_rfl)
theorem laws_sameRows_g : PM.GOk Try.prog cx 89 ⟨[], laws_sameRows_w (laws_sameRows PM.std), none⟩ := by
  refine ⟨laws_sameRows_fn.enter, fun _ ds k r h => ?_, fun hm => absurd rfl hm, fun _ e => (by cases e)⟩
  change laws_sameRows_w (laws_sameRows PM.std) ds k = some r at h
  unfold laws_sameRows_w at h
  split at h
  · exact PM.pfun_ok (E := laws_sameRows_E PM.std) (L := fun n => laws_sameRows_L PM.std n) (N := PM.std.fuel) cx_ok .nil mixed .nil laws_sameRows_fn (by kernel_rfl) ⟨rfl, fun cur σ K => by
      dsimp only [laws_sameRows_L]
      split <;> rfl, fun n cur σ K r h => by
      dsimp only [laws_sameRows_L] at h
      split at h
      · exact (laws_sameRows_l0_ok PM.std n _ _ _ K).symm.trans h
      · cases h⟩
      ((laws_sameRows_ok PM.std _ _ k).trans h)
  · cases h

abbrev laws_has_T := (List Int) → (Int) → ((Bool) → PM.R) → PM.R
noncomputable def laws_has_w (c : laws_has_T) (ds : List PM.V) (k : PM.V → PM.R) : PM.R :=
  match ds with
  | [.arr (.ints 3 .i64 l), .int .i64 x] => c l x (fun r0 => k (.bool r0))
  | _ => none
noncomputable def laws_has_l0 (A : PM.Prims) : Nat → (List Int) → (Int) → (Int) → ((Bool) → PM.R) → (Unit → PM.R) → PM.R
  | 0, _, _, _, _, _ => none
  | n + 1, l1, x2, i3, kret_0, kx0_0 =>
    bif (A.lt i3 (A.ilen l1)) then
      bif (A.inb i3 (A.ilen l1)) then
        bif (A.eq (A.iget l1 i3) x2) then
          kret_0 true
        else
          laws_has_l0 A n l1 x2 (A.add .i64 i3 1) kret_0 kx0_0
      else
        none
    else
      kx0_0 ()
noncomputable def laws_has_f (A : PM.Prims) (l : List Int) (x : Int) (k : (Bool) → PM.R) : PM.R :=
  laws_has_l0 A A.fuel l x 0 (fun t445 =>
    k t445) (fun _ =>
    k false)
noncomputable def laws_has (A : PM.Prims) : laws_has_T := laws_has_f A
noncomputable def laws_has_L (A : PM.Prims) (n : Nat) : PM.Lam := fun cur σ K =>
  match cur, σ, K with
  | 0, ⟨[(0, .arr (.ints 3 .i64 l1)), (1, .int .i64 x2), (5, .int .i64 i3)], []⟩, K => laws_has_l0 A n l1 x2 i3 (fun t44 => K .ret ⟨[(4, .bool t44)], []⟩) (fun _ => K (.exit 0) ⟨[], []⟩)
  | _, _, _ => none
noncomputable def laws_has_E (A : PM.Prims) : PM.Env := ⟨[], [], [(0, [0, 1, 5], [4])], [(0, [0, 1]), (1, [0, 1, 5]), (2, [0, 1, 5, 9]), (3, [0, 1, 5]), (4, [0, 1, 5, 17]), (5, [4]), (6, [4])], laws_has_L A A.fuel⟩
theorem laws_has_l0_ok (A : PM.Prims) (n : Nat) (l1 : List Int) (x2 : Int) (i3 : Int) (K : Go.Exit → PM.S → PM.R) : laws_has_L A (n + 1) 0 ⟨[(0, .arr (.ints 3 .i64 l1)), (1, .int .i64 x2), (5, .int .i64 i3)], []⟩ K = PM.roundF A cx (PM.runD A cx (laws_has_E A).inl (laws_has_E A).Γ 3) (laws_has_E A) (laws_has_L A n) 0 Go.Proofs.Try.f58 ⟨[(0, .arr (.ints 3 .i64 l1)), (1, .int .i64 x2), (5, .int .i64 i3)], []⟩ K := by kernel_rfl
theorem laws_has_ok (A : PM.Prims) (l : List Int) (x : Int) (k : PM.V → PM.R) : PM.pfun A cx [] (laws_has_E A) Go.Proofs.Try.f58 [.arr (.ints 3 .i64 l), .int .i64 x] k = laws_has_f A l x (fun r0 => k (.bool r0)) := by kernel_rfl

theorem laws_has_fn : PM.FnIs Try.prog 58 Try.f58 := .of Try.func58 (by kernel_rfl) (by kernel_rfl)
theorem laws_has_g : PM.GOk Try.prog cx 58 ⟨[], laws_has_w (laws_has PM.std), none⟩ := by
  refine ⟨laws_has_fn.enter, fun _ ds k r h => ?_, fun hm => absurd rfl hm, fun _ e => (by cases e)⟩
  change laws_has_w (laws_has PM.std) ds k = some r at h
  unfold laws_has_w at h
  split at h
  · exact PM.pfun_ok (E := laws_has_E PM.std) (L := fun n => laws_has_L PM.std n) (N := PM.std.fuel) cx_ok .nil mixed .nil laws_has_fn (by kernel_rfl) ⟨rfl, fun cur σ K => by
      dsimp only [laws_has_L]
      split <;> rfl, fun n cur σ K r h => by
      dsimp only [laws_has_L] at h
      split at h
      · exact (laws_has_l0_ok PM.std n _ _ _ K).symm.trans h
      · cases h⟩
      ((laws_has_ok PM.std _ _ k).trans h)
  · cases h

abbrev impl_Cut_T := (List (List Int)) → (Int) → ((List (List Int)) → PM.R) → PM.R
noncomputable def impl_Cut_w (c : impl_Cut_T) (ds : List PM.V) (k : PM.V → PM.R) : PM.R :=
  match ds with
  | [.arr (.vecs 135 2 l), .int .i64 n_] => c l n_ (fun r0 => k (.arr (.vecs 135 2 r0)))
  | _ => none
noncomputable def impl_Cut_f (A : PM.Prims) (c_124 : impl_RowsOk_T) (c_155 : impl_copyRows_T) (l : List (List Int)) (n_ : Int) (k : (List (List Int)) → PM.R) : PM.R :=
  bif (A.le n_ 0) then
    k []
  else
    c_124 l (fun r1 =>
      bif (A.not r1) then
        k []
      else
        bif (A.subb 0 (A.imin n_ (A.vlen l)) (A.vlen l)) then
          c_155 (A.vsub l 0 (A.imin n_ (A.vlen l))) (fun r2 =>
            k r2)
        else
          none)
noncomputable def impl_Cut (A : PM.Prims) : impl_Cut_T := impl_Cut_f A (impl_RowsOk A) (impl_copyRows A)
noncomputable def impl_Cut_L (A : PM.Prims) (c_124 : impl_RowsOk_T) (c_155 : impl_copyRows_T) (n : Nat) : PM.Lam := fun cur σ K =>
  match cur, σ, K with
  | _, _, _ => none
noncomputable def impl_Cut_E (A : PM.Prims) (c_124 : impl_RowsOk_T) (c_155 : impl_copyRows_T) : PM.Env := ⟨[(124, ⟨[], impl_RowsOk_w c_124, none⟩), (155, ⟨[], impl_copyRows_w c_155, none⟩)], [], [], [(0, [0, 1]), (1, [0, 1, 11]), (2, [4]), (3, [4])], impl_Cut_L A c_124 c_155 A.fuel⟩
theorem impl_Cut_ok (A : PM.Prims) (c_124 : impl_RowsOk_T) (c_155 : impl_copyRows_T) (l : List (List Int)) (n_ : Int) (k : PM.V → PM.R) : PM.pfun A cx [] (impl_Cut_E A c_124 c_155) Go.Proofs.Try.f92 [.arr (.vecs 135 2 l), .int .i64 n_] k = impl_Cut_f A c_124 c_155 l n_ (fun r0 => k (.arr (.vecs 135 2 r0))) := by kernel_rfl

theorem impl_Cut_fn : PM.FnIs Try.prog 92 Try.f92 := .of Try.func92 (by kernel_rfl) (by kernel_rfl)
theorem impl_Cut_g : PM.GOk Try.prog cx 92 ⟨[], impl_Cut_w (impl_Cut PM.std), none⟩ := by
  refine ⟨impl_Cut_fn.enter, fun _ ds k r h => ?_, fun hm => absurd rfl hm, fun _ e => (by cases e)⟩
  change impl_Cut_w (impl_Cut PM.std) ds k = some r at h
  unfold impl_Cut_w at h
  split at h
  · exact PM.pfun_ok (E := impl_Cut_E PM.std (impl_RowsOk PM.std) (impl_copyRows PM.std)) (L := fun n => impl_Cut_L PM.std (impl_RowsOk PM.std) (impl_copyRows PM.std) n) (N := PM.std.fuel) cx_ok (.cons impl_RowsOk_g (.cons impl_copyRows_g .nil)) mixed .nil impl_Cut_fn (by kernel_rfl) ⟨rfl, fun _ _ _ => rfl, fun n cur σ K r h => by cases h⟩
      ((impl_Cut_ok PM.std (impl_RowsOk PM.std) (impl_copyRows PM.std) _ _ k).trans h)
  · cases h

abbrev spec_DrawOverlay_T := (List Int) → ((List Int) → (List (List Int)) → PM.R) → PM.R
noncomputable def spec_DrawOverlay_w (c : spec_DrawOverlay_T) (ds : List PM.V) (k : PM.V → PM.R) : PM.R :=
  match ds with
  | [.arr (.ints 5 .u8 code)] => c code (fun r0 r1 => k (.tup [.arr (.ints 3 .i64 r0), .arr (.vecs 135 2 r1)]))
  | _ => none
noncomputable def spec_DrawOverlay_f (A : PM.Prims) (c_103 : spec_l1New_T) (c_105 : spec_l1Once_T) (c_151 : spec_l8Any_T) (c_152 : spec_l3DrawVals_T) (code : List Int) (k : (List Int) → (List (List Int)) → PM.R) : PM.R :=
  c_103 code (fun r1 r2 r3 =>
    c_152 r1 r2 r3 (fun r4 r5 r6 r7 =>
      c_105 r5 r6 r7 10 (fun r8 r9 r10 r11 =>
        bif r8 then
          bif (A.subb 0 3 (A.ilen r4)) then
            c_151 r9 r10 r11 (fun r12 r13 r14 r15 =>
              k (A.isub r4 0 3) r12)
          else
            none
        else
          c_151 r9 r10 r11 (fun r16 r17 r18 r19 =>
            k r4 r16))))
noncomputable def spec_DrawOverlay (A : PM.Prims) : spec_DrawOverlay_T := spec_DrawOverlay_f A (spec_l1New A) (spec_l1Once A) (spec_l8Any A) (spec_l3DrawVals A)
noncomputable def spec_DrawOverlay_L (A : PM.Prims) (c_103 : spec_l1New_T) (c_105 : spec_l1Once_T) (c_151 : spec_l8Any_T) (c_152 : spec_l3DrawVals_T) (n : Nat) : PM.Lam := fun cur σ K =>
  match cur, σ, K with
  | _, _, _ => none
noncomputable def spec_DrawOverlay_E (A : PM.Prims) (c_103 : spec_l1New_T) (c_105 : spec_l1Once_T) (c_151 : spec_l8Any_T) (c_152 : spec_l3DrawVals_T) : PM.Env := ⟨[(103, ⟨[], fun _ _ => none, some (PM.spNew (spec_l1New_w c_103))⟩), (105, ⟨[], fun _ _ => none, some (PM.spBox (spec_l1Once_w c_105))⟩), (151, ⟨[], fun _ _ => none, some (PM.spBox (spec_l8Any_w c_151))⟩), (152, ⟨[], fun _ _ => none, some (PM.spBox (spec_l3DrawVals_w c_152))⟩)], [], [], [(0, [0]), (1, [4]), (2, [4, 5]), (3, [4, 5, 11]), (4, [4, 5]), (5, [2, 3])], spec_DrawOverlay_L A c_103 c_105 c_151 c_152 A.fuel⟩
theorem spec_DrawOverlay_ok (A : PM.Prims) (c_103 : spec_l1New_T) (c_105 : spec_l1Once_T) (c_151 : spec_l8Any_T) (c_152 : spec_l3DrawVals_T) (code : List Int) (k : PM.V → PM.R) : PM.pfun A cx [] (spec_DrawOverlay_E A c_103 c_105 c_151 c_152) Go.Proofs.Try.f85 [.arr (.ints 5 .u8 code)] k = spec_DrawOverlay_f A c_103 c_105 c_151 c_152 code (fun r0 r1 => k (.tup [.arr (.ints 3 .i64 r0), .arr (.vecs 135 2 r1)])) := by kernel_rfl

theorem spec_DrawOverlay_fn : PM.FnIs Try.prog 85 Try.f85 := .of Try.func85 (by kernel_rfl) (by kernel_rfl)
theorem spec_DrawOverlay_g : PM.GOk Try.prog cx 85 ⟨[], spec_DrawOverlay_w (spec_DrawOverlay PM.std), none⟩ := by
  refine ⟨spec_DrawOverlay_fn.enter, fun _ ds k r h => ?_, fun hm => absurd rfl hm, fun _ e => (by cases e)⟩
  change spec_DrawOverlay_w (spec_DrawOverlay PM.std) ds k = some r at h
  unfold spec_DrawOverlay_w at h
  split at h
  · exact PM.pfun_ok (E := spec_DrawOverlay_E PM.std (spec_l1New PM.std) (spec_l1Once PM.std) (spec_l8Any PM.std) (spec_l3DrawVals PM.std)) (L := fun n => spec_DrawOverlay_L PM.std (spec_l1New PM.std) (spec_l1Once PM.std) (spec_l8Any PM.std) (spec_l3DrawVals PM.std) n) (N := PM.std.fuel) cx_ok (.cons spec_l1New_g (.cons spec_l1Once_g (.cons spec_l8Any_g (.cons spec_l3DrawVals_g .nil)))) mixed .nil spec_DrawOverlay_fn (by kernel_rfl) ⟨rfl, fun _ _ _ => rfl, fun n cur σ K r h => by cases h⟩
      ((spec_DrawOverlay_ok PM.std (spec_l1New PM.std) (spec_l1Once PM.std) (spec_l8Any PM.std) (spec_l3DrawVals PM.std) _ k).trans h)
  · cases h

abbrev laws_FnProbe_T := (List Int) → ((Bool) → PM.R) → PM.R
noncomputable def laws_FnProbe_w (c : laws_FnProbe_T) (ds : List PM.V) (k : PM.V → PM.R) : PM.R :=
  match ds with
  | [.arr (.ints 5 .u8 __)] => c __ (fun r0 => k (.bool r0))
  | _ => none
noncomputable def laws_FnProbe_l0 (A : PM.Prims) (c_35 : spec_MemOk_T) (c_22 : spec_ProbeOk_T) (c_31 : impl_ProbeStep_T) (c_26 : impl_ProbeNew_T) (c_33 : laws_big_T) (c_34 : spec_DrawProbeStep_T) : Nat → (Int) → (Int) → (Int) → (List (List Int)) → (Int) → (Int) → (Int) → (Int) → (Int) → (Int) → (Int) → (Int) → ((Int) → (Int) → (List (List Int)) → (Int) → (Int) → (Int) → (Int) → (Int) → (Int) → (Int) → (Int) → PM.R) → PM.R
  | 0, _, _, _, _, _, _, _, _, _, _, _, _, _ => none
  | n + 1, rv24, i25, o026, o027, o128, o129, o130, o131, o232, o233, o234, o235, kx0_0 =>
    bif (A.lt i25 3) then
      c_31 o026 o027 rv24 o232 o233 o234 o235 (fun r36 r37 r38 r39 =>
        laws_FnProbe_l0 A c_35 c_22 c_31 c_26 c_33 c_34 n rv24 (A.add .i64 i25 1) o026 o027 o128 o129 o130 o131 r36 r37 r38 r39 kx0_0)
    else
      kx0_0 rv24 o026 o027 o128 o129 o130 o131 o232 o233 o234 o235
noncomputable def laws_FnProbe_f (A : PM.Prims) (c_35 : spec_MemOk_T) (c_22 : spec_ProbeOk_T) (c_31 : impl_ProbeStep_T) (c_26 : impl_ProbeNew_T) (c_33 : laws_big_T) (c_34 : spec_DrawProbeStep_T) (__ : List Int) (k : (Bool) → PM.R) : PM.R :=
  c_33 __ (fun r1 =>
    bif r1 then
      k true
    else
      c_34 __ (fun r2 r3 r4 r5 r6 r7 r8 =>
        c_35 r2 r3 (fun r9 =>
          bif (A.not r9) then
            c_31 r2 r3 r4 r5 r6 r7 r8 (fun r10 r11 r12 r13 =>
              k (A.and (A.eq r10 r5) (A.and (A.eq r11 r6) (A.and (A.eq r12 r7) (A.eq r13 r8)))))
          else
            c_22 r5 r6 r7 r8 (fun r14 =>
              bif (A.not r14) then
                c_31 r2 r3 r4 r5 r6 r7 r8 (fun r15 r16 r17 r18 =>
                  k (A.and (A.eq r15 r5) (A.and (A.eq r16 r6) (A.and (A.eq r17 r7) (A.eq r18 r8)))))
              else
                c_26 r5 (fun r19 r20 r21 r22 r23 =>
                  laws_FnProbe_l0 A c_35 c_22 c_31 c_26 c_33 c_34 A.fuel r4 0 r2 r3 r5 r6 r7 r8 r19 r20 r21 r22 (fun rv4051 o04152 o04253 o14354 o14455 o14556 o14657 o24758 o24859 o24960 o25061 =>
                    bif (A.inb o14354 (A.vlen o04253)) then
                      bif (A.not (A.eq (A.vget o04253 o14354 2) 0)) then
                        k (A.eq o24859 4)
                      else
                        bif (A.lt rv4051 (A.vget o04253 o14354 1)) then
                          k (A.eq o24859 4)
                        else
                          bif (A.eq o24859 3) then
                            bif (A.eq o25061 (A.vget o04253 o14354 0)) then
                              bif (A.eq o24960 (A.vget o04253 o14354 1)) then
                                c_31 o04152 o04253 rv4051 o24758 o24859 o24960 o25061 (fun r62 r63 r64 r65 =>
                                  k (A.and (A.eq r62 o24758) (A.and (A.eq r63 o24859) (A.and (A.eq r64 o24960) (A.eq r65 o25061)))))
                              else
                                k false
                            else
                              k false
                          else
                            k false
                    else
                      none))))))
noncomputable def laws_FnProbe (A : PM.Prims) : laws_FnProbe_T := laws_FnProbe_f A (spec_MemOk A) (spec_ProbeOk A) (impl_ProbeStep A) (impl_ProbeNew A) (laws_big A) (spec_DrawProbeStep A)
noncomputable def laws_FnProbe_L (A : PM.Prims) (c_35 : spec_MemOk_T) (c_22 : spec_ProbeOk_T) (c_31 : impl_ProbeStep_T) (c_26 : impl_ProbeNew_T) (c_33 : laws_big_T) (c_34 : spec_DrawProbeStep_T) (n : Nat) : PM.Lam := fun cur σ K =>
  match cur, σ, K with
  | 0, ⟨[(3, .pbox 0 0), (4, .int .i64 rv24), (5, .pbox 1 0), (6, .pbox 2 0), (8, .int .i64 i25)], [(0, .box [.int .i64 o026, .arr (.vecs 49 3 o027)]), (1, .box [.int .i64 o128, .int .i64 o129, .int .i64 o130, .int .i64 o131]), (2, .box [.int .i64 o232, .int .i64 o233, .int .i64 o234, .int .i64 o235])]⟩, K => laws_FnProbe_l0 A c_35 c_22 c_31 c_26 c_33 c_34 n rv24 i25 o026 o027 o128 o129 o130 o131 o232 o233 o234 o235 (fun rv40 o041 o042 o143 o144 o145 o146 o247 o248 o249 o250 => K (.exit 0) ⟨[(3, .pbox 0 0), (4, .int .i64 rv40), (5, .pbox 1 0), (6, .pbox 2 0)], [(0, .box [.int .i64 o041, .arr (.vecs 49 3 o042)]), (1, .box [.int .i64 o143, .int .i64 o144, .int .i64 o145, .int .i64 o146]), (2, .box [.int .i64 o247, .int .i64 o248, .int .i64 o249, .int .i64 o250])]⟩)
  | _, _, _ => none
noncomputable def laws_FnProbe_E (A : PM.Prims) (c_35 : spec_MemOk_T) (c_22 : spec_ProbeOk_T) (c_31 : impl_ProbeStep_T) (c_26 : impl_ProbeNew_T) (c_33 : laws_big_T) (c_34 : spec_DrawProbeStep_T) : PM.Env := ⟨[(35, ⟨[], fun _ _ => none, some (PM.spImm (spec_MemOk_w c_35))⟩), (22, ⟨[], fun _ _ => none, some (PM.spImm (spec_ProbeOk_w c_22))⟩), (31, ⟨[], fun _ _ => none, some (PM.spImm (impl_ProbeStep_w c_31))⟩), (26, ⟨[], fun _ _ => none, some (PM.spImm (impl_ProbeNew_w c_26))⟩), (33, ⟨[], fun _ _ => none, some (PM.spImm (laws_big_w c_33))⟩), (34, ⟨[], fun _ _ => none, some (PM.spImm (spec_DrawProbeStep_w c_34))⟩)], [], [(0, [3, 4, 5, 6, 8], [2, 3, 4, 5, 6])], [(0, [0]), (1, [0, 11]), (2, [2]), (3, [3, 4, 5]), (4, [3, 4, 5, 25]), (5, [2]), (6, [3, 4, 5, 6]), (7, [3, 4, 5, 6, 8]), (8, [3, 4, 5, 6, 8, 39]), (9, [3, 4, 5, 6, 8]), (10, [3, 4, 5, 6, 8]), (11, [3, 4, 6, 9]), (12, [3, 4, 6, 9, 60]), (13, [2]), (14, [2])], laws_FnProbe_L A c_35 c_22 c_31 c_26 c_33 c_34 A.fuel⟩
theorem laws_FnProbe_l0_ok (A : PM.Prims) (c_35 : spec_MemOk_T) (c_22 : spec_ProbeOk_T) (c_31 : impl_ProbeStep_T) (c_26 : impl_ProbeNew_T) (c_33 : laws_big_T) (c_34 : spec_DrawProbeStep_T) (n : Nat) (rv24 : Int) (i25 : Int) (o026 : Int) (o027 : List (List Int)) (o128 : Int) (o129 : Int) (o130 : Int) (o131 : Int) (o232 : Int) (o233 : Int) (o234 : Int) (o235 : Int) (K : Go.Exit → PM.S → PM.R) : laws_FnProbe_L A c_35 c_22 c_31 c_26 c_33 c_34 (n + 1) 0 ⟨[(3, .pbox 0 0), (4, .int .i64 rv24), (5, .pbox 1 0), (6, .pbox 2 0), (8, .int .i64 i25)], [(0, .box [.int .i64 o026, .arr (.vecs 49 3 o027)]), (1, .box [.int .i64 o128, .int .i64 o129, .int .i64 o130, .int .i64 o131]), (2, .box [.int .i64 o232, .int .i64 o233, .int .i64 o234, .int .i64 o235])]⟩ K = PM.roundF A cx (PM.runD A cx (laws_FnProbe_E A c_35 c_22 c_31 c_26 c_33 c_34).inl (laws_FnProbe_E A c_35 c_22 c_31 c_26 c_33 c_34).Γ 3) (laws_FnProbe_E A c_35 c_22 c_31 c_26 c_33 c_34) (laws_FnProbe_L A c_35 c_22 c_31 c_26 c_33 c_34 n) 0 Go.Proofs.Try.f6 ⟨[(3, .pbox 0 0), (4, .int .i64 rv24), (5, .pbox 1 0), (6, .pbox 2 0), (8, .int .i64 i25)], [(0, .box [.int .i64 o026, .arr (.vecs 49 3 o027)]), (1, .box [.int .i64 o128, .int .i64 o129, .int .i64 o130, .int .i64 o131]), (2, .box [.int .i64 o232, .int .i64 o233, .int .i64 o234, .int .i64 o235])]⟩ K := by kernel_rfl
theorem laws_FnProbe_ok (A : PM.Prims) (c_35 : spec_MemOk_T) (c_22 : spec_ProbeOk_T) (c_31 : impl_ProbeStep_T) (c_26 : impl_ProbeNew_T) (c_33 : laws_big_T) (c_34 : spec_DrawProbeStep_T) (__ : List Int) (k : PM.V → PM.R) : PM.pfun A cx [] (laws_FnProbe_E A c_35 c_22 c_31 c_26 c_33 c_34) Go.Proofs.Try.f6 [.arr (.ints 5 .u8 __)] k = laws_FnProbe_f A c_35 c_22 c_31 c_26 c_33 c_34 __ (fun r0 => k (.bool r0)) := by kernel_rfl

theorem laws_FnProbe_fn : PM.FnIs Try.prog 6 Try.f6 := .of Try.func6 (by kernel_rfl) (by kernel_rfl)
theorem laws_FnProbe_g : PM.GOk Try.prog cx 6 ⟨[], laws_FnProbe_w (laws_FnProbe PM.std), none⟩ := by
  refine ⟨laws_FnProbe_fn.enter, fun _ ds k r h => ?_, fun hm => absurd rfl hm, fun _ e => (by cases e)⟩
  change laws_FnProbe_w (laws_FnProbe PM.std) ds k = some r at h
  unfold laws_FnProbe_w at h
  split at h
  · exact PM.pfun_ok (E := laws_FnProbe_E PM.std (spec_MemOk PM.std) (spec_ProbeOk PM.std) (impl_ProbeStep PM.std) (impl_ProbeNew PM.std) (laws_big PM.std) (spec_DrawProbeStep PM.std)) (L := fun n => laws_FnProbe_L PM.std (spec_MemOk PM.std) (spec_ProbeOk PM.std) (impl_ProbeStep PM.std) (impl_ProbeNew PM.std) (laws_big PM.std) (spec_DrawProbeStep PM.std) n) (N := PM.std.fuel) cx_ok (.cons (PM.GOk.imm spec_MemOk_g) (.cons (PM.GOk.imm spec_ProbeOk_g) (.cons (PM.GOk.imm impl_ProbeStep_g) (.cons (PM.GOk.imm impl_ProbeNew_g) (.cons (PM.GOk.imm laws_big_g) (.cons (PM.GOk.imm spec_DrawProbeStep_g) .nil)))))) mixed .nil laws_FnProbe_fn (by kernel_rfl) ⟨rfl, fun cur σ K => by
      dsimp only [laws_FnProbe_L]
      split <;> rfl, fun n cur σ K r h => by
      dsimp only [laws_FnProbe_L] at h
      split at h
      · exact (laws_FnProbe_l0_ok PM.std (spec_MemOk PM.std) (spec_ProbeOk PM.std) (impl_ProbeStep PM.std) (impl_ProbeNew PM.std) (laws_big PM.std) (spec_DrawProbeStep PM.std) n _ _ _ _ _ _ _ _ _ _ _ _ K).symm.trans h
      · cases h⟩
      ((laws_FnProbe_ok PM.std (spec_MemOk PM.std) (spec_ProbeOk PM.std) (impl_ProbeStep PM.std) (impl_ProbeNew PM.std) (laws_big PM.std) (spec_DrawProbeStep PM.std) _ k).trans h)
  · cases h

abbrev laws_FnLogs_T := (List Int) → ((Bool) → PM.R) → PM.R
noncomputable def laws_FnLogs_w (c : laws_FnLogs_T) (ds : List PM.V) (k : PM.V → PM.R) : PM.R :=
  match ds with
  | [.arr (.ints 5 .u8 __)] => c __ (fun r0 => k (.bool r0))
  | _ => none
noncomputable def laws_FnLogs_l0 (A : PM.Prims) (c_82 : spec_RowsOk_T) (c_91 : impl_Last_T) (c_87 : impl_Net_T) (c_90 : impl_CellsOf_T) (c_33 : laws_big_T) (c_84 : laws_at_T) (c_86 : impl_Overlay_T) (c_88 : laws_sameInts_T) (c_89 : laws_sameRows_T) (c_58 : laws_has_T) (c_92 : impl_Cut_T) (c_85 : spec_DrawOverlay_T) : Nat → (List Int) → (List Int) → (List (List Int)) → (List Int) → (Int) → ((Bool) → PM.R) → ((List Int) → (List Int) → (List (List Int)) → (List Int) → PM.R) → PM.R
  | 0, _, _, _, _, _, _, _ => none
  | n + 1, code12, v13, l14, x15, i16, kret_0, kx0_0 =>
    bif (A.lt i16 8) then
      c_91 l14 i16 (fun r17 r18 =>
        bif r18 then
          bif (A.inb i16 (A.ilen x15)) then
            bif (A.not (A.eq (A.iget x15 i16) r17)) then
              kret_0 false
            else
              bif (A.not r18) then
                bif (A.inb i16 (A.ilen x15)) then
                  bif (A.inb i16 (A.ilen v13)) then
                    bif (A.not (A.eq (A.iget x15 i16) (A.iget v13 i16))) then
                      kret_0 false
                    else
                      c_90 l14 (fun r20 =>
                        c_58 r20 i16 (fun r21 =>
                          bif (A.not (A.beq r18 r21)) then
                            kret_0 false
                          else
                            laws_FnLogs_l0 A c_82 c_91 c_87 c_90 c_33 c_84 c_86 c_88 c_89 c_58 c_92 c_85 n code12 v13 l14 x15 (A.add .i64 i16 1) kret_0 kx0_0))
                  else
                    none
                else
                  none
              else
                c_90 l14 (fun r22 =>
                  c_58 r22 i16 (fun r23 =>
                    bif (A.not (A.beq r18 r23)) then
                      kret_0 false
                    else
                      laws_FnLogs_l0 A c_82 c_91 c_87 c_90 c_33 c_84 c_86 c_88 c_89 c_58 c_92 c_85 n code12 v13 l14 x15 (A.add .i64 i16 1) kret_0 kx0_0))
          else
            none
        else
          bif (A.not r18) then
            bif (A.inb i16 (A.ilen x15)) then
              bif (A.inb i16 (A.ilen v13)) then
                bif (A.not (A.eq (A.iget x15 i16) (A.iget v13 i16))) then
                  kret_0 false
                else
                  c_90 l14 (fun r24 =>
                    c_58 r24 i16 (fun r25 =>
                      bif (A.not (A.beq r18 r25)) then
                        kret_0 false
                      else
                        laws_FnLogs_l0 A c_82 c_91 c_87 c_90 c_33 c_84 c_86 c_88 c_89 c_58 c_92 c_85 n code12 v13 l14 x15 (A.add .i64 i16 1) kret_0 kx0_0))
              else
                none
            else
              none
          else
            c_90 l14 (fun r26 =>
              c_58 r26 i16 (fun r27 =>
                bif (A.not (A.beq r18 r27)) then
                  kret_0 false
                else
                  laws_FnLogs_l0 A c_82 c_91 c_87 c_90 c_33 c_84 c_86 c_88 c_89 c_58 c_92 c_85 n code12 v13 l14 x15 (A.add .i64 i16 1) kret_0 kx0_0)))
    else
      kx0_0 code12 v13 l14 x15
noncomputable def laws_FnLogs_f (A : PM.Prims) (c_82 : spec_RowsOk_T) (c_91 : impl_Last_T) (c_87 : impl_Net_T) (c_90 : impl_CellsOf_T) (c_33 : laws_big_T) (c_84 : laws_at_T) (c_86 : impl_Overlay_T) (c_88 : laws_sameInts_T) (c_89 : laws_sameRows_T) (c_58 : laws_has_T) (c_92 : impl_Cut_T) (c_85 : spec_DrawOverlay_T) (__ : List Int) (k : (Bool) → PM.R) : PM.R :=
  c_33 __ (fun r1 =>
    bif r1 then
      k true
    else
      c_85 __ (fun r2 r3 =>
        c_86 r2 r3 (fun r4 =>
          c_82 r3 (fun r5 =>
            bif (A.not r5) then
              k (A.eq (A.ilen r4) 0)
            else
              bif (A.not (A.eq (A.ilen r2) 8)) then
                k (A.eq (A.ilen r4) 0)
              else
                c_87 r3 (fun r6 =>
                  bif (A.not (A.eq (A.ilen r4) 8)) then
                    k false
                  else
                    c_86 r2 r6 (fun r7 =>
                      c_88 r4 r7 (fun r8 =>
                        bif (A.not r8) then
                          k false
                        else
                          c_87 r6 (fun r9 =>
                            c_89 r9 r6 (fun r10 =>
                              bif (A.not r10) then
                                k false
                              else
                                c_90 r3 (fun r11 =>
                                  bif (A.not (A.eq (A.ilen r11) (A.vlen r6))) then
                                    k false
                                  else
                                    laws_FnLogs_l0 A c_82 c_91 c_87 c_90 c_33 c_84 c_86 c_88 c_89 c_58 c_92 c_85 A.fuel __ r2 r3 r4 0 (fun t21932 =>
                                      k t21932) (fun code2833 v2934 l3035 x3136 =>
                                      bif (A.lt 0 (A.vlen l3035)) then
                                        c_84 code2833 0 (fun r37 =>
                                          bif (A.nz (A.add .i64 (A.vlen l3035) 1)) then
                                            c_92 l3035 (A.rem .i64 r37 (A.add .i64 (A.vlen l3035) 1)) (fun r38 =>
                                              c_86 v2934 r38 (fun r39 =>
                                                bif (A.subb (A.rem .i64 r37 (A.add .i64 (A.vlen l3035) 1)) (A.vlen l3035) (A.vlen l3035)) then
                                                  c_86 r39 (A.vsub l3035 (A.rem .i64 r37 (A.add .i64 (A.vlen l3035) 1)) (A.vlen l3035)) (fun r40 =>
                                                    c_88 r40 x3136 (fun r41 =>
                                                      bif r41 then
                                                        c_92 l3035 (A.rem .i64 r37 (A.add .i64 (A.vlen l3035) 1)) (fun r42 =>
                                                          k (A.eq (A.vlen r42) (A.rem .i64 r37 (A.add .i64 (A.vlen l3035) 1))))
                                                      else
                                                        k false))
                                                else
                                                  none))
                                          else
                                            none)
                                      else
                                        c_92 l3035 0 (fun r43 =>
                                          c_86 v2934 r43 (fun r44 =>
                                            bif (A.subb 0 (A.vlen l3035) (A.vlen l3035)) then
                                              c_86 r44 (A.vsub l3035 0 (A.vlen l3035)) (fun r45 =>
                                                c_88 r45 x3136 (fun r46 =>
                                                  bif r46 then
                                                    c_92 l3035 0 (fun r47 =>
                                                      k (A.eq (A.vlen r47) 0))
                                                  else
                                                    k false))
                                            else
                                              none)))))))))))))
noncomputable def laws_FnLogs (A : PM.Prims) : laws_FnLogs_T := laws_FnLogs_f A (spec_RowsOk A) (impl_Last A) (impl_Net A) (impl_CellsOf A) (laws_big A) (laws_at A) (impl_Overlay A) (laws_sameInts A) (laws_sameRows A) (laws_has A) (impl_Cut A) (spec_DrawOverlay A)
noncomputable def laws_FnLogs_L (A : PM.Prims) (c_82 : spec_RowsOk_T) (c_91 : impl_Last_T) (c_87 : impl_Net_T) (c_90 : impl_CellsOf_T) (c_33 : laws_big_T) (c_84 : laws_at_T) (c_86 : impl_Overlay_T) (c_88 : laws_sameInts_T) (c_89 : laws_sameRows_T) (c_58 : laws_has_T) (c_92 : impl_Cut_T) (c_85 : spec_DrawOverlay_T) (n : Nat) : PM.Lam := fun cur σ K =>
  match cur, σ, K with
  | 0, ⟨[(0, .arr (.ints 5 .u8 code12)), (3, .arr (.ints 3 .i64 v13)), (4, .arr (.vecs 135 2 l14)), (5, .arr (.ints 3 .i64 x15)), (7, .int .i64 i16)], []⟩, K => laws_FnLogs_l0 A c_82 c_91 c_87 c_90 c_33 c_84 c_86 c_88 c_89 c_58 c_92 c_85 n code12 v13 l14 x15 i16 (fun t219 => K .ret ⟨[(2, .bool t219)], []⟩) (fun code28 v29 l30 x31 => K (.exit 0) ⟨[(0, .arr (.ints 5 .u8 code28)), (3, .arr (.ints 3 .i64 v29)), (4, .arr (.vecs 135 2 l30)), (5, .arr (.ints 3 .i64 x31))], []⟩)
  | _, _, _ => none
noncomputable def laws_FnLogs_E (A : PM.Prims) (c_82 : spec_RowsOk_T) (c_91 : impl_Last_T) (c_87 : impl_Net_T) (c_90 : impl_CellsOf_T) (c_33 : laws_big_T) (c_84 : laws_at_T) (c_86 : impl_Overlay_T) (c_88 : laws_sameInts_T) (c_89 : laws_sameRows_T) (c_58 : laws_has_T) (c_92 : impl_Cut_T) (c_85 : spec_DrawOverlay_T) : PM.Env := ⟨[(82, ⟨[], fun _ _ => none, some (PM.spImm (spec_RowsOk_w c_82))⟩), (91, ⟨[], fun _ _ => none, some (PM.spImm (impl_Last_w c_91))⟩), (87, ⟨[], fun _ _ => none, some (PM.spImm (impl_Net_w c_87))⟩), (90, ⟨[], fun _ _ => none, some (PM.spImm (impl_CellsOf_w c_90))⟩), (33, ⟨[], fun _ _ => none, some (PM.spImm (laws_big_w c_33))⟩), (84, ⟨[], fun _ _ => none, some (PM.spImm (laws_at_w c_84))⟩), (86, ⟨[], fun _ _ => none, some (PM.spImm (impl_Overlay_w c_86))⟩), (88, ⟨[], fun _ _ => none, some (PM.spImm (laws_sameInts_w c_88))⟩), (89, ⟨[], fun _ _ => none, some (PM.spImm (laws_sameRows_w c_89))⟩), (58, ⟨[], fun _ _ => none, some (PM.spImm (laws_has_w c_58))⟩), (92, ⟨[], fun _ _ => none, some (PM.spImm (impl_Cut_w c_92))⟩), (85, ⟨[], fun _ _ => none, some (PM.spImm (spec_DrawOverlay_w c_85))⟩)], [], [(0, [0, 3, 4, 5, 7], [0, 2, 3, 4, 5])], [(0, [0]), (1, [0, 12]), (2, [2]), (3, [0, 3, 4]), (4, [0, 3, 4, 5]), (5, [0, 3, 4, 5, 28]), (6, [2]), (7, [0, 3, 4, 5, 6]), (8, [0, 3, 4, 5, 59]), (9, [2]), (10, [0, 3, 4, 5, 7]), (11, [0, 3, 4, 5, 7, 61]), (12, [0, 3, 4, 5, 7]), (13, [0, 3, 4, 5, 7, 8, 9]), (14, [0, 3, 4, 5, 7, 101]), (15, [2]), (16, [0, 3, 4, 5, 10]), (17, [0, 3, 4, 5, 10, 104]), (18, [3, 4, 5, 10]), (19, [2])], laws_FnLogs_L A c_82 c_91 c_87 c_90 c_33 c_84 c_86 c_88 c_89 c_58 c_92 c_85 A.fuel⟩
theorem laws_FnLogs_l0_ok (A : PM.Prims) (c_82 : spec_RowsOk_T) (c_91 : impl_Last_T) (c_87 : impl_Net_T) (c_90 : impl_CellsOf_T) (c_33 : laws_big_T) (c_84 : laws_at_T) (c_86 : impl_Overlay_T) (c_88 : laws_sameInts_T) (c_89 : laws_sameRows_T) (c_58 : laws_has_T) (c_92 : impl_Cut_T) (c_85 : spec_DrawOverlay_T) (n : Nat) (code12 : List Int) (v13 : List Int) (l14 : List (List Int)) (x15 : List Int) (i16 : Int) (K : Go.Exit → PM.S → PM.R) : laws_FnLogs_L A c_82 c_91 c_87 c_90 c_33 c_84 c_86 c_88 c_89 c_58 c_92 c_85 (n + 1) 0 ⟨[(0, .arr (.ints 5 .u8 code12)), (3, .arr (.ints 3 .i64 v13)), (4, .arr (.vecs 135 2 l14)), (5, .arr (.ints 3 .i64 x15)), (7, .int .i64 i16)], []⟩ K = PM.roundF A cx (PM.runD A cx (laws_FnLogs_E A c_82 c_91 c_87 c_90 c_33 c_84 c_86 c_88 c_89 c_58 c_92 c_85).inl (laws_FnLogs_E A c_82 c_91 c_87 c_90 c_33 c_84 c_86 c_88 c_89 c_58 c_92 c_85).Γ 3) (laws_FnLogs_E A c_82 c_91 c_87 c_90 c_33 c_84 c_86 c_88 c_89 c_58 c_92 c_85) (laws_FnLogs_L A c_82 c_91 c_87 c_90 c_33 c_84 c_86 c_88 c_89 c_58 c_92 c_85 n) 0 Go.Proofs.Try.f21 ⟨[(0, .arr (.ints 5 .u8 code12)), (3, .arr (.ints 3 .i64 v13)), (4, .arr (.vecs 135 2 l14)), (5, .arr (.ints 3 .i64 x15)), (7, .int .i64 i16)], []⟩ K := by kernel_rfl
theorem laws_FnLogs_ok (A : PM.Prims) (c_82 : spec_RowsOk_T) (c_91 : impl_Last_T) (c_87 : impl_Net_T) (c_90 : impl_CellsOf_T) (c_33 : laws_big_T) (c_84 : laws_at_T) (c_86 : impl_Overlay_T) (c_88 : laws_sameInts_T) (c_89 : laws_sameRows_T) (c_58 : laws_has_T) (c_92 : impl_Cut_T) (c_85 : spec_DrawOverlay_T) (__ : List Int) (k : PM.V → PM.R) : PM.pfun A cx [] (laws_FnLogs_E A c_82 c_91 c_87 c_90 c_33 c_84 c_86 c_88 c_89 c_58 c_92 c_85) Go.Proofs.Try.f21 [.arr (.ints 5 .u8 __)] k = laws_FnLogs_f A c_82 c_91 c_87 c_90 c_33 c_84 c_86 c_88 c_89 c_58 c_92 c_85 __ (fun r0 => k (.bool r0)) := by kernel_rfl

theorem laws_FnLogs_fn : PM.FnIs Try.prog 21 Try.f21 := .of Try.func21 (by kernel_rfl) (by kernel_rfl)
theorem laws_FnLogs_g : PM.GOk Try.prog cx 21 ⟨[], laws_FnLogs_w (laws_FnLogs PM.std), none⟩ := by
  refine ⟨laws_FnLogs_fn.enter, fun _ ds k r h => ?_, fun hm => absurd rfl hm, fun _ e => (by cases e)⟩
  change laws_FnLogs_w (laws_FnLogs PM.std) ds k = some r at h
  unfold laws_FnLogs_w at h
  split at h
  · exact PM.pfun_ok (E := laws_FnLogs_E PM.std (spec_RowsOk PM.std) (impl_Last PM.std) (impl_Net PM.std) (impl_CellsOf PM.std) (laws_big PM.std) (laws_at PM.std) (impl_Overlay PM.std) (laws_sameInts PM.std) (laws_sameRows PM.std) (laws_has PM.std) (impl_Cut PM.std) (spec_DrawOverlay PM.std)) (L := fun n => laws_FnLogs_L PM.std (spec_RowsOk PM.std) (impl_Last PM.std) (impl_Net PM.std) (impl_CellsOf PM.std) (laws_big PM.std) (laws_at PM.std) (impl_Overlay PM.std) (laws_sameInts PM.std) (laws_sameRows PM.std) (laws_has PM.std) (impl_Cut PM.std) (spec_DrawOverlay PM.std) n) (N := PM.std.fuel) cx_ok (.cons (PM.GOk.imm spec_RowsOk_g) (.cons (PM.GOk.imm impl_Last_g) (.cons (PM.GOk.imm impl_Net_g) (.cons (PM.GOk.imm impl_CellsOf_g) (.cons (PM.GOk.imm laws_big_g) (.cons (PM.GOk.imm laws_at_g) (.cons (PM.GOk.imm impl_Overlay_g) (.cons (PM.GOk.imm laws_sameInts_g) (.cons (PM.GOk.imm laws_sameRows_g) (.cons (PM.GOk.imm laws_has_g) (.cons (PM.GOk.imm impl_Cut_g) (.cons (PM.GOk.imm spec_DrawOverlay_g) .nil)))))))))))) mixed .nil laws_FnLogs_fn (by kernel_rfl) ⟨rfl, fun cur σ K => by
      dsimp only [laws_FnLogs_L]
      split <;> rfl, fun n cur σ K r h => by
      dsimp only [laws_FnLogs_L] at h
      split at h
      · exact (laws_FnLogs_l0_ok PM.std (spec_RowsOk PM.std) (impl_Last PM.std) (impl_Net PM.std) (impl_CellsOf PM.std) (laws_big PM.std) (laws_at PM.std) (impl_Overlay PM.std) (laws_sameInts PM.std) (laws_sameRows PM.std) (laws_has PM.std) (impl_Cut PM.std) (spec_DrawOverlay PM.std) n _ _ _ _ _ K).symm.trans h
      · cases h⟩
      ((laws_FnLogs_ok PM.std (spec_RowsOk PM.std) (impl_Last PM.std) (impl_Net PM.std) (impl_CellsOf PM.std) (laws_big PM.std) (laws_at PM.std) (impl_Overlay PM.std) (laws_sameInts PM.std) (laws_sameRows PM.std) (laws_has PM.std) (impl_Cut PM.std) (spec_DrawOverlay PM.std) _ k).trans h)
  · cases h

end X
