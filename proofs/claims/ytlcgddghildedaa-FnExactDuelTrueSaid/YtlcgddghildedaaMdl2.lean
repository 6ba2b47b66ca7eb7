/- Models of the functions, or plain laws about them; each theorem states its own conditions. -/
import Derived.Test.YtlcgddghildedaaMdlA
import Derived.Test.YtlcgddghildedaaL3
import Derived.Test.YtlcgddghildedaaMKA
import Derived.Test.YtlcgddghildedaaW5
import Derived.Test.YtlcgddghildedaaW6
import Derived.Test.YtlcgddghildedaaW7
import Derived.Test.YtlcgddghildedaaProg
import Derived.KernelRfl
set_option linter.unusedVariables false
set_option linter.unusedSimpArgs false
open Go.Proofs
namespace X
open PM
set_option maxRecDepth 100000
set_option maxHeartbeats 4000000
abbrev spec_StateAt_T := (List Int) → (List (List PM.C)) → (Int) → ((List Int) → PM.R) → PM.R
noncomputable def spec_StateAt_w (c : spec_StateAt_T) (ds : List PM.V) (k : PM.V → PM.R) : PM.R :=
  match ds with
  | [.arr (.ints 3 .i64 cells), .arr (.rows 33 l), .int .i64 n_] => c cells l n_ (fun r0 => k (.arr (.ints 3 .i64 r0)))
  | _ => none
noncomputable def spec_StateAt_l2 (A : PM.Prims) (c_24 : spec_HistOk_T) (c_81 : spec_Stamps_T) (c_107 : spec_l3Vals_T) (c_29 : spec_Overlay_T) : Nat → (List (List C)) → (Int) → (Int) → (Int) → (List Int) → (List Int) → ((List (List C)) → (Int) → (Int) → (List Int) → (List Int) → PM.R) → PM.R
  | 0, _, _, _, _, _, _, _ => none
  | n + 1, l9, n10, i11, k12, o013, o114, kx2_2 =>
    bif (A.lt k12 (A.rlen l9)) then
      bif (A.inb k12 (A.rlen l9)) then
        bif (A.inb i11 (A.ilen o114)) then
          bif (A.eq (A.rint l9 k12 0) (A.iget o114 i11)) then
            bif (A.inb k12 (A.rlen l9)) then
              c_29 o013 (A.rsv 2 l9 k12 2) (fun r15 =>
                spec_StateAt_l2 A c_24 c_81 c_107 c_29 n l9 n10 i11 (A.add .i64 k12 1) r15 o114 kx2_2)
            else
              none
          else
            spec_StateAt_l2 A c_24 c_81 c_107 c_29 n l9 n10 i11 (A.add .i64 k12 1) o013 o114 kx2_2
        else
          none
      else
        none
    else
      kx2_2 l9 n10 i11 o013 o114
noncomputable def spec_StateAt_l0 (A : PM.Prims) (c_24 : spec_HistOk_T) (c_81 : spec_Stamps_T) (c_107 : spec_l3Vals_T) (c_29 : spec_Overlay_T) : Nat → (List (List C)) → (Int) → (Int) → (List Int) → (List Int) → ((List Int) → PM.R) → PM.R
  | 0, _, _, _, _, _, _ => none
  | n + 1, l4, n5, i6, o07, o18, kx0_0 =>
    bif (A.lt i6 (A.ilen o18)) then
      bif (A.inb i6 (A.ilen o18)) then
        bif (A.le (A.iget o18 i6) n5) then
          spec_StateAt_l2 A c_24 c_81 c_107 c_29 A.fuel l4 n5 i6 0 o07 o18 (fun l1621 n1722 i1823 o01924 o12025 =>
            spec_StateAt_l0 A c_24 c_81 c_107 c_29 n l1621 n1722 (A.add .i64 i1823 1) o01924 o12025 kx0_0)
        else
          kx0_0 o07
      else
        none
    else
      kx0_0 o07
noncomputable def spec_StateAt_f (A : PM.Prims) (c_24 : spec_HistOk_T) (c_81 : spec_Stamps_T) (c_107 : spec_l3Vals_T) (c_29 : spec_Overlay_T) (cells : List Int) (l : List (List PM.C)) (n_ : Int) (k : (List Int) → PM.R) : PM.R :=
  c_107 cells (fun r1 =>
    bif (A.not r1) then
      k []
    else
      c_24 l (fun r2 =>
        bif (A.not r2) then
          k []
        else
          bif (A.room (A.ilen []) (A.ilen cells)) then
            c_81 l (fun r3 =>
              spec_StateAt_l0 A c_24 c_81 c_107 c_29 A.fuel l n_ 0 (A.iapp [] cells) r3 (fun o02627 =>
                k o02627))
          else
            none))
noncomputable def spec_StateAt (A : PM.Prims) : spec_StateAt_T := spec_StateAt_f A (spec_HistOk A) (spec_Stamps A) (spec_l3Vals A) (spec_Overlay A)
noncomputable def spec_StateAt_L (A : PM.Prims) (c_24 : spec_HistOk_T) (c_81 : spec_Stamps_T) (c_107 : spec_l3Vals_T) (c_29 : spec_Overlay_T) (n : Nat) : PM.Lam := fun cur σ K =>
  match cur, σ, K with
  | 0, ⟨[(1, .arr (.rows 33 l4)), (2, .int .i64 n5), (7, .sref 0), (8, .sref 1), (9, .int .i64 i6)], [(0, .arr true (.ints 3 .i64 o07)), (1, .arr true (.ints 3 .i64 o18))]⟩, K => spec_StateAt_l0 A c_24 c_81 c_107 c_29 n l4 n5 i6 o07 o18 (fun o026 => K (.exit 0) ⟨[(7, .sref 0)], [(0, .arr true (.ints 3 .i64 o026))]⟩)
  | 2, ⟨[(1, .arr (.rows 33 l9)), (2, .int .i64 n10), (7, .sref 0), (8, .sref 1), (9, .int .i64 i11), (10, .int .i64 k12)], [(0, .arr true (.ints 3 .i64 o013)), (1, .arr true (.ints 3 .i64 o114))]⟩, K => spec_StateAt_l2 A c_24 c_81 c_107 c_29 n l9 n10 i11 k12 o013 o114 (fun l16 n17 i18 o019 o120 => K (.exit 2) ⟨[(1, .arr (.rows 33 l16)), (2, .int .i64 n17), (7, .sref 0), (8, .sref 1), (9, .int .i64 i18)], [(0, .arr true (.ints 3 .i64 o019)), (1, .arr true (.ints 3 .i64 o120))]⟩)
  | _, _, _ => none
noncomputable def spec_StateAt_E (A : PM.Prims) (c_24 : spec_HistOk_T) (c_81 : spec_Stamps_T) (c_107 : spec_l3Vals_T) (c_29 : spec_Overlay_T) : PM.Env := ⟨[(24, ⟨[], spec_HistOk_w c_24, none⟩), (81, ⟨[], spec_Stamps_w c_81, none⟩), (107, ⟨[], spec_l3Vals_w c_107, none⟩), (29, ⟨[], spec_Overlay_w c_29, none⟩)], [], [(0, [1, 2, 7, 8, 9], [6, 7]), (2, [1, 2, 7, 8, 9, 10], [1, 2, 6, 7, 8, 9])], [(0, [0, 1, 2]), (1, [0, 1, 2, 18]), (2, [6]), (3, [1, 2, 7]), (4, [1, 2, 7, 8]), (5, [1, 2, 7, 8, 9]), (6, [1, 2, 7, 8, 9, 36]), (7, [1, 2, 7, 8, 9]), (8, [1, 2, 7, 8, 9, 10]), (9, [1, 2, 7, 8, 9, 10, 42]), (10, [1, 2, 7, 8, 9, 10]), (11, [1, 2, 7, 8, 9, 10, 54]), (12, [1, 2, 7, 8, 9, 10]), (13, [6])], spec_StateAt_L A c_24 c_81 c_107 c_29 A.fuel⟩
theorem spec_StateAt_l0_ok (A : PM.Prims) (c_24 : spec_HistOk_T) (c_81 : spec_Stamps_T) (c_107 : spec_l3Vals_T) (c_29 : spec_Overlay_T) (n : Nat) (l4 : List (List C)) (n5 : Int) (i6 : Int) (o07 : List Int) (o18 : List Int) (K : Go.Exit → PM.S → PM.R) : spec_StateAt_L A c_24 c_81 c_107 c_29 (n + 1) 0 ⟨[(1, .arr (.rows 33 l4)), (2, .int .i64 n5), (7, .sref 0), (8, .sref 1), (9, .int .i64 i6)], [(0, .arr true (.ints 3 .i64 o07)), (1, .arr true (.ints 3 .i64 o18))]⟩ K = PM.roundF A cx (PM.runD A cx (spec_StateAt_E A c_24 c_81 c_107 c_29).inl (spec_StateAt_E A c_24 c_81 c_107 c_29).Γ 3) (spec_StateAt_E A c_24 c_81 c_107 c_29) (spec_StateAt_L A c_24 c_81 c_107 c_29 n) 0 Go.Proofs.Try.f88 ⟨[(1, .arr (.rows 33 l4)), (2, .int .i64 n5), (7, .sref 0), (8, .sref 1), (9, .int .i64 i6)], [(0, .arr true (.ints 3 .i64 o07)), (1, .arr true (.ints 3 .i64 o18))]⟩ K := by kernel_rfl
theorem spec_StateAt_l2_ok (A : PM.Prims) (c_24 : spec_HistOk_T) (c_81 : spec_Stamps_T) (c_107 : spec_l3Vals_T) (c_29 : spec_Overlay_T) (n : Nat) (l9 : List (List C)) (n10 : Int) (i11 : Int) (k12 : Int) (o013 : List Int) (o114 : List Int) (K : Go.Exit → PM.S → PM.R) : spec_StateAt_L A c_24 c_81 c_107 c_29 (n + 1) 2 ⟨[(1, .arr (.rows 33 l9)), (2, .int .i64 n10), (7, .sref 0), (8, .sref 1), (9, .int .i64 i11), (10, .int .i64 k12)], [(0, .arr true (.ints 3 .i64 o013)), (1, .arr true (.ints 3 .i64 o114))]⟩ K = PM.roundF A cx (PM.runD A cx (spec_StateAt_E A c_24 c_81 c_107 c_29).inl (spec_StateAt_E A c_24 c_81 c_107 c_29).Γ 3) (spec_StateAt_E A c_24 c_81 c_107 c_29) (spec_StateAt_L A c_24 c_81 c_107 c_29 n) 2 Go.Proofs.Try.f88 ⟨[(1, .arr (.rows 33 l9)), (2, .int .i64 n10), (7, .sref 0), (8, .sref 1), (9, .int .i64 i11), (10, .int .i64 k12)], [(0, .arr true (.ints 3 .i64 o013)), (1, .arr true (.ints 3 .i64 o114))]⟩ K := by kernel_rfl
theorem spec_StateAt_ok (A : PM.Prims) (c_24 : spec_HistOk_T) (c_81 : spec_Stamps_T) (c_107 : spec_l3Vals_T) (c_29 : spec_Overlay_T) (cells : List Int) (l : List (List PM.C)) (n_ : Int) (k : PM.V → PM.R) : PM.pfun A cx [] (spec_StateAt_E A c_24 c_81 c_107 c_29) Go.Proofs.Try.f88 [.arr (.ints 3 .i64 cells), .arr (.rows 33 l), .int .i64 n_] k = spec_StateAt_f A c_24 c_81 c_107 c_29 cells l n_ (fun r0 => k (.arr (.ints 3 .i64 r0))) := by kernel_rfl

theorem spec_StateAt_fn : PM.FnIs Try.prog 88 Try.f88 := .of Try.func88 (by kernel_rfl) (by kernel_rfl)
theorem spec_StateAt_g : PM.GOk Try.prog cx 88 ⟨[], spec_StateAt_w (spec_StateAt PM.std), none⟩ := by
  refine ⟨spec_StateAt_fn.enter, fun _ ds k r h => ?_, fun hm => absurd rfl hm, fun _ e => (by cases e)⟩
  change spec_StateAt_w (spec_StateAt PM.std) ds k = some r at h
  unfold spec_StateAt_w at h
  split at h
  · exact PM.pfun_ok (E := spec_StateAt_E PM.std (spec_HistOk PM.std) (spec_Stamps PM.std) (spec_l3Vals PM.std) (spec_Overlay PM.std)) (L := fun n => spec_StateAt_L PM.std (spec_HistOk PM.std) (spec_Stamps PM.std) (spec_l3Vals PM.std) (spec_Overlay PM.std) n) (N := PM.std.fuel) cx_ok (.cons spec_HistOk_g (.cons spec_Stamps_g (.cons spec_l3Vals_g (.cons spec_Overlay_g .nil)))) mixed .nil spec_StateAt_fn (by kernel_rfl) ⟨rfl, fun cur σ K => by
      dsimp only [spec_StateAt_L]
      split <;> rfl, fun n cur σ K r h => by
      dsimp only [spec_StateAt_L] at h
      split at h
      · exact (spec_StateAt_l0_ok PM.std (spec_HistOk PM.std) (spec_Stamps PM.std) (spec_l3Vals PM.std) (spec_Overlay PM.std) n _ _ _ _ _ K).symm.trans h
      · exact (spec_StateAt_l2_ok PM.std (spec_HistOk PM.std) (spec_Stamps PM.std) (spec_l3Vals PM.std) (spec_Overlay PM.std) n _ _ _ _ _ _ K).symm.trans h
      · cases h⟩
      ((spec_StateAt_ok PM.std (spec_HistOk PM.std) (spec_Stamps PM.std) (spec_l3Vals PM.std) (spec_Overlay PM.std) _ _ _ k).trans h)
  · cases h

abbrev impl_copyRows_T := (List (List Int)) → ((List (List Int)) → PM.R) → PM.R
noncomputable def impl_copyRows_w (c : impl_copyRows_T) (ds : List PM.V) (k : PM.V → PM.R) : PM.R :=
  match ds with
  | [.arr (.vecs 161 2 l)] => c l (fun r0 => k (.arr (.vecs 161 2 r0)))
  | _ => none
noncomputable def impl_copyRows_f (A : PM.Prims) (l : List (List Int)) (k : (List (List Int)) → PM.R) : PM.R :=
  bif (A.room (A.vlen []) (A.vlen l)) then
    k (A.vapp [] l)
  else
    none
noncomputable def impl_copyRows (A : PM.Prims) : impl_copyRows_T := impl_copyRows_f A
noncomputable def impl_copyRows_L (A : PM.Prims) (n : Nat) : PM.Lam := fun cur σ K =>
  match cur, σ, K with
  | _, _, _ => none
noncomputable def impl_copyRows_E (A : PM.Prims) : PM.Env := ⟨[], [], [], [(0, [0]), (1, [2])], impl_copyRows_L A A.fuel⟩
theorem impl_copyRows_ok (A : PM.Prims) (l : List (List Int)) (k : PM.V → PM.R) : PM.pfun A cx [] (impl_copyRows_E A) Go.Proofs.Try.f194 [.arr (.vecs 161 2 l)] k = impl_copyRows_f A l (fun r0 => k (.arr (.vecs 161 2 r0))) := by kernel_rfl

theorem impl_copyRows_fn : PM.FnIs Try.prog 194 Try.f194 := .of Try.func194 (by kernel_rfl) (by kernel_rfl)
theorem impl_copyRows_g : PM.GOk Try.prog cx 194 ⟨[], impl_copyRows_w (impl_copyRows PM.std), none⟩ := by
  refine ⟨impl_copyRows_fn.enter, fun _ ds k r h => ?_, fun hm => absurd rfl hm, fun _ e => (by cases e)⟩
  change impl_copyRows_w (impl_copyRows PM.std) ds k = some r at h
  unfold impl_copyRows_w at h
  split at h
  · exact PM.pfun_ok (E := impl_copyRows_E PM.std) (L := fun n => impl_copyRows_L PM.std n) (N := PM.std.fuel) cx_ok .nil mixed .nil impl_copyRows_fn (by kernel_rfl) ⟨rfl, fun _ _ _ => rfl, fun n cur σ K r h => by cases h⟩
      ((impl_copyRows_ok PM.std _ k).trans h)
  · cases h

abbrev impl_copyHist_T := (List (List PM.C)) → ((List (List PM.C)) → PM.R) → PM.R
noncomputable def impl_copyHist_w (c : impl_copyHist_T) (ds : List PM.V) (k : PM.V → PM.R) : PM.R :=
  match ds with
  | [.arr (.rows 33 l)] => c l (fun r0 => k (.arr (.rows 33 r0)))
  | _ => none
noncomputable def impl_copyHist_l0 (A : PM.Prims) (c_194 : impl_copyRows_T) : Nat → (List (List C)) → (Int) → (Int) → (List (List C)) → ((List (List C)) → PM.R) → PM.R
  | 0, _, _, _, _, _ => none
  | n + 1, t61, t72, t83, o04, kx0_0 =>
    bif (A.lt t83 t72) then
      bif (A.inb t83 (A.rlen t61)) then
        c_194 (A.rsv 2 t61 t83 2) (fun r5 =>
          bif (A.room (A.rlen o04) (A.rlen [[(.i (A.rint t61 t83 0)), (.i (A.rint t61 t83 1)), (.s (A.ofv r5))]])) then
            impl_copyHist_l0 A c_194 n t61 t72 (A.add .i64 t83 1) (A.rapp o04 [[(.i (A.rint t61 t83 0)), (.i (A.rint t61 t83 1)), (.s (A.ofv r5))]]) kx0_0
          else
            none)
      else
        none
    else
      kx0_0 o04
noncomputable def impl_copyHist_f (A : PM.Prims) (c_194 : impl_copyRows_T) (l : List (List PM.C)) (k : (List (List PM.C)) → PM.R) : PM.R :=
  impl_copyHist_l0 A c_194 A.fuel l (A.rlen l) 0 [] (fun o067 =>
    k o067)
noncomputable def impl_copyHist (A : PM.Prims) : impl_copyHist_T := impl_copyHist_f A (impl_copyRows A)
noncomputable def impl_copyHist_L (A : PM.Prims) (c_194 : impl_copyRows_T) (n : Nat) : PM.Lam := fun cur σ K =>
  match cur, σ, K with
  | 0, ⟨[(3, .sref 0), (6, .arr (.rows 33 t61)), (7, .int .i64 t72), (8, .int .i64 t83)], [(0, .arr true (.rows 33 o04))]⟩, K => impl_copyHist_l0 A c_194 n t61 t72 t83 o04 (fun o06 => K (.exit 0) ⟨[(3, .sref 0)], [(0, .arr true (.rows 33 o06))]⟩)
  | _, _, _ => none
noncomputable def impl_copyHist_E (A : PM.Prims) (c_194 : impl_copyRows_T) : PM.Env := ⟨[(194, ⟨[], impl_copyRows_w c_194, none⟩)], [], [(0, [3, 6, 7, 8], [2, 3])], [(0, [0]), (1, [0, 3]), (2, [3, 6, 7, 8]), (3, [3, 6, 7, 8, 9]), (4, [3, 5, 6, 7, 8]), (5, [3, 5, 6, 7, 8]), (6, [3, 6, 7, 8]), (7, [3, 6, 7, 8]), (8, [2])], impl_copyHist_L A c_194 A.fuel⟩
theorem impl_copyHist_l0_ok (A : PM.Prims) (c_194 : impl_copyRows_T) (n : Nat) (t61 : List (List C)) (t72 : Int) (t83 : Int) (o04 : List (List C)) (K : Go.Exit → PM.S → PM.R) : impl_copyHist_L A c_194 (n + 1) 0 ⟨[(3, .sref 0), (6, .arr (.rows 33 t61)), (7, .int .i64 t72), (8, .int .i64 t83)], [(0, .arr true (.rows 33 o04))]⟩ K = PM.roundF A cx (PM.runD A cx (impl_copyHist_E A c_194).inl (impl_copyHist_E A c_194).Γ 3) (impl_copyHist_E A c_194) (impl_copyHist_L A c_194 n) 0 Go.Proofs.Try.f98 ⟨[(3, .sref 0), (6, .arr (.rows 33 t61)), (7, .int .i64 t72), (8, .int .i64 t83)], [(0, .arr true (.rows 33 o04))]⟩ K := by kernel_rfl
theorem impl_copyHist_ok (A : PM.Prims) (c_194 : impl_copyRows_T) (l : List (List PM.C)) (k : PM.V → PM.R) : PM.pfun A cx [] (impl_copyHist_E A c_194) Go.Proofs.Try.f98 [.arr (.rows 33 l)] k = impl_copyHist_f A c_194 l (fun r0 => k (.arr (.rows 33 r0))) := by kernel_rfl

theorem impl_copyHist_fn : PM.FnIs Try.prog 98 Try.f98 := .of Try.func98 (by kernel_rfl) (by kernel_rfl)
theorem impl_copyHist_g : PM.GOk Try.prog cx 98 ⟨[], impl_copyHist_w (impl_copyHist PM.std), none⟩ := by
  refine ⟨impl_copyHist_fn.enter, fun _ ds k r h => ?_, fun hm => absurd rfl hm, fun _ e => (by cases e)⟩
  change impl_copyHist_w (impl_copyHist PM.std) ds k = some r at h
  unfold impl_copyHist_w at h
  split at h
  · exact PM.pfun_ok (E := impl_copyHist_E PM.std (impl_copyRows PM.std)) (L := fun n => impl_copyHist_L PM.std (impl_copyRows PM.std) n) (N := PM.std.fuel) cx_ok (.cons impl_copyRows_g .nil) mixed .nil impl_copyHist_fn (by kernel_rfl) ⟨rfl, fun cur σ K => by
      dsimp only [impl_copyHist_L]
      split <;> rfl, fun n cur σ K r h => by
      dsimp only [impl_copyHist_L] at h
      split at h
      · exact (impl_copyHist_l0_ok PM.std (impl_copyRows PM.std) n _ _ _ _ K).symm.trans h
      · cases h⟩
      ((impl_copyHist_ok PM.std (impl_copyRows PM.std) _ k).trans h)
  · cases h

abbrev impl_StateAt_T := (List Int) → (List (List PM.C)) → (Int) → ((List Int) → PM.R) → PM.R
noncomputable def impl_StateAt_w (c : impl_StateAt_T) (ds : List PM.V) (k : PM.V → PM.R) : PM.R :=
  match ds with
  | [.arr (.ints 3 .i64 cells), .arr (.rows 33 l), .int .i64 n_] => c cells l n_ (fun r0 => k (.arr (.ints 3 .i64 r0)))
  | _ => none
noncomputable def impl_StateAt_l0 (A : PM.Prims) (c_44 : impl_HistOk_T) (c_97 : impl_areValues_T) (c_98 : impl_copyHist_T) (c_99 : slices_SortFunc___impl_Wrote_impl_Wrote__T) (c_101 : impl_copyInts_T) (c_102 : impl_Overlay_T) : Nat → (Int) → (Int) → (Int) → (List Int) → (List (List C)) → ((List Int) → PM.R) → PM.R
  | 0, _, _, _, _, _, _ => none
  | n + 1, n6, t267, t278, o09, o110, kx0_0 =>
    bif (A.lt t278 t267) then
      bif (A.inb t278 (A.rlen o110)) then
        bif (A.le (A.rint o110 t278 0) n6) then
          c_102 o09 (A.rsv 2 o110 t278 2) (fun r11 =>
            impl_StateAt_l0 A c_44 c_97 c_98 c_99 c_101 c_102 n n6 t267 (A.add .i64 t278 1) r11 o110 kx0_0)
        else
          impl_StateAt_l0 A c_44 c_97 c_98 c_99 c_101 c_102 n n6 t267 (A.add .i64 t278 1) o09 o110 kx0_0
      else
        none
    else
      kx0_0 o09
noncomputable def impl_StateAt_f (A : PM.Prims) (c_44 : impl_HistOk_T) (c_97 : impl_areValues_T) (c_98 : impl_copyHist_T) (c_99 : slices_SortFunc___impl_Wrote_impl_Wrote__T) (c_101 : impl_copyInts_T) (c_102 : impl_Overlay_T) (cells : List Int) (l : List (List PM.C)) (n_ : Int) (k : (List Int) → PM.R) : PM.R :=
  c_97 cells 8 (fun r1 =>
    bif (A.not r1) then
      k []
    else
      c_44 l (fun r2 =>
        bif (A.not r2) then
          k []
        else
          c_98 l (fun r3 =>
            c_99 r3 (fun r4 =>
              c_101 cells (fun r5 =>
                impl_StateAt_l0 A c_44 c_97 c_98 c_99 c_101 c_102 A.fuel n_ (A.rlen r4) 0 r5 r4 (fun o01213 =>
                  k o01213))))))
noncomputable def impl_StateAt (A : PM.Prims) : impl_StateAt_T := impl_StateAt_f A (impl_HistOk A) (impl_areValues A) (impl_copyHist A) (slices_SortFunc___impl_Wrote_impl_Wrote_ A) (impl_copyInts A) (impl_Overlay A)
noncomputable def impl_StateAt_L (A : PM.Prims) (c_44 : impl_HistOk_T) (c_97 : impl_areValues_T) (c_98 : impl_copyHist_T) (c_99 : slices_SortFunc___impl_Wrote_impl_Wrote__T) (c_101 : impl_copyInts_T) (c_102 : impl_Overlay_T) (n : Nat) : PM.Lam := fun cur σ K =>
  match cur, σ, K with
  | 0, ⟨[(2, .int .i64 n6), (8, .sref 0), (25, .sref 1), (26, .int .i64 t267), (27, .int .i64 t278)], [(0, .arr true (.ints 3 .i64 o09)), (1, .arr true (.rows 33 o110))]⟩, K => impl_StateAt_l0 A c_44 c_97 c_98 c_99 c_101 c_102 n n6 t267 t278 o09 o110 (fun o012 => K (.exit 0) ⟨[(8, .sref 0)], [(0, .arr true (.ints 3 .i64 o012))]⟩)
  | _, _, _ => none
noncomputable def impl_StateAt_E (A : PM.Prims) (c_44 : impl_HistOk_T) (c_97 : impl_areValues_T) (c_98 : impl_copyHist_T) (c_99 : slices_SortFunc___impl_Wrote_impl_Wrote__T) (c_101 : impl_copyInts_T) (c_102 : impl_Overlay_T) : PM.Env := ⟨[(44, ⟨[], impl_HistOk_w c_44, none⟩), (97, ⟨[], impl_areValues_w c_97, none⟩), (98, ⟨[], impl_copyHist_w c_98, none⟩), (99, ⟨[], fun _ _ => none, some (PM.spSrt 100 (slices_SortFunc___impl_Wrote_impl_Wrote__w c_99))⟩), (101, ⟨[], impl_copyInts_w c_101, none⟩), (102, ⟨[], impl_Overlay_w c_102, none⟩)], [], [(0, [2, 8, 25, 26, 27], [6, 8])], [(0, [0, 1, 2]), (1, [0, 1, 2, 18]), (2, [6]), (3, [0, 2, 7]), (4, [0, 2, 7]), (5, [2, 7, 8]), (6, [2, 8, 25, 26, 27]), (7, [2, 8, 25, 26, 27, 28]), (8, [2, 8, 10, 25, 26, 27]), (9, [2, 8, 10, 25, 26, 27, 34]), (10, [2, 8, 25, 26, 27]), (11, [2, 8, 25, 26, 27]), (12, [6])], impl_StateAt_L A c_44 c_97 c_98 c_99 c_101 c_102 A.fuel⟩
theorem impl_StateAt_l0_ok (A : PM.Prims) (c_44 : impl_HistOk_T) (c_97 : impl_areValues_T) (c_98 : impl_copyHist_T) (c_99 : slices_SortFunc___impl_Wrote_impl_Wrote__T) (c_101 : impl_copyInts_T) (c_102 : impl_Overlay_T) (n : Nat) (n6 : Int) (t267 : Int) (t278 : Int) (o09 : List Int) (o110 : List (List C)) (K : Go.Exit → PM.S → PM.R) : impl_StateAt_L A c_44 c_97 c_98 c_99 c_101 c_102 (n + 1) 0 ⟨[(2, .int .i64 n6), (8, .sref 0), (25, .sref 1), (26, .int .i64 t267), (27, .int .i64 t278)], [(0, .arr true (.ints 3 .i64 o09)), (1, .arr true (.rows 33 o110))]⟩ K = PM.roundF A cx (PM.runD A cx (impl_StateAt_E A c_44 c_97 c_98 c_99 c_101 c_102).inl (impl_StateAt_E A c_44 c_97 c_98 c_99 c_101 c_102).Γ 3) (impl_StateAt_E A c_44 c_97 c_98 c_99 c_101 c_102) (impl_StateAt_L A c_44 c_97 c_98 c_99 c_101 c_102 n) 0 Go.Proofs.Try.f23 ⟨[(2, .int .i64 n6), (8, .sref 0), (25, .sref 1), (26, .int .i64 t267), (27, .int .i64 t278)], [(0, .arr true (.ints 3 .i64 o09)), (1, .arr true (.rows 33 o110))]⟩ K := by kernel_rfl
theorem impl_StateAt_ok (A : PM.Prims) (c_44 : impl_HistOk_T) (c_97 : impl_areValues_T) (c_98 : impl_copyHist_T) (c_99 : slices_SortFunc___impl_Wrote_impl_Wrote__T) (c_101 : impl_copyInts_T) (c_102 : impl_Overlay_T) (cells : List Int) (l : List (List PM.C)) (n_ : Int) (k : PM.V → PM.R) : PM.pfun A cx [] (impl_StateAt_E A c_44 c_97 c_98 c_99 c_101 c_102) Go.Proofs.Try.f23 [.arr (.ints 3 .i64 cells), .arr (.rows 33 l), .int .i64 n_] k = impl_StateAt_f A c_44 c_97 c_98 c_99 c_101 c_102 cells l n_ (fun r0 => k (.arr (.ints 3 .i64 r0))) := by kernel_rfl

theorem impl_StateAt_fn : PM.FnIs Try.prog 23 Try.f23 := .of Try.func23 (by kernel_rfl) (by kernel_rfl)
theorem impl_StateAt_g : PM.GOk Try.prog cx 23 ⟨[], impl_StateAt_w (impl_StateAt PM.std), none⟩ := by
  refine ⟨impl_StateAt_fn.enter, fun _ ds k r h => ?_, fun hm => absurd rfl hm, fun _ e => (by cases e)⟩
  change impl_StateAt_w (impl_StateAt PM.std) ds k = some r at h
  unfold impl_StateAt_w at h
  split at h
  · exact PM.pfun_ok (E := impl_StateAt_E PM.std (impl_HistOk PM.std) (impl_areValues PM.std) (impl_copyHist PM.std) (slices_SortFunc___impl_Wrote_impl_Wrote_ PM.std) (impl_copyInts PM.std) (impl_Overlay PM.std)) (L := fun n => impl_StateAt_L PM.std (impl_HistOk PM.std) (impl_areValues PM.std) (impl_copyHist PM.std) (slices_SortFunc___impl_Wrote_impl_Wrote_ PM.std) (impl_copyInts PM.std) (impl_Overlay PM.std) n) (N := PM.std.fuel) cx_ok (.cons impl_HistOk_g (.cons impl_areValues_g (.cons impl_copyHist_g (.cons slices_SortFunc___impl_Wrote_impl_Wrote__g (.cons impl_copyInts_g (.cons impl_Overlay_g .nil)))))) mixed .nil impl_StateAt_fn (by kernel_rfl) ⟨rfl, fun cur σ K => by
      dsimp only [impl_StateAt_L]
      split <;> rfl, fun n cur σ K r h => by
      dsimp only [impl_StateAt_L] at h
      split at h
      · exact (impl_StateAt_l0_ok PM.std (impl_HistOk PM.std) (impl_areValues PM.std) (impl_copyHist PM.std) (slices_SortFunc___impl_Wrote_impl_Wrote_ PM.std) (impl_copyInts PM.std) (impl_Overlay PM.std) n _ _ _ _ _ K).symm.trans h
      · cases h⟩
      ((impl_StateAt_ok PM.std (impl_HistOk PM.std) (impl_areValues PM.std) (impl_copyHist PM.std) (slices_SortFunc___impl_Wrote_impl_Wrote_ PM.std) (impl_copyInts PM.std) (impl_Overlay PM.std) _ _ _ k).trans h)
  · cases h

abbrev laws_FnExactStateAt_T := (List Int) → (List (List PM.C)) → (Int) → ((Bool) → PM.R) → PM.R
noncomputable def laws_FnExactStateAt_w (c : laws_FnExactStateAt_T) (ds : List PM.V) (k : PM.V → PM.R) : PM.R :=
  match ds with
  | [.arr (.ints 3 .i64 __), .arr (.rows 195 a), .int .i64 r] => c __ a r (fun r0 => k (.bool r0))
  | _ => none
noncomputable def laws_FnExactStateAt_f (A : PM.Prims) (c_42 : laws_szWroteS_T) (c_43 : laws_toWroteS_T) (c_40 : laws_eqIntS_T) (c_45 : laws_eqWroteS_T) (c_82 : laws_markWroteS_T) (c_54 : laws_markIntS_T) (c_56 : laws_heldIntS_T) (c_37 : laws_toIntS_T) (c_88 : spec_StateAt_T) (c_23 : impl_StateAt_T) (__ : List Int) (a : List (List PM.C)) (r : Int) (k : (Bool) → PM.R) : PM.R :=
  bif (A.lt 1048576 (A.ilen __)) then
    k true
  else
    c_42 a 1048576 (fun r1 =>
      bif (A.lt r1 0) then
        k true
      else
        c_37 __ (fun r2 =>
          c_43 a (fun r3 =>
            c_88 r2 r3 r (fun r4 =>
              c_37 __ (fun r5 =>
                c_43 a (fun r6 =>
                  c_23 r5 r6 r (fun r7 =>
                    c_40 r7 r4 (fun r8 =>
                      bif (A.not r8) then
                        k false
                      else
                        c_37 __ (fun r9 =>
                          c_40 r5 r9 (fun r10 =>
                            bif (A.not r10) then
                              k false
                            else
                              c_43 a (fun r11 =>
                                c_45 r6 r11 (fun r12 =>
                                  bif (A.not r12) then
                                    k false
                                  else
                                    c_54 r5 1 (fun r13 r14 =>
                                      c_82 r6 r13 (fun r15 =>
                                        bif (A.lt r15 0) then
                                          k false
                                        else
                                          c_40 r7 r4 (fun r16 =>
                                            bif (A.not r16) then
                                              k false
                                            else
                                              c_54 r7 1 (fun r17 r18 =>
                                                c_56 r18 1 (fun r19 =>
                                                  bif (A.lt r19 0) then
                                                    k false
                                                  else
                                                    bif (A.not (A.eq r19 r17)) then
                                                      k false
                                                    else
                                                      c_37 __ (fun r20 =>
                                                        c_43 a (fun r21 =>
                                                          c_23 r20 r21 r (fun r22 =>
                                                            c_40 r22 r4 (fun r23 =>
                                                              bif (A.not r23) then
                                                                k false
                                                              else
                                                                c_56 r18 1 (fun r24 =>
                                                                  bif (A.lt r24 0) then
                                                                    k false
                                                                  else
                                                                    bif (A.not (A.eq r24 r17)) then
                                                                      k false
                                                                    else
                                                                      k true))))))))))))))))))))))
noncomputable def laws_FnExactStateAt (A : PM.Prims) : laws_FnExactStateAt_T := laws_FnExactStateAt_f A (laws_szWroteS A) (laws_toWroteS A) (laws_eqIntS A) (laws_eqWroteS A) (laws_markWroteS A) (laws_markIntS A) (laws_heldIntS A) (laws_toIntS A) (spec_StateAt A) (impl_StateAt A)
noncomputable def laws_FnExactStateAt_L (A : PM.Prims) (c_42 : laws_szWroteS_T) (c_43 : laws_toWroteS_T) (c_40 : laws_eqIntS_T) (c_45 : laws_eqWroteS_T) (c_82 : laws_markWroteS_T) (c_54 : laws_markIntS_T) (c_56 : laws_heldIntS_T) (c_37 : laws_toIntS_T) (c_88 : spec_StateAt_T) (c_23 : impl_StateAt_T) (n : Nat) : PM.Lam := fun cur σ K =>
  match cur, σ, K with
  | _, _, _ => none
noncomputable def laws_FnExactStateAt_E (A : PM.Prims) (c_42 : laws_szWroteS_T) (c_43 : laws_toWroteS_T) (c_40 : laws_eqIntS_T) (c_45 : laws_eqWroteS_T) (c_82 : laws_markWroteS_T) (c_54 : laws_markIntS_T) (c_56 : laws_heldIntS_T) (c_37 : laws_toIntS_T) (c_88 : spec_StateAt_T) (c_23 : impl_StateAt_T) : PM.Env := ⟨[(42, ⟨[], laws_szWroteS_w c_42, none⟩), (43, ⟨[], laws_toWroteS_w c_43, none⟩), (40, ⟨[], laws_eqIntS_w c_40, none⟩), (45, ⟨[], laws_eqWroteS_w c_45, none⟩), (54, ⟨[true, false], laws_markIntS_w c_54, none⟩), (56, ⟨[], laws_heldIntS_w c_56, none⟩), (37, ⟨[], laws_toIntS_w c_37, none⟩), (88, ⟨[], spec_StateAt_w c_88, none⟩), (23, ⟨[], impl_StateAt_w c_23, none⟩)], [], [], [(0, [0, 1, 2]), (1, [0, 1, 2, 18]), (2, [6]), (3, [0, 1, 2, 7]), (4, [0, 1, 2, 7]), (5, [0, 1, 2, 23]), (6, [6]), (7, [0, 1, 2, 8]), (8, [0, 1, 2, 8, 9]), (9, [0, 1, 2, 8, 9, 10]), (10, [0, 1, 2, 8, 9, 10, 11]), (11, [0, 1, 2, 8, 9, 10, 11, 41]), (12, [6]), (13, [0, 1, 2, 8, 9, 10, 11, 46]), (14, [6]), (15, [0, 1, 2, 8, 9, 10, 11, 51]), (16, [6]), (17, [0, 1, 2, 8, 9, 10, 11, 12]), (18, [0, 1, 2, 8, 10, 11, 12]), (19, [0, 1, 2, 8, 11, 12]), (20, [0, 1, 2, 8, 11, 65]), (21, [6]), (22, [0, 1, 2, 8, 11, 13]), (23, [0, 1, 2, 8, 11, 13]), (24, [0, 1, 2, 8, 11, 13, 14]), (25, [0, 1, 2, 8, 11, 13, 14]), (26, [0, 1, 2, 8, 11, 13, 14, 73]), (27, [6]), (28, [0, 1, 2, 8, 11, 13, 76]), (29, [6]), (30, [8, 11, 13, 15]), (31, [11, 13, 86]), (32, [6]), (33, [11, 13, 14]), (34, [13, 14]), (35, [13, 14, 91]), (36, [6]), (37, [94]), (38, [6]), (39, [6])], laws_FnExactStateAt_L A c_42 c_43 c_40 c_45 c_82 c_54 c_56 c_37 c_88 c_23 A.fuel⟩
theorem laws_FnExactStateAt_ok (A : PM.Prims) (c_42 : laws_szWroteS_T) (c_43 : laws_toWroteS_T) (c_40 : laws_eqIntS_T) (c_45 : laws_eqWroteS_T) (c_82 : laws_markWroteS_T) (c_54 : laws_markIntS_T) (c_56 : laws_heldIntS_T) (c_37 : laws_toIntS_T) (c_88 : spec_StateAt_T) (c_23 : impl_StateAt_T) (__ : List Int) (a : List (List PM.C)) (r : Int) (k : PM.V → PM.R) : PM.lfun A cx [(82, laws_markWroteS_w c_82)] (laws_FnExactStateAt_E A c_42 c_43 c_40 c_45 c_82 c_54 c_56 c_37 c_88 c_23) Go.Proofs.Try.f19 [.arr (.ints 3 .i64 __), .arr (.rows 195 a), .int .i64 r] k = laws_FnExactStateAt_f A c_42 c_43 c_40 c_45 c_82 c_54 c_56 c_37 c_88 c_23 __ a r (fun r0 => k (.bool r0)) := by kernel_rfl

theorem laws_FnExactStateAt_fn : PM.FnIs Try.prog 19 Try.f19 := .of Try.func19 (by kernel_rfl) (by kernel_rfl)
theorem laws_FnExactStateAt_g : PM.GOk Try.prog cx 19 ⟨[], laws_FnExactStateAt_w (laws_FnExactStateAt PM.std), none⟩ := by
  refine ⟨laws_FnExactStateAt_fn.enter, fun _ ds k r h => ?_, fun hm => absurd rfl hm, fun _ e => (by cases e)⟩
  change laws_FnExactStateAt_w (laws_FnExactStateAt PM.std) ds k = some r at h
  unfold laws_FnExactStateAt_w at h
  split at h
  · exact PM.lfun_ok (E := laws_FnExactStateAt_E PM.std (laws_szWroteS PM.std) (laws_toWroteS PM.std) (laws_eqIntS PM.std) (laws_eqWroteS PM.std) (laws_markWroteS PM.std) (laws_markIntS PM.std) (laws_heldIntS PM.std) (laws_toIntS PM.std) (spec_StateAt PM.std) (impl_StateAt PM.std)) (M := [(82, laws_markWroteS_w (laws_markWroteS PM.std))]) (.cons laws_markWroteS_mk .nil) cx_ok (.cons laws_szWroteS_g (.cons laws_toWroteS_g (.cons laws_eqIntS_g (.cons laws_eqWroteS_g (.cons laws_markIntS_g (.cons laws_heldIntS_g (.cons laws_toIntS_g (.cons spec_StateAt_g (.cons impl_StateAt_g .nil))))))))) mixed .nil laws_FnExactStateAt_fn (by kernel_rfl)
      ((laws_FnExactStateAt_ok PM.std (laws_szWroteS PM.std) (laws_toWroteS PM.std) (laws_eqIntS PM.std) (laws_eqWroteS PM.std) (laws_markWroteS PM.std) (laws_markIntS PM.std) (laws_heldIntS PM.std) (laws_toIntS PM.std) (spec_StateAt PM.std) (impl_StateAt PM.std) _ _ _ k).trans h)
  · cases h

abbrev laws_szWordS_T := (List (List Int)) → (Int) → ((Int) → PM.R) → PM.R
noncomputable def laws_szWordS_w (c : laws_szWordS_T) (ds : List PM.V) (k : PM.V → PM.R) : PM.R :=
  match ds with
  | [.arr (.vecs 354 3 a), .int .i64 left] => c a left (fun r0 => k (.int .i64 r0))
  | _ => none
noncomputable def laws_szWordS_f (A : PM.Prims) (a : List (List Int)) (left : Int) (k : (Int) → PM.R) : PM.R :=
  bif (A.lt (A.sub .i64 left (A.vlen a)) 0) then
    k (-1)
  else
    k (A.sub .i64 left (A.vlen a))
noncomputable def laws_szWordS (A : PM.Prims) : laws_szWordS_T := laws_szWordS_f A
noncomputable def laws_szWordS_L (A : PM.Prims) (n : Nat) : PM.Lam := fun cur σ K =>
  match cur, σ, K with
  | _, _, _ => none
noncomputable def laws_szWordS_E (A : PM.Prims) : PM.Env := ⟨[], [], [], [(0, [0, 1]), (1, [1]), (2, [1, 10]), (3, [4]), (4, [4])], laws_szWordS_L A A.fuel⟩
theorem laws_szWordS_ok (A : PM.Prims) (a : List (List Int)) (left : Int) (k : PM.V → PM.R) : PM.pfun A cx [] (laws_szWordS_E A) Go.Proofs.Try.f199 [.arr (.vecs 354 3 a), .int .i64 left] k = laws_szWordS_f A a left (fun r0 => k (.int .i64 r0)) := by kernel_rfl

theorem laws_szWordS_fn : PM.FnIs Try.prog 199 Try.f199 := .of Try.func199 (by kernel_rfl) (by kernel_rfl)
theorem laws_szWordS_g : PM.GOk Try.prog cx 199 ⟨[], laws_szWordS_w (laws_szWordS PM.std), none⟩ := by
  refine ⟨laws_szWordS_fn.enter, fun _ ds k r h => ?_, fun hm => absurd rfl hm, fun _ e => (by cases e)⟩
  change laws_szWordS_w (laws_szWordS PM.std) ds k = some r at h
  unfold laws_szWordS_w at h
  split at h
  · exact PM.pfun_ok (E := laws_szWordS_E PM.std) (L := fun n => laws_szWordS_L PM.std n) (N := PM.std.fuel) cx_ok .nil mixed .nil laws_szWordS_fn (by kernel_rfl) ⟨rfl, fun _ _ _ => rfl, fun n cur σ K r h => by cases h⟩
      ((laws_szWordS_ok PM.std _ _ k).trans h)
  · cases h

abbrev laws_szMem_T := (Int) → (List (List Int)) → (Int) → ((Int) → PM.R) → PM.R
noncomputable def laws_szMem_w (c : laws_szMem_T) (ds : List PM.V) (k : PM.V → PM.R) : PM.R :=
  match ds with
  | [.agg [.int .i64 a_Clock, .arr (.vecs 354 3 a_Cells)], .int .i64 left] => c a_Clock a_Cells left (fun r0 => k (.int .i64 r0))
  | _ => none
noncomputable def laws_szMem_f (A : PM.Prims) (c_199 : laws_szWordS_T) (a_Clock : Int) (a_Cells : List (List Int)) (left : Int) (k : (Int) → PM.R) : PM.R :=
  c_199 a_Cells left (fun r1 =>
    bif (A.lt r1 0) then
      k (-1)
    else
      k r1)
noncomputable def laws_szMem (A : PM.Prims) : laws_szMem_T := laws_szMem_f A (laws_szWordS A)
noncomputable def laws_szMem_L (A : PM.Prims) (c_199 : laws_szWordS_T) (n : Nat) : PM.Lam := fun cur σ K =>
  match cur, σ, K with
  | _, _, _ => none
noncomputable def laws_szMem_E (A : PM.Prims) (c_199 : laws_szWordS_T) : PM.Env := ⟨[(199, ⟨[], laws_szWordS_w c_199, none⟩)], [], [], [(0, [1, 2]), (1, [1]), (2, [1, 10]), (3, [4]), (4, [4])], laws_szMem_L A c_199 A.fuel⟩
theorem laws_szMem_ok (A : PM.Prims) (c_199 : laws_szWordS_T) (a_Clock : Int) (a_Cells : List (List Int)) (left : Int) (k : PM.V → PM.R) : PM.pfun A cx [] (laws_szMem_E A c_199) Go.Proofs.Try.f108 [.agg [.int .i64 a_Clock, .arr (.vecs 354 3 a_Cells)], .int .i64 left] k = laws_szMem_f A c_199 a_Clock a_Cells left (fun r0 => k (.int .i64 r0)) := by kernel_rfl

theorem laws_szMem_fn : PM.FnIs Try.prog 108 Try.f108 := .of Try.func108 (by kernel_rfl) (by kernel_rfl)
theorem laws_szMem_g : PM.GOk Try.prog cx 108 ⟨[], laws_szMem_w (laws_szMem PM.std), none⟩ := by
  refine ⟨laws_szMem_fn.enter, fun _ ds k r h => ?_, fun hm => absurd rfl hm, fun _ e => (by cases e)⟩
  change laws_szMem_w (laws_szMem PM.std) ds k = some r at h
  unfold laws_szMem_w at h
  split at h
  · exact PM.pfun_ok (E := laws_szMem_E PM.std (laws_szWordS PM.std)) (L := fun n => laws_szMem_L PM.std (laws_szWordS PM.std) n) (N := PM.std.fuel) cx_ok (.cons laws_szWordS_g .nil) mixed .nil laws_szMem_fn (by kernel_rfl) ⟨rfl, fun _ _ _ => rfl, fun n cur σ K r h => by cases h⟩
      ((laws_szMem_ok PM.std (laws_szWordS PM.std) _ _ _ k).trans h)
  · cases h

abbrev laws_szCommit_T := (Int) → (Int) → (Int) → (Int) → (Int) → (List (List Int)) → (List Int) → (Int) → ((Int) → PM.R) → PM.R
noncomputable def laws_szCommit_w (c : laws_szCommit_T) (ds : List PM.V) (k : PM.V → PM.R) : PM.R :=
  match ds with
  | [.agg [.int .i64 a_Who, .int .i64 a_Rv, .int .i64 a_Phase, .int .i64 a_At, .int .i64 a_Wv, .arr (.vecs 297 2 a_Puts), .arr (.ints 3 .i64 a_Reads)], .int .i64 left] => c a_Who a_Rv a_Phase a_At a_Wv a_Puts a_Reads left (fun r0 => k (.int .i64 r0))
  | _ => none
noncomputable def laws_szCommit_f (A : PM.Prims) (c_146 : laws_szIntS_T) (c_147 : laws_szRowS_T) (a_Who : Int) (a_Rv : Int) (a_Phase : Int) (a_At : Int) (a_Wv : Int) (a_Puts : List (List Int)) (a_Reads : List Int) (left : Int) (k : (Int) → PM.R) : PM.R :=
  c_147 a_Puts left (fun r1 =>
    bif (A.lt r1 0) then
      k (-1)
    else
      c_146 a_Reads r1 (fun r2 =>
        bif (A.lt r2 0) then
          k (-1)
        else
          k r2))
noncomputable def laws_szCommit (A : PM.Prims) : laws_szCommit_T := laws_szCommit_f A (laws_szIntS A) (laws_szRowS A)
noncomputable def laws_szCommit_L (A : PM.Prims) (c_146 : laws_szIntS_T) (c_147 : laws_szRowS_T) (n : Nat) : PM.Lam := fun cur σ K =>
  match cur, σ, K with
  | _, _, _ => none
noncomputable def laws_szCommit_E (A : PM.Prims) (c_146 : laws_szIntS_T) (c_147 : laws_szRowS_T) : PM.Env := ⟨[(146, ⟨[], laws_szIntS_w c_146, none⟩), (147, ⟨[], laws_szRowS_w c_147, none⟩)], [], [], [(0, [1, 2]), (1, [1, 2]), (2, [1, 2, 10]), (3, [4]), (4, [1]), (5, [1, 16]), (6, [4]), (7, [4])], laws_szCommit_L A c_146 c_147 A.fuel⟩
theorem laws_szCommit_ok (A : PM.Prims) (c_146 : laws_szIntS_T) (c_147 : laws_szRowS_T) (a_Who : Int) (a_Rv : Int) (a_Phase : Int) (a_At : Int) (a_Wv : Int) (a_Puts : List (List Int)) (a_Reads : List Int) (left : Int) (k : PM.V → PM.R) : PM.pfun A cx [] (laws_szCommit_E A c_146 c_147) Go.Proofs.Try.f265 [.agg [.int .i64 a_Who, .int .i64 a_Rv, .int .i64 a_Phase, .int .i64 a_At, .int .i64 a_Wv, .arr (.vecs 297 2 a_Puts), .arr (.ints 3 .i64 a_Reads)], .int .i64 left] k = laws_szCommit_f A c_146 c_147 a_Who a_Rv a_Phase a_At a_Wv a_Puts a_Reads left (fun r0 => k (.int .i64 r0)) := by kernel_rfl

theorem laws_szCommit_fn : PM.FnIs Try.prog 265 Try.f265 := .of Try.func265 (by kernel_rfl) (by kernel_rfl)
theorem laws_szCommit_g : PM.GOk Try.prog cx 265 ⟨[], laws_szCommit_w (laws_szCommit PM.std), none⟩ := by
  refine ⟨laws_szCommit_fn.enter, fun _ ds k r h => ?_, fun hm => absurd rfl hm, fun _ e => (by cases e)⟩
  change laws_szCommit_w (laws_szCommit PM.std) ds k = some r at h
  unfold laws_szCommit_w at h
  split at h
  · exact PM.pfun_ok (E := laws_szCommit_E PM.std (laws_szIntS PM.std) (laws_szRowS PM.std)) (L := fun n => laws_szCommit_L PM.std (laws_szIntS PM.std) (laws_szRowS PM.std) n) (N := PM.std.fuel) cx_ok (.cons laws_szIntS_g (.cons laws_szRowS_g .nil)) mixed .nil laws_szCommit_fn (by kernel_rfl) ⟨rfl, fun _ _ _ => rfl, fun n cur σ K r h => by cases h⟩
      ((laws_szCommit_ok PM.std (laws_szIntS PM.std) (laws_szRowS PM.std) _ _ _ _ _ _ _ _ k).trans h)
  · cases h

abbrev laws_szJobRun_T := (Int) → (Int) → (Int) → (Int) → (Int) → (List (List Int)) → (Bool) → (Int) → (Int) → (Int) → (Int) → (Int) → (Int) → (Int) → (Int) → (Int) → (List (List Int)) → (List Int) → (Int) → ((Int) → PM.R) → PM.R
noncomputable def laws_szJobRun_w (c : laws_szJobRun_T) (ds : List PM.V) (k : PM.V → PM.R) : PM.R :=
  match ds with
  | [.agg [.int .i64 a_Phase, .int .i64 a_Tries, .int .i64 a_Rv, .int .i64 a_At, .int .i64 a_Stamp, .arr (.vecs 297 2 a_Seen), .bool a_Busy, .int .i64 a_Probe_Cell, .int .i64 a_Probe_Phase, .int .i64 a_Probe_Ver, .int .i64 a_Probe_Val, .int .i64 a_Commit_Who, .int .i64 a_Commit_Rv, .int .i64 a_Commit_Phase, .int .i64 a_Commit_At, .int .i64 a_Commit_Wv, .arr (.vecs 297 2 a_Commit_Puts), .arr (.ints 3 .i64 a_Commit_Reads)], .int .i64 left] => c a_Phase a_Tries a_Rv a_At a_Stamp a_Seen a_Busy a_Probe_Cell a_Probe_Phase a_Probe_Ver a_Probe_Val a_Commit_Who a_Commit_Rv a_Commit_Phase a_Commit_At a_Commit_Wv a_Commit_Puts a_Commit_Reads left (fun r0 => k (.int .i64 r0))
  | _ => none
noncomputable def laws_szJobRun_f (A : PM.Prims) (c_147 : laws_szRowS_T) (c_265 : laws_szCommit_T) (a_Phase : Int) (a_Tries : Int) (a_Rv : Int) (a_At : Int) (a_Stamp : Int) (a_Seen : List (List Int)) (a_Busy : Bool) (a_Probe_Cell : Int) (a_Probe_Phase : Int) (a_Probe_Ver : Int) (a_Probe_Val : Int) (a_Commit_Who : Int) (a_Commit_Rv : Int) (a_Commit_Phase : Int) (a_Commit_At : Int) (a_Commit_Wv : Int) (a_Commit_Puts : List (List Int)) (a_Commit_Reads : List Int) (left : Int) (k : (Int) → PM.R) : PM.R :=
  c_147 a_Seen left (fun r1 =>
    bif (A.lt r1 0) then
      k (-1)
    else
      c_265 a_Commit_Who a_Commit_Rv a_Commit_Phase a_Commit_At a_Commit_Wv a_Commit_Puts a_Commit_Reads r1 (fun r2 =>
        bif (A.lt r2 0) then
          k (-1)
        else
          k r2))
noncomputable def laws_szJobRun (A : PM.Prims) : laws_szJobRun_T := laws_szJobRun_f A (laws_szRowS A) (laws_szCommit A)
noncomputable def laws_szJobRun_L (A : PM.Prims) (c_147 : laws_szRowS_T) (c_265 : laws_szCommit_T) (n : Nat) : PM.Lam := fun cur σ K =>
  match cur, σ, K with
  | _, _, _ => none
noncomputable def laws_szJobRun_E (A : PM.Prims) (c_147 : laws_szRowS_T) (c_265 : laws_szCommit_T) : PM.Env := ⟨[(147, ⟨[], laws_szRowS_w c_147, none⟩), (265, ⟨[], laws_szCommit_w c_265, none⟩)], [], [], [(0, [1, 2]), (1, [1, 2]), (2, [1, 2, 10]), (3, [4]), (4, [1]), (5, [1, 16]), (6, [4]), (7, [4])], laws_szJobRun_L A c_147 c_265 A.fuel⟩
theorem laws_szJobRun_ok (A : PM.Prims) (c_147 : laws_szRowS_T) (c_265 : laws_szCommit_T) (a_Phase : Int) (a_Tries : Int) (a_Rv : Int) (a_At : Int) (a_Stamp : Int) (a_Seen : List (List Int)) (a_Busy : Bool) (a_Probe_Cell : Int) (a_Probe_Phase : Int) (a_Probe_Ver : Int) (a_Probe_Val : Int) (a_Commit_Who : Int) (a_Commit_Rv : Int) (a_Commit_Phase : Int) (a_Commit_At : Int) (a_Commit_Wv : Int) (a_Commit_Puts : List (List Int)) (a_Commit_Reads : List Int) (left : Int) (k : PM.V → PM.R) : PM.pfun A cx [] (laws_szJobRun_E A c_147 c_265) Go.Proofs.Try.f208 [.agg [.int .i64 a_Phase, .int .i64 a_Tries, .int .i64 a_Rv, .int .i64 a_At, .int .i64 a_Stamp, .arr (.vecs 297 2 a_Seen), .bool a_Busy, .int .i64 a_Probe_Cell, .int .i64 a_Probe_Phase, .int .i64 a_Probe_Ver, .int .i64 a_Probe_Val, .int .i64 a_Commit_Who, .int .i64 a_Commit_Rv, .int .i64 a_Commit_Phase, .int .i64 a_Commit_At, .int .i64 a_Commit_Wv, .arr (.vecs 297 2 a_Commit_Puts), .arr (.ints 3 .i64 a_Commit_Reads)], .int .i64 left] k = laws_szJobRun_f A c_147 c_265 a_Phase a_Tries a_Rv a_At a_Stamp a_Seen a_Busy a_Probe_Cell a_Probe_Phase a_Probe_Ver a_Probe_Val a_Commit_Who a_Commit_Rv a_Commit_Phase a_Commit_At a_Commit_Wv a_Commit_Puts a_Commit_Reads left (fun r0 => k (.int .i64 r0)) := by kernel_rfl

theorem laws_szJobRun_fn : PM.FnIs Try.prog 208 Try.f208 := .of Try.func208 (by kernel_rfl) (by kernel_rfl)
theorem laws_szJobRun_g : PM.GOk Try.prog cx 208 ⟨[], laws_szJobRun_w (laws_szJobRun PM.std), none⟩ := by
  refine ⟨laws_szJobRun_fn.enter, fun _ ds k r h => ?_, fun hm => absurd rfl hm, fun _ e => (by cases e)⟩
  change laws_szJobRun_w (laws_szJobRun PM.std) ds k = some r at h
  unfold laws_szJobRun_w at h
  split at h
  · exact PM.pfun_ok (E := laws_szJobRun_E PM.std (laws_szRowS PM.std) (laws_szCommit PM.std)) (L := fun n => laws_szJobRun_L PM.std (laws_szRowS PM.std) (laws_szCommit PM.std) n) (N := PM.std.fuel) cx_ok (.cons laws_szRowS_g (.cons laws_szCommit_g .nil)) mixed .nil laws_szJobRun_fn (by kernel_rfl) ⟨rfl, fun _ _ _ => rfl, fun n cur σ K r h => by cases h⟩
      ((laws_szJobRun_ok PM.std (laws_szRowS PM.std) (laws_szCommit PM.std) _ _ _ _ _ _ _ _ _ _ _ _ _ _ _ _ _ _ _ k).trans h)
  · cases h

abbrev laws_szJobRunS_T := (List (List PM.C)) → (Int) → ((Int) → PM.R) → PM.R
noncomputable def laws_szJobRunS_w (c : laws_szJobRunS_T) (ds : List PM.V) (k : PM.V → PM.R) : PM.R :=
  match ds with
  | [.arr (.rows 285 a), .int .i64 left] => c a left (fun r0 => k (.int .i64 r0))
  | _ => none
noncomputable def laws_szJobRunS_l0 (A : PM.Prims) (c_208 : laws_szJobRun_T) : Nat → (List (List C)) → (Int) → (Int) → ((Int) → PM.R) → ((Int) → PM.R) → PM.R
  | 0, _, _, _, _, _ => none
  | n + 1, a1, left2, i3, kret_0, kx0_0 =>
    bif (A.lt i3 (A.rlen a1)) then
      bif (A.inb i3 (A.rlen a1)) then
        c_208 (A.rint a1 i3 0) (A.rint a1 i3 1) (A.rint a1 i3 2) (A.rint a1 i3 3) (A.rint a1 i3 4) (A.rsv 2 a1 i3 5) (A.rbool a1 i3 6) (A.rint a1 i3 7) (A.rint a1 i3 8) (A.rint a1 i3 9) (A.rint a1 i3 10) (A.rint a1 i3 11) (A.rint a1 i3 12) (A.rint a1 i3 13) (A.rint a1 i3 14) (A.rint a1 i3 15) (A.rsv 2 a1 i3 16) (A.rsi a1 i3 17) left2 (fun r4 =>
          bif (A.lt r4 0) then
            kret_0 (-1)
          else
            laws_szJobRunS_l0 A c_208 n a1 r4 (A.add .i64 i3 1) kret_0 kx0_0)
      else
        none
    else
      kx0_0 left2
noncomputable def laws_szJobRunS_f (A : PM.Prims) (c_208 : laws_szJobRun_T) (a : List (List PM.C)) (left : Int) (k : (Int) → PM.R) : PM.R :=
  bif (A.lt (A.sub .i64 left (A.rlen a)) 0) then
    k (-1)
  else
    laws_szJobRunS_l0 A c_208 A.fuel a (A.sub .i64 left (A.rlen a)) 0 (fun t457 =>
      k t457) (fun left68 =>
      k left68)
noncomputable def laws_szJobRunS (A : PM.Prims) : laws_szJobRunS_T := laws_szJobRunS_f A (laws_szJobRun A)
noncomputable def laws_szJobRunS_L (A : PM.Prims) (c_208 : laws_szJobRun_T) (n : Nat) : PM.Lam := fun cur σ K =>
  match cur, σ, K with
  | 0, ⟨[(0, .arr (.rows 285 a1)), (1, .int .i64 left2), (5, .int .i64 i3)], []⟩, K => laws_szJobRunS_l0 A c_208 n a1 left2 i3 (fun t45 => K .ret ⟨[(4, .int .i64 t45)], []⟩) (fun left6 => K (.exit 0) ⟨[(1, .int .i64 left6)], []⟩)
  | _, _, _ => none
noncomputable def laws_szJobRunS_E (A : PM.Prims) (c_208 : laws_szJobRun_T) : PM.Env := ⟨[(208, ⟨[], laws_szJobRun_w c_208, none⟩)], [], [(0, [0, 1, 5], [1, 4])], [(0, [0, 1]), (1, [0, 1]), (2, [0, 1, 11]), (3, [4]), (4, [0, 1, 5]), (5, [0, 1, 5, 15]), (6, [0, 1, 5]), (7, [0, 1, 5]), (8, [0, 1, 5, 25]), (9, [4]), (10, [4])], laws_szJobRunS_L A c_208 A.fuel⟩
theorem laws_szJobRunS_l0_ok (A : PM.Prims) (c_208 : laws_szJobRun_T) (n : Nat) (a1 : List (List C)) (left2 : Int) (i3 : Int) (K : Go.Exit → PM.S → PM.R) : laws_szJobRunS_L A c_208 (n + 1) 0 ⟨[(0, .arr (.rows 285 a1)), (1, .int .i64 left2), (5, .int .i64 i3)], []⟩ K = PM.roundF A cx (PM.runD A cx (laws_szJobRunS_E A c_208).inl (laws_szJobRunS_E A c_208).Γ 3) (laws_szJobRunS_E A c_208) (laws_szJobRunS_L A c_208 n) 0 Go.Proofs.Try.f122 ⟨[(0, .arr (.rows 285 a1)), (1, .int .i64 left2), (5, .int .i64 i3)], []⟩ K := by kernel_rfl
theorem laws_szJobRunS_ok (A : PM.Prims) (c_208 : laws_szJobRun_T) (a : List (List PM.C)) (left : Int) (k : PM.V → PM.R) : PM.pfun A cx [] (laws_szJobRunS_E A c_208) Go.Proofs.Try.f122 [.arr (.rows 285 a), .int .i64 left] k = laws_szJobRunS_f A c_208 a left (fun r0 => k (.int .i64 r0)) := by kernel_rfl

theorem laws_szJobRunS_fn : PM.FnIs Try.prog 122 Try.f122 := .of Try.func122 (by kernel_rfl) (by kernel_rfl)
theorem laws_szJobRunS_g : PM.GOk Try.prog cx 122 ⟨[], laws_szJobRunS_w (laws_szJobRunS PM.std), none⟩ := by
  refine ⟨laws_szJobRunS_fn.enter, fun _ ds k r h => ?_, fun hm => absurd rfl hm, fun _ e => (by cases e)⟩
  change laws_szJobRunS_w (laws_szJobRunS PM.std) ds k = some r at h
  unfold laws_szJobRunS_w at h
  split at h
  · exact PM.pfun_ok (E := laws_szJobRunS_E PM.std (laws_szJobRun PM.std)) (L := fun n => laws_szJobRunS_L PM.std (laws_szJobRun PM.std) n) (N := PM.std.fuel) cx_ok (.cons laws_szJobRun_g .nil) mixed .nil laws_szJobRunS_fn (by kernel_rfl) ⟨rfl, fun cur σ K => by
      dsimp only [laws_szJobRunS_L]
      split <;> rfl, fun n cur σ K r h => by
      dsimp only [laws_szJobRunS_L] at h
      split at h
      · exact (laws_szJobRunS_l0_ok PM.std (laws_szJobRun PM.std) n _ _ _ K).symm.trans h
      · cases h⟩
      ((laws_szJobRunS_ok PM.std (laws_szJobRun PM.std) _ _ k).trans h)
  · cases h

abbrev laws_szDuel_T := (Int) → (List (List Int)) → (List (List PM.C)) → (List (List PM.C)) → (Int) → ((Int) → PM.R) → PM.R
noncomputable def laws_szDuel_w (c : laws_szDuel_T) (ds : List PM.V) (k : PM.V → PM.R) : PM.R :=
  match ds with
  | [.agg [.int .i64 a_Mem_Clock, .arr (.vecs 354 3 a_Mem_Cells), .arr (.rows 285 a_Jobs), .arr (.rows 195 a_Hist)], .int .i64 left] => c a_Mem_Clock a_Mem_Cells a_Jobs a_Hist left (fun r0 => k (.int .i64 r0))
  | _ => none
noncomputable def laws_szDuel_f (A : PM.Prims) (c_108 : laws_szMem_T) (c_42 : laws_szWroteS_T) (c_122 : laws_szJobRunS_T) (a_Mem_Clock : Int) (a_Mem_Cells : List (List Int)) (a_Jobs : List (List PM.C)) (a_Hist : List (List PM.C)) (left : Int) (k : (Int) → PM.R) : PM.R :=
  c_108 a_Mem_Clock a_Mem_Cells left (fun r1 =>
    bif (A.lt r1 0) then
      k (-1)
    else
      c_122 a_Jobs r1 (fun r2 =>
        bif (A.lt r2 0) then
          k (-1)
        else
          c_42 a_Hist r2 (fun r3 =>
            bif (A.lt r3 0) then
              k (-1)
            else
              k r3)))
noncomputable def laws_szDuel (A : PM.Prims) : laws_szDuel_T := laws_szDuel_f A (laws_szMem A) (laws_szWroteS A) (laws_szJobRunS A)
noncomputable def laws_szDuel_L (A : PM.Prims) (c_108 : laws_szMem_T) (c_42 : laws_szWroteS_T) (c_122 : laws_szJobRunS_T) (n : Nat) : PM.Lam := fun cur σ K =>
  match cur, σ, K with
  | _, _, _ => none
noncomputable def laws_szDuel_E (A : PM.Prims) (c_108 : laws_szMem_T) (c_42 : laws_szWroteS_T) (c_122 : laws_szJobRunS_T) : PM.Env := ⟨[(108, ⟨[], laws_szMem_w c_108, none⟩), (42, ⟨[], laws_szWroteS_w c_42, none⟩), (122, ⟨[], laws_szJobRunS_w c_122, none⟩)], [], [], [(0, [1, 2]), (1, [1, 2]), (2, [1, 2, 10]), (3, [4]), (4, [1, 2]), (5, [1, 2, 16]), (6, [4]), (7, [1]), (8, [1, 22]), (9, [4]), (10, [4])], laws_szDuel_L A c_108 c_42 c_122 A.fuel⟩
theorem laws_szDuel_ok (A : PM.Prims) (c_108 : laws_szMem_T) (c_42 : laws_szWroteS_T) (c_122 : laws_szJobRunS_T) (a_Mem_Clock : Int) (a_Mem_Cells : List (List Int)) (a_Jobs : List (List PM.C)) (a_Hist : List (List PM.C)) (left : Int) (k : PM.V → PM.R) : PM.pfun A cx [] (laws_szDuel_E A c_108 c_42 c_122) Go.Proofs.Try.f35 [.agg [.int .i64 a_Mem_Clock, .arr (.vecs 354 3 a_Mem_Cells), .arr (.rows 285 a_Jobs), .arr (.rows 195 a_Hist)], .int .i64 left] k = laws_szDuel_f A c_108 c_42 c_122 a_Mem_Clock a_Mem_Cells a_Jobs a_Hist left (fun r0 => k (.int .i64 r0)) := by kernel_rfl

theorem laws_szDuel_fn : PM.FnIs Try.prog 35 Try.f35 := .of Try.func35 (by kernel_rfl) (by kernel_rfl)
theorem laws_szDuel_g : PM.GOk Try.prog cx 35 ⟨[], laws_szDuel_w (laws_szDuel PM.std), none⟩ := by
  refine ⟨laws_szDuel_fn.enter, fun _ ds k r h => ?_, fun hm => absurd rfl hm, fun _ e => (by cases e)⟩
  change laws_szDuel_w (laws_szDuel PM.std) ds k = some r at h
  unfold laws_szDuel_w at h
  split at h
  · exact PM.pfun_ok (E := laws_szDuel_E PM.std (laws_szMem PM.std) (laws_szWroteS PM.std) (laws_szJobRunS PM.std)) (L := fun n => laws_szDuel_L PM.std (laws_szMem PM.std) (laws_szWroteS PM.std) (laws_szJobRunS PM.std) n) (N := PM.std.fuel) cx_ok (.cons laws_szMem_g (.cons laws_szWroteS_g (.cons laws_szJobRunS_g .nil))) mixed .nil laws_szDuel_fn (by kernel_rfl) ⟨rfl, fun _ _ _ => rfl, fun n cur σ K r h => by cases h⟩
      ((laws_szDuel_ok PM.std (laws_szMem PM.std) (laws_szWroteS PM.std) (laws_szJobRunS PM.std) _ _ _ _ _ k).trans h)
  · cases h

abbrev laws_toWord_T := (Int) → (Int) → (Int) → ((Int) → (Int) → (Int) → PM.R) → PM.R
noncomputable def laws_toWord_w (c : laws_toWord_T) (ds : List PM.V) (k : PM.V → PM.R) : PM.R :=
  match ds with
  | [.agg [.int .i64 a_Val, .int .i64 a_Ver, .int .i64 a_Owner]] => c a_Val a_Ver a_Owner (fun r0_Val r0_Ver r0_Owner => k (.agg [.int .i64 r0_Val, .int .i64 r0_Ver, .int .i64 r0_Owner]))
  | _ => none
noncomputable def laws_toWord_f (A : PM.Prims) (a_Val : Int) (a_Ver : Int) (a_Owner : Int) (k : (Int) → (Int) → (Int) → PM.R) : PM.R :=
  k a_Val a_Ver a_Owner
noncomputable def laws_toWord (A : PM.Prims) : laws_toWord_T := laws_toWord_f A
noncomputable def laws_toWord_L (A : PM.Prims) (n : Nat) : PM.Lam := fun cur σ K =>
  match cur, σ, K with
  | _, _, _ => none
noncomputable def laws_toWord_E (A : PM.Prims) : PM.Env := ⟨[], [], [], [(0, [1, 2]), (1, [1, 2, 3]), (2, [1, 2, 3]), (3, [1, 2, 3]), (4, [2, 3]), (5, [2])], laws_toWord_L A A.fuel⟩
theorem laws_toWord_ok (A : PM.Prims) (a_Val : Int) (a_Ver : Int) (a_Owner : Int) (k : PM.V → PM.R) : PM.pfun A cx [] (laws_toWord_E A) Go.Proofs.Try.f266 [.agg [.int .i64 a_Val, .int .i64 a_Ver, .int .i64 a_Owner]] k = laws_toWord_f A a_Val a_Ver a_Owner (fun r0_Val r0_Ver r0_Owner => k (.agg [.int .i64 r0_Val, .int .i64 r0_Ver, .int .i64 r0_Owner])) := by kernel_rfl

theorem laws_toWord_fn : PM.FnIs Try.prog 266 Try.f266 := .of Try.func266 (by kernel_rfl) (by kernel_rfl)
theorem laws_toWord_g : PM.GOk Try.prog cx 266 ⟨[], laws_toWord_w (laws_toWord PM.std), none⟩ := by
  refine ⟨laws_toWord_fn.enter, fun _ ds k r h => ?_, fun hm => absurd rfl hm, fun _ e => (by cases e)⟩
  change laws_toWord_w (laws_toWord PM.std) ds k = some r at h
  unfold laws_toWord_w at h
  split at h
  · exact PM.pfun_ok (E := laws_toWord_E PM.std) (L := fun n => laws_toWord_L PM.std n) (N := PM.std.fuel) cx_ok .nil mixed .nil laws_toWord_fn (by kernel_rfl) ⟨rfl, fun _ _ _ => rfl, fun n cur σ K r h => by cases h⟩
      ((laws_toWord_ok PM.std _ _ _ k).trans h)
  · cases h

abbrev laws_toWordS_T := (List (List Int)) → ((List (List Int)) → PM.R) → PM.R
noncomputable def laws_toWordS_w (c : laws_toWordS_T) (ds : List PM.V) (k : PM.V → PM.R) : PM.R :=
  match ds with
  | [.arr (.vecs 354 3 a)] => c a (fun r0 => k (.arr (.vecs 287 3 r0)))
  | _ => none
noncomputable def laws_toWordS_l0 (A : PM.Prims) (c_266 : laws_toWord_T) : Nat → (List (List Int)) → (Int) → (List (List Int)) → ((List (List Int)) → PM.R) → PM.R
  | 0, _, _, _, _ => none
  | n + 1, a1, i2, o03, kx0_0 =>
    bif (A.lt i2 (A.vlen a1)) then
      bif (A.inb i2 (A.vlen a1)) then
        c_266 (A.vget a1 i2 0) (A.vget a1 i2 1) (A.vget a1 i2 2) (fun r4 r5 r6 =>
          bif (A.inb i2 (A.vlen o03)) then
            laws_toWordS_l0 A c_266 n a1 (A.add .i64 i2 1) (A.vput o03 i2 [r4, r5, r6]) kx0_0
          else
            none)
      else
        none
    else
      kx0_0 o03
noncomputable def laws_toWordS_f (A : PM.Prims) (c_266 : laws_toWord_T) (a : List (List Int)) (k : (List (List Int)) → PM.R) : PM.R :=
  bif (A.mkOk (A.vlen a)) then
    bif (A.le (A.vlen a) (A.vlen a)) then
      bif (A.mkOk (A.vlen a)) then
        laws_toWordS_l0 A c_266 A.fuel a 0 (A.vzero 3 (A.vlen a)) (fun o078 =>
          k o078)
      else
        none
    else
      none
  else
    none
noncomputable def laws_toWordS (A : PM.Prims) : laws_toWordS_T := laws_toWordS_f A (laws_toWord A)
noncomputable def laws_toWordS_L (A : PM.Prims) (c_266 : laws_toWord_T) (n : Nat) : PM.Lam := fun cur σ K =>
  match cur, σ, K with
  | 0, ⟨[(0, .arr (.vecs 354 3 a1)), (3, .sref 0), (4, .int .i64 i2)], [(0, .arr true (.vecs 287 3 o03))]⟩, K => laws_toWordS_l0 A c_266 n a1 i2 o03 (fun o07 => K (.exit 0) ⟨[(3, .sref 0)], [(0, .arr true (.vecs 287 3 o07))]⟩)
  | _, _, _ => none
noncomputable def laws_toWordS_E (A : PM.Prims) (c_266 : laws_toWord_T) : PM.Env := ⟨[(266, ⟨[], laws_toWord_w c_266, none⟩)], [], [(0, [0, 3, 4], [2, 3])], [(0, [0]), (1, [0, 3]), (2, [0, 3, 4]), (3, [0, 3, 4, 11]), (4, [0, 3, 4]), (5, [0, 3, 4]), (6, [2])], laws_toWordS_L A c_266 A.fuel⟩
theorem laws_toWordS_l0_ok (A : PM.Prims) (c_266 : laws_toWord_T) (n : Nat) (a1 : List (List Int)) (i2 : Int) (o03 : List (List Int)) (K : Go.Exit → PM.S → PM.R) : laws_toWordS_L A c_266 (n + 1) 0 ⟨[(0, .arr (.vecs 354 3 a1)), (3, .sref 0), (4, .int .i64 i2)], [(0, .arr true (.vecs 287 3 o03))]⟩ K = PM.roundF A cx (PM.runD A cx (laws_toWordS_E A c_266).inl (laws_toWordS_E A c_266).Γ 3) (laws_toWordS_E A c_266) (laws_toWordS_L A c_266 n) 0 Go.Proofs.Try.f201 ⟨[(0, .arr (.vecs 354 3 a1)), (3, .sref 0), (4, .int .i64 i2)], [(0, .arr true (.vecs 287 3 o03))]⟩ K := by kernel_rfl
theorem laws_toWordS_ok (A : PM.Prims) (c_266 : laws_toWord_T) (a : List (List Int)) (k : PM.V → PM.R) : PM.pfun A cx [] (laws_toWordS_E A c_266) Go.Proofs.Try.f201 [.arr (.vecs 354 3 a)] k = laws_toWordS_f A c_266 a (fun r0 => k (.arr (.vecs 287 3 r0))) := by kernel_rfl

theorem laws_toWordS_fn : PM.FnIs Try.prog 201 Try.f201 := .of Try.func201 (by kernel_rfl) (by kernel_rfl)
theorem laws_toWordS_g : PM.GOk Try.prog cx 201 ⟨[], laws_toWordS_w (laws_toWordS PM.std), none⟩ := by
  refine ⟨laws_toWordS_fn.enter, fun _ ds k r h => ?_, fun hm => absurd rfl hm, fun _ e => (by cases e)⟩
  change laws_toWordS_w (laws_toWordS PM.std) ds k = some r at h
  unfold laws_toWordS_w at h
  split at h
  · exact PM.pfun_ok (E := laws_toWordS_E PM.std (laws_toWord PM.std)) (L := fun n => laws_toWordS_L PM.std (laws_toWord PM.std) n) (N := PM.std.fuel) cx_ok (.cons laws_toWord_g .nil) mixed .nil laws_toWordS_fn (by kernel_rfl) ⟨rfl, fun cur σ K => by
      dsimp only [laws_toWordS_L]
      split <;> rfl, fun n cur σ K r h => by
      dsimp only [laws_toWordS_L] at h
      split at h
      · exact (laws_toWordS_l0_ok PM.std (laws_toWord PM.std) n _ _ _ K).symm.trans h
      · cases h⟩
      ((laws_toWordS_ok PM.std (laws_toWord PM.std) _ k).trans h)
  · cases h

abbrev laws_toMem_T := (Int) → (List (List Int)) → ((Int) → (List (List Int)) → PM.R) → PM.R
noncomputable def laws_toMem_w (c : laws_toMem_T) (ds : List PM.V) (k : PM.V → PM.R) : PM.R :=
  match ds with
  | [.agg [.int .i64 a_Clock, .arr (.vecs 354 3 a_Cells)]] => c a_Clock a_Cells (fun r0_Clock r0_Cells => k (.agg [.int .i64 r0_Clock, .arr (.vecs 287 3 r0_Cells)]))
  | _ => none
noncomputable def laws_toMem_f (A : PM.Prims) (c_201 : laws_toWordS_T) (a_Clock : Int) (a_Cells : List (List Int)) (k : (Int) → (List (List Int)) → PM.R) : PM.R :=
  c_201 a_Cells (fun r1 =>
    k a_Clock r1)
noncomputable def laws_toMem (A : PM.Prims) : laws_toMem_T := laws_toMem_f A (laws_toWordS A)
noncomputable def laws_toMem_L (A : PM.Prims) (c_201 : laws_toWordS_T) (n : Nat) : PM.Lam := fun cur σ K =>
  match cur, σ, K with
  | _, _, _ => none
noncomputable def laws_toMem_E (A : PM.Prims) (c_201 : laws_toWordS_T) : PM.Env := ⟨[(201, ⟨[], laws_toWordS_w c_201, none⟩)], [], [], [(0, [1, 2]), (1, [1, 2, 3]), (2, [1, 2, 3]), (3, [2, 3]), (4, [2])], laws_toMem_L A c_201 A.fuel⟩
theorem laws_toMem_ok (A : PM.Prims) (c_201 : laws_toWordS_T) (a_Clock : Int) (a_Cells : List (List Int)) (k : PM.V → PM.R) : PM.pfun A cx [] (laws_toMem_E A c_201) Go.Proofs.Try.f112 [.agg [.int .i64 a_Clock, .arr (.vecs 354 3 a_Cells)]] k = laws_toMem_f A c_201 a_Clock a_Cells (fun r0_Clock r0_Cells => k (.agg [.int .i64 r0_Clock, .arr (.vecs 287 3 r0_Cells)])) := by kernel_rfl

theorem laws_toMem_fn : PM.FnIs Try.prog 112 Try.f112 := .of Try.func112 (by kernel_rfl) (by kernel_rfl)
theorem laws_toMem_g : PM.GOk Try.prog cx 112 ⟨[], laws_toMem_w (laws_toMem PM.std), none⟩ := by
  refine ⟨laws_toMem_fn.enter, fun _ ds k r h => ?_, fun hm => absurd rfl hm, fun _ e => (by cases e)⟩
  change laws_toMem_w (laws_toMem PM.std) ds k = some r at h
  unfold laws_toMem_w at h
  split at h
  · exact PM.pfun_ok (E := laws_toMem_E PM.std (laws_toWordS PM.std)) (L := fun n => laws_toMem_L PM.std (laws_toWordS PM.std) n) (N := PM.std.fuel) cx_ok (.cons laws_toWordS_g .nil) mixed .nil laws_toMem_fn (by kernel_rfl) ⟨rfl, fun _ _ _ => rfl, fun n cur σ K r h => by cases h⟩
      ((laws_toMem_ok PM.std (laws_toWordS PM.std) _ _ k).trans h)
  · cases h

abbrev laws_toProbe_T := (Int) → (Int) → (Int) → (Int) → ((Int) → (Int) → (Int) → (Int) → PM.R) → PM.R
noncomputable def laws_toProbe_w (c : laws_toProbe_T) (ds : List PM.V) (k : PM.V → PM.R) : PM.R :=
  match ds with
  | [.agg [.int .i64 a_Cell, .int .i64 a_Phase, .int .i64 a_Ver, .int .i64 a_Val]] => c a_Cell a_Phase a_Ver a_Val (fun r0_Cell r0_Phase r0_Ver r0_Val => k (.agg [.int .i64 r0_Cell, .int .i64 r0_Phase, .int .i64 r0_Ver, .int .i64 r0_Val]))
  | _ => none
noncomputable def laws_toProbe_f (A : PM.Prims) (a_Cell : Int) (a_Phase : Int) (a_Ver : Int) (a_Val : Int) (k : (Int) → (Int) → (Int) → (Int) → PM.R) : PM.R :=
  k a_Cell a_Phase a_Ver a_Val
noncomputable def laws_toProbe (A : PM.Prims) : laws_toProbe_T := laws_toProbe_f A
noncomputable def laws_toProbe_L (A : PM.Prims) (n : Nat) : PM.Lam := fun cur σ K =>
  match cur, σ, K with
  | _, _, _ => none
noncomputable def laws_toProbe_E (A : PM.Prims) : PM.Env := ⟨[], [], [], [(0, [1, 2]), (1, [1, 2, 3]), (2, [1, 2, 3]), (3, [1, 2, 3]), (4, [1, 2, 3]), (5, [2, 3]), (6, [2])], laws_toProbe_L A A.fuel⟩
theorem laws_toProbe_ok (A : PM.Prims) (a_Cell : Int) (a_Phase : Int) (a_Ver : Int) (a_Val : Int) (k : PM.V → PM.R) : PM.pfun A cx [] (laws_toProbe_E A) Go.Proofs.Try.f269 [.agg [.int .i64 a_Cell, .int .i64 a_Phase, .int .i64 a_Ver, .int .i64 a_Val]] k = laws_toProbe_f A a_Cell a_Phase a_Ver a_Val (fun r0_Cell r0_Phase r0_Ver r0_Val => k (.agg [.int .i64 r0_Cell, .int .i64 r0_Phase, .int .i64 r0_Ver, .int .i64 r0_Val])) := by kernel_rfl

theorem laws_toProbe_fn : PM.FnIs Try.prog 269 Try.f269 := .of Try.func269 (by kernel_rfl) (by kernel_rfl)
theorem laws_toProbe_g : PM.GOk Try.prog cx 269 ⟨[], laws_toProbe_w (laws_toProbe PM.std), none⟩ := by
  refine ⟨laws_toProbe_fn.enter, fun _ ds k r h => ?_, fun hm => absurd rfl hm, fun _ e => (by cases e)⟩
  change laws_toProbe_w (laws_toProbe PM.std) ds k = some r at h
  unfold laws_toProbe_w at h
  split at h
  · exact PM.pfun_ok (E := laws_toProbe_E PM.std) (L := fun n => laws_toProbe_L PM.std n) (N := PM.std.fuel) cx_ok .nil mixed .nil laws_toProbe_fn (by kernel_rfl) ⟨rfl, fun _ _ _ => rfl, fun n cur σ K r h => by cases h⟩
      ((laws_toProbe_ok PM.std _ _ _ _ k).trans h)
  · cases h

abbrev laws_toCommit_T := (Int) → (Int) → (Int) → (Int) → (Int) → (List (List Int)) → (List Int) → ((Int) → (Int) → (Int) → (Int) → (Int) → (List (List Int)) → (List Int) → PM.R) → PM.R
noncomputable def laws_toCommit_w (c : laws_toCommit_T) (ds : List PM.V) (k : PM.V → PM.R) : PM.R :=
  match ds with
  | [.agg [.int .i64 a_Who, .int .i64 a_Rv, .int .i64 a_Phase, .int .i64 a_At, .int .i64 a_Wv, .arr (.vecs 297 2 a_Puts), .arr (.ints 3 .i64 a_Reads)]] => c a_Who a_Rv a_Phase a_At a_Wv a_Puts a_Reads (fun r0_Who r0_Rv r0_Phase r0_At r0_Wv r0_Puts r0_Reads => k (.agg [.int .i64 r0_Who, .int .i64 r0_Rv, .int .i64 r0_Phase, .int .i64 r0_At, .int .i64 r0_Wv, .arr (.vecs 161 2 r0_Puts), .arr (.ints 3 .i64 r0_Reads)]))
  | _ => none
noncomputable def laws_toCommit_f (A : PM.Prims) (c_37 : laws_toIntS_T) (c_150 : laws_toRowS_T) (a_Who : Int) (a_Rv : Int) (a_Phase : Int) (a_At : Int) (a_Wv : Int) (a_Puts : List (List Int)) (a_Reads : List Int) (k : (Int) → (Int) → (Int) → (Int) → (Int) → (List (List Int)) → (List Int) → PM.R) : PM.R :=
  c_150 a_Puts (fun r1 =>
    c_37 a_Reads (fun r2 =>
      k a_Who a_Rv a_Phase a_At a_Wv r1 r2))
noncomputable def laws_toCommit (A : PM.Prims) : laws_toCommit_T := laws_toCommit_f A (laws_toIntS A) (laws_toRowS A)
noncomputable def laws_toCommit_L (A : PM.Prims) (c_37 : laws_toIntS_T) (c_150 : laws_toRowS_T) (n : Nat) : PM.Lam := fun cur σ K =>
  match cur, σ, K with
  | _, _, _ => none
noncomputable def laws_toCommit_E (A : PM.Prims) (c_37 : laws_toIntS_T) (c_150 : laws_toRowS_T) : PM.Env := ⟨[(37, ⟨[], laws_toIntS_w c_37, none⟩), (150, ⟨[], laws_toRowS_w c_150, none⟩)], [], [], [(0, [1, 2]), (1, [1, 2, 3]), (2, [1, 2, 3]), (3, [1, 2, 3]), (4, [1, 2, 3]), (5, [1, 2, 3]), (6, [1, 2, 3]), (7, [1, 2, 3]), (8, [2, 3]), (9, [2])], laws_toCommit_L A c_37 c_150 A.fuel⟩
theorem laws_toCommit_ok (A : PM.Prims) (c_37 : laws_toIntS_T) (c_150 : laws_toRowS_T) (a_Who : Int) (a_Rv : Int) (a_Phase : Int) (a_At : Int) (a_Wv : Int) (a_Puts : List (List Int)) (a_Reads : List Int) (k : PM.V → PM.R) : PM.pfun A cx [] (laws_toCommit_E A c_37 c_150) Go.Proofs.Try.f270 [.agg [.int .i64 a_Who, .int .i64 a_Rv, .int .i64 a_Phase, .int .i64 a_At, .int .i64 a_Wv, .arr (.vecs 297 2 a_Puts), .arr (.ints 3 .i64 a_Reads)]] k = laws_toCommit_f A c_37 c_150 a_Who a_Rv a_Phase a_At a_Wv a_Puts a_Reads (fun r0_Who r0_Rv r0_Phase r0_At r0_Wv r0_Puts r0_Reads => k (.agg [.int .i64 r0_Who, .int .i64 r0_Rv, .int .i64 r0_Phase, .int .i64 r0_At, .int .i64 r0_Wv, .arr (.vecs 161 2 r0_Puts), .arr (.ints 3 .i64 r0_Reads)])) := by kernel_rfl

theorem laws_toCommit_fn : PM.FnIs Try.prog 270 Try.f270 := .of Try.func270 (by kernel_rfl) (by kernel_rfl)
theorem laws_toCommit_g : PM.GOk Try.prog cx 270 ⟨[], laws_toCommit_w (laws_toCommit PM.std), none⟩ := by
  refine ⟨laws_toCommit_fn.enter, fun _ ds k r h => ?_, fun hm => absurd rfl hm, fun _ e => (by cases e)⟩
  change laws_toCommit_w (laws_toCommit PM.std) ds k = some r at h
  unfold laws_toCommit_w at h
  split at h
  · exact PM.pfun_ok (E := laws_toCommit_E PM.std (laws_toIntS PM.std) (laws_toRowS PM.std)) (L := fun n => laws_toCommit_L PM.std (laws_toIntS PM.std) (laws_toRowS PM.std) n) (N := PM.std.fuel) cx_ok (.cons laws_toIntS_g (.cons laws_toRowS_g .nil)) mixed .nil laws_toCommit_fn (by kernel_rfl) ⟨rfl, fun _ _ _ => rfl, fun n cur σ K r h => by cases h⟩
      ((laws_toCommit_ok PM.std (laws_toIntS PM.std) (laws_toRowS PM.std) _ _ _ _ _ _ _ k).trans h)
  · cases h

abbrev laws_toJobRun_T := (Int) → (Int) → (Int) → (Int) → (Int) → (List (List Int)) → (Bool) → (Int) → (Int) → (Int) → (Int) → (Int) → (Int) → (Int) → (Int) → (Int) → (List (List Int)) → (List Int) → ((Int) → (Int) → (Int) → (Int) → (Int) → (List (List Int)) → (Bool) → (Int) → (Int) → (Int) → (Int) → (Int) → (Int) → (Int) → (Int) → (Int) → (List (List Int)) → (List Int) → PM.R) → PM.R
noncomputable def laws_toJobRun_w (c : laws_toJobRun_T) (ds : List PM.V) (k : PM.V → PM.R) : PM.R :=
  match ds with
  | [.agg [.int .i64 a_Phase, .int .i64 a_Tries, .int .i64 a_Rv, .int .i64 a_At, .int .i64 a_Stamp, .arr (.vecs 297 2 a_Seen), .bool a_Busy, .int .i64 a_Probe_Cell, .int .i64 a_Probe_Phase, .int .i64 a_Probe_Ver, .int .i64 a_Probe_Val, .int .i64 a_Commit_Who, .int .i64 a_Commit_Rv, .int .i64 a_Commit_Phase, .int .i64 a_Commit_At, .int .i64 a_Commit_Wv, .arr (.vecs 297 2 a_Commit_Puts), .arr (.ints 3 .i64 a_Commit_Reads)]] => c a_Phase a_Tries a_Rv a_At a_Stamp a_Seen a_Busy a_Probe_Cell a_Probe_Phase a_Probe_Ver a_Probe_Val a_Commit_Who a_Commit_Rv a_Commit_Phase a_Commit_At a_Commit_Wv a_Commit_Puts a_Commit_Reads (fun r0_Phase r0_Tries r0_Rv r0_At r0_Stamp r0_Seen r0_Busy r0_Probe_Cell r0_Probe_Phase r0_Probe_Ver r0_Probe_Val r0_Commit_Who r0_Commit_Rv r0_Commit_Phase r0_Commit_At r0_Commit_Wv r0_Commit_Puts r0_Commit_Reads => k (.agg [.int .i64 r0_Phase, .int .i64 r0_Tries, .int .i64 r0_Rv, .int .i64 r0_At, .int .i64 r0_Stamp, .arr (.vecs 161 2 r0_Seen), .bool r0_Busy, .int .i64 r0_Probe_Cell, .int .i64 r0_Probe_Phase, .int .i64 r0_Probe_Ver, .int .i64 r0_Probe_Val, .int .i64 r0_Commit_Who, .int .i64 r0_Commit_Rv, .int .i64 r0_Commit_Phase, .int .i64 r0_Commit_At, .int .i64 r0_Commit_Wv, .arr (.vecs 161 2 r0_Commit_Puts), .arr (.ints 3 .i64 r0_Commit_Reads)]))
  | _ => none
noncomputable def laws_toJobRun_f (A : PM.Prims) (c_150 : laws_toRowS_T) (c_269 : laws_toProbe_T) (c_270 : laws_toCommit_T) (a_Phase : Int) (a_Tries : Int) (a_Rv : Int) (a_At : Int) (a_Stamp : Int) (a_Seen : List (List Int)) (a_Busy : Bool) (a_Probe_Cell : Int) (a_Probe_Phase : Int) (a_Probe_Ver : Int) (a_Probe_Val : Int) (a_Commit_Who : Int) (a_Commit_Rv : Int) (a_Commit_Phase : Int) (a_Commit_At : Int) (a_Commit_Wv : Int) (a_Commit_Puts : List (List Int)) (a_Commit_Reads : List Int) (k : (Int) → (Int) → (Int) → (Int) → (Int) → (List (List Int)) → (Bool) → (Int) → (Int) → (Int) → (Int) → (Int) → (Int) → (Int) → (Int) → (Int) → (List (List Int)) → (List Int) → PM.R) : PM.R :=
  c_150 a_Seen (fun r1 =>
    c_269 a_Probe_Cell a_Probe_Phase a_Probe_Ver a_Probe_Val (fun r2 r3 r4 r5 =>
      c_270 a_Commit_Who a_Commit_Rv a_Commit_Phase a_Commit_At a_Commit_Wv a_Commit_Puts a_Commit_Reads (fun r6 r7 r8 r9 r10 r11 r12 =>
        k a_Phase a_Tries a_Rv a_At a_Stamp r1 a_Busy r2 r3 r4 r5 r6 r7 r8 r9 r10 r11 r12)))
noncomputable def laws_toJobRun (A : PM.Prims) : laws_toJobRun_T := laws_toJobRun_f A (laws_toRowS A) (laws_toProbe A) (laws_toCommit A)
noncomputable def laws_toJobRun_L (A : PM.Prims) (c_150 : laws_toRowS_T) (c_269 : laws_toProbe_T) (c_270 : laws_toCommit_T) (n : Nat) : PM.Lam := fun cur σ K =>
  match cur, σ, K with
  | _, _, _ => none
noncomputable def laws_toJobRun_E (A : PM.Prims) (c_150 : laws_toRowS_T) (c_269 : laws_toProbe_T) (c_270 : laws_toCommit_T) : PM.Env := ⟨[(150, ⟨[], laws_toRowS_w c_150, none⟩), (269, ⟨[], laws_toProbe_w c_269, none⟩), (270, ⟨[], laws_toCommit_w c_270, none⟩)], [], [], [(0, [1, 2]), (1, [1, 2, 3]), (2, [1, 2, 3]), (3, [1, 2, 3]), (4, [1, 2, 3]), (5, [1, 2, 3]), (6, [1, 2, 3]), (7, [1, 2, 3]), (8, [1, 2, 3]), (9, [1, 2, 3]), (10, [2, 3]), (11, [2])], laws_toJobRun_L A c_150 c_269 c_270 A.fuel⟩
theorem laws_toJobRun_ok (A : PM.Prims) (c_150 : laws_toRowS_T) (c_269 : laws_toProbe_T) (c_270 : laws_toCommit_T) (a_Phase : Int) (a_Tries : Int) (a_Rv : Int) (a_At : Int) (a_Stamp : Int) (a_Seen : List (List Int)) (a_Busy : Bool) (a_Probe_Cell : Int) (a_Probe_Phase : Int) (a_Probe_Ver : Int) (a_Probe_Val : Int) (a_Commit_Who : Int) (a_Commit_Rv : Int) (a_Commit_Phase : Int) (a_Commit_At : Int) (a_Commit_Wv : Int) (a_Commit_Puts : List (List Int)) (a_Commit_Reads : List Int) (k : PM.V → PM.R) : PM.pfun A cx [] (laws_toJobRun_E A c_150 c_269 c_270) Go.Proofs.Try.f209 [.agg [.int .i64 a_Phase, .int .i64 a_Tries, .int .i64 a_Rv, .int .i64 a_At, .int .i64 a_Stamp, .arr (.vecs 297 2 a_Seen), .bool a_Busy, .int .i64 a_Probe_Cell, .int .i64 a_Probe_Phase, .int .i64 a_Probe_Ver, .int .i64 a_Probe_Val, .int .i64 a_Commit_Who, .int .i64 a_Commit_Rv, .int .i64 a_Commit_Phase, .int .i64 a_Commit_At, .int .i64 a_Commit_Wv, .arr (.vecs 297 2 a_Commit_Puts), .arr (.ints 3 .i64 a_Commit_Reads)]] k = laws_toJobRun_f A c_150 c_269 c_270 a_Phase a_Tries a_Rv a_At a_Stamp a_Seen a_Busy a_Probe_Cell a_Probe_Phase a_Probe_Ver a_Probe_Val a_Commit_Who a_Commit_Rv a_Commit_Phase a_Commit_At a_Commit_Wv a_Commit_Puts a_Commit_Reads (fun r0_Phase r0_Tries r0_Rv r0_At r0_Stamp r0_Seen r0_Busy r0_Probe_Cell r0_Probe_Phase r0_Probe_Ver r0_Probe_Val r0_Commit_Who r0_Commit_Rv r0_Commit_Phase r0_Commit_At r0_Commit_Wv r0_Commit_Puts r0_Commit_Reads => k (.agg [.int .i64 r0_Phase, .int .i64 r0_Tries, .int .i64 r0_Rv, .int .i64 r0_At, .int .i64 r0_Stamp, .arr (.vecs 161 2 r0_Seen), .bool r0_Busy, .int .i64 r0_Probe_Cell, .int .i64 r0_Probe_Phase, .int .i64 r0_Probe_Ver, .int .i64 r0_Probe_Val, .int .i64 r0_Commit_Who, .int .i64 r0_Commit_Rv, .int .i64 r0_Commit_Phase, .int .i64 r0_Commit_At, .int .i64 r0_Commit_Wv, .arr (.vecs 161 2 r0_Commit_Puts), .arr (.ints 3 .i64 r0_Commit_Reads)])) := by kernel_rfl

theorem laws_toJobRun_fn : PM.FnIs Try.prog 209 Try.f209 := .of Try.func209 (by kernel_rfl) (by kernel_rfl)
theorem laws_toJobRun_g : PM.GOk Try.prog cx 209 ⟨[], laws_toJobRun_w (laws_toJobRun PM.std), none⟩ := by
  refine ⟨laws_toJobRun_fn.enter, fun _ ds k r h => ?_, fun hm => absurd rfl hm, fun _ e => (by cases e)⟩
  change laws_toJobRun_w (laws_toJobRun PM.std) ds k = some r at h
  unfold laws_toJobRun_w at h
  split at h
  · exact PM.pfun_ok (E := laws_toJobRun_E PM.std (laws_toRowS PM.std) (laws_toProbe PM.std) (laws_toCommit PM.std)) (L := fun n => laws_toJobRun_L PM.std (laws_toRowS PM.std) (laws_toProbe PM.std) (laws_toCommit PM.std) n) (N := PM.std.fuel) cx_ok (.cons laws_toRowS_g (.cons laws_toProbe_g (.cons laws_toCommit_g .nil))) mixed .nil laws_toJobRun_fn (by kernel_rfl) ⟨rfl, fun _ _ _ => rfl, fun n cur σ K r h => by cases h⟩
      ((laws_toJobRun_ok PM.std (laws_toRowS PM.std) (laws_toProbe PM.std) (laws_toCommit PM.std) _ _ _ _ _ _ _ _ _ _ _ _ _ _ _ _ _ _ k).trans h)
  · cases h

abbrev laws_toJobRunS_T := (List (List PM.C)) → ((List (List PM.C)) → PM.R) → PM.R
noncomputable def laws_toJobRunS_w (c : laws_toJobRunS_T) (ds : List PM.V) (k : PM.V → PM.R) : PM.R :=
  match ds with
  | [.arr (.rows 285 a)] => c a (fun r0 => k (.arr (.rows 189 r0)))
  | _ => none
noncomputable def laws_toJobRunS_l0 (A : PM.Prims) (c_209 : laws_toJobRun_T) : Nat → (List (List C)) → (Int) → (List (List C)) → ((List (List C)) → PM.R) → PM.R
  | 0, _, _, _, _ => none
  | n + 1, a1, i2, o03, kx0_0 =>
    bif (A.lt i2 (A.rlen a1)) then
      bif (A.inb i2 (A.rlen a1)) then
        c_209 (A.rint a1 i2 0) (A.rint a1 i2 1) (A.rint a1 i2 2) (A.rint a1 i2 3) (A.rint a1 i2 4) (A.rsv 2 a1 i2 5) (A.rbool a1 i2 6) (A.rint a1 i2 7) (A.rint a1 i2 8) (A.rint a1 i2 9) (A.rint a1 i2 10) (A.rint a1 i2 11) (A.rint a1 i2 12) (A.rint a1 i2 13) (A.rint a1 i2 14) (A.rint a1 i2 15) (A.rsv 2 a1 i2 16) (A.rsi a1 i2 17) (fun r4 r5 r6 r7 r8 r9 r10 r11 r12 r13 r14 r15 r16 r17 r18 r19 r20 r21 =>
          bif (A.inb i2 (A.rlen o03)) then
            laws_toJobRunS_l0 A c_209 n a1 (A.add .i64 i2 1) (A.rput o03 i2 [(.i r4), (.i r5), (.i r6), (.i r7), (.i r8), (.s (A.ofv r9)), (.b r10), (.i r11), (.i r12), (.i r13), (.i r14), (.i r15), (.i r16), (.i r17), (.i r18), (.i r19), (.s (A.ofv r20)), (.s (A.ofi r21))]) kx0_0
          else
            none)
      else
        none
    else
      kx0_0 o03
noncomputable def laws_toJobRunS_f (A : PM.Prims) (c_209 : laws_toJobRun_T) (a : List (List PM.C)) (k : (List (List PM.C)) → PM.R) : PM.R :=
  bif (A.mkOk (A.rlen a)) then
    bif (A.le (A.rlen a) (A.rlen a)) then
      bif (A.mkOk (A.rlen a)) then
        laws_toJobRunS_l0 A c_209 A.fuel a 0 (A.rzero [(.i 0), (.i 0), (.i 0), (.i 0), (.i 0), (.s (A.ofv [])), (.b false), (.i 0), (.i 0), (.i 0), (.i 0), (.i 0), (.i 0), (.i 0), (.i 0), (.i 0), (.s (A.ofv [])), (.s (A.ofi []))] (A.rlen a)) (fun o02223 =>
          k o02223)
      else
        none
    else
      none
  else
    none
noncomputable def laws_toJobRunS (A : PM.Prims) : laws_toJobRunS_T := laws_toJobRunS_f A (laws_toJobRun A)
noncomputable def laws_toJobRunS_L (A : PM.Prims) (c_209 : laws_toJobRun_T) (n : Nat) : PM.Lam := fun cur σ K =>
  match cur, σ, K with
  | 0, ⟨[(0, .arr (.rows 285 a1)), (3, .sref 0), (4, .int .i64 i2)], [(0, .arr true (.rows 189 o03))]⟩, K => laws_toJobRunS_l0 A c_209 n a1 i2 o03 (fun o022 => K (.exit 0) ⟨[(3, .sref 0)], [(0, .arr true (.rows 189 o022))]⟩)
  | _, _, _ => none
noncomputable def laws_toJobRunS_E (A : PM.Prims) (c_209 : laws_toJobRun_T) : PM.Env := ⟨[(209, ⟨[], laws_toJobRun_w c_209, none⟩)], [], [(0, [0, 3, 4], [2, 3])], [(0, [0]), (1, [0, 3]), (2, [0, 3, 4]), (3, [0, 3, 4, 11]), (4, [0, 3, 4]), (5, [0, 3, 4]), (6, [2])], laws_toJobRunS_L A c_209 A.fuel⟩
theorem laws_toJobRunS_l0_ok (A : PM.Prims) (c_209 : laws_toJobRun_T) (n : Nat) (a1 : List (List C)) (i2 : Int) (o03 : List (List C)) (K : Go.Exit → PM.S → PM.R) : laws_toJobRunS_L A c_209 (n + 1) 0 ⟨[(0, .arr (.rows 285 a1)), (3, .sref 0), (4, .int .i64 i2)], [(0, .arr true (.rows 189 o03))]⟩ K = PM.roundF A cx (PM.runD A cx (laws_toJobRunS_E A c_209).inl (laws_toJobRunS_E A c_209).Γ 3) (laws_toJobRunS_E A c_209) (laws_toJobRunS_L A c_209 n) 0 Go.Proofs.Try.f126 ⟨[(0, .arr (.rows 285 a1)), (3, .sref 0), (4, .int .i64 i2)], [(0, .arr true (.rows 189 o03))]⟩ K := by kernel_rfl
theorem laws_toJobRunS_ok (A : PM.Prims) (c_209 : laws_toJobRun_T) (a : List (List PM.C)) (k : PM.V → PM.R) : PM.pfun A cx [] (laws_toJobRunS_E A c_209) Go.Proofs.Try.f126 [.arr (.rows 285 a)] k = laws_toJobRunS_f A c_209 a (fun r0 => k (.arr (.rows 189 r0))) := by kernel_rfl

theorem laws_toJobRunS_fn : PM.FnIs Try.prog 126 Try.f126 := .of Try.func126 (by kernel_rfl) (by kernel_rfl)
theorem laws_toJobRunS_g : PM.GOk Try.prog cx 126 ⟨[], laws_toJobRunS_w (laws_toJobRunS PM.std), none⟩ := by
  refine ⟨laws_toJobRunS_fn.enter, fun _ ds k r h => ?_, fun hm => absurd rfl hm, fun _ e => (by cases e)⟩
  change laws_toJobRunS_w (laws_toJobRunS PM.std) ds k = some r at h
  unfold laws_toJobRunS_w at h
  split at h
  · exact PM.pfun_ok (E := laws_toJobRunS_E PM.std (laws_toJobRun PM.std)) (L := fun n => laws_toJobRunS_L PM.std (laws_toJobRun PM.std) n) (N := PM.std.fuel) cx_ok (.cons laws_toJobRun_g .nil) mixed .nil laws_toJobRunS_fn (by kernel_rfl) ⟨rfl, fun cur σ K => by
      dsimp only [laws_toJobRunS_L]
      split <;> rfl, fun n cur σ K r h => by
      dsimp only [laws_toJobRunS_L] at h
      split at h
      · exact (laws_toJobRunS_l0_ok PM.std (laws_toJobRun PM.std) n _ _ _ K).symm.trans h
      · cases h⟩
      ((laws_toJobRunS_ok PM.std (laws_toJobRun PM.std) _ k).trans h)
  · cases h

abbrev laws_toDuel_T := (Int) → (List (List Int)) → (List (List PM.C)) → (List (List PM.C)) → ((Int) → (List (List Int)) → (List (List PM.C)) → (List (List PM.C)) → PM.R) → PM.R
noncomputable def laws_toDuel_w (c : laws_toDuel_T) (ds : List PM.V) (k : PM.V → PM.R) : PM.R :=
  match ds with
  | [.agg [.int .i64 a_Mem_Clock, .arr (.vecs 354 3 a_Mem_Cells), .arr (.rows 285 a_Jobs), .arr (.rows 195 a_Hist)]] => c a_Mem_Clock a_Mem_Cells a_Jobs a_Hist (fun r0_Mem_Clock r0_Mem_Cells r0_Jobs r0_Hist => k (.agg [.int .i64 r0_Mem_Clock, .arr (.vecs 287 3 r0_Mem_Cells), .arr (.rows 189 r0_Jobs), .arr (.rows 33 r0_Hist)]))
  | _ => none
noncomputable def laws_toDuel_f (A : PM.Prims) (c_112 : laws_toMem_T) (c_43 : laws_toWroteS_T) (c_126 : laws_toJobRunS_T) (a_Mem_Clock : Int) (a_Mem_Cells : List (List Int)) (a_Jobs : List (List PM.C)) (a_Hist : List (List PM.C)) (k : (Int) → (List (List Int)) → (List (List PM.C)) → (List (List PM.C)) → PM.R) : PM.R :=
  c_112 a_Mem_Clock a_Mem_Cells (fun r1 r2 =>
    c_126 a_Jobs (fun r3 =>
      c_43 a_Hist (fun r4 =>
        k r1 r2 r3 r4)))
noncomputable def laws_toDuel (A : PM.Prims) : laws_toDuel_T := laws_toDuel_f A (laws_toMem A) (laws_toWroteS A) (laws_toJobRunS A)
noncomputable def laws_toDuel_L (A : PM.Prims) (c_112 : laws_toMem_T) (c_43 : laws_toWroteS_T) (c_126 : laws_toJobRunS_T) (n : Nat) : PM.Lam := fun cur σ K =>
  match cur, σ, K with
  | _, _, _ => none
noncomputable def laws_toDuel_E (A : PM.Prims) (c_112 : laws_toMem_T) (c_43 : laws_toWroteS_T) (c_126 : laws_toJobRunS_T) : PM.Env := ⟨[(112, ⟨[], laws_toMem_w c_112, none⟩), (43, ⟨[], laws_toWroteS_w c_43, none⟩), (126, ⟨[], laws_toJobRunS_w c_126, none⟩)], [], [], [(0, [1, 2]), (1, [1, 2, 3]), (2, [1, 2, 3]), (3, [1, 2, 3]), (4, [2, 3]), (5, [2])], laws_toDuel_L A c_112 c_43 c_126 A.fuel⟩
theorem laws_toDuel_ok (A : PM.Prims) (c_112 : laws_toMem_T) (c_43 : laws_toWroteS_T) (c_126 : laws_toJobRunS_T) (a_Mem_Clock : Int) (a_Mem_Cells : List (List Int)) (a_Jobs : List (List PM.C)) (a_Hist : List (List PM.C)) (k : PM.V → PM.R) : PM.pfun A cx [] (laws_toDuel_E A c_112 c_43 c_126) Go.Proofs.Try.f38 [.agg [.int .i64 a_Mem_Clock, .arr (.vecs 354 3 a_Mem_Cells), .arr (.rows 285 a_Jobs), .arr (.rows 195 a_Hist)]] k = laws_toDuel_f A c_112 c_43 c_126 a_Mem_Clock a_Mem_Cells a_Jobs a_Hist (fun r0_Mem_Clock r0_Mem_Cells r0_Jobs r0_Hist => k (.agg [.int .i64 r0_Mem_Clock, .arr (.vecs 287 3 r0_Mem_Cells), .arr (.rows 189 r0_Jobs), .arr (.rows 33 r0_Hist)])) := by kernel_rfl

theorem laws_toDuel_fn : PM.FnIs Try.prog 38 Try.f38 := .of Try.func38 (by kernel_rfl) (by kernel_rfl)
theorem laws_toDuel_g : PM.GOk Try.prog cx 38 ⟨[], laws_toDuel_w (laws_toDuel PM.std), none⟩ := by
  refine ⟨laws_toDuel_fn.enter, fun _ ds k r h => ?_, fun hm => absurd rfl hm, fun _ e => (by cases e)⟩
  change laws_toDuel_w (laws_toDuel PM.std) ds k = some r at h
  unfold laws_toDuel_w at h
  split at h
  · exact PM.pfun_ok (E := laws_toDuel_E PM.std (laws_toMem PM.std) (laws_toWroteS PM.std) (laws_toJobRunS PM.std)) (L := fun n => laws_toDuel_L PM.std (laws_toMem PM.std) (laws_toWroteS PM.std) (laws_toJobRunS PM.std) n) (N := PM.std.fuel) cx_ok (.cons laws_toMem_g (.cons laws_toWroteS_g (.cons laws_toJobRunS_g .nil))) mixed .nil laws_toDuel_fn (by kernel_rfl) ⟨rfl, fun _ _ _ => rfl, fun n cur σ K r h => by cases h⟩
      ((laws_toDuel_ok PM.std (laws_toMem PM.std) (laws_toWroteS PM.std) (laws_toJobRunS PM.std) _ _ _ _ k).trans h)
  · cases h

abbrev spec_MemOk_T := (Int) → (List (List Int)) → ((Bool) → PM.R) → PM.R
noncomputable def spec_MemOk_w (c : spec_MemOk_T) (ds : List PM.V) (k : PM.V → PM.R) : PM.R :=
  match ds with
  | [.agg [.int .i64 m_Clock, .arr (.vecs 287 3 m_Cells)]] => c m_Clock m_Cells (fun r0 => k (.bool r0))
  | _ => none
noncomputable def spec_MemOk_l0 (A : PM.Prims) (c_103 : spec_l1In_T) (c_197 : spec_l3Val_T) : Nat → (Int) → (Int) → (List (List Int)) → ((Bool) → PM.R) → (Unit → PM.R) → PM.R
  | 0, _, _, _, _, _ => none
  | n + 1, i2, o03, o04, kret_0, kx0_0 =>
    bif (A.lt i2 (A.vlen o04)) then
      bif (A.inb i2 (A.vlen o04)) then
        c_197 (A.vget o04 i2 0) (fun r5 =>
          bif (A.not r5) then
            kret_0 false
          else
            c_103 (A.vget o04 i2 1) 0 o03 (fun r7 =>
              bif (A.not r7) then
                kret_0 false
              else
                c_103 (A.vget o04 i2 2) 0 99 (fun r8 =>
                  bif (A.not r8) then
                    kret_0 false
                  else
                    spec_MemOk_l0 A c_103 c_197 n (A.add .i64 i2 1) o03 o04 kret_0 kx0_0)))
      else
        none
    else
      kx0_0 ()
noncomputable def spec_MemOk_f (A : PM.Prims) (c_103 : spec_l1In_T) (c_197 : spec_l3Val_T) (m_Clock : Int) (m_Cells : List (List Int)) (k : (Bool) → PM.R) : PM.R :=
  bif (A.not (A.eq (A.vlen m_Cells) 8)) then
    k false
  else
    c_103 m_Clock 0 1000000 (fun r1 =>
      bif (A.not r1) then
        k false
      else
        spec_MemOk_l0 A c_103 c_197 A.fuel 0 m_Clock m_Cells (fun t269 =>
          k t269) (fun _ =>
          k true))
noncomputable def spec_MemOk (A : PM.Prims) : spec_MemOk_T := spec_MemOk_f A (spec_l1In A) (spec_l3Val A)
noncomputable def spec_MemOk_L (A : PM.Prims) (c_103 : spec_l1In_T) (c_197 : spec_l3Val_T) (n : Nat) : PM.Lam := fun cur σ K =>
  match cur, σ, K with
  | 0, ⟨[(1, .pbox 0 0), (3, .int .i64 i2)], [(0, .box [.int .i64 o03, .arr (.vecs 287 3 o04)])]⟩, K => spec_MemOk_l0 A c_103 c_197 n i2 o03 o04 (fun t26 => K .ret ⟨[(2, .bool t26)], []⟩) (fun _ => K (.exit 0) ⟨[], []⟩)
  | _, _, _ => none
noncomputable def spec_MemOk_E (A : PM.Prims) (c_103 : spec_l1In_T) (c_197 : spec_l3Val_T) : PM.Env := ⟨[(103, ⟨[], spec_l1In_w c_103, none⟩), (197, ⟨[], spec_l3Val_w c_197, none⟩)], [], [(0, [1, 3], [2])], [(0, [1]), (1, [1, 14]), (2, [2]), (3, [1, 3]), (4, [1, 3, 19]), (5, [1, 3]), (6, [1, 3, 4]), (7, [1, 3, 44]), (8, [2]), (9, [2])], spec_MemOk_L A c_103 c_197 A.fuel⟩
theorem spec_MemOk_l0_ok (A : PM.Prims) (c_103 : spec_l1In_T) (c_197 : spec_l3Val_T) (n : Nat) (i2 : Int) (o03 : Int) (o04 : List (List Int)) (K : Go.Exit → PM.S → PM.R) : spec_MemOk_L A c_103 c_197 (n + 1) 0 ⟨[(1, .pbox 0 0), (3, .int .i64 i2)], [(0, .box [.int .i64 o03, .arr (.vecs 287 3 o04)])]⟩ K = PM.roundF A cx (PM.runD A cx (spec_MemOk_E A c_103 c_197).inl (spec_MemOk_E A c_103 c_197).Γ 3) (spec_MemOk_E A c_103 c_197) (spec_MemOk_L A c_103 c_197 n) 0 Go.Proofs.Try.f123 ⟨[(1, .pbox 0 0), (3, .int .i64 i2)], [(0, .box [.int .i64 o03, .arr (.vecs 287 3 o04)])]⟩ K := by kernel_rfl
theorem spec_MemOk_ok (A : PM.Prims) (c_103 : spec_l1In_T) (c_197 : spec_l3Val_T) (m_Clock : Int) (m_Cells : List (List Int)) (k : PM.V → PM.R) : PM.pfun A cx [] (spec_MemOk_E A c_103 c_197) Go.Proofs.Try.f123 [.agg [.int .i64 m_Clock, .arr (.vecs 287 3 m_Cells)]] k = spec_MemOk_f A c_103 c_197 m_Clock m_Cells (fun r0 => k (.bool r0)) := by kernel_rfl

theorem spec_MemOk_fn : PM.FnIs Try.prog 123 Try.f123 := .of Try.func123 (by kernel_rfl) (by kernel_rfl)
theorem spec_MemOk_g : PM.GOk Try.prog cx 123 ⟨[], spec_MemOk_w (spec_MemOk PM.std), none⟩ := by
  refine ⟨spec_MemOk_fn.enter, fun _ ds k r h => ?_, fun hm => absurd rfl hm, fun _ e => (by cases e)⟩
  change spec_MemOk_w (spec_MemOk PM.std) ds k = some r at h
  unfold spec_MemOk_w at h
  split at h
  · exact PM.pfun_ok (E := spec_MemOk_E PM.std (spec_l1In PM.std) (spec_l3Val PM.std)) (L := fun n => spec_MemOk_L PM.std (spec_l1In PM.std) (spec_l3Val PM.std) n) (N := PM.std.fuel) cx_ok (.cons spec_l1In_g (.cons spec_l3Val_g .nil)) mixed .nil spec_MemOk_fn (by kernel_rfl) ⟨rfl, fun cur σ K => by
      dsimp only [spec_MemOk_L]
      split <;> rfl, fun n cur σ K r h => by
      dsimp only [spec_MemOk_L] at h
      split at h
      · exact (spec_MemOk_l0_ok PM.std (spec_l1In PM.std) (spec_l3Val PM.std) n _ _ _ K).symm.trans h
      · cases h⟩
      ((spec_MemOk_ok PM.std (spec_l1In PM.std) (spec_l3Val PM.std) _ _ k).trans h)
  · cases h

abbrev spec_DuelOver_T := (Int) → (List (List Int)) → (List (List PM.C)) → (List (List PM.C)) → ((Bool) → PM.R) → PM.R
noncomputable def spec_DuelOver_w (c : spec_DuelOver_T) (ds : List PM.V) (k : PM.V → PM.R) : PM.R :=
  match ds with
  | [.agg [.int .i64 d_Mem_Clock, .arr (.vecs 287 3 d_Mem_Cells), .arr (.rows 189 d_Jobs), .arr (.rows 33 d_Hist)]] => c d_Mem_Clock d_Mem_Cells d_Jobs d_Hist (fun r0 => k (.bool r0))
  | _ => none
noncomputable def spec_DuelOver_l0 (A : PM.Prims) : Nat → (Int) → (Int) → (List (List Int)) → (List (List C)) → (List (List C)) → ((Bool) → PM.R) → (Unit → PM.R) → PM.R
  | 0, _, _, _, _, _, _, _ => none
  | n + 1, i1, o02, o03, o04, o05, kret_0, kx0_0 =>
    bif (A.lt i1 (A.rlen o04)) then
      bif (A.inb i1 (A.rlen o04)) then
        bif (A.not (A.eq (A.rint o04 i1 0) 3)) then
          kret_0 false
        else
          spec_DuelOver_l0 A n (A.add .i64 i1 1) o02 o03 o04 o05 kret_0 kx0_0
      else
        none
    else
      kx0_0 ()
noncomputable def spec_DuelOver_f (A : PM.Prims) (d_Mem_Clock : Int) (d_Mem_Cells : List (List Int)) (d_Jobs : List (List PM.C)) (d_Hist : List (List PM.C)) (k : (Bool) → PM.R) : PM.R :=
  spec_DuelOver_l0 A A.fuel 0 d_Mem_Clock d_Mem_Cells d_Jobs d_Hist (fun t267 =>
    k t267) (fun _ =>
    k true)
noncomputable def spec_DuelOver (A : PM.Prims) : spec_DuelOver_T := spec_DuelOver_f A
noncomputable def spec_DuelOver_L (A : PM.Prims) (n : Nat) : PM.Lam := fun cur σ K =>
  match cur, σ, K with
  | 0, ⟨[(1, .pbox 0 0), (3, .int .i64 i1)], [(0, .box [.int .i64 o02, .arr (.vecs 287 3 o03), .arr (.rows 189 o04), .arr (.rows 33 o05)])]⟩, K => spec_DuelOver_l0 A n i1 o02 o03 o04 o05 (fun t26 => K .ret ⟨[(2, .bool t26)], []⟩) (fun _ => K (.exit 0) ⟨[], []⟩)
  | _, _, _ => none
noncomputable def spec_DuelOver_E (A : PM.Prims) : PM.Env := ⟨[], [], [(0, [1, 3], [2])], [(0, [1]), (1, [1, 3]), (2, [1, 3, 8]), (3, [1, 3]), (4, [1, 3, 17]), (5, [2]), (6, [2])], spec_DuelOver_L A A.fuel⟩
theorem spec_DuelOver_l0_ok (A : PM.Prims) (n : Nat) (i1 : Int) (o02 : Int) (o03 : List (List Int)) (o04 : List (List C)) (o05 : List (List C)) (K : Go.Exit → PM.S → PM.R) : spec_DuelOver_L A (n + 1) 0 ⟨[(1, .pbox 0 0), (3, .int .i64 i1)], [(0, .box [.int .i64 o02, .arr (.vecs 287 3 o03), .arr (.rows 189 o04), .arr (.rows 33 o05)])]⟩ K = PM.roundF A cx (PM.runD A cx (spec_DuelOver_E A).inl (spec_DuelOver_E A).Γ 3) (spec_DuelOver_E A) (spec_DuelOver_L A n) 0 Go.Proofs.Try.f62 ⟨[(1, .pbox 0 0), (3, .int .i64 i1)], [(0, .box [.int .i64 o02, .arr (.vecs 287 3 o03), .arr (.rows 189 o04), .arr (.rows 33 o05)])]⟩ K := by kernel_rfl
theorem spec_DuelOver_ok (A : PM.Prims) (d_Mem_Clock : Int) (d_Mem_Cells : List (List Int)) (d_Jobs : List (List PM.C)) (d_Hist : List (List PM.C)) (k : PM.V → PM.R) : PM.pfun A cx [] (spec_DuelOver_E A) Go.Proofs.Try.f62 [.agg [.int .i64 d_Mem_Clock, .arr (.vecs 287 3 d_Mem_Cells), .arr (.rows 189 d_Jobs), .arr (.rows 33 d_Hist)]] k = spec_DuelOver_f A d_Mem_Clock d_Mem_Cells d_Jobs d_Hist (fun r0 => k (.bool r0)) := by kernel_rfl

theorem spec_DuelOver_fn : PM.FnIs Try.prog 62 Try.f62 := .of Try.func62 (by kernel_rfl) (by kernel_rfl)
theorem spec_DuelOver_g : PM.GOk Try.prog cx 62 ⟨[], spec_DuelOver_w (spec_DuelOver PM.std), none⟩ := by
  refine ⟨spec_DuelOver_fn.enter, fun _ ds k r h => ?_, fun hm => absurd rfl hm, fun _ e => (by cases e)⟩
  change spec_DuelOver_w (spec_DuelOver PM.std) ds k = some r at h
  unfold spec_DuelOver_w at h
  split at h
  · exact PM.pfun_ok (E := spec_DuelOver_E PM.std) (L := fun n => spec_DuelOver_L PM.std n) (N := PM.std.fuel) cx_ok .nil mixed .nil spec_DuelOver_fn (by kernel_rfl) ⟨rfl, fun cur σ K => by
      dsimp only [spec_DuelOver_L]
      split <;> rfl, fun n cur σ K r h => by
      dsimp only [spec_DuelOver_L] at h
      split at h
      · exact (spec_DuelOver_l0_ok PM.std n _ _ _ _ _ K).symm.trans h
      · cases h⟩
      ((spec_DuelOver_ok PM.std _ _ _ _ k).trans h)
  · cases h

abbrev spec_Values_T := (Int) → (List (List Int)) → ((List Int) → PM.R) → PM.R
noncomputable def spec_Values_w (c : spec_Values_T) (ds : List PM.V) (k : PM.V → PM.R) : PM.R :=
  match ds with
  | [.agg [.int .i64 m_Clock, .arr (.vecs 287 3 m_Cells)]] => c m_Clock m_Cells (fun r0 => k (.arr (.ints 3 .i64 r0)))
  | _ => none
noncomputable def spec_Values_l0 (A : PM.Prims) (c_123 : spec_MemOk_T) : Nat → (Int) → (Int) → (List (List Int)) → (List Int) → ((List Int) → PM.R) → PM.R
  | 0, _, _, _, _, _ => none
  | n + 1, i2, o03, o04, o15, kx0_0 =>
    bif (A.lt i2 (A.vlen o04)) then
      bif (A.inb i2 (A.vlen o04)) then
        bif (A.room (A.ilen o15) (A.ilen [(A.vget o04 i2 0)])) then
          spec_Values_l0 A c_123 n (A.add .i64 i2 1) o03 o04 (A.iapp o15 [(A.vget o04 i2 0)]) kx0_0
        else
          none
      else
        none
    else
      kx0_0 o15
noncomputable def spec_Values_f (A : PM.Prims) (c_123 : spec_MemOk_T) (m_Clock : Int) (m_Cells : List (List Int)) (k : (List Int) → PM.R) : PM.R :=
  c_123 m_Clock m_Cells (fun r1 =>
    bif (A.not r1) then
      k []
    else
      spec_Values_l0 A c_123 A.fuel 0 m_Clock m_Cells [] (fun o067 =>
        k o067))
noncomputable def spec_Values (A : PM.Prims) : spec_Values_T := spec_Values_f A (spec_MemOk A)
noncomputable def spec_Values_L (A : PM.Prims) (c_123 : spec_MemOk_T) (n : Nat) : PM.Lam := fun cur σ K =>
  match cur, σ, K with
  | 0, ⟨[(1, .pbox 0 0), (3, .sref 1), (4, .int .i64 i2)], [(0, .box [.int .i64 o03, .arr (.vecs 287 3 o04)]), (1, .arr true (.ints 3 .i64 o15))]⟩, K => spec_Values_l0 A c_123 n i2 o03 o04 o15 (fun o06 => K (.exit 0) ⟨[(3, .sref 0)], [(0, .arr true (.ints 3 .i64 o06))]⟩)
  | _, _, _ => none
noncomputable def spec_Values_E (A : PM.Prims) (c_123 : spec_MemOk_T) : PM.Env := ⟨[(123, ⟨[], spec_MemOk_w c_123, none⟩)], [], [(0, [1, 3, 4], [2, 3])], [(0, [1]), (1, [1, 3]), (2, [1, 3, 8]), (3, [2]), (4, [1, 3, 4]), (5, [1, 3, 4, 14]), (6, [1, 3, 4]), (7, [1, 3, 4]), (8, [2])], spec_Values_L A c_123 A.fuel⟩
theorem spec_Values_l0_ok (A : PM.Prims) (c_123 : spec_MemOk_T) (n : Nat) (i2 : Int) (o03 : Int) (o04 : List (List Int)) (o15 : List Int) (K : Go.Exit → PM.S → PM.R) : spec_Values_L A c_123 (n + 1) 0 ⟨[(1, .pbox 0 0), (3, .sref 1), (4, .int .i64 i2)], [(0, .box [.int .i64 o03, .arr (.vecs 287 3 o04)]), (1, .arr true (.ints 3 .i64 o15))]⟩ K = PM.roundF A cx (PM.runD A cx (spec_Values_E A c_123).inl (spec_Values_E A c_123).Γ 3) (spec_Values_E A c_123) (spec_Values_L A c_123 n) 0 Go.Proofs.Try.f125 ⟨[(1, .pbox 0 0), (3, .sref 1), (4, .int .i64 i2)], [(0, .box [.int .i64 o03, .arr (.vecs 287 3 o04)]), (1, .arr true (.ints 3 .i64 o15))]⟩ K := by kernel_rfl
theorem spec_Values_ok (A : PM.Prims) (c_123 : spec_MemOk_T) (m_Clock : Int) (m_Cells : List (List Int)) (k : PM.V → PM.R) : PM.pfun A cx [] (spec_Values_E A c_123) Go.Proofs.Try.f125 [.agg [.int .i64 m_Clock, .arr (.vecs 287 3 m_Cells)]] k = spec_Values_f A c_123 m_Clock m_Cells (fun r0 => k (.arr (.ints 3 .i64 r0))) := by kernel_rfl

theorem spec_Values_fn : PM.FnIs Try.prog 125 Try.f125 := .of Try.func125 (by kernel_rfl) (by kernel_rfl)
theorem spec_Values_g : PM.GOk Try.prog cx 125 ⟨[], spec_Values_w (spec_Values PM.std), none⟩ := by
  refine ⟨spec_Values_fn.enter, fun _ ds k r h => ?_, fun hm => absurd rfl hm, fun _ e => (by cases e)⟩
  change spec_Values_w (spec_Values PM.std) ds k = some r at h
  unfold spec_Values_w at h
  split at h
  · exact PM.pfun_ok (E := spec_Values_E PM.std (spec_MemOk PM.std)) (L := fun n => spec_Values_L PM.std (spec_MemOk PM.std) n) (N := PM.std.fuel) cx_ok (.cons spec_MemOk_g .nil) mixed .nil spec_Values_fn (by kernel_rfl) ⟨rfl, fun cur σ K => by
      dsimp only [spec_Values_L]
      split <;> rfl, fun n cur σ K r h => by
      dsimp only [spec_Values_L] at h
      split at h
      · exact (spec_Values_l0_ok PM.std (spec_MemOk PM.std) n _ _ _ _ K).symm.trans h
      · cases h⟩
      ((spec_Values_ok PM.std (spec_MemOk PM.std) _ _ k).trans h)
  · cases h

abbrev spec_l7Ints_T := (List Int) → (List Int) → ((Bool) → PM.R) → PM.R
noncomputable def spec_l7Ints_w (c : spec_l7Ints_T) (ds : List PM.V) (k : PM.V → PM.R) : PM.R :=
  match ds with
  | [.arr (.ints 3 .i64 a), .arr (.ints 3 .i64 b)] => c a b (fun r0 => k (.bool r0))
  | _ => none
noncomputable def spec_l7Ints_l0 (A : PM.Prims) : Nat → (List Int) → (List Int) → (Int) → ((Bool) → PM.R) → (Unit → PM.R) → PM.R
  | 0, _, _, _, _, _ => none
  | n + 1, a1, b2, i3, kret_0, kx0_0 =>
    bif (A.lt i3 (A.ilen a1)) then
      bif (A.inb i3 (A.ilen a1)) then
        bif (A.inb i3 (A.ilen b2)) then
          bif (A.not (A.eq (A.iget a1 i3) (A.iget b2 i3))) then
            kret_0 false
          else
            spec_l7Ints_l0 A n a1 b2 (A.add .i64 i3 1) kret_0 kx0_0
        else
          none
      else
        none
    else
      kx0_0 ()
noncomputable def spec_l7Ints_f (A : PM.Prims) (a : List Int) (b : List Int) (k : (Bool) → PM.R) : PM.R :=
  bif (A.not (A.eq (A.ilen a) (A.ilen b))) then
    k false
  else
    spec_l7Ints_l0 A A.fuel a b 0 (fun t445 =>
      k t445) (fun _ =>
      k true)
noncomputable def spec_l7Ints (A : PM.Prims) : spec_l7Ints_T := spec_l7Ints_f A
noncomputable def spec_l7Ints_L (A : PM.Prims) (n : Nat) : PM.Lam := fun cur σ K =>
  match cur, σ, K with
  | 0, ⟨[(0, .arr (.ints 3 .i64 a1)), (1, .arr (.ints 3 .i64 b2)), (5, .int .i64 i3)], []⟩, K => spec_l7Ints_l0 A n a1 b2 i3 (fun t44 => K .ret ⟨[(4, .bool t44)], []⟩) (fun _ => K (.exit 0) ⟨[], []⟩)
  | _, _, _ => none
noncomputable def spec_l7Ints_E (A : PM.Prims) : PM.Env := ⟨[], [], [(0, [0, 1, 5], [4])], [(0, [0, 1]), (1, [0, 1, 10]), (2, [4]), (3, [0, 1, 5]), (4, [0, 1, 5, 14]), (5, [0, 1, 5]), (6, [0, 1, 5, 25]), (7, [4]), (8, [4])], spec_l7Ints_L A A.fuel⟩
theorem spec_l7Ints_l0_ok (A : PM.Prims) (n : Nat) (a1 : List Int) (b2 : List Int) (i3 : Int) (K : Go.Exit → PM.S → PM.R) : spec_l7Ints_L A (n + 1) 0 ⟨[(0, .arr (.ints 3 .i64 a1)), (1, .arr (.ints 3 .i64 b2)), (5, .int .i64 i3)], []⟩ K = PM.roundF A cx (PM.runD A cx (spec_l7Ints_E A).inl (spec_l7Ints_E A).Γ 3) (spec_l7Ints_E A) (spec_l7Ints_L A n) 0 Go.Proofs.Try.f124 ⟨[(0, .arr (.ints 3 .i64 a1)), (1, .arr (.ints 3 .i64 b2)), (5, .int .i64 i3)], []⟩ K := by kernel_rfl
theorem spec_l7Ints_ok (A : PM.Prims) (a : List Int) (b : List Int) (k : PM.V → PM.R) : PM.pfun A cx [] (spec_l7Ints_E A) Go.Proofs.Try.f124 [.arr (.ints 3 .i64 a), .arr (.ints 3 .i64 b)] k = spec_l7Ints_f A a b (fun r0 => k (.bool r0)) := by kernel_rfl

theorem spec_l7Ints_fn : PM.FnIs Try.prog 124 Try.f124 := .of Try.func124 (by kernel_rfl) (by kernel_rfl)
theorem spec_l7Ints_g : PM.GOk Try.prog cx 124 ⟨[], spec_l7Ints_w (spec_l7Ints PM.std), none⟩ := by
  refine ⟨spec_l7Ints_fn.enter, fun _ ds k r h => ?_, fun hm => absurd rfl hm, fun _ e => (by cases e)⟩
  change spec_l7Ints_w (spec_l7Ints PM.std) ds k = some r at h
  unfold spec_l7Ints_w at h
  split at h
  · exact PM.pfun_ok (E := spec_l7Ints_E PM.std) (L := fun n => spec_l7Ints_L PM.std n) (N := PM.std.fuel) cx_ok .nil mixed .nil spec_l7Ints_fn (by kernel_rfl) ⟨rfl, fun cur σ K => by
      dsimp only [spec_l7Ints_L]
      split <;> rfl, fun n cur σ K r h => by
      dsimp only [spec_l7Ints_L] at h
      split at h
      · exact (spec_l7Ints_l0_ok PM.std n _ _ _ K).symm.trans h
      · cases h⟩
      ((spec_l7Ints_ok PM.std _ _ k).trans h)
  · cases h

abbrev spec_DuelTrue_T := (List Int) → (Int) → (List (List Int)) → (List (List PM.C)) → (List (List PM.C)) → ((Bool) → PM.R) → PM.R
noncomputable def spec_DuelTrue_w (c : spec_DuelTrue_T) (ds : List PM.V) (k : PM.V → PM.R) : PM.R :=
  match ds with
  | [.arr (.ints 3 .i64 __), .agg [.int .i64 a_Mem_Clock, .arr (.vecs 287 3 a_Mem_Cells), .arr (.rows 189 a_Jobs), .arr (.rows 33 a_Hist)]] => c __ a_Mem_Clock a_Mem_Cells a_Jobs a_Hist (fun r0 => k (.bool r0))
  | _ => none
noncomputable def spec_DuelTrue_l2 (A : PM.Prims) (c_104 : spec_RowsOk_T) (c_24 : spec_HistOk_T) (c_107 : spec_l3Vals_T) (c_88 : spec_StateAt_T) (c_123 : spec_MemOk_T) (c_62 : spec_DuelOver_T) (c_125 : spec_Values_T) (c_124 : spec_l7Ints_T) : Nat → (List Int) → (Int) → (Int) → (Int) → (List (List Int)) → (List (List C)) → (List (List C)) → (Int) → (Int) → (Int) → (Int) → (Int) → (List (List Int)) → (Bool) → (Int) → (Int) → (Int) → (Int) → (Int) → (Int) → (Int) → (Int) → (Int) → (List (List Int)) → (List Int) → (List Int) → ((Bool) → PM.R) → ((List Int) → (Int) → (Int) → (List (List Int)) → (List (List C)) → (List (List C)) → PM.R) → PM.R
  | 0, _, _, _, _, _, _, _, _, _, _, _, _, _, _, _, _, _, _, _, _, _, _, _, _, _, _, _, _ => none
  | n + 1, cells13, i14, k15, o016, o017, o018, o019, o120, o121, o122, o123, o124, o125, o126, o127, o128, o129, o130, o131, o132, o133, o134, o135, o136, o137, o238, kret_2, kx2_2 =>
    bif (A.lt k15 (A.vlen o125)) then
      bif (A.inb k15 (A.vlen o125)) then
        bif (A.inb (A.vget o125 k15 0) (A.ilen o238)) then
          bif (A.inb k15 (A.vlen o125)) then
            bif (A.not (A.eq (A.iget o238 (A.vget o125 k15 0)) (A.vget o125 k15 1))) then
              kret_2 false
            else
              spec_DuelTrue_l2 A c_104 c_24 c_107 c_88 c_123 c_62 c_125 c_124 n cells13 i14 (A.add .i64 k15 1) o016 o017 o018 o019 o120 o121 o122 o123 o124 o125 o126 o127 o128 o129 o130 o131 o132 o133 o134 o135 o136 o137 o238 kret_2 kx2_2
          else
            none
        else
          none
      else
        none
    else
      kx2_2 cells13 i14 o016 o017 o018 o019
noncomputable def spec_DuelTrue_l0 (A : PM.Prims) (c_104 : spec_RowsOk_T) (c_24 : spec_HistOk_T) (c_107 : spec_l3Vals_T) (c_88 : spec_StateAt_T) (c_123 : spec_MemOk_T) (c_62 : spec_DuelOver_T) (c_125 : spec_Values_T) (c_124 : spec_l7Ints_T) : Nat → (List Int) → (Int) → (Int) → (List (List Int)) → (List (List C)) → (List (List C)) → ((Bool) → PM.R) → ((List Int) → (Int) → (List (List Int)) → (List (List C)) → (List (List C)) → PM.R) → PM.R
  | 0, _, _, _, _, _, _, _, _ => none
  | n + 1, cells4, i5, o06, o07, o08, o09, kret_0, kx0_0 =>
    bif (A.lt i5 (A.rlen o08)) then
      bif (A.inb i5 (A.rlen o08)) then
        c_104 (A.rsv 2 o08 i5 5) (fun r10 =>
          bif (A.not r10) then
            kret_0 false
          else
            c_88 cells4 o09 (A.rint o08 i5 2) (fun r12 =>
              spec_DuelTrue_l2 A c_104 c_24 c_107 c_88 c_123 c_62 c_125 c_124 A.fuel cells4 i5 0 o06 o07 o08 o09 (A.rint o08 i5 0) (A.rint o08 i5 1) (A.rint o08 i5 2) (A.rint o08 i5 3) (A.rint o08 i5 4) (A.rsv 2 o08 i5 5) (A.rbool o08 i5 6) (A.rint o08 i5 7) (A.rint o08 i5 8) (A.rint o08 i5 9) (A.rint o08 i5 10) (A.rint o08 i5 11) (A.rint o08 i5 12) (A.rint o08 i5 13) (A.rint o08 i5 14) (A.rint o08 i5 15) (A.rsv 2 o08 i5 16) (A.rsi o08 i5 17) r12 (fun t43946 =>
                kret_0 t43946) (fun cells4047 i4148 o04249 o04350 o04451 o04552 =>
                spec_DuelTrue_l0 A c_104 c_24 c_107 c_88 c_123 c_62 c_125 c_124 n cells4047 (A.add .i64 i4148 1) o04249 o04350 o04451 o04552 kret_0 kx0_0)))
      else
        none
    else
      kx0_0 cells4 o06 o07 o08 o09
noncomputable def spec_DuelTrue_f (A : PM.Prims) (c_104 : spec_RowsOk_T) (c_24 : spec_HistOk_T) (c_107 : spec_l3Vals_T) (c_88 : spec_StateAt_T) (c_123 : spec_MemOk_T) (c_62 : spec_DuelOver_T) (c_125 : spec_Values_T) (c_124 : spec_l7Ints_T) (__ : List Int) (a_Mem_Clock : Int) (a_Mem_Cells : List (List Int)) (a_Jobs : List (List PM.C)) (a_Hist : List (List PM.C)) (k : (Bool) → PM.R) : PM.R :=
  c_107 __ (fun r1 =>
    bif (A.not r1) then
      k false
    else
      c_123 a_Mem_Clock a_Mem_Cells (fun r2 =>
        bif (A.not r2) then
          k false
        else
          c_24 a_Hist (fun r3 =>
            bif (A.not r3) then
              k false
            else
              spec_DuelTrue_l0 A c_104 c_24 c_107 c_88 c_123 c_62 c_125 c_124 A.fuel __ 0 a_Mem_Clock a_Mem_Cells a_Jobs a_Hist (fun t41158 =>
                k t41158) (fun cells5359 o05460 o05561 o05662 o05763 =>
                c_62 o05460 o05561 o05662 o05763 (fun r64 =>
                  bif (A.not r64) then
                    k true
                  else
                    c_125 o05460 o05561 (fun r65 =>
                      c_88 cells5359 o05763 o05460 (fun r66 =>
                        c_124 r65 r66 (fun r67 =>
                          k r67))))))))
noncomputable def spec_DuelTrue (A : PM.Prims) : spec_DuelTrue_T := spec_DuelTrue_f A (spec_RowsOk A) (spec_HistOk A) (spec_l3Vals A) (spec_StateAt A) (spec_MemOk A) (spec_DuelOver A) (spec_Values A) (spec_l7Ints A)
noncomputable def spec_DuelTrue_L (A : PM.Prims) (c_104 : spec_RowsOk_T) (c_24 : spec_HistOk_T) (c_107 : spec_l3Vals_T) (c_88 : spec_StateAt_T) (c_123 : spec_MemOk_T) (c_62 : spec_DuelOver_T) (c_125 : spec_Values_T) (c_124 : spec_l7Ints_T) (n : Nat) : PM.Lam := fun cur σ K =>
  match cur, σ, K with
  | 0, ⟨[(0, .arr (.ints 3 .i64 cells4)), (3, .pbox 0 0), (5, .int .i64 i5)], [(0, .box [.int .i64 o06, .arr (.vecs 287 3 o07), .arr (.rows 189 o08), .arr (.rows 33 o09)])]⟩, K => spec_DuelTrue_l0 A c_104 c_24 c_107 c_88 c_123 c_62 c_125 c_124 n cells4 i5 o06 o07 o08 o09 (fun t411 => K .ret ⟨[(4, .bool t411)], []⟩) (fun cells53 o054 o055 o056 o057 => K (.exit 0) ⟨[(0, .arr (.ints 3 .i64 cells53)), (3, .pbox 0 0)], [(0, .box [.int .i64 o054, .arr (.vecs 287 3 o055), .arr (.rows 189 o056), .arr (.rows 33 o057)])]⟩)
  | 2, ⟨[(0, .arr (.ints 3 .i64 cells13)), (3, .pbox 0 0), (5, .int .i64 i14), (6, .pbox 1 0), (7, .sref 2), (8, .int .i64 k15)], [(0, .box [.int .i64 o016, .arr (.vecs 287 3 o017), .arr (.rows 189 o018), .arr (.rows 33 o019)]), (1, .box [.int .i64 o120, .int .i64 o121, .int .i64 o122, .int .i64 o123, .int .i64 o124, .arr (.vecs 161 2 o125), .bool o126, .int .i64 o127, .int .i64 o128, .int .i64 o129, .int .i64 o130, .int .i64 o131, .int .i64 o132, .int .i64 o133, .int .i64 o134, .int .i64 o135, .arr (.vecs 161 2 o136), .arr (.ints 3 .i64 o137)]), (2, .arr true (.ints 3 .i64 o238))]⟩, K => spec_DuelTrue_l2 A c_104 c_24 c_107 c_88 c_123 c_62 c_125 c_124 n cells13 i14 k15 o016 o017 o018 o019 o120 o121 o122 o123 o124 o125 o126 o127 o128 o129 o130 o131 o132 o133 o134 o135 o136 o137 o238 (fun t439 => K .ret ⟨[(4, .bool t439)], []⟩) (fun cells40 i41 o042 o043 o044 o045 => K (.exit 2) ⟨[(0, .arr (.ints 3 .i64 cells40)), (3, .pbox 0 0), (5, .int .i64 i41)], [(0, .box [.int .i64 o042, .arr (.vecs 287 3 o043), .arr (.rows 189 o044), .arr (.rows 33 o045)])]⟩)
  | _, _, _ => none
noncomputable def spec_DuelTrue_E (A : PM.Prims) (c_104 : spec_RowsOk_T) (c_24 : spec_HistOk_T) (c_107 : spec_l3Vals_T) (c_88 : spec_StateAt_T) (c_123 : spec_MemOk_T) (c_62 : spec_DuelOver_T) (c_125 : spec_Values_T) (c_124 : spec_l7Ints_T) : PM.Env := ⟨[(104, ⟨[], spec_RowsOk_w c_104, none⟩), (24, ⟨[], spec_HistOk_w c_24, none⟩), (107, ⟨[], spec_l3Vals_w c_107, none⟩), (88, ⟨[], spec_StateAt_w c_88, none⟩), (123, ⟨[], spec_MemOk_w c_123, none⟩), (62, ⟨[], spec_DuelOver_w c_62, none⟩), (125, ⟨[], spec_Values_w c_125, none⟩), (124, ⟨[], spec_l7Ints_w c_124, none⟩)], [], [(0, [0, 3, 5], [0, 3, 4]), (2, [0, 3, 5, 6, 7, 8], [0, 3, 4, 5])], [(0, [0, 3]), (1, [0, 3, 23]), (2, [4]), (3, [0, 3, 5]), (4, [0, 3, 5, 28]), (5, [0, 3, 5]), (6, [0, 3, 5, 6]), (7, [0, 3, 5, 6, 39]), (8, [4]), (9, [0, 3, 5, 6, 7]), (10, [0, 3, 5, 6, 7, 8]), (11, [0, 3, 5, 6, 7, 8, 50]), (12, [0, 3, 5, 6, 7, 8]), (13, [0, 3, 5, 6, 7, 8, 68]), (14, [4]), (15, [4])], spec_DuelTrue_L A c_104 c_24 c_107 c_88 c_123 c_62 c_125 c_124 A.fuel⟩
theorem spec_DuelTrue_l0_ok (A : PM.Prims) (c_104 : spec_RowsOk_T) (c_24 : spec_HistOk_T) (c_107 : spec_l3Vals_T) (c_88 : spec_StateAt_T) (c_123 : spec_MemOk_T) (c_62 : spec_DuelOver_T) (c_125 : spec_Values_T) (c_124 : spec_l7Ints_T) (n : Nat) (cells4 : List Int) (i5 : Int) (o06 : Int) (o07 : List (List Int)) (o08 : List (List C)) (o09 : List (List C)) (K : Go.Exit → PM.S → PM.R) : spec_DuelTrue_L A c_104 c_24 c_107 c_88 c_123 c_62 c_125 c_124 (n + 1) 0 ⟨[(0, .arr (.ints 3 .i64 cells4)), (3, .pbox 0 0), (5, .int .i64 i5)], [(0, .box [.int .i64 o06, .arr (.vecs 287 3 o07), .arr (.rows 189 o08), .arr (.rows 33 o09)])]⟩ K = PM.roundF A cx (PM.runD A cx (spec_DuelTrue_E A c_104 c_24 c_107 c_88 c_123 c_62 c_125 c_124).inl (spec_DuelTrue_E A c_104 c_24 c_107 c_88 c_123 c_62 c_125 c_124).Γ 3) (spec_DuelTrue_E A c_104 c_24 c_107 c_88 c_123 c_62 c_125 c_124) (spec_DuelTrue_L A c_104 c_24 c_107 c_88 c_123 c_62 c_125 c_124 n) 0 Go.Proofs.Try.f36 ⟨[(0, .arr (.ints 3 .i64 cells4)), (3, .pbox 0 0), (5, .int .i64 i5)], [(0, .box [.int .i64 o06, .arr (.vecs 287 3 o07), .arr (.rows 189 o08), .arr (.rows 33 o09)])]⟩ K := by kernel_rfl
theorem spec_DuelTrue_l2_ok (A : PM.Prims) (c_104 : spec_RowsOk_T) (c_24 : spec_HistOk_T) (c_107 : spec_l3Vals_T) (c_88 : spec_StateAt_T) (c_123 : spec_MemOk_T) (c_62 : spec_DuelOver_T) (c_125 : spec_Values_T) (c_124 : spec_l7Ints_T) (n : Nat) (cells13 : List Int) (i14 : Int) (k15 : Int) (o016 : Int) (o017 : List (List Int)) (o018 : List (List C)) (o019 : List (List C)) (o120 : Int) (o121 : Int) (o122 : Int) (o123 : Int) (o124 : Int) (o125 : List (List Int)) (o126 : Bool) (o127 : Int) (o128 : Int) (o129 : Int) (o130 : Int) (o131 : Int) (o132 : Int) (o133 : Int) (o134 : Int) (o135 : Int) (o136 : List (List Int)) (o137 : List Int) (o238 : List Int) (K : Go.Exit → PM.S → PM.R) : spec_DuelTrue_L A c_104 c_24 c_107 c_88 c_123 c_62 c_125 c_124 (n + 1) 2 ⟨[(0, .arr (.ints 3 .i64 cells13)), (3, .pbox 0 0), (5, .int .i64 i14), (6, .pbox 1 0), (7, .sref 2), (8, .int .i64 k15)], [(0, .box [.int .i64 o016, .arr (.vecs 287 3 o017), .arr (.rows 189 o018), .arr (.rows 33 o019)]), (1, .box [.int .i64 o120, .int .i64 o121, .int .i64 o122, .int .i64 o123, .int .i64 o124, .arr (.vecs 161 2 o125), .bool o126, .int .i64 o127, .int .i64 o128, .int .i64 o129, .int .i64 o130, .int .i64 o131, .int .i64 o132, .int .i64 o133, .int .i64 o134, .int .i64 o135, .arr (.vecs 161 2 o136), .arr (.ints 3 .i64 o137)]), (2, .arr true (.ints 3 .i64 o238))]⟩ K = PM.roundF A cx (PM.runD A cx (spec_DuelTrue_E A c_104 c_24 c_107 c_88 c_123 c_62 c_125 c_124).inl (spec_DuelTrue_E A c_104 c_24 c_107 c_88 c_123 c_62 c_125 c_124).Γ 3) (spec_DuelTrue_E A c_104 c_24 c_107 c_88 c_123 c_62 c_125 c_124) (spec_DuelTrue_L A c_104 c_24 c_107 c_88 c_123 c_62 c_125 c_124 n) 2 Go.Proofs.Try.f36 ⟨[(0, .arr (.ints 3 .i64 cells13)), (3, .pbox 0 0), (5, .int .i64 i14), (6, .pbox 1 0), (7, .sref 2), (8, .int .i64 k15)], [(0, .box [.int .i64 o016, .arr (.vecs 287 3 o017), .arr (.rows 189 o018), .arr (.rows 33 o019)]), (1, .box [.int .i64 o120, .int .i64 o121, .int .i64 o122, .int .i64 o123, .int .i64 o124, .arr (.vecs 161 2 o125), .bool o126, .int .i64 o127, .int .i64 o128, .int .i64 o129, .int .i64 o130, .int .i64 o131, .int .i64 o132, .int .i64 o133, .int .i64 o134, .int .i64 o135, .arr (.vecs 161 2 o136), .arr (.ints 3 .i64 o137)]), (2, .arr true (.ints 3 .i64 o238))]⟩ K := by kernel_rfl
theorem spec_DuelTrue_ok (A : PM.Prims) (c_104 : spec_RowsOk_T) (c_24 : spec_HistOk_T) (c_107 : spec_l3Vals_T) (c_88 : spec_StateAt_T) (c_123 : spec_MemOk_T) (c_62 : spec_DuelOver_T) (c_125 : spec_Values_T) (c_124 : spec_l7Ints_T) (__ : List Int) (a_Mem_Clock : Int) (a_Mem_Cells : List (List Int)) (a_Jobs : List (List PM.C)) (a_Hist : List (List PM.C)) (k : PM.V → PM.R) : PM.pfun A cx [] (spec_DuelTrue_E A c_104 c_24 c_107 c_88 c_123 c_62 c_125 c_124) Go.Proofs.Try.f36 [.arr (.ints 3 .i64 __), .agg [.int .i64 a_Mem_Clock, .arr (.vecs 287 3 a_Mem_Cells), .arr (.rows 189 a_Jobs), .arr (.rows 33 a_Hist)]] k = spec_DuelTrue_f A c_104 c_24 c_107 c_88 c_123 c_62 c_125 c_124 __ a_Mem_Clock a_Mem_Cells a_Jobs a_Hist (fun r0 => k (.bool r0)) := by kernel_rfl

theorem spec_DuelTrue_fn : PM.FnIs Try.prog 36 Try.f36 := .of Try.func36 (by kernel_rfl) (by kernel_rfl)
theorem spec_DuelTrue_g : PM.GOk Try.prog cx 36 ⟨[], spec_DuelTrue_w (spec_DuelTrue PM.std), none⟩ := by
  refine ⟨spec_DuelTrue_fn.enter, fun _ ds k r h => ?_, fun hm => absurd rfl hm, fun _ e => (by cases e)⟩
  change spec_DuelTrue_w (spec_DuelTrue PM.std) ds k = some r at h
  unfold spec_DuelTrue_w at h
  split at h
  · exact PM.pfun_ok (E := spec_DuelTrue_E PM.std (spec_RowsOk PM.std) (spec_HistOk PM.std) (spec_l3Vals PM.std) (spec_StateAt PM.std) (spec_MemOk PM.std) (spec_DuelOver PM.std) (spec_Values PM.std) (spec_l7Ints PM.std)) (L := fun n => spec_DuelTrue_L PM.std (spec_RowsOk PM.std) (spec_HistOk PM.std) (spec_l3Vals PM.std) (spec_StateAt PM.std) (spec_MemOk PM.std) (spec_DuelOver PM.std) (spec_Values PM.std) (spec_l7Ints PM.std) n) (N := PM.std.fuel) cx_ok (.cons spec_RowsOk_g (.cons spec_HistOk_g (.cons spec_l3Vals_g (.cons spec_StateAt_g (.cons spec_MemOk_g (.cons spec_DuelOver_g (.cons spec_Values_g (.cons spec_l7Ints_g .nil)))))))) mixed .nil spec_DuelTrue_fn (by kernel_rfl) ⟨rfl, fun cur σ K => by
      dsimp only [spec_DuelTrue_L]
      split <;> rfl, fun n cur σ K r h => by
      dsimp only [spec_DuelTrue_L] at h
      split at h
      · exact (spec_DuelTrue_l0_ok PM.std (spec_RowsOk PM.std) (spec_HistOk PM.std) (spec_l3Vals PM.std) (spec_StateAt PM.std) (spec_MemOk PM.std) (spec_DuelOver PM.std) (spec_Values PM.std) (spec_l7Ints PM.std) n _ _ _ _ _ _ K).symm.trans h
      · exact (spec_DuelTrue_l2_ok PM.std (spec_RowsOk PM.std) (spec_HistOk PM.std) (spec_l3Vals PM.std) (spec_StateAt PM.std) (spec_MemOk PM.std) (spec_DuelOver PM.std) (spec_Values PM.std) (spec_l7Ints PM.std) n _ _ _ _ _ _ _ _ _ _ _ _ _ _ _ _ _ _ _ _ _ _ _ _ _ _ K).symm.trans h
      · cases h⟩
      ((spec_DuelTrue_ok PM.std (spec_RowsOk PM.std) (spec_HistOk PM.std) (spec_l3Vals PM.std) (spec_StateAt PM.std) (spec_MemOk PM.std) (spec_DuelOver PM.std) (spec_Values PM.std) (spec_l7Ints PM.std) _ _ _ _ _ k).trans h)
  · cases h

abbrev impl_MemOk_T := (Int) → (List (List Int)) → ((Bool) → PM.R) → PM.R
noncomputable def impl_MemOk_w (c : impl_MemOk_T) (ds : List PM.V) (k : PM.V → PM.R) : PM.R :=
  match ds with
  | [.agg [.int .i64 m_Clock, .arr (.vecs 287 3 m_Cells)]] => c m_Clock m_Cells (fun r0 => k (.bool r0))
  | _ => none
noncomputable def impl_MemOk_l0 (A : PM.Prims) (c_134 : impl_within_T) (c_193 : impl_isValue_T) : Nat → (List (List Int)) → (Int) → (Int) → (Int) → (List (List Int)) → ((Bool) → PM.R) → ((Int) → (List (List Int)) → PM.R) → PM.R
  | 0, _, _, _, _, _, _, _ => none
  | n + 1, t61, t72, t83, o04, o05, kret_0, kx0_0 =>
    bif (A.lt t83 t72) then
      bif (A.inb t83 (A.vlen t61)) then
        c_193 (A.vget t61 t83 0) (fun r6 =>
          bif (A.not r6) then
            kret_0 false
          else
            c_134 (A.vget t61 t83 1) 0 o04 (fun r8 =>
              bif (A.not r8) then
                kret_0 false
              else
                c_134 (A.vget t61 t83 2) 0 99 (fun r9 =>
                  bif (A.not r9) then
                    kret_0 false
                  else
                    impl_MemOk_l0 A c_134 c_193 n t61 t72 (A.add .i64 t83 1) o04 o05 kret_0 kx0_0)))
      else
        none
    else
      kx0_0 o04 o05
noncomputable def impl_MemOk_f (A : PM.Prims) (c_134 : impl_within_T) (c_193 : impl_isValue_T) (m_Clock : Int) (m_Cells : List (List Int)) (k : (Bool) → PM.R) : PM.R :=
  impl_MemOk_l0 A c_134 c_193 A.fuel m_Cells (A.vlen m_Cells) 0 m_Clock m_Cells (fun t2712 =>
    k t2712) (fun o01013 o01114 =>
    bif (A.eq (A.vlen o01114) 8) then
      c_134 o01013 0 1000000 (fun r15 =>
        k r15)
    else
      k false)
noncomputable def impl_MemOk (A : PM.Prims) : impl_MemOk_T := impl_MemOk_f A (impl_within A) (impl_isValue A)
noncomputable def impl_MemOk_L (A : PM.Prims) (c_134 : impl_within_T) (c_193 : impl_isValue_T) (n : Nat) : PM.Lam := fun cur σ K =>
  match cur, σ, K with
  | 0, ⟨[(1, .pbox 0 0), (6, .arr (.vecs 287 3 t61)), (7, .int .i64 t72), (8, .int .i64 t83)], [(0, .box [.int .i64 o04, .arr (.vecs 287 3 o05)])]⟩, K => impl_MemOk_l0 A c_134 c_193 n t61 t72 t83 o04 o05 (fun t27 => K .ret ⟨[(2, .bool t27)], []⟩) (fun o010 o011 => K (.exit 0) ⟨[(1, .pbox 0 0)], [(0, .box [.int .i64 o010, .arr (.vecs 287 3 o011)])]⟩)
  | _, _, _ => none
noncomputable def impl_MemOk_E (A : PM.Prims) (c_134 : impl_within_T) (c_193 : impl_isValue_T) : PM.Env := ⟨[(134, ⟨[], impl_within_w c_134, none⟩), (193, ⟨[], impl_isValue_w c_193, none⟩)], [], [(0, [1, 6, 7, 8], [1, 2])], [(0, [1]), (1, [1, 6, 7, 8]), (2, [1, 6, 7, 8, 9]), (3, [1, 4, 6, 7, 8]), (4, [1, 6, 7, 8, 29]), (5, [2]), (6, [1, 6, 7, 8]), (7, [2])], impl_MemOk_L A c_134 c_193 A.fuel⟩
theorem impl_MemOk_l0_ok (A : PM.Prims) (c_134 : impl_within_T) (c_193 : impl_isValue_T) (n : Nat) (t61 : List (List Int)) (t72 : Int) (t83 : Int) (o04 : Int) (o05 : List (List Int)) (K : Go.Exit → PM.S → PM.R) : impl_MemOk_L A c_134 c_193 (n + 1) 0 ⟨[(1, .pbox 0 0), (6, .arr (.vecs 287 3 t61)), (7, .int .i64 t72), (8, .int .i64 t83)], [(0, .box [.int .i64 o04, .arr (.vecs 287 3 o05)])]⟩ K = PM.roundF A cx (PM.runD A cx (impl_MemOk_E A c_134 c_193).inl (impl_MemOk_E A c_134 c_193).Γ 3) (impl_MemOk_E A c_134 c_193) (impl_MemOk_L A c_134 c_193 n) 0 Go.Proofs.Try.f127 ⟨[(1, .pbox 0 0), (6, .arr (.vecs 287 3 t61)), (7, .int .i64 t72), (8, .int .i64 t83)], [(0, .box [.int .i64 o04, .arr (.vecs 287 3 o05)])]⟩ K := by kernel_rfl
theorem impl_MemOk_ok (A : PM.Prims) (c_134 : impl_within_T) (c_193 : impl_isValue_T) (m_Clock : Int) (m_Cells : List (List Int)) (k : PM.V → PM.R) : PM.pfun A cx [] (impl_MemOk_E A c_134 c_193) Go.Proofs.Try.f127 [.agg [.int .i64 m_Clock, .arr (.vecs 287 3 m_Cells)]] k = impl_MemOk_f A c_134 c_193 m_Clock m_Cells (fun r0 => k (.bool r0)) := by kernel_rfl

theorem impl_MemOk_fn : PM.FnIs Try.prog 127 Try.f127 := .of Try.func127 (by kernel_rfl) (by kernel_rfl)
theorem impl_MemOk_g : PM.GOk Try.prog cx 127 ⟨[], impl_MemOk_w (impl_MemOk PM.std), none⟩ := by
  refine ⟨impl_MemOk_fn.enter, fun _ ds k r h => ?_, fun hm => absurd rfl hm, fun _ e => (by cases e)⟩
  change impl_MemOk_w (impl_MemOk PM.std) ds k = some r at h
  unfold impl_MemOk_w at h
  split at h
  · exact PM.pfun_ok (E := impl_MemOk_E PM.std (impl_within PM.std) (impl_isValue PM.std)) (L := fun n => impl_MemOk_L PM.std (impl_within PM.std) (impl_isValue PM.std) n) (N := PM.std.fuel) cx_ok (.cons impl_within_g (.cons impl_isValue_g .nil)) mixed .nil impl_MemOk_fn (by kernel_rfl) ⟨rfl, fun cur σ K => by
      dsimp only [impl_MemOk_L]
      split <;> rfl, fun n cur σ K r h => by
      dsimp only [impl_MemOk_L] at h
      split at h
      · exact (impl_MemOk_l0_ok PM.std (impl_within PM.std) (impl_isValue PM.std) n _ _ _ _ _ K).symm.trans h
      · cases h⟩
      ((impl_MemOk_ok PM.std (impl_within PM.std) (impl_isValue PM.std) _ _ k).trans h)
  · cases h

abbrev impl_DuelOver_1_T := (Int) → (Int) → (Int) → (Int) → (Int) → (List (List Int)) → (Bool) → (Int) → (Int) → (Int) → (Int) → (Int) → (Int) → (Int) → (Int) → (Int) → (List (List Int)) → (List Int) → ((Bool) → PM.R) → PM.R
noncomputable def impl_DuelOver_1_w (c : impl_DuelOver_1_T) (ds : List PM.V) (k : PM.V → PM.R) : PM.R :=
  match ds with
  | [.agg [.int .i64 j_Phase, .int .i64 j_Tries, .int .i64 j_Rv, .int .i64 j_At, .int .i64 j_Stamp, .arr (.vecs 161 2 j_Seen), .bool j_Busy, .int .i64 j_Probe_Cell, .int .i64 j_Probe_Phase, .int .i64 j_Probe_Ver, .int .i64 j_Probe_Val, .int .i64 j_Commit_Who, .int .i64 j_Commit_Rv, .int .i64 j_Commit_Phase, .int .i64 j_Commit_At, .int .i64 j_Commit_Wv, .arr (.vecs 161 2 j_Commit_Puts), .arr (.ints 3 .i64 j_Commit_Reads)]] => c j_Phase j_Tries j_Rv j_At j_Stamp j_Seen j_Busy j_Probe_Cell j_Probe_Phase j_Probe_Ver j_Probe_Val j_Commit_Who j_Commit_Rv j_Commit_Phase j_Commit_At j_Commit_Wv j_Commit_Puts j_Commit_Reads (fun r0 => k (.bool r0))
  | _ => none
noncomputable def impl_DuelOver_1_f (A : PM.Prims) (j_Phase : Int) (j_Tries : Int) (j_Rv : Int) (j_At : Int) (j_Stamp : Int) (j_Seen : List (List Int)) (j_Busy : Bool) (j_Probe_Cell : Int) (j_Probe_Phase : Int) (j_Probe_Ver : Int) (j_Probe_Val : Int) (j_Commit_Who : Int) (j_Commit_Rv : Int) (j_Commit_Phase : Int) (j_Commit_At : Int) (j_Commit_Wv : Int) (j_Commit_Puts : List (List Int)) (j_Commit_Reads : List Int) (k : (Bool) → PM.R) : PM.R :=
  k (A.not (A.eq j_Phase 3))
noncomputable def impl_DuelOver_1 (A : PM.Prims) : impl_DuelOver_1_T := impl_DuelOver_1_f A
noncomputable def impl_DuelOver_1_L (A : PM.Prims) (n : Nat) : PM.Lam := fun cur σ K =>
  match cur, σ, K with
  | _, _, _ => none
noncomputable def impl_DuelOver_1_E (A : PM.Prims) : PM.Env := ⟨[], [], [], [(0, [1]), (1, [2])], impl_DuelOver_1_L A A.fuel⟩
theorem impl_DuelOver_1_ok (A : PM.Prims) (j_Phase : Int) (j_Tries : Int) (j_Rv : Int) (j_At : Int) (j_Stamp : Int) (j_Seen : List (List Int)) (j_Busy : Bool) (j_Probe_Cell : Int) (j_Probe_Phase : Int) (j_Probe_Ver : Int) (j_Probe_Val : Int) (j_Commit_Who : Int) (j_Commit_Rv : Int) (j_Commit_Phase : Int) (j_Commit_At : Int) (j_Commit_Wv : Int) (j_Commit_Puts : List (List Int)) (j_Commit_Reads : List Int) (k : PM.V → PM.R) : PM.pfun A cx [] (impl_DuelOver_1_E A) Go.Proofs.Try.f158 [.agg [.int .i64 j_Phase, .int .i64 j_Tries, .int .i64 j_Rv, .int .i64 j_At, .int .i64 j_Stamp, .arr (.vecs 161 2 j_Seen), .bool j_Busy, .int .i64 j_Probe_Cell, .int .i64 j_Probe_Phase, .int .i64 j_Probe_Ver, .int .i64 j_Probe_Val, .int .i64 j_Commit_Who, .int .i64 j_Commit_Rv, .int .i64 j_Commit_Phase, .int .i64 j_Commit_At, .int .i64 j_Commit_Wv, .arr (.vecs 161 2 j_Commit_Puts), .arr (.ints 3 .i64 j_Commit_Reads)]] k = impl_DuelOver_1_f A j_Phase j_Tries j_Rv j_At j_Stamp j_Seen j_Busy j_Probe_Cell j_Probe_Phase j_Probe_Ver j_Probe_Val j_Commit_Who j_Commit_Rv j_Commit_Phase j_Commit_At j_Commit_Wv j_Commit_Puts j_Commit_Reads (fun r0 => k (.bool r0)) := by kernel_rfl

theorem impl_DuelOver_1_fn : PM.FnIs Try.prog 158 Try.f158 := .of Try.func158 (by kernel_rfl) (by kernel_rfl)
theorem impl_DuelOver_1_g : PM.GOk Try.prog cx 158 ⟨[], impl_DuelOver_1_w (impl_DuelOver_1 PM.std), none⟩ := by
  refine ⟨impl_DuelOver_1_fn.enter, fun _ ds k r h => ?_, fun hm => absurd rfl hm, fun _ e => (by cases e)⟩
  change impl_DuelOver_1_w (impl_DuelOver_1 PM.std) ds k = some r at h
  unfold impl_DuelOver_1_w at h
  split at h
  · exact PM.pfun_ok (E := impl_DuelOver_1_E PM.std) (L := fun n => impl_DuelOver_1_L PM.std n) (N := PM.std.fuel) cx_ok .nil mixed .nil impl_DuelOver_1_fn (by kernel_rfl) ⟨rfl, fun _ _ _ => rfl, fun n cur σ K r h => by cases h⟩
      ((impl_DuelOver_1_ok PM.std _ _ _ _ _ _ _ _ _ _ _ _ _ _ _ _ _ _ k).trans h)
  · cases h

abbrev slices_IndexFunc___impl_JobRun_impl_JobRun__T := (List (List PM.C)) → ((Int) → PM.R) → PM.R
noncomputable def slices_IndexFunc___impl_JobRun_impl_JobRun__w (c : slices_IndexFunc___impl_JobRun_impl_JobRun__T) (ds : List PM.V) (k : PM.V → PM.R) : PM.R :=
  match ds with
  | [.arr (.rows 189 s), .func 158 []] => c s (fun r0 => k (.int .i64 r0))
  | _ => none
noncomputable def slices_IndexFunc___impl_JobRun_impl_JobRun__l0 (A : PM.Prims) (c_158 : impl_DuelOver_1_T) : Nat → (List (List C)) → (Int) → (Int) → ((Int) → PM.R) → (Unit → PM.R) → PM.R
  | 0, _, _, _, _, _ => none
  | n + 1, s1, t72, t83, kret_0, kx0_0 =>
    bif (A.lt t83 t72) then
      bif (A.inb t83 (A.rlen s1)) then
        c_158 (A.rint s1 t83 0) (A.rint s1 t83 1) (A.rint s1 t83 2) (A.rint s1 t83 3) (A.rint s1 t83 4) (A.rsv 2 s1 t83 5) (A.rbool s1 t83 6) (A.rint s1 t83 7) (A.rint s1 t83 8) (A.rint s1 t83 9) (A.rint s1 t83 10) (A.rint s1 t83 11) (A.rint s1 t83 12) (A.rint s1 t83 13) (A.rint s1 t83 14) (A.rint s1 t83 15) (A.rsv 2 s1 t83 16) (A.rsi s1 t83 17) (fun r4 =>
          bif r4 then
            kret_0 t83
          else
            slices_IndexFunc___impl_JobRun_impl_JobRun__l0 A c_158 n s1 t72 (A.add .i64 t83 1) kret_0 kx0_0)
      else
        none
    else
      kx0_0 ()
noncomputable def slices_IndexFunc___impl_JobRun_impl_JobRun__f (A : PM.Prims) (c_158 : impl_DuelOver_1_T) (s : List (List PM.C)) (k : (Int) → PM.R) : PM.R :=
  slices_IndexFunc___impl_JobRun_impl_JobRun__l0 A c_158 A.fuel s (A.rlen s) 0 (fun t456 =>
    k t456) (fun _ =>
    k (-1))
noncomputable def slices_IndexFunc___impl_JobRun_impl_JobRun_ (A : PM.Prims) : slices_IndexFunc___impl_JobRun_impl_JobRun__T := slices_IndexFunc___impl_JobRun_impl_JobRun__f A (impl_DuelOver_1 A)
noncomputable def slices_IndexFunc___impl_JobRun_impl_JobRun__L (A : PM.Prims) (c_158 : impl_DuelOver_1_T) (n : Nat) : PM.Lam := fun cur σ K =>
  match cur, σ, K with
  | 0, ⟨[(0, .arr (.rows 189 s1)), (1, .func 158 []), (7, .int .i64 t72), (8, .int .i64 t83)], []⟩, K => slices_IndexFunc___impl_JobRun_impl_JobRun__l0 A c_158 n s1 t72 t83 (fun t45 => K .ret ⟨[(4, .int .i64 t45)], []⟩) (fun _ => K (.exit 0) ⟨[], []⟩)
  | _, _, _ => none
noncomputable def slices_IndexFunc___impl_JobRun_impl_JobRun__E (A : PM.Prims) (c_158 : impl_DuelOver_1_T) : PM.Env := ⟨[(158, ⟨[], impl_DuelOver_1_w c_158, none⟩)], [], [(0, [0, 1, 7, 8], [4])], [(0, [0, 1]), (1, [0, 1, 7, 8]), (2, [0, 1, 7, 8, 9]), (3, [0, 1, 5, 7, 8]), (4, [0, 1, 5, 7, 8, 16]), (5, [4]), (6, [0, 1, 7, 8]), (7, [4])], slices_IndexFunc___impl_JobRun_impl_JobRun__L A c_158 A.fuel⟩
theorem slices_IndexFunc___impl_JobRun_impl_JobRun__l0_ok (A : PM.Prims) (c_158 : impl_DuelOver_1_T) (n : Nat) (s1 : List (List C)) (t72 : Int) (t83 : Int) (K : Go.Exit → PM.S → PM.R) : slices_IndexFunc___impl_JobRun_impl_JobRun__L A c_158 (n + 1) 0 ⟨[(0, .arr (.rows 189 s1)), (1, .func 158 []), (7, .int .i64 t72), (8, .int .i64 t83)], []⟩ K = PM.roundF A cx (PM.runD A cx (slices_IndexFunc___impl_JobRun_impl_JobRun__E A c_158).inl (slices_IndexFunc___impl_JobRun_impl_JobRun__E A c_158).Γ 3) (slices_IndexFunc___impl_JobRun_impl_JobRun__E A c_158) (slices_IndexFunc___impl_JobRun_impl_JobRun__L A c_158 n) 0 Go.Proofs.Try.f220 ⟨[(0, .arr (.rows 189 s1)), (1, .func 158 []), (7, .int .i64 t72), (8, .int .i64 t83)], []⟩ K := by kernel_rfl
theorem slices_IndexFunc___impl_JobRun_impl_JobRun__ok (A : PM.Prims) (c_158 : impl_DuelOver_1_T) (s : List (List PM.C)) (k : PM.V → PM.R) : PM.pfun A cx [] (slices_IndexFunc___impl_JobRun_impl_JobRun__E A c_158) Go.Proofs.Try.f220 [.arr (.rows 189 s), .func 158 []] k = slices_IndexFunc___impl_JobRun_impl_JobRun__f A c_158 s (fun r0 => k (.int .i64 r0)) := by kernel_rfl

theorem slices_IndexFunc___impl_JobRun_impl_JobRun__fn : PM.FnIs Try.prog 220 Try.f220 := .of Try.func220 (by kernel_rfl) (by kernel_rfl)
theorem slices_IndexFunc___impl_JobRun_impl_JobRun__g : PM.GOk Try.prog cx 220 ⟨[], slices_IndexFunc___impl_JobRun_impl_JobRun__w (slices_IndexFunc___impl_JobRun_impl_JobRun_ PM.std), none⟩ := by
  refine ⟨slices_IndexFunc___impl_JobRun_impl_JobRun__fn.enter, fun _ ds k r h => ?_, fun hm => absurd rfl hm, fun _ e => (by cases e)⟩
  change slices_IndexFunc___impl_JobRun_impl_JobRun__w (slices_IndexFunc___impl_JobRun_impl_JobRun_ PM.std) ds k = some r at h
  unfold slices_IndexFunc___impl_JobRun_impl_JobRun__w at h
  split at h
  · exact PM.pfun_ok (E := slices_IndexFunc___impl_JobRun_impl_JobRun__E PM.std (impl_DuelOver_1 PM.std)) (L := fun n => slices_IndexFunc___impl_JobRun_impl_JobRun__L PM.std (impl_DuelOver_1 PM.std) n) (N := PM.std.fuel) cx_ok (.cons impl_DuelOver_1_g .nil) mixed .nil slices_IndexFunc___impl_JobRun_impl_JobRun__fn (by kernel_rfl) ⟨rfl, fun cur σ K => by
      dsimp only [slices_IndexFunc___impl_JobRun_impl_JobRun__L]
      split <;> rfl, fun n cur σ K r h => by
      dsimp only [slices_IndexFunc___impl_JobRun_impl_JobRun__L] at h
      split at h
      · exact (slices_IndexFunc___impl_JobRun_impl_JobRun__l0_ok PM.std (impl_DuelOver_1 PM.std) n _ _ _ K).symm.trans h
      · cases h⟩
      ((slices_IndexFunc___impl_JobRun_impl_JobRun__ok PM.std (impl_DuelOver_1 PM.std) _ k).trans h)
  · cases h

abbrev slices_ContainsFunc___impl_JobRun_impl_JobRun__T := (List (List PM.C)) → ((Bool) → PM.R) → PM.R
noncomputable def slices_ContainsFunc___impl_JobRun_impl_JobRun__w (c : slices_ContainsFunc___impl_JobRun_impl_JobRun__T) (ds : List PM.V) (k : PM.V → PM.R) : PM.R :=
  match ds with
  | [.arr (.rows 189 s), .func 158 []] => c s (fun r0 => k (.bool r0))
  | _ => none
noncomputable def slices_ContainsFunc___impl_JobRun_impl_JobRun__f (A : PM.Prims) (c_158 : impl_DuelOver_1_T) (c_220 : slices_IndexFunc___impl_JobRun_impl_JobRun__T) (s : List (List PM.C)) (k : (Bool) → PM.R) : PM.R :=
  c_220 s (fun r1 =>
    k (A.le 0 r1))
noncomputable def slices_ContainsFunc___impl_JobRun_impl_JobRun_ (A : PM.Prims) : slices_ContainsFunc___impl_JobRun_impl_JobRun__T := slices_ContainsFunc___impl_JobRun_impl_JobRun__f A (impl_DuelOver_1 A) (slices_IndexFunc___impl_JobRun_impl_JobRun_ A)
noncomputable def slices_ContainsFunc___impl_JobRun_impl_JobRun__L (A : PM.Prims) (c_158 : impl_DuelOver_1_T) (c_220 : slices_IndexFunc___impl_JobRun_impl_JobRun__T) (n : Nat) : PM.Lam := fun cur σ K =>
  match cur, σ, K with
  | _, _, _ => none
noncomputable def slices_ContainsFunc___impl_JobRun_impl_JobRun__E (A : PM.Prims) (c_158 : impl_DuelOver_1_T) (c_220 : slices_IndexFunc___impl_JobRun_impl_JobRun__T) : PM.Env := ⟨[(158, ⟨[], impl_DuelOver_1_w c_158, none⟩), (220, ⟨[], slices_IndexFunc___impl_JobRun_impl_JobRun__w c_220, none⟩)], [], [], [(0, [0, 1]), (1, [4])], slices_ContainsFunc___impl_JobRun_impl_JobRun__L A c_158 c_220 A.fuel⟩
theorem slices_ContainsFunc___impl_JobRun_impl_JobRun__ok (A : PM.Prims) (c_158 : impl_DuelOver_1_T) (c_220 : slices_IndexFunc___impl_JobRun_impl_JobRun__T) (s : List (List PM.C)) (k : PM.V → PM.R) : PM.pfun A cx [] (slices_ContainsFunc___impl_JobRun_impl_JobRun__E A c_158 c_220) Go.Proofs.Try.f157 [.arr (.rows 189 s), .func 158 []] k = slices_ContainsFunc___impl_JobRun_impl_JobRun__f A c_158 c_220 s (fun r0 => k (.bool r0)) := by kernel_rfl

theorem slices_ContainsFunc___impl_JobRun_impl_JobRun__fn : PM.FnIs Try.prog 157 Try.f157 := .of Try.func157 (by kernel_rfl) (by kernel_rfl)
theorem slices_ContainsFunc___impl_JobRun_impl_JobRun__g : PM.GOk Try.prog cx 157 ⟨[], slices_ContainsFunc___impl_JobRun_impl_JobRun__w (slices_ContainsFunc___impl_JobRun_impl_JobRun_ PM.std), none⟩ := by
  refine ⟨slices_ContainsFunc___impl_JobRun_impl_JobRun__fn.enter, fun _ ds k r h => ?_, fun hm => absurd rfl hm, fun _ e => (by cases e)⟩
  change slices_ContainsFunc___impl_JobRun_impl_JobRun__w (slices_ContainsFunc___impl_JobRun_impl_JobRun_ PM.std) ds k = some r at h
  unfold slices_ContainsFunc___impl_JobRun_impl_JobRun__w at h
  split at h
  · exact PM.pfun_ok (E := slices_ContainsFunc___impl_JobRun_impl_JobRun__E PM.std (impl_DuelOver_1 PM.std) (slices_IndexFunc___impl_JobRun_impl_JobRun_ PM.std)) (L := fun n => slices_ContainsFunc___impl_JobRun_impl_JobRun__L PM.std (impl_DuelOver_1 PM.std) (slices_IndexFunc___impl_JobRun_impl_JobRun_ PM.std) n) (N := PM.std.fuel) cx_ok (.cons impl_DuelOver_1_g (.cons slices_IndexFunc___impl_JobRun_impl_JobRun__g .nil)) mixed .nil slices_ContainsFunc___impl_JobRun_impl_JobRun__fn (by kernel_rfl) ⟨rfl, fun _ _ _ => rfl, fun n cur σ K r h => by cases h⟩
      ((slices_ContainsFunc___impl_JobRun_impl_JobRun__ok PM.std (impl_DuelOver_1 PM.std) (slices_IndexFunc___impl_JobRun_impl_JobRun_ PM.std) _ k).trans h)
  · cases h

abbrev impl_DuelOver_T := (Int) → (List (List Int)) → (List (List PM.C)) → (List (List PM.C)) → ((Bool) → PM.R) → PM.R
noncomputable def impl_DuelOver_w (c : impl_DuelOver_T) (ds : List PM.V) (k : PM.V → PM.R) : PM.R :=
  match ds with
  | [.agg [.int .i64 d_Mem_Clock, .arr (.vecs 287 3 d_Mem_Cells), .arr (.rows 189 d_Jobs), .arr (.rows 33 d_Hist)]] => c d_Mem_Clock d_Mem_Cells d_Jobs d_Hist (fun r0 => k (.bool r0))
  | _ => none
noncomputable def impl_DuelOver_f (A : PM.Prims) (c_157 : slices_ContainsFunc___impl_JobRun_impl_JobRun__T) (d_Mem_Clock : Int) (d_Mem_Cells : List (List Int)) (d_Jobs : List (List PM.C)) (d_Hist : List (List PM.C)) (k : (Bool) → PM.R) : PM.R :=
  c_157 d_Jobs (fun r1 =>
    k (A.not r1))
noncomputable def impl_DuelOver (A : PM.Prims) : impl_DuelOver_T := impl_DuelOver_f A (slices_ContainsFunc___impl_JobRun_impl_JobRun_ A)
noncomputable def impl_DuelOver_L (A : PM.Prims) (c_157 : slices_ContainsFunc___impl_JobRun_impl_JobRun__T) (n : Nat) : PM.Lam := fun cur σ K =>
  match cur, σ, K with
  | _, _, _ => none
noncomputable def impl_DuelOver_E (A : PM.Prims) (c_157 : slices_ContainsFunc___impl_JobRun_impl_JobRun__T) : PM.Env := ⟨[(157, ⟨[], slices_ContainsFunc___impl_JobRun_impl_JobRun__w c_157, none⟩)], [], [], [(0, [1]), (1, [2])], impl_DuelOver_L A c_157 A.fuel⟩
theorem impl_DuelOver_ok (A : PM.Prims) (c_157 : slices_ContainsFunc___impl_JobRun_impl_JobRun__T) (d_Mem_Clock : Int) (d_Mem_Cells : List (List Int)) (d_Jobs : List (List PM.C)) (d_Hist : List (List PM.C)) (k : PM.V → PM.R) : PM.pfun A cx [] (impl_DuelOver_E A c_157) Go.Proofs.Try.f63 [.agg [.int .i64 d_Mem_Clock, .arr (.vecs 287 3 d_Mem_Cells), .arr (.rows 189 d_Jobs), .arr (.rows 33 d_Hist)]] k = impl_DuelOver_f A c_157 d_Mem_Clock d_Mem_Cells d_Jobs d_Hist (fun r0 => k (.bool r0)) := by kernel_rfl

theorem impl_DuelOver_fn : PM.FnIs Try.prog 63 Try.f63 := .of Try.func63 (by kernel_rfl) (by kernel_rfl)
theorem impl_DuelOver_g : PM.GOk Try.prog cx 63 ⟨[], impl_DuelOver_w (impl_DuelOver PM.std), none⟩ := by
  refine ⟨impl_DuelOver_fn.enter, fun _ ds k r h => ?_, fun hm => absurd rfl hm, fun _ e => (by cases e)⟩
  change impl_DuelOver_w (impl_DuelOver PM.std) ds k = some r at h
  unfold impl_DuelOver_w at h
  split at h
  · exact PM.pfun_ok (E := impl_DuelOver_E PM.std (slices_ContainsFunc___impl_JobRun_impl_JobRun_ PM.std)) (L := fun n => impl_DuelOver_L PM.std (slices_ContainsFunc___impl_JobRun_impl_JobRun_ PM.std) n) (N := PM.std.fuel) cx_ok (.cons slices_ContainsFunc___impl_JobRun_impl_JobRun__g .nil) mixed .nil impl_DuelOver_fn (by kernel_rfl) ⟨rfl, fun _ _ _ => rfl, fun n cur σ K r h => by cases h⟩
      ((impl_DuelOver_ok PM.std (slices_ContainsFunc___impl_JobRun_impl_JobRun_ PM.std) _ _ _ _ k).trans h)
  · cases h

abbrev impl_Values_T := (Int) → (List (List Int)) → ((List Int) → PM.R) → PM.R
noncomputable def impl_Values_w (c : impl_Values_T) (ds : List PM.V) (k : PM.V → PM.R) : PM.R :=
  match ds with
  | [.agg [.int .i64 m_Clock, .arr (.vecs 287 3 m_Cells)]] => c m_Clock m_Cells (fun r0 => k (.arr (.ints 3 .i64 r0)))
  | _ => none
noncomputable def impl_Values_l0 (A : PM.Prims) (c_127 : impl_MemOk_T) : Nat → (List (List Int)) → (Int) → (Int) → (List Int) → ((List Int) → PM.R) → PM.R
  | 0, _, _, _, _, _ => none
  | n + 1, t112, t123, t134, o05, kx0_0 =>
    bif (A.lt t134 t123) then
      bif (A.inb t134 (A.vlen t112)) then
        bif (A.room (A.ilen o05) (A.ilen [(A.vget t112 t134 0)])) then
          impl_Values_l0 A c_127 n t112 t123 (A.add .i64 t134 1) (A.iapp o05 [(A.vget t112 t134 0)]) kx0_0
        else
          none
      else
        none
    else
      kx0_0 o05
noncomputable def impl_Values_f (A : PM.Prims) (c_127 : impl_MemOk_T) (m_Clock : Int) (m_Cells : List (List Int)) (k : (List Int) → PM.R) : PM.R :=
  c_127 m_Clock m_Cells (fun r1 =>
    bif (A.not r1) then
      k []
    else
      impl_Values_l0 A c_127 A.fuel m_Cells (A.vlen m_Cells) 0 [] (fun o067 =>
        k o067))
noncomputable def impl_Values (A : PM.Prims) : impl_Values_T := impl_Values_f A (impl_MemOk A)
noncomputable def impl_Values_L (A : PM.Prims) (c_127 : impl_MemOk_T) (n : Nat) : PM.Lam := fun cur σ K =>
  match cur, σ, K with
  | 0, ⟨[(3, .sref 0), (11, .arr (.vecs 287 3 t112)), (12, .int .i64 t123), (13, .int .i64 t134)], [(0, .arr true (.ints 3 .i64 o05))]⟩, K => impl_Values_l0 A c_127 n t112 t123 t134 o05 (fun o06 => K (.exit 0) ⟨[(3, .sref 0)], [(0, .arr true (.ints 3 .i64 o06))]⟩)
  | _, _, _ => none
noncomputable def impl_Values_E (A : PM.Prims) (c_127 : impl_MemOk_T) : PM.Env := ⟨[(127, ⟨[], impl_MemOk_w c_127, none⟩)], [], [(0, [3, 11, 12, 13], [2, 3])], [(0, [1]), (1, [1, 8]), (2, [2]), (3, [1, 3]), (4, [3, 11, 12, 13]), (5, [3, 11, 12, 13, 14]), (6, [3, 5, 11, 12, 13]), (7, [3, 11, 12, 13]), (8, [3, 11, 12, 13]), (9, [2])], impl_Values_L A c_127 A.fuel⟩
theorem impl_Values_l0_ok (A : PM.Prims) (c_127 : impl_MemOk_T) (n : Nat) (t112 : List (List Int)) (t123 : Int) (t134 : Int) (o05 : List Int) (K : Go.Exit → PM.S → PM.R) : impl_Values_L A c_127 (n + 1) 0 ⟨[(3, .sref 0), (11, .arr (.vecs 287 3 t112)), (12, .int .i64 t123), (13, .int .i64 t134)], [(0, .arr true (.ints 3 .i64 o05))]⟩ K = PM.roundF A cx (PM.runD A cx (impl_Values_E A c_127).inl (impl_Values_E A c_127).Γ 3) (impl_Values_E A c_127) (impl_Values_L A c_127 n) 0 Go.Proofs.Try.f130 ⟨[(3, .sref 0), (11, .arr (.vecs 287 3 t112)), (12, .int .i64 t123), (13, .int .i64 t134)], [(0, .arr true (.ints 3 .i64 o05))]⟩ K := by kernel_rfl
theorem impl_Values_ok (A : PM.Prims) (c_127 : impl_MemOk_T) (m_Clock : Int) (m_Cells : List (List Int)) (k : PM.V → PM.R) : PM.pfun A cx [] (impl_Values_E A c_127) Go.Proofs.Try.f130 [.agg [.int .i64 m_Clock, .arr (.vecs 287 3 m_Cells)]] k = impl_Values_f A c_127 m_Clock m_Cells (fun r0 => k (.arr (.ints 3 .i64 r0))) := by kernel_rfl

theorem impl_Values_fn : PM.FnIs Try.prog 130 Try.f130 := .of Try.func130 (by kernel_rfl) (by kernel_rfl)
theorem impl_Values_g : PM.GOk Try.prog cx 130 ⟨[], impl_Values_w (impl_Values PM.std), none⟩ := by
  refine ⟨impl_Values_fn.enter, fun _ ds k r h => ?_, fun hm => absurd rfl hm, fun _ e => (by cases e)⟩
  change impl_Values_w (impl_Values PM.std) ds k = some r at h
  unfold impl_Values_w at h
  split at h
  · exact PM.pfun_ok (E := impl_Values_E PM.std (impl_MemOk PM.std)) (L := fun n => impl_Values_L PM.std (impl_MemOk PM.std) n) (N := PM.std.fuel) cx_ok (.cons impl_MemOk_g .nil) mixed .nil impl_Values_fn (by kernel_rfl) ⟨rfl, fun cur σ K => by
      dsimp only [impl_Values_L]
      split <;> rfl, fun n cur σ K r h => by
      dsimp only [impl_Values_L] at h
      split at h
      · exact (impl_Values_l0_ok PM.std (impl_MemOk PM.std) n _ _ _ _ K).symm.trans h
      · cases h⟩
      ((impl_Values_ok PM.std (impl_MemOk PM.std) _ _ k).trans h)
  · cases h

abbrev slices_Equal___int_int__T := (List Int) → (List Int) → ((Bool) → PM.R) → PM.R
noncomputable def slices_Equal___int_int__w (c : slices_Equal___int_int__T) (ds : List PM.V) (k : PM.V → PM.R) : PM.R :=
  match ds with
  | [.arr (.ints 3 .i64 s1), .arr (.ints 3 .i64 s2)] => c s1 s2 (fun r0 => k (.bool r0))
  | _ => none
noncomputable def slices_Equal___int_int__l0 (A : PM.Prims) : Nat → (List Int) → (List Int) → (Int) → (Int) → ((Bool) → PM.R) → (Unit → PM.R) → PM.R
  | 0, _, _, _, _, _, _ => none
  | n + 1, s11, s22, t123, t134, kret_0, kx0_0 =>
    bif (A.lt t134 t123) then
      bif (A.inb t134 (A.ilen s11)) then
        bif (A.inb t134 (A.ilen s22)) then
          bif (A.not (A.eq (A.iget s11 t134) (A.iget s22 t134))) then
            kret_0 false
          else
            slices_Equal___int_int__l0 A n s11 s22 t123 (A.add .i64 t134 1) kret_0 kx0_0
        else
          none
      else
        none
    else
      kx0_0 ()
noncomputable def slices_Equal___int_int__f (A : PM.Prims) (s1 : List Int) (s2 : List Int) (k : (Bool) → PM.R) : PM.R :=
  bif (A.not (A.eq (A.ilen s1) (A.ilen s2))) then
    k false
  else
    slices_Equal___int_int__l0 A A.fuel s1 s2 (A.ilen s1) 0 (fun t456 =>
      k t456) (fun _ =>
      k true)
noncomputable def slices_Equal___int_int_ (A : PM.Prims) : slices_Equal___int_int__T := slices_Equal___int_int__f A
noncomputable def slices_Equal___int_int__L (A : PM.Prims) (n : Nat) : PM.Lam := fun cur σ K =>
  match cur, σ, K with
  | 0, ⟨[(0, .arr (.ints 3 .i64 s11)), (1, .arr (.ints 3 .i64 s22)), (12, .int .i64 t123), (13, .int .i64 t134)], []⟩, K => slices_Equal___int_int__l0 A n s11 s22 t123 t134 (fun t45 => K .ret ⟨[(4, .bool t45)], []⟩) (fun _ => K (.exit 0) ⟨[], []⟩)
  | _, _, _ => none
noncomputable def slices_Equal___int_int__E (A : PM.Prims) : PM.Env := ⟨[], [], [(0, [0, 1, 12, 13], [4])], [(0, [0, 1]), (1, [0, 1, 10]), (2, [4]), (3, [0, 1, 12, 13]), (4, [0, 1, 12, 13, 14]), (5, [0, 1, 5, 12, 13]), (6, [0, 1, 12, 13, 24]), (7, [4]), (8, [0, 1, 12, 13]), (9, [4])], slices_Equal___int_int__L A A.fuel⟩
theorem slices_Equal___int_int__l0_ok (A : PM.Prims) (n : Nat) (s11 : List Int) (s22 : List Int) (t123 : Int) (t134 : Int) (K : Go.Exit → PM.S → PM.R) : slices_Equal___int_int__L A (n + 1) 0 ⟨[(0, .arr (.ints 3 .i64 s11)), (1, .arr (.ints 3 .i64 s22)), (12, .int .i64 t123), (13, .int .i64 t134)], []⟩ K = PM.roundF A cx (PM.runD A cx (slices_Equal___int_int__E A).inl (slices_Equal___int_int__E A).Γ 3) (slices_Equal___int_int__E A) (slices_Equal___int_int__L A n) 0 Go.Proofs.Try.f129 ⟨[(0, .arr (.ints 3 .i64 s11)), (1, .arr (.ints 3 .i64 s22)), (12, .int .i64 t123), (13, .int .i64 t134)], []⟩ K := by kernel_rfl
theorem slices_Equal___int_int__ok (A : PM.Prims) (s1 : List Int) (s2 : List Int) (k : PM.V → PM.R) : PM.pfun A cx [] (slices_Equal___int_int__E A) Go.Proofs.Try.f129 [.arr (.ints 3 .i64 s1), .arr (.ints 3 .i64 s2)] k = slices_Equal___int_int__f A s1 s2 (fun r0 => k (.bool r0)) := by kernel_rfl

theorem slices_Equal___int_int__fn : PM.FnIs Try.prog 129 Try.f129 := .of Try.func129 (by kernel_rfl) (by kernel_rfl)
theorem slices_Equal___int_int__g : PM.GOk Try.prog cx 129 ⟨[], slices_Equal___int_int__w (slices_Equal___int_int_ PM.std), none⟩ := by
  refine ⟨slices_Equal___int_int__fn.enter, fun _ ds k r h => ?_, fun hm => absurd rfl hm, fun _ e => (by cases e)⟩
  change slices_Equal___int_int__w (slices_Equal___int_int_ PM.std) ds k = some r at h
  unfold slices_Equal___int_int__w at h
  split at h
  · exact PM.pfun_ok (E := slices_Equal___int_int__E PM.std) (L := fun n => slices_Equal___int_int__L PM.std n) (N := PM.std.fuel) cx_ok .nil mixed .nil slices_Equal___int_int__fn (by kernel_rfl) ⟨rfl, fun cur σ K => by
      dsimp only [slices_Equal___int_int__L]
      split <;> rfl, fun n cur σ K r h => by
      dsimp only [slices_Equal___int_int__L] at h
      split at h
      · exact (slices_Equal___int_int__l0_ok PM.std n _ _ _ _ K).symm.trans h
      · cases h⟩
      ((slices_Equal___int_int__ok PM.std _ _ k).trans h)
  · cases h

abbrev impl_DuelTrue_T := (List Int) → (Int) → (List (List Int)) → (List (List PM.C)) → (List (List PM.C)) → ((Bool) → PM.R) → PM.R
noncomputable def impl_DuelTrue_w (c : impl_DuelTrue_T) (ds : List PM.V) (k : PM.V → PM.R) : PM.R :=
  match ds with
  | [.arr (.ints 3 .i64 __), .agg [.int .i64 a_Mem_Clock, .arr (.vecs 287 3 a_Mem_Cells), .arr (.rows 189 a_Jobs), .arr (.rows 33 a_Hist)]] => c __ a_Mem_Clock a_Mem_Cells a_Jobs a_Hist (fun r0 => k (.bool r0))
  | _ => none
noncomputable def impl_DuelTrue_l2 (A : PM.Prims) (c_128 : impl_RowsOk_T) (c_44 : impl_HistOk_T) (c_97 : impl_areValues_T) (c_23 : impl_StateAt_T) (c_127 : impl_MemOk_T) (c_63 : impl_DuelOver_T) (c_130 : impl_Values_T) (c_129 : slices_Equal___int_int__T) : Nat → (List Int) → (List (List C)) → (Int) → (Int) → (List (List Int)) → (Int) → (Int) → (Int) → (List (List Int)) → (List (List C)) → (List (List C)) → (List Int) → ((Bool) → PM.R) → ((List Int) → (List (List C)) → (Int) → (Int) → (Int) → (List (List Int)) → (List (List C)) → (List (List C)) → PM.R) → PM.R
  | 0, _, _, _, _, _, _, _, _, _, _, _, _, _, _ => none
  | n + 1, cells15, t2616, t2717, t2818, t4319, t4420, t4521, o022, o023, o024, o025, o126, kret_2, kx2_2 =>
    bif (A.lt t4521 t4420) then
      bif (A.inb t4521 (A.vlen t4319)) then
        bif (A.inb (A.vget t4319 t4521 0) (A.ilen o126)) then
          bif (A.not (A.eq (A.iget o126 (A.vget t4319 t4521 0)) (A.vget t4319 t4521 1))) then
            kret_2 false
          else
            impl_DuelTrue_l2 A c_128 c_44 c_97 c_23 c_127 c_63 c_130 c_129 n cells15 t2616 t2717 t2818 t4319 t4420 (A.add .i64 t4521 1) o022 o023 o024 o025 o126 kret_2 kx2_2
        else
          none
      else
        none
    else
      kx2_2 cells15 t2616 t2717 t2818 o022 o023 o024 o025
noncomputable def impl_DuelTrue_l0 (A : PM.Prims) (c_128 : impl_RowsOk_T) (c_44 : impl_HistOk_T) (c_97 : impl_areValues_T) (c_23 : impl_StateAt_T) (c_127 : impl_MemOk_T) (c_63 : impl_DuelOver_T) (c_130 : impl_Values_T) (c_129 : slices_Equal___int_int__T) : Nat → (List Int) → (List (List C)) → (Int) → (Int) → (Int) → (List (List Int)) → (List (List C)) → (List (List C)) → ((Bool) → PM.R) → ((List Int) → (Int) → (List (List Int)) → (List (List C)) → (List (List C)) → PM.R) → PM.R
  | 0, _, _, _, _, _, _, _, _, _, _ => none
  | n + 1, cells4, t265, t276, t287, o08, o09, o010, o011, kret_0, kx0_0 =>
    bif (A.lt t287 t276) then
      bif (A.inb t287 (A.rlen t265)) then
        c_128 (A.rsv 2 t265 t287 5) (fun r12 =>
          bif (A.not r12) then
            kret_0 false
          else
            c_23 cells4 o011 (A.rint t265 t287 2) (fun r14 =>
              impl_DuelTrue_l2 A c_128 c_44 c_97 c_23 c_127 c_63 c_130 c_129 A.fuel cells4 t265 t276 t287 (A.rsv 2 t265 t287 5) (A.vlen (A.rsv 2 t265 t287 5)) 0 o08 o09 o010 o011 r14 (fun t42736 =>
                kret_0 t42736) (fun cells2837 t262938 t273039 t283140 o03241 o03342 o03443 o03544 =>
                impl_DuelTrue_l0 A c_128 c_44 c_97 c_23 c_127 c_63 c_130 c_129 n cells2837 t262938 t273039 (A.add .i64 t283140 1) o03241 o03342 o03443 o03544 kret_0 kx0_0)))
      else
        none
    else
      kx0_0 cells4 o08 o09 o010 o011
noncomputable def impl_DuelTrue_f (A : PM.Prims) (c_128 : impl_RowsOk_T) (c_44 : impl_HistOk_T) (c_97 : impl_areValues_T) (c_23 : impl_StateAt_T) (c_127 : impl_MemOk_T) (c_63 : impl_DuelOver_T) (c_130 : impl_Values_T) (c_129 : slices_Equal___int_int__T) (__ : List Int) (a_Mem_Clock : Int) (a_Mem_Cells : List (List Int)) (a_Jobs : List (List PM.C)) (a_Hist : List (List PM.C)) (k : (Bool) → PM.R) : PM.R :=
  c_97 __ 8 (fun r1 =>
    bif (A.not r1) then
      k false
    else
      c_127 a_Mem_Clock a_Mem_Cells (fun r2 =>
        bif (A.not r2) then
          k false
        else
          c_44 a_Hist (fun r3 =>
            bif (A.not r3) then
              k false
            else
              impl_DuelTrue_l0 A c_128 c_44 c_97 c_23 c_127 c_63 c_130 c_129 A.fuel __ a_Jobs (A.rlen a_Jobs) 0 a_Mem_Clock a_Mem_Cells a_Jobs a_Hist (fun t41350 =>
                k t41350) (fun cells4551 o04652 o04753 o04854 o04955 =>
                c_63 o04652 o04753 o04854 o04955 (fun r56 =>
                  bif (A.not r56) then
                    k true
                  else
                    c_130 o04652 o04753 (fun r57 =>
                      c_23 cells4551 o04955 o04652 (fun r58 =>
                        c_129 r57 r58 (fun r59 =>
                          k r59))))))))
noncomputable def impl_DuelTrue (A : PM.Prims) : impl_DuelTrue_T := impl_DuelTrue_f A (impl_RowsOk A) (impl_HistOk A) (impl_areValues A) (impl_StateAt A) (impl_MemOk A) (impl_DuelOver A) (impl_Values A) (slices_Equal___int_int_ A)
noncomputable def impl_DuelTrue_L (A : PM.Prims) (c_128 : impl_RowsOk_T) (c_44 : impl_HistOk_T) (c_97 : impl_areValues_T) (c_23 : impl_StateAt_T) (c_127 : impl_MemOk_T) (c_63 : impl_DuelOver_T) (c_130 : impl_Values_T) (c_129 : slices_Equal___int_int__T) (n : Nat) : PM.Lam := fun cur σ K =>
  match cur, σ, K with
  | 0, ⟨[(0, .arr (.ints 3 .i64 cells4)), (3, .pbox 0 0), (26, .arr (.rows 189 t265)), (27, .int .i64 t276), (28, .int .i64 t287)], [(0, .box [.int .i64 o08, .arr (.vecs 287 3 o09), .arr (.rows 189 o010), .arr (.rows 33 o011)])]⟩, K => impl_DuelTrue_l0 A c_128 c_44 c_97 c_23 c_127 c_63 c_130 c_129 n cells4 t265 t276 t287 o08 o09 o010 o011 (fun t413 => K .ret ⟨[(4, .bool t413)], []⟩) (fun cells45 o046 o047 o048 o049 => K (.exit 0) ⟨[(0, .arr (.ints 3 .i64 cells45)), (3, .pbox 0 0)], [(0, .box [.int .i64 o046, .arr (.vecs 287 3 o047), .arr (.rows 189 o048), .arr (.rows 33 o049)])]⟩)
  | 2, ⟨[(0, .arr (.ints 3 .i64 cells15)), (3, .pbox 0 0), (7, .sref 1), (26, .arr (.rows 189 t2616)), (27, .int .i64 t2717), (28, .int .i64 t2818), (43, .arr (.vecs 161 2 t4319)), (44, .int .i64 t4420), (45, .int .i64 t4521)], [(0, .box [.int .i64 o022, .arr (.vecs 287 3 o023), .arr (.rows 189 o024), .arr (.rows 33 o025)]), (1, .arr true (.ints 3 .i64 o126))]⟩, K => impl_DuelTrue_l2 A c_128 c_44 c_97 c_23 c_127 c_63 c_130 c_129 n cells15 t2616 t2717 t2818 t4319 t4420 t4521 o022 o023 o024 o025 o126 (fun t427 => K .ret ⟨[(4, .bool t427)], []⟩) (fun cells28 t2629 t2730 t2831 o032 o033 o034 o035 => K (.exit 2) ⟨[(0, .arr (.ints 3 .i64 cells28)), (3, .pbox 0 0), (26, .arr (.rows 189 t2629)), (27, .int .i64 t2730), (28, .int .i64 t2831)], [(0, .box [.int .i64 o032, .arr (.vecs 287 3 o033), .arr (.rows 189 o034), .arr (.rows 33 o035)])]⟩)
  | _, _, _ => none
noncomputable def impl_DuelTrue_E (A : PM.Prims) (c_128 : impl_RowsOk_T) (c_44 : impl_HistOk_T) (c_97 : impl_areValues_T) (c_23 : impl_StateAt_T) (c_127 : impl_MemOk_T) (c_63 : impl_DuelOver_T) (c_130 : impl_Values_T) (c_129 : slices_Equal___int_int__T) : PM.Env := ⟨[(128, ⟨[], impl_RowsOk_w c_128, none⟩), (44, ⟨[], impl_HistOk_w c_44, none⟩), (97, ⟨[], impl_areValues_w c_97, none⟩), (23, ⟨[], impl_StateAt_w c_23, none⟩), (127, ⟨[], impl_MemOk_w c_127, none⟩), (63, ⟨[], impl_DuelOver_w c_63, none⟩), (130, ⟨[], impl_Values_w c_130, none⟩), (129, ⟨[], slices_Equal___int_int__w c_129, none⟩)], [], [(0, [0, 3, 26, 27, 28], [0, 3, 4]), (2, [0, 3, 7, 26, 27, 28, 43, 44, 45], [0, 3, 4, 26, 27, 28])], [(0, [0, 3]), (1, [0, 3, 24]), (2, [4]), (3, [0, 3, 26, 27, 28]), (4, [0, 3, 26, 27, 28, 29]), (5, [0, 3, 6, 26, 27, 28]), (6, [0, 3, 6, 26, 27, 28, 35]), (7, [4]), (8, [0, 3, 6, 7, 26, 27, 28]), (9, [0, 3, 7, 26, 27, 28, 43, 44, 45]), (10, [0, 3, 7, 26, 27, 28, 43, 44, 45, 46]), (11, [0, 3, 7, 9, 26, 27, 28, 43, 44, 45]), (12, [0, 3, 7, 26, 27, 28, 43, 44, 45, 56]), (13, [4]), (14, [0, 3, 7, 26, 27, 28, 43, 44, 45]), (15, [0, 3, 26, 27, 28]), (16, [4])], impl_DuelTrue_L A c_128 c_44 c_97 c_23 c_127 c_63 c_130 c_129 A.fuel⟩
theorem impl_DuelTrue_l0_ok (A : PM.Prims) (c_128 : impl_RowsOk_T) (c_44 : impl_HistOk_T) (c_97 : impl_areValues_T) (c_23 : impl_StateAt_T) (c_127 : impl_MemOk_T) (c_63 : impl_DuelOver_T) (c_130 : impl_Values_T) (c_129 : slices_Equal___int_int__T) (n : Nat) (cells4 : List Int) (t265 : List (List C)) (t276 : Int) (t287 : Int) (o08 : Int) (o09 : List (List Int)) (o010 : List (List C)) (o011 : List (List C)) (K : Go.Exit → PM.S → PM.R) : impl_DuelTrue_L A c_128 c_44 c_97 c_23 c_127 c_63 c_130 c_129 (n + 1) 0 ⟨[(0, .arr (.ints 3 .i64 cells4)), (3, .pbox 0 0), (26, .arr (.rows 189 t265)), (27, .int .i64 t276), (28, .int .i64 t287)], [(0, .box [.int .i64 o08, .arr (.vecs 287 3 o09), .arr (.rows 189 o010), .arr (.rows 33 o011)])]⟩ K = PM.roundF A cx (PM.runD A cx (impl_DuelTrue_E A c_128 c_44 c_97 c_23 c_127 c_63 c_130 c_129).inl (impl_DuelTrue_E A c_128 c_44 c_97 c_23 c_127 c_63 c_130 c_129).Γ 3) (impl_DuelTrue_E A c_128 c_44 c_97 c_23 c_127 c_63 c_130 c_129) (impl_DuelTrue_L A c_128 c_44 c_97 c_23 c_127 c_63 c_130 c_129 n) 0 Go.Proofs.Try.f39 ⟨[(0, .arr (.ints 3 .i64 cells4)), (3, .pbox 0 0), (26, .arr (.rows 189 t265)), (27, .int .i64 t276), (28, .int .i64 t287)], [(0, .box [.int .i64 o08, .arr (.vecs 287 3 o09), .arr (.rows 189 o010), .arr (.rows 33 o011)])]⟩ K := by kernel_rfl
theorem impl_DuelTrue_l2_ok (A : PM.Prims) (c_128 : impl_RowsOk_T) (c_44 : impl_HistOk_T) (c_97 : impl_areValues_T) (c_23 : impl_StateAt_T) (c_127 : impl_MemOk_T) (c_63 : impl_DuelOver_T) (c_130 : impl_Values_T) (c_129 : slices_Equal___int_int__T) (n : Nat) (cells15 : List Int) (t2616 : List (List C)) (t2717 : Int) (t2818 : Int) (t4319 : List (List Int)) (t4420 : Int) (t4521 : Int) (o022 : Int) (o023 : List (List Int)) (o024 : List (List C)) (o025 : List (List C)) (o126 : List Int) (K : Go.Exit → PM.S → PM.R) : impl_DuelTrue_L A c_128 c_44 c_97 c_23 c_127 c_63 c_130 c_129 (n + 1) 2 ⟨[(0, .arr (.ints 3 .i64 cells15)), (3, .pbox 0 0), (7, .sref 1), (26, .arr (.rows 189 t2616)), (27, .int .i64 t2717), (28, .int .i64 t2818), (43, .arr (.vecs 161 2 t4319)), (44, .int .i64 t4420), (45, .int .i64 t4521)], [(0, .box [.int .i64 o022, .arr (.vecs 287 3 o023), .arr (.rows 189 o024), .arr (.rows 33 o025)]), (1, .arr true (.ints 3 .i64 o126))]⟩ K = PM.roundF A cx (PM.runD A cx (impl_DuelTrue_E A c_128 c_44 c_97 c_23 c_127 c_63 c_130 c_129).inl (impl_DuelTrue_E A c_128 c_44 c_97 c_23 c_127 c_63 c_130 c_129).Γ 3) (impl_DuelTrue_E A c_128 c_44 c_97 c_23 c_127 c_63 c_130 c_129) (impl_DuelTrue_L A c_128 c_44 c_97 c_23 c_127 c_63 c_130 c_129 n) 2 Go.Proofs.Try.f39 ⟨[(0, .arr (.ints 3 .i64 cells15)), (3, .pbox 0 0), (7, .sref 1), (26, .arr (.rows 189 t2616)), (27, .int .i64 t2717), (28, .int .i64 t2818), (43, .arr (.vecs 161 2 t4319)), (44, .int .i64 t4420), (45, .int .i64 t4521)], [(0, .box [.int .i64 o022, .arr (.vecs 287 3 o023), .arr (.rows 189 o024), .arr (.rows 33 o025)]), (1, .arr true (.ints 3 .i64 o126))]⟩ K := by kernel_rfl
theorem impl_DuelTrue_ok (A : PM.Prims) (c_128 : impl_RowsOk_T) (c_44 : impl_HistOk_T) (c_97 : impl_areValues_T) (c_23 : impl_StateAt_T) (c_127 : impl_MemOk_T) (c_63 : impl_DuelOver_T) (c_130 : impl_Values_T) (c_129 : slices_Equal___int_int__T) (__ : List Int) (a_Mem_Clock : Int) (a_Mem_Cells : List (List Int)) (a_Jobs : List (List PM.C)) (a_Hist : List (List PM.C)) (k : PM.V → PM.R) : PM.pfun A cx [] (impl_DuelTrue_E A c_128 c_44 c_97 c_23 c_127 c_63 c_130 c_129) Go.Proofs.Try.f39 [.arr (.ints 3 .i64 __), .agg [.int .i64 a_Mem_Clock, .arr (.vecs 287 3 a_Mem_Cells), .arr (.rows 189 a_Jobs), .arr (.rows 33 a_Hist)]] k = impl_DuelTrue_f A c_128 c_44 c_97 c_23 c_127 c_63 c_130 c_129 __ a_Mem_Clock a_Mem_Cells a_Jobs a_Hist (fun r0 => k (.bool r0)) := by kernel_rfl

theorem impl_DuelTrue_fn : PM.FnIs Try.prog 39 Try.f39 := .of Try.func39 (by kernel_rfl) (by kernel_rfl)
theorem impl_DuelTrue_g : PM.GOk Try.prog cx 39 ⟨[], impl_DuelTrue_w (impl_DuelTrue PM.std), none⟩ := by
  refine ⟨impl_DuelTrue_fn.enter, fun _ ds k r h => ?_, fun hm => absurd rfl hm, fun _ e => (by cases e)⟩
  change impl_DuelTrue_w (impl_DuelTrue PM.std) ds k = some r at h
  unfold impl_DuelTrue_w at h
  split at h
  · exact PM.pfun_ok (E := impl_DuelTrue_E PM.std (impl_RowsOk PM.std) (impl_HistOk PM.std) (impl_areValues PM.std) (impl_StateAt PM.std) (impl_MemOk PM.std) (impl_DuelOver PM.std) (impl_Values PM.std) (slices_Equal___int_int_ PM.std)) (L := fun n => impl_DuelTrue_L PM.std (impl_RowsOk PM.std) (impl_HistOk PM.std) (impl_areValues PM.std) (impl_StateAt PM.std) (impl_MemOk PM.std) (impl_DuelOver PM.std) (impl_Values PM.std) (slices_Equal___int_int_ PM.std) n) (N := PM.std.fuel) cx_ok (.cons impl_RowsOk_g (.cons impl_HistOk_g (.cons impl_areValues_g (.cons impl_StateAt_g (.cons impl_MemOk_g (.cons impl_DuelOver_g (.cons impl_Values_g (.cons slices_Equal___int_int__g .nil)))))))) mixed .nil impl_DuelTrue_fn (by kernel_rfl) ⟨rfl, fun cur σ K => by
      dsimp only [impl_DuelTrue_L]
      split <;> rfl, fun n cur σ K r h => by
      dsimp only [impl_DuelTrue_L] at h
      split at h
      · exact (impl_DuelTrue_l0_ok PM.std (impl_RowsOk PM.std) (impl_HistOk PM.std) (impl_areValues PM.std) (impl_StateAt PM.std) (impl_MemOk PM.std) (impl_DuelOver PM.std) (impl_Values PM.std) (slices_Equal___int_int_ PM.std) n _ _ _ _ _ _ _ _ K).symm.trans h
      · exact (impl_DuelTrue_l2_ok PM.std (impl_RowsOk PM.std) (impl_HistOk PM.std) (impl_areValues PM.std) (impl_StateAt PM.std) (impl_MemOk PM.std) (impl_DuelOver PM.std) (impl_Values PM.std) (slices_Equal___int_int_ PM.std) n _ _ _ _ _ _ _ _ _ _ _ _ K).symm.trans h
      · cases h⟩
      ((impl_DuelTrue_ok PM.std (impl_RowsOk PM.std) (impl_HistOk PM.std) (impl_areValues PM.std) (impl_StateAt PM.std) (impl_MemOk PM.std) (impl_DuelOver PM.std) (impl_Values PM.std) (slices_Equal___int_int_ PM.std) _ _ _ _ _ k).trans h)
  · cases h

abbrev laws_eqWord_T := (Int) → (Int) → (Int) → (Int) → (Int) → (Int) → ((Bool) → PM.R) → PM.R
noncomputable def laws_eqWord_w (c : laws_eqWord_T) (ds : List PM.V) (k : PM.V → PM.R) : PM.R :=
  match ds with
  | [.agg [.int .i64 a_Val, .int .i64 a_Ver, .int .i64 a_Owner], .agg [.int .i64 b_Val, .int .i64 b_Ver, .int .i64 b_Owner]] => c a_Val a_Ver a_Owner b_Val b_Ver b_Owner (fun r0 => k (.bool r0))
  | _ => none
noncomputable def laws_eqWord_f (A : PM.Prims) (a_Val : Int) (a_Ver : Int) (a_Owner : Int) (b_Val : Int) (b_Ver : Int) (b_Owner : Int) (k : (Bool) → PM.R) : PM.R :=
  bif (A.not (A.eq a_Val b_Val)) then
    k false
  else
    bif (A.not (A.eq a_Ver b_Ver)) then
      k false
    else
      bif (A.not (A.eq a_Owner b_Owner)) then
        k false
      else
        k true
noncomputable def laws_eqWord (A : PM.Prims) : laws_eqWord_T := laws_eqWord_f A
noncomputable def laws_eqWord_L (A : PM.Prims) (n : Nat) : PM.Lam := fun cur σ K =>
  match cur, σ, K with
  | _, _, _ => none
noncomputable def laws_eqWord_E (A : PM.Prims) : PM.Env := ⟨[], [], [], [(0, [2, 3]), (1, [2, 3, 9]), (2, [4]), (3, [2, 3, 14]), (4, [4]), (5, [19]), (6, [4]), (7, [4])], laws_eqWord_L A A.fuel⟩
theorem laws_eqWord_ok (A : PM.Prims) (a_Val : Int) (a_Ver : Int) (a_Owner : Int) (b_Val : Int) (b_Ver : Int) (b_Owner : Int) (k : PM.V → PM.R) : PM.pfun A cx [] (laws_eqWord_E A) Go.Proofs.Try.f271 [.agg [.int .i64 a_Val, .int .i64 a_Ver, .int .i64 a_Owner], .agg [.int .i64 b_Val, .int .i64 b_Ver, .int .i64 b_Owner]] k = laws_eqWord_f A a_Val a_Ver a_Owner b_Val b_Ver b_Owner (fun r0 => k (.bool r0)) := by kernel_rfl

theorem laws_eqWord_fn : PM.FnIs Try.prog 271 Try.f271 := .of Try.func271 (by kernel_rfl) (by kernel_rfl)
theorem laws_eqWord_g : PM.GOk Try.prog cx 271 ⟨[], laws_eqWord_w (laws_eqWord PM.std), none⟩ := by
  refine ⟨laws_eqWord_fn.enter, fun _ ds k r h => ?_, fun hm => absurd rfl hm, fun _ e => (by cases e)⟩
  change laws_eqWord_w (laws_eqWord PM.std) ds k = some r at h
  unfold laws_eqWord_w at h
  split at h
  · exact PM.pfun_ok (E := laws_eqWord_E PM.std) (L := fun n => laws_eqWord_L PM.std n) (N := PM.std.fuel) cx_ok .nil mixed .nil laws_eqWord_fn (by kernel_rfl) ⟨rfl, fun _ _ _ => rfl, fun n cur σ K r h => by cases h⟩
      ((laws_eqWord_ok PM.std _ _ _ _ _ _ k).trans h)
  · cases h

abbrev laws_eqWordS_T := (List (List Int)) → (List (List Int)) → ((Bool) → PM.R) → PM.R
noncomputable def laws_eqWordS_w (c : laws_eqWordS_T) (ds : List PM.V) (k : PM.V → PM.R) : PM.R :=
  match ds with
  | [.arr (.vecs 287 3 a), .arr (.vecs 287 3 b)] => c a b (fun r0 => k (.bool r0))
  | _ => none
noncomputable def laws_eqWordS_l0 (A : PM.Prims) (c_271 : laws_eqWord_T) : Nat → (List (List Int)) → (List (List Int)) → (Int) → ((Bool) → PM.R) → (Unit → PM.R) → PM.R
  | 0, _, _, _, _, _ => none
  | n + 1, a1, b2, i3, kret_0, kx0_0 =>
    bif (A.lt i3 (A.vlen a1)) then
      bif (A.inb i3 (A.vlen a1)) then
        bif (A.inb i3 (A.vlen b2)) then
          c_271 (A.vget a1 i3 0) (A.vget a1 i3 1) (A.vget a1 i3 2) (A.vget b2 i3 0) (A.vget b2 i3 1) (A.vget b2 i3 2) (fun r4 =>
            bif (A.not r4) then
              kret_0 false
            else
              laws_eqWordS_l0 A c_271 n a1 b2 (A.add .i64 i3 1) kret_0 kx0_0)
        else
          none
      else
        none
    else
      kx0_0 ()
noncomputable def laws_eqWordS_f (A : PM.Prims) (c_271 : laws_eqWord_T) (a : List (List Int)) (b : List (List Int)) (k : (Bool) → PM.R) : PM.R :=
  bif (A.not (A.eq (A.vlen a) (A.vlen b))) then
    k false
  else
    laws_eqWordS_l0 A c_271 A.fuel a b 0 (fun t456 =>
      k t456) (fun _ =>
      k true)
noncomputable def laws_eqWordS (A : PM.Prims) : laws_eqWordS_T := laws_eqWordS_f A (laws_eqWord A)
noncomputable def laws_eqWordS_L (A : PM.Prims) (c_271 : laws_eqWord_T) (n : Nat) : PM.Lam := fun cur σ K =>
  match cur, σ, K with
  | 0, ⟨[(0, .arr (.vecs 287 3 a1)), (1, .arr (.vecs 287 3 b2)), (5, .int .i64 i3)], []⟩, K => laws_eqWordS_l0 A c_271 n a1 b2 i3 (fun t45 => K .ret ⟨[(4, .bool t45)], []⟩) (fun _ => K (.exit 0) ⟨[], []⟩)
  | _, _, _ => none
noncomputable def laws_eqWordS_E (A : PM.Prims) (c_271 : laws_eqWord_T) : PM.Env := ⟨[(271, ⟨[], laws_eqWord_w c_271, none⟩)], [], [(0, [0, 1, 5], [4])], [(0, [0, 1]), (1, [0, 1, 10]), (2, [4]), (3, [0, 1, 5]), (4, [0, 1, 5, 14]), (5, [0, 1, 5]), (6, [0, 1, 5, 26]), (7, [4]), (8, [4])], laws_eqWordS_L A c_271 A.fuel⟩
theorem laws_eqWordS_l0_ok (A : PM.Prims) (c_271 : laws_eqWord_T) (n : Nat) (a1 : List (List Int)) (b2 : List (List Int)) (i3 : Int) (K : Go.Exit → PM.S → PM.R) : laws_eqWordS_L A c_271 (n + 1) 0 ⟨[(0, .arr (.vecs 287 3 a1)), (1, .arr (.vecs 287 3 b2)), (5, .int .i64 i3)], []⟩ K = PM.roundF A cx (PM.runD A cx (laws_eqWordS_E A c_271).inl (laws_eqWordS_E A c_271).Γ 3) (laws_eqWordS_E A c_271) (laws_eqWordS_L A c_271 n) 0 Go.Proofs.Try.f205 ⟨[(0, .arr (.vecs 287 3 a1)), (1, .arr (.vecs 287 3 b2)), (5, .int .i64 i3)], []⟩ K := by kernel_rfl
theorem laws_eqWordS_ok (A : PM.Prims) (c_271 : laws_eqWord_T) (a : List (List Int)) (b : List (List Int)) (k : PM.V → PM.R) : PM.pfun A cx [] (laws_eqWordS_E A c_271) Go.Proofs.Try.f205 [.arr (.vecs 287 3 a), .arr (.vecs 287 3 b)] k = laws_eqWordS_f A c_271 a b (fun r0 => k (.bool r0)) := by kernel_rfl

theorem laws_eqWordS_fn : PM.FnIs Try.prog 205 Try.f205 := .of Try.func205 (by kernel_rfl) (by kernel_rfl)
theorem laws_eqWordS_g : PM.GOk Try.prog cx 205 ⟨[], laws_eqWordS_w (laws_eqWordS PM.std), none⟩ := by
  refine ⟨laws_eqWordS_fn.enter, fun _ ds k r h => ?_, fun hm => absurd rfl hm, fun _ e => (by cases e)⟩
  change laws_eqWordS_w (laws_eqWordS PM.std) ds k = some r at h
  unfold laws_eqWordS_w at h
  split at h
  · exact PM.pfun_ok (E := laws_eqWordS_E PM.std (laws_eqWord PM.std)) (L := fun n => laws_eqWordS_L PM.std (laws_eqWord PM.std) n) (N := PM.std.fuel) cx_ok (.cons laws_eqWord_g .nil) mixed .nil laws_eqWordS_fn (by kernel_rfl) ⟨rfl, fun cur σ K => by
      dsimp only [laws_eqWordS_L]
      split <;> rfl, fun n cur σ K r h => by
      dsimp only [laws_eqWordS_L] at h
      split at h
      · exact (laws_eqWordS_l0_ok PM.std (laws_eqWord PM.std) n _ _ _ K).symm.trans h
      · cases h⟩
      ((laws_eqWordS_ok PM.std (laws_eqWord PM.std) _ _ k).trans h)
  · cases h

abbrev laws_eqMem_T := (Int) → (List (List Int)) → (Int) → (List (List Int)) → ((Bool) → PM.R) → PM.R
noncomputable def laws_eqMem_w (c : laws_eqMem_T) (ds : List PM.V) (k : PM.V → PM.R) : PM.R :=
  match ds with
  | [.agg [.int .i64 a_Clock, .arr (.vecs 287 3 a_Cells)], .agg [.int .i64 b_Clock, .arr (.vecs 287 3 b_Cells)]] => c a_Clock a_Cells b_Clock b_Cells (fun r0 => k (.bool r0))
  | _ => none
noncomputable def laws_eqMem_f (A : PM.Prims) (c_205 : laws_eqWordS_T) (a_Clock : Int) (a_Cells : List (List Int)) (b_Clock : Int) (b_Cells : List (List Int)) (k : (Bool) → PM.R) : PM.R :=
  bif (A.not (A.eq a_Clock b_Clock)) then
    k false
  else
    c_205 a_Cells b_Cells (fun r1 =>
      bif (A.not r1) then
        k false
      else
        k true)
noncomputable def laws_eqMem (A : PM.Prims) : laws_eqMem_T := laws_eqMem_f A (laws_eqWordS A)
noncomputable def laws_eqMem_L (A : PM.Prims) (c_205 : laws_eqWordS_T) (n : Nat) : PM.Lam := fun cur σ K =>
  match cur, σ, K with
  | _, _, _ => none
noncomputable def laws_eqMem_E (A : PM.Prims) (c_205 : laws_eqWordS_T) : PM.Env := ⟨[(205, ⟨[], laws_eqWordS_w c_205, none⟩)], [], [], [(0, [2, 3]), (1, [2, 3, 9]), (2, [4]), (3, [15]), (4, [4]), (5, [4])], laws_eqMem_L A c_205 A.fuel⟩
theorem laws_eqMem_ok (A : PM.Prims) (c_205 : laws_eqWordS_T) (a_Clock : Int) (a_Cells : List (List Int)) (b_Clock : Int) (b_Cells : List (List Int)) (k : PM.V → PM.R) : PM.pfun A cx [] (laws_eqMem_E A c_205) Go.Proofs.Try.f118 [.agg [.int .i64 a_Clock, .arr (.vecs 287 3 a_Cells)], .agg [.int .i64 b_Clock, .arr (.vecs 287 3 b_Cells)]] k = laws_eqMem_f A c_205 a_Clock a_Cells b_Clock b_Cells (fun r0 => k (.bool r0)) := by kernel_rfl

theorem laws_eqMem_fn : PM.FnIs Try.prog 118 Try.f118 := .of Try.func118 (by kernel_rfl) (by kernel_rfl)
theorem laws_eqMem_g : PM.GOk Try.prog cx 118 ⟨[], laws_eqMem_w (laws_eqMem PM.std), none⟩ := by
  refine ⟨laws_eqMem_fn.enter, fun _ ds k r h => ?_, fun hm => absurd rfl hm, fun _ e => (by cases e)⟩
  change laws_eqMem_w (laws_eqMem PM.std) ds k = some r at h
  unfold laws_eqMem_w at h
  split at h
  · exact PM.pfun_ok (E := laws_eqMem_E PM.std (laws_eqWordS PM.std)) (L := fun n => laws_eqMem_L PM.std (laws_eqWordS PM.std) n) (N := PM.std.fuel) cx_ok (.cons laws_eqWordS_g .nil) mixed .nil laws_eqMem_fn (by kernel_rfl) ⟨rfl, fun _ _ _ => rfl, fun n cur σ K r h => by cases h⟩
      ((laws_eqMem_ok PM.std (laws_eqWordS PM.std) _ _ _ _ k).trans h)
  · cases h

abbrev laws_eqProbe_T := (Int) → (Int) → (Int) → (Int) → (Int) → (Int) → (Int) → (Int) → ((Bool) → PM.R) → PM.R
noncomputable def laws_eqProbe_w (c : laws_eqProbe_T) (ds : List PM.V) (k : PM.V → PM.R) : PM.R :=
  match ds with
  | [.agg [.int .i64 a_Cell, .int .i64 a_Phase, .int .i64 a_Ver, .int .i64 a_Val], .agg [.int .i64 b_Cell, .int .i64 b_Phase, .int .i64 b_Ver, .int .i64 b_Val]] => c a_Cell a_Phase a_Ver a_Val b_Cell b_Phase b_Ver b_Val (fun r0 => k (.bool r0))
  | _ => none
noncomputable def laws_eqProbe_f (A : PM.Prims) (a_Cell : Int) (a_Phase : Int) (a_Ver : Int) (a_Val : Int) (b_Cell : Int) (b_Phase : Int) (b_Ver : Int) (b_Val : Int) (k : (Bool) → PM.R) : PM.R :=
  bif (A.not (A.eq a_Cell b_Cell)) then
    k false
  else
    bif (A.not (A.eq a_Phase b_Phase)) then
      k false
    else
      bif (A.not (A.eq a_Ver b_Ver)) then
        k false
      else
        bif (A.not (A.eq a_Val b_Val)) then
          k false
        else
          k true
noncomputable def laws_eqProbe (A : PM.Prims) : laws_eqProbe_T := laws_eqProbe_f A
noncomputable def laws_eqProbe_L (A : PM.Prims) (n : Nat) : PM.Lam := fun cur σ K =>
  match cur, σ, K with
  | _, _, _ => none
noncomputable def laws_eqProbe_E (A : PM.Prims) : PM.Env := ⟨[], [], [], [(0, [2, 3]), (1, [2, 3, 9]), (2, [4]), (3, [2, 3, 14]), (4, [4]), (5, [2, 3, 19]), (6, [4]), (7, [24]), (8, [4]), (9, [4])], laws_eqProbe_L A A.fuel⟩
theorem laws_eqProbe_ok (A : PM.Prims) (a_Cell : Int) (a_Phase : Int) (a_Ver : Int) (a_Val : Int) (b_Cell : Int) (b_Phase : Int) (b_Ver : Int) (b_Val : Int) (k : PM.V → PM.R) : PM.pfun A cx [] (laws_eqProbe_E A) Go.Proofs.Try.f274 [.agg [.int .i64 a_Cell, .int .i64 a_Phase, .int .i64 a_Ver, .int .i64 a_Val], .agg [.int .i64 b_Cell, .int .i64 b_Phase, .int .i64 b_Ver, .int .i64 b_Val]] k = laws_eqProbe_f A a_Cell a_Phase a_Ver a_Val b_Cell b_Phase b_Ver b_Val (fun r0 => k (.bool r0)) := by kernel_rfl

theorem laws_eqProbe_fn : PM.FnIs Try.prog 274 Try.f274 := .of Try.func274 (by kernel_rfl) (by kernel_rfl)
theorem laws_eqProbe_g : PM.GOk Try.prog cx 274 ⟨[], laws_eqProbe_w (laws_eqProbe PM.std), none⟩ := by
  refine ⟨laws_eqProbe_fn.enter, fun _ ds k r h => ?_, fun hm => absurd rfl hm, fun _ e => (by cases e)⟩
  change laws_eqProbe_w (laws_eqProbe PM.std) ds k = some r at h
  unfold laws_eqProbe_w at h
  split at h
  · exact PM.pfun_ok (E := laws_eqProbe_E PM.std) (L := fun n => laws_eqProbe_L PM.std n) (N := PM.std.fuel) cx_ok .nil mixed .nil laws_eqProbe_fn (by kernel_rfl) ⟨rfl, fun _ _ _ => rfl, fun n cur σ K r h => by cases h⟩
      ((laws_eqProbe_ok PM.std _ _ _ _ _ _ _ _ k).trans h)
  · cases h

abbrev laws_eqCommit_T := (Int) → (Int) → (Int) → (Int) → (Int) → (List (List Int)) → (List Int) → (Int) → (Int) → (Int) → (Int) → (Int) → (List (List Int)) → (List Int) → ((Bool) → PM.R) → PM.R
noncomputable def laws_eqCommit_w (c : laws_eqCommit_T) (ds : List PM.V) (k : PM.V → PM.R) : PM.R :=
  match ds with
  | [.agg [.int .i64 a_Who, .int .i64 a_Rv, .int .i64 a_Phase, .int .i64 a_At, .int .i64 a_Wv, .arr (.vecs 161 2 a_Puts), .arr (.ints 3 .i64 a_Reads)], .agg [.int .i64 b_Who, .int .i64 b_Rv, .int .i64 b_Phase, .int .i64 b_At, .int .i64 b_Wv, .arr (.vecs 161 2 b_Puts), .arr (.ints 3 .i64 b_Reads)]] => c a_Who a_Rv a_Phase a_At a_Wv a_Puts a_Reads b_Who b_Rv b_Phase b_At b_Wv b_Puts b_Reads (fun r0 => k (.bool r0))
  | _ => none
noncomputable def laws_eqCommit_f (A : PM.Prims) (c_40 : laws_eqIntS_T) (c_66 : laws_eqRowS_T) (a_Who : Int) (a_Rv : Int) (a_Phase : Int) (a_At : Int) (a_Wv : Int) (a_Puts : List (List Int)) (a_Reads : List Int) (b_Who : Int) (b_Rv : Int) (b_Phase : Int) (b_At : Int) (b_Wv : Int) (b_Puts : List (List Int)) (b_Reads : List Int) (k : (Bool) → PM.R) : PM.R :=
  bif (A.not (A.eq a_Who b_Who)) then
    k false
  else
    bif (A.not (A.eq a_Rv b_Rv)) then
      k false
    else
      bif (A.not (A.eq a_Phase b_Phase)) then
        k false
      else
        bif (A.not (A.eq a_At b_At)) then
          k false
        else
          bif (A.not (A.eq a_Wv b_Wv)) then
            k false
          else
            c_66 a_Puts b_Puts (fun r1 =>
              bif (A.not r1) then
                k false
              else
                c_40 a_Reads b_Reads (fun r2 =>
                  bif (A.not r2) then
                    k false
                  else
                    k true))
noncomputable def laws_eqCommit (A : PM.Prims) : laws_eqCommit_T := laws_eqCommit_f A (laws_eqIntS A) (laws_eqRowS A)
noncomputable def laws_eqCommit_L (A : PM.Prims) (c_40 : laws_eqIntS_T) (c_66 : laws_eqRowS_T) (n : Nat) : PM.Lam := fun cur σ K =>
  match cur, σ, K with
  | _, _, _ => none
noncomputable def laws_eqCommit_E (A : PM.Prims) (c_40 : laws_eqIntS_T) (c_66 : laws_eqRowS_T) : PM.Env := ⟨[(40, ⟨[], laws_eqIntS_w c_40, none⟩), (66, ⟨[], laws_eqRowS_w c_66, none⟩)], [], [], [(0, [2, 3]), (1, [2, 3, 9]), (2, [4]), (3, [2, 3, 14]), (4, [4]), (5, [2, 3, 19]), (6, [4]), (7, [2, 3, 24]), (8, [4]), (9, [2, 3, 29]), (10, [4]), (11, [2, 3, 35]), (12, [4]), (13, [41]), (14, [4]), (15, [4])], laws_eqCommit_L A c_40 c_66 A.fuel⟩
theorem laws_eqCommit_ok (A : PM.Prims) (c_40 : laws_eqIntS_T) (c_66 : laws_eqRowS_T) (a_Who : Int) (a_Rv : Int) (a_Phase : Int) (a_At : Int) (a_Wv : Int) (a_Puts : List (List Int)) (a_Reads : List Int) (b_Who : Int) (b_Rv : Int) (b_Phase : Int) (b_At : Int) (b_Wv : Int) (b_Puts : List (List Int)) (b_Reads : List Int) (k : PM.V → PM.R) : PM.pfun A cx [] (laws_eqCommit_E A c_40 c_66) Go.Proofs.Try.f275 [.agg [.int .i64 a_Who, .int .i64 a_Rv, .int .i64 a_Phase, .int .i64 a_At, .int .i64 a_Wv, .arr (.vecs 161 2 a_Puts), .arr (.ints 3 .i64 a_Reads)], .agg [.int .i64 b_Who, .int .i64 b_Rv, .int .i64 b_Phase, .int .i64 b_At, .int .i64 b_Wv, .arr (.vecs 161 2 b_Puts), .arr (.ints 3 .i64 b_Reads)]] k = laws_eqCommit_f A c_40 c_66 a_Who a_Rv a_Phase a_At a_Wv a_Puts a_Reads b_Who b_Rv b_Phase b_At b_Wv b_Puts b_Reads (fun r0 => k (.bool r0)) := by kernel_rfl

theorem laws_eqCommit_fn : PM.FnIs Try.prog 275 Try.f275 := .of Try.func275 (by kernel_rfl) (by kernel_rfl)
theorem laws_eqCommit_g : PM.GOk Try.prog cx 275 ⟨[], laws_eqCommit_w (laws_eqCommit PM.std), none⟩ := by
  refine ⟨laws_eqCommit_fn.enter, fun _ ds k r h => ?_, fun hm => absurd rfl hm, fun _ e => (by cases e)⟩
  change laws_eqCommit_w (laws_eqCommit PM.std) ds k = some r at h
  unfold laws_eqCommit_w at h
  split at h
  · exact PM.pfun_ok (E := laws_eqCommit_E PM.std (laws_eqIntS PM.std) (laws_eqRowS PM.std)) (L := fun n => laws_eqCommit_L PM.std (laws_eqIntS PM.std) (laws_eqRowS PM.std) n) (N := PM.std.fuel) cx_ok (.cons laws_eqIntS_g (.cons laws_eqRowS_g .nil)) mixed .nil laws_eqCommit_fn (by kernel_rfl) ⟨rfl, fun _ _ _ => rfl, fun n cur σ K r h => by cases h⟩
      ((laws_eqCommit_ok PM.std (laws_eqIntS PM.std) (laws_eqRowS PM.std) _ _ _ _ _ _ _ _ _ _ _ _ _ _ k).trans h)
  · cases h

abbrev laws_eqJobRun_T := (Int) → (Int) → (Int) → (Int) → (Int) → (List (List Int)) → (Bool) → (Int) → (Int) → (Int) → (Int) → (Int) → (Int) → (Int) → (Int) → (Int) → (List (List Int)) → (List Int) → (Int) → (Int) → (Int) → (Int) → (Int) → (List (List Int)) → (Bool) → (Int) → (Int) → (Int) → (Int) → (Int) → (Int) → (Int) → (Int) → (Int) → (List (List Int)) → (List Int) → ((Bool) → PM.R) → PM.R
noncomputable def laws_eqJobRun_w (c : laws_eqJobRun_T) (ds : List PM.V) (k : PM.V → PM.R) : PM.R :=
  match ds with
  | [.agg [.int .i64 a_Phase, .int .i64 a_Tries, .int .i64 a_Rv, .int .i64 a_At, .int .i64 a_Stamp, .arr (.vecs 161 2 a_Seen), .bool a_Busy, .int .i64 a_Probe_Cell, .int .i64 a_Probe_Phase, .int .i64 a_Probe_Ver, .int .i64 a_Probe_Val, .int .i64 a_Commit_Who, .int .i64 a_Commit_Rv, .int .i64 a_Commit_Phase, .int .i64 a_Commit_At, .int .i64 a_Commit_Wv, .arr (.vecs 161 2 a_Commit_Puts), .arr (.ints 3 .i64 a_Commit_Reads)], .agg [.int .i64 b_Phase, .int .i64 b_Tries, .int .i64 b_Rv, .int .i64 b_At, .int .i64 b_Stamp, .arr (.vecs 161 2 b_Seen), .bool b_Busy, .int .i64 b_Probe_Cell, .int .i64 b_Probe_Phase, .int .i64 b_Probe_Ver, .int .i64 b_Probe_Val, .int .i64 b_Commit_Who, .int .i64 b_Commit_Rv, .int .i64 b_Commit_Phase, .int .i64 b_Commit_At, .int .i64 b_Commit_Wv, .arr (.vecs 161 2 b_Commit_Puts), .arr (.ints 3 .i64 b_Commit_Reads)]] => c a_Phase a_Tries a_Rv a_At a_Stamp a_Seen a_Busy a_Probe_Cell a_Probe_Phase a_Probe_Ver a_Probe_Val a_Commit_Who a_Commit_Rv a_Commit_Phase a_Commit_At a_Commit_Wv a_Commit_Puts a_Commit_Reads b_Phase b_Tries b_Rv b_At b_Stamp b_Seen b_Busy b_Probe_Cell b_Probe_Phase b_Probe_Ver b_Probe_Val b_Commit_Who b_Commit_Rv b_Commit_Phase b_Commit_At b_Commit_Wv b_Commit_Puts b_Commit_Reads (fun r0 => k (.bool r0))
  | _ => none
noncomputable def laws_eqJobRun_f (A : PM.Prims) (c_66 : laws_eqRowS_T) (c_274 : laws_eqProbe_T) (c_275 : laws_eqCommit_T) (a_Phase : Int) (a_Tries : Int) (a_Rv : Int) (a_At : Int) (a_Stamp : Int) (a_Seen : List (List Int)) (a_Busy : Bool) (a_Probe_Cell : Int) (a_Probe_Phase : Int) (a_Probe_Ver : Int) (a_Probe_Val : Int) (a_Commit_Who : Int) (a_Commit_Rv : Int) (a_Commit_Phase : Int) (a_Commit_At : Int) (a_Commit_Wv : Int) (a_Commit_Puts : List (List Int)) (a_Commit_Reads : List Int) (b_Phase : Int) (b_Tries : Int) (b_Rv : Int) (b_At : Int) (b_Stamp : Int) (b_Seen : List (List Int)) (b_Busy : Bool) (b_Probe_Cell : Int) (b_Probe_Phase : Int) (b_Probe_Ver : Int) (b_Probe_Val : Int) (b_Commit_Who : Int) (b_Commit_Rv : Int) (b_Commit_Phase : Int) (b_Commit_At : Int) (b_Commit_Wv : Int) (b_Commit_Puts : List (List Int)) (b_Commit_Reads : List Int) (k : (Bool) → PM.R) : PM.R :=
  bif (A.not (A.eq a_Phase b_Phase)) then
    k false
  else
    bif (A.not (A.eq a_Tries b_Tries)) then
      k false
    else
      bif (A.not (A.eq a_Rv b_Rv)) then
        k false
      else
        bif (A.not (A.eq a_At b_At)) then
          k false
        else
          bif (A.not (A.eq a_Stamp b_Stamp)) then
            k false
          else
            c_66 a_Seen b_Seen (fun r1 =>
              bif (A.not r1) then
                k false
              else
                bif (A.not (A.beq a_Busy b_Busy)) then
                  k false
                else
                  c_274 a_Probe_Cell a_Probe_Phase a_Probe_Ver a_Probe_Val b_Probe_Cell b_Probe_Phase b_Probe_Ver b_Probe_Val (fun r2 =>
                    bif (A.not r2) then
                      k false
                    else
                      c_275 a_Commit_Who a_Commit_Rv a_Commit_Phase a_Commit_At a_Commit_Wv a_Commit_Puts a_Commit_Reads b_Commit_Who b_Commit_Rv b_Commit_Phase b_Commit_At b_Commit_Wv b_Commit_Puts b_Commit_Reads (fun r3 =>
                        bif (A.not r3) then
                          k false
                        else
                          k true)))
noncomputable def laws_eqJobRun (A : PM.Prims) : laws_eqJobRun_T := laws_eqJobRun_f A (laws_eqRowS A) (laws_eqProbe A) (laws_eqCommit A)
noncomputable def laws_eqJobRun_L (A : PM.Prims) (c_66 : laws_eqRowS_T) (c_274 : laws_eqProbe_T) (c_275 : laws_eqCommit_T) (n : Nat) : PM.Lam := fun cur σ K =>
  match cur, σ, K with
  | _, _, _ => none
noncomputable def laws_eqJobRun_E (A : PM.Prims) (c_66 : laws_eqRowS_T) (c_274 : laws_eqProbe_T) (c_275 : laws_eqCommit_T) : PM.Env := ⟨[(66, ⟨[], laws_eqRowS_w c_66, none⟩), (274, ⟨[], laws_eqProbe_w c_274, none⟩), (275, ⟨[], laws_eqCommit_w c_275, none⟩)], [], [], [(0, [2, 3]), (1, [2, 3, 9]), (2, [4]), (3, [2, 3, 14]), (4, [4]), (5, [2, 3, 19]), (6, [4]), (7, [2, 3, 24]), (8, [4]), (9, [2, 3, 29]), (10, [4]), (11, [2, 3, 35]), (12, [4]), (13, [2, 3, 40]), (14, [4]), (15, [2, 3, 46]), (16, [4]), (17, [52]), (18, [4]), (19, [4])], laws_eqJobRun_L A c_66 c_274 c_275 A.fuel⟩
theorem laws_eqJobRun_ok (A : PM.Prims) (c_66 : laws_eqRowS_T) (c_274 : laws_eqProbe_T) (c_275 : laws_eqCommit_T) (a_Phase : Int) (a_Tries : Int) (a_Rv : Int) (a_At : Int) (a_Stamp : Int) (a_Seen : List (List Int)) (a_Busy : Bool) (a_Probe_Cell : Int) (a_Probe_Phase : Int) (a_Probe_Ver : Int) (a_Probe_Val : Int) (a_Commit_Who : Int) (a_Commit_Rv : Int) (a_Commit_Phase : Int) (a_Commit_At : Int) (a_Commit_Wv : Int) (a_Commit_Puts : List (List Int)) (a_Commit_Reads : List Int) (b_Phase : Int) (b_Tries : Int) (b_Rv : Int) (b_At : Int) (b_Stamp : Int) (b_Seen : List (List Int)) (b_Busy : Bool) (b_Probe_Cell : Int) (b_Probe_Phase : Int) (b_Probe_Ver : Int) (b_Probe_Val : Int) (b_Commit_Who : Int) (b_Commit_Rv : Int) (b_Commit_Phase : Int) (b_Commit_At : Int) (b_Commit_Wv : Int) (b_Commit_Puts : List (List Int)) (b_Commit_Reads : List Int) (k : PM.V → PM.R) : PM.pfun A cx [] (laws_eqJobRun_E A c_66 c_274 c_275) Go.Proofs.Try.f210 [.agg [.int .i64 a_Phase, .int .i64 a_Tries, .int .i64 a_Rv, .int .i64 a_At, .int .i64 a_Stamp, .arr (.vecs 161 2 a_Seen), .bool a_Busy, .int .i64 a_Probe_Cell, .int .i64 a_Probe_Phase, .int .i64 a_Probe_Ver, .int .i64 a_Probe_Val, .int .i64 a_Commit_Who, .int .i64 a_Commit_Rv, .int .i64 a_Commit_Phase, .int .i64 a_Commit_At, .int .i64 a_Commit_Wv, .arr (.vecs 161 2 a_Commit_Puts), .arr (.ints 3 .i64 a_Commit_Reads)], .agg [.int .i64 b_Phase, .int .i64 b_Tries, .int .i64 b_Rv, .int .i64 b_At, .int .i64 b_Stamp, .arr (.vecs 161 2 b_Seen), .bool b_Busy, .int .i64 b_Probe_Cell, .int .i64 b_Probe_Phase, .int .i64 b_Probe_Ver, .int .i64 b_Probe_Val, .int .i64 b_Commit_Who, .int .i64 b_Commit_Rv, .int .i64 b_Commit_Phase, .int .i64 b_Commit_At, .int .i64 b_Commit_Wv, .arr (.vecs 161 2 b_Commit_Puts), .arr (.ints 3 .i64 b_Commit_Reads)]] k = laws_eqJobRun_f A c_66 c_274 c_275 a_Phase a_Tries a_Rv a_At a_Stamp a_Seen a_Busy a_Probe_Cell a_Probe_Phase a_Probe_Ver a_Probe_Val a_Commit_Who a_Commit_Rv a_Commit_Phase a_Commit_At a_Commit_Wv a_Commit_Puts a_Commit_Reads b_Phase b_Tries b_Rv b_At b_Stamp b_Seen b_Busy b_Probe_Cell b_Probe_Phase b_Probe_Ver b_Probe_Val b_Commit_Who b_Commit_Rv b_Commit_Phase b_Commit_At b_Commit_Wv b_Commit_Puts b_Commit_Reads (fun r0 => k (.bool r0)) := by kernel_rfl

theorem laws_eqJobRun_fn : PM.FnIs Try.prog 210 Try.f210 := .of Try.func210 (by kernel_rfl) (by kernel_rfl)
theorem laws_eqJobRun_g : PM.GOk Try.prog cx 210 ⟨[], laws_eqJobRun_w (laws_eqJobRun PM.std), none⟩ := by
  refine ⟨laws_eqJobRun_fn.enter, fun _ ds k r h => ?_, fun hm => absurd rfl hm, fun _ e => (by cases e)⟩
  change laws_eqJobRun_w (laws_eqJobRun PM.std) ds k = some r at h
  unfold laws_eqJobRun_w at h
  split at h
  · exact PM.pfun_ok (E := laws_eqJobRun_E PM.std (laws_eqRowS PM.std) (laws_eqProbe PM.std) (laws_eqCommit PM.std)) (L := fun n => laws_eqJobRun_L PM.std (laws_eqRowS PM.std) (laws_eqProbe PM.std) (laws_eqCommit PM.std) n) (N := PM.std.fuel) cx_ok (.cons laws_eqRowS_g (.cons laws_eqProbe_g (.cons laws_eqCommit_g .nil))) mixed .nil laws_eqJobRun_fn (by kernel_rfl) ⟨rfl, fun _ _ _ => rfl, fun n cur σ K r h => by cases h⟩
      ((laws_eqJobRun_ok PM.std (laws_eqRowS PM.std) (laws_eqProbe PM.std) (laws_eqCommit PM.std) _ _ _ _ _ _ _ _ _ _ _ _ _ _ _ _ _ _ _ _ _ _ _ _ _ _ _ _ _ _ _ _ _ _ _ _ k).trans h)
  · cases h

abbrev laws_eqJobRunS_T := (List (List PM.C)) → (List (List PM.C)) → ((Bool) → PM.R) → PM.R
noncomputable def laws_eqJobRunS_w (c : laws_eqJobRunS_T) (ds : List PM.V) (k : PM.V → PM.R) : PM.R :=
  match ds with
  | [.arr (.rows 189 a), .arr (.rows 189 b)] => c a b (fun r0 => k (.bool r0))
  | _ => none
noncomputable def laws_eqJobRunS_l0 (A : PM.Prims) (c_210 : laws_eqJobRun_T) : Nat → (List (List C)) → (List (List C)) → (Int) → ((Bool) → PM.R) → (Unit → PM.R) → PM.R
  | 0, _, _, _, _, _ => none
  | n + 1, a1, b2, i3, kret_0, kx0_0 =>
    bif (A.lt i3 (A.rlen a1)) then
      bif (A.inb i3 (A.rlen a1)) then
        bif (A.inb i3 (A.rlen b2)) then
          c_210 (A.rint a1 i3 0) (A.rint a1 i3 1) (A.rint a1 i3 2) (A.rint a1 i3 3) (A.rint a1 i3 4) (A.rsv 2 a1 i3 5) (A.rbool a1 i3 6) (A.rint a1 i3 7) (A.rint a1 i3 8) (A.rint a1 i3 9) (A.rint a1 i3 10) (A.rint a1 i3 11) (A.rint a1 i3 12) (A.rint a1 i3 13) (A.rint a1 i3 14) (A.rint a1 i3 15) (A.rsv 2 a1 i3 16) (A.rsi a1 i3 17) (A.rint b2 i3 0) (A.rint b2 i3 1) (A.rint b2 i3 2) (A.rint b2 i3 3) (A.rint b2 i3 4) (A.rsv 2 b2 i3 5) (A.rbool b2 i3 6) (A.rint b2 i3 7) (A.rint b2 i3 8) (A.rint b2 i3 9) (A.rint b2 i3 10) (A.rint b2 i3 11) (A.rint b2 i3 12) (A.rint b2 i3 13) (A.rint b2 i3 14) (A.rint b2 i3 15) (A.rsv 2 b2 i3 16) (A.rsi b2 i3 17) (fun r4 =>
            bif (A.not r4) then
              kret_0 false
            else
              laws_eqJobRunS_l0 A c_210 n a1 b2 (A.add .i64 i3 1) kret_0 kx0_0)
        else
          none
      else
        none
    else
      kx0_0 ()
noncomputable def laws_eqJobRunS_f (A : PM.Prims) (c_210 : laws_eqJobRun_T) (a : List (List PM.C)) (b : List (List PM.C)) (k : (Bool) → PM.R) : PM.R :=
  bif (A.not (A.eq (A.rlen a) (A.rlen b))) then
    k false
  else
    laws_eqJobRunS_l0 A c_210 A.fuel a b 0 (fun t456 =>
      k t456) (fun _ =>
      k true)
noncomputable def laws_eqJobRunS (A : PM.Prims) : laws_eqJobRunS_T := laws_eqJobRunS_f A (laws_eqJobRun A)
noncomputable def laws_eqJobRunS_L (A : PM.Prims) (c_210 : laws_eqJobRun_T) (n : Nat) : PM.Lam := fun cur σ K =>
  match cur, σ, K with
  | 0, ⟨[(0, .arr (.rows 189 a1)), (1, .arr (.rows 189 b2)), (5, .int .i64 i3)], []⟩, K => laws_eqJobRunS_l0 A c_210 n a1 b2 i3 (fun t45 => K .ret ⟨[(4, .bool t45)], []⟩) (fun _ => K (.exit 0) ⟨[], []⟩)
  | _, _, _ => none
noncomputable def laws_eqJobRunS_E (A : PM.Prims) (c_210 : laws_eqJobRun_T) : PM.Env := ⟨[(210, ⟨[], laws_eqJobRun_w c_210, none⟩)], [], [(0, [0, 1, 5], [4])], [(0, [0, 1]), (1, [0, 1, 10]), (2, [4]), (3, [0, 1, 5]), (4, [0, 1, 5, 14]), (5, [0, 1, 5]), (6, [0, 1, 5, 26]), (7, [4]), (8, [4])], laws_eqJobRunS_L A c_210 A.fuel⟩
theorem laws_eqJobRunS_l0_ok (A : PM.Prims) (c_210 : laws_eqJobRun_T) (n : Nat) (a1 : List (List C)) (b2 : List (List C)) (i3 : Int) (K : Go.Exit → PM.S → PM.R) : laws_eqJobRunS_L A c_210 (n + 1) 0 ⟨[(0, .arr (.rows 189 a1)), (1, .arr (.rows 189 b2)), (5, .int .i64 i3)], []⟩ K = PM.roundF A cx (PM.runD A cx (laws_eqJobRunS_E A c_210).inl (laws_eqJobRunS_E A c_210).Γ 3) (laws_eqJobRunS_E A c_210) (laws_eqJobRunS_L A c_210 n) 0 Go.Proofs.Try.f131 ⟨[(0, .arr (.rows 189 a1)), (1, .arr (.rows 189 b2)), (5, .int .i64 i3)], []⟩ K := by kernel_rfl
theorem laws_eqJobRunS_ok (A : PM.Prims) (c_210 : laws_eqJobRun_T) (a : List (List PM.C)) (b : List (List PM.C)) (k : PM.V → PM.R) : PM.pfun A cx [] (laws_eqJobRunS_E A c_210) Go.Proofs.Try.f131 [.arr (.rows 189 a), .arr (.rows 189 b)] k = laws_eqJobRunS_f A c_210 a b (fun r0 => k (.bool r0)) := by kernel_rfl

theorem laws_eqJobRunS_fn : PM.FnIs Try.prog 131 Try.f131 := .of Try.func131 (by kernel_rfl) (by kernel_rfl)
theorem laws_eqJobRunS_g : PM.GOk Try.prog cx 131 ⟨[], laws_eqJobRunS_w (laws_eqJobRunS PM.std), none⟩ := by
  refine ⟨laws_eqJobRunS_fn.enter, fun _ ds k r h => ?_, fun hm => absurd rfl hm, fun _ e => (by cases e)⟩
  change laws_eqJobRunS_w (laws_eqJobRunS PM.std) ds k = some r at h
  unfold laws_eqJobRunS_w at h
  split at h
  · exact PM.pfun_ok (E := laws_eqJobRunS_E PM.std (laws_eqJobRun PM.std)) (L := fun n => laws_eqJobRunS_L PM.std (laws_eqJobRun PM.std) n) (N := PM.std.fuel) cx_ok (.cons laws_eqJobRun_g .nil) mixed .nil laws_eqJobRunS_fn (by kernel_rfl) ⟨rfl, fun cur σ K => by
      dsimp only [laws_eqJobRunS_L]
      split <;> rfl, fun n cur σ K r h => by
      dsimp only [laws_eqJobRunS_L] at h
      split at h
      · exact (laws_eqJobRunS_l0_ok PM.std (laws_eqJobRun PM.std) n _ _ _ K).symm.trans h
      · cases h⟩
      ((laws_eqJobRunS_ok PM.std (laws_eqJobRun PM.std) _ _ k).trans h)
  · cases h

abbrev laws_eqDuel_T := (Int) → (List (List Int)) → (List (List PM.C)) → (List (List PM.C)) → (Int) → (List (List Int)) → (List (List PM.C)) → (List (List PM.C)) → ((Bool) → PM.R) → PM.R
noncomputable def laws_eqDuel_w (c : laws_eqDuel_T) (ds : List PM.V) (k : PM.V → PM.R) : PM.R :=
  match ds with
  | [.agg [.int .i64 a_Mem_Clock, .arr (.vecs 287 3 a_Mem_Cells), .arr (.rows 189 a_Jobs), .arr (.rows 33 a_Hist)], .agg [.int .i64 b_Mem_Clock, .arr (.vecs 287 3 b_Mem_Cells), .arr (.rows 189 b_Jobs), .arr (.rows 33 b_Hist)]] => c a_Mem_Clock a_Mem_Cells a_Jobs a_Hist b_Mem_Clock b_Mem_Cells b_Jobs b_Hist (fun r0 => k (.bool r0))
  | _ => none
noncomputable def laws_eqDuel_f (A : PM.Prims) (c_118 : laws_eqMem_T) (c_45 : laws_eqWroteS_T) (c_131 : laws_eqJobRunS_T) (a_Mem_Clock : Int) (a_Mem_Cells : List (List Int)) (a_Jobs : List (List PM.C)) (a_Hist : List (List PM.C)) (b_Mem_Clock : Int) (b_Mem_Cells : List (List Int)) (b_Jobs : List (List PM.C)) (b_Hist : List (List PM.C)) (k : (Bool) → PM.R) : PM.R :=
  c_118 a_Mem_Clock a_Mem_Cells b_Mem_Clock b_Mem_Cells (fun r1 =>
    bif (A.not r1) then
      k false
    else
      c_131 a_Jobs b_Jobs (fun r2 =>
        bif (A.not r2) then
          k false
        else
          c_45 a_Hist b_Hist (fun r3 =>
            bif (A.not r3) then
              k false
            else
              k true)))
noncomputable def laws_eqDuel (A : PM.Prims) : laws_eqDuel_T := laws_eqDuel_f A (laws_eqMem A) (laws_eqWroteS A) (laws_eqJobRunS A)
noncomputable def laws_eqDuel_L (A : PM.Prims) (c_118 : laws_eqMem_T) (c_45 : laws_eqWroteS_T) (c_131 : laws_eqJobRunS_T) (n : Nat) : PM.Lam := fun cur σ K =>
  match cur, σ, K with
  | _, _, _ => none
noncomputable def laws_eqDuel_E (A : PM.Prims) (c_118 : laws_eqMem_T) (c_45 : laws_eqWroteS_T) (c_131 : laws_eqJobRunS_T) : PM.Env := ⟨[(118, ⟨[], laws_eqMem_w c_118, none⟩), (45, ⟨[], laws_eqWroteS_w c_45, none⟩), (131, ⟨[], laws_eqJobRunS_w c_131, none⟩)], [], [], [(0, [2, 3]), (1, [2, 3, 10]), (2, [4]), (3, [2, 3, 16]), (4, [4]), (5, [22]), (6, [4]), (7, [4])], laws_eqDuel_L A c_118 c_45 c_131 A.fuel⟩
theorem laws_eqDuel_ok (A : PM.Prims) (c_118 : laws_eqMem_T) (c_45 : laws_eqWroteS_T) (c_131 : laws_eqJobRunS_T) (a_Mem_Clock : Int) (a_Mem_Cells : List (List Int)) (a_Jobs : List (List PM.C)) (a_Hist : List (List PM.C)) (b_Mem_Clock : Int) (b_Mem_Cells : List (List Int)) (b_Jobs : List (List PM.C)) (b_Hist : List (List PM.C)) (k : PM.V → PM.R) : PM.pfun A cx [] (laws_eqDuel_E A c_118 c_45 c_131) Go.Proofs.Try.f41 [.agg [.int .i64 a_Mem_Clock, .arr (.vecs 287 3 a_Mem_Cells), .arr (.rows 189 a_Jobs), .arr (.rows 33 a_Hist)], .agg [.int .i64 b_Mem_Clock, .arr (.vecs 287 3 b_Mem_Cells), .arr (.rows 189 b_Jobs), .arr (.rows 33 b_Hist)]] k = laws_eqDuel_f A c_118 c_45 c_131 a_Mem_Clock a_Mem_Cells a_Jobs a_Hist b_Mem_Clock b_Mem_Cells b_Jobs b_Hist (fun r0 => k (.bool r0)) := by kernel_rfl

theorem laws_eqDuel_fn : PM.FnIs Try.prog 41 Try.f41 := .of Try.func41 (by kernel_rfl) (by kernel_rfl)
theorem laws_eqDuel_g : PM.GOk Try.prog cx 41 ⟨[], laws_eqDuel_w (laws_eqDuel PM.std), none⟩ := by
  refine ⟨laws_eqDuel_fn.enter, fun _ ds k r h => ?_, fun hm => absurd rfl hm, fun _ e => (by cases e)⟩
  change laws_eqDuel_w (laws_eqDuel PM.std) ds k = some r at h
  unfold laws_eqDuel_w at h
  split at h
  · exact PM.pfun_ok (E := laws_eqDuel_E PM.std (laws_eqMem PM.std) (laws_eqWroteS PM.std) (laws_eqJobRunS PM.std)) (L := fun n => laws_eqDuel_L PM.std (laws_eqMem PM.std) (laws_eqWroteS PM.std) (laws_eqJobRunS PM.std) n) (N := PM.std.fuel) cx_ok (.cons laws_eqMem_g (.cons laws_eqWroteS_g (.cons laws_eqJobRunS_g .nil))) mixed .nil laws_eqDuel_fn (by kernel_rfl) ⟨rfl, fun _ _ _ => rfl, fun n cur σ K r h => by cases h⟩
      ((laws_eqDuel_ok PM.std (laws_eqMem PM.std) (laws_eqWroteS PM.std) (laws_eqJobRunS PM.std) _ _ _ _ _ _ _ _ k).trans h)
  · cases h

abbrev laws_FnExactDuelTrue_T := (List Int) → (Int) → (List (List Int)) → (List (List PM.C)) → (List (List PM.C)) → ((Bool) → PM.R) → PM.R
noncomputable def laws_FnExactDuelTrue_w (c : laws_FnExactDuelTrue_T) (ds : List PM.V) (k : PM.V → PM.R) : PM.R :=
  match ds with
  | [.arr (.ints 3 .i64 aCells), .agg [.int .i64 aD_Mem_Clock, .arr (.vecs 354 3 aD_Mem_Cells), .arr (.rows 285 aD_Jobs), .arr (.rows 195 aD_Hist)]] => c aCells aD_Mem_Clock aD_Mem_Cells aD_Jobs aD_Hist (fun r0 => k (.bool r0))
  | _ => none
noncomputable def laws_FnExactDuelTrue_f (A : PM.Prims) (c_40 : laws_eqIntS_T) (c_37 : laws_toIntS_T) (c_35 : laws_szDuel_T) (c_38 : laws_toDuel_T) (c_36 : spec_DuelTrue_T) (c_39 : impl_DuelTrue_T) (c_41 : laws_eqDuel_T) (aCells : List Int) (aD_Mem_Clock : Int) (aD_Mem_Cells : List (List Int)) (aD_Jobs : List (List PM.C)) (aD_Hist : List (List PM.C)) (k : (Bool) → PM.R) : PM.R :=
  bif (A.lt 1048576 (A.ilen aCells)) then
    k true
  else
    c_35 aD_Mem_Clock aD_Mem_Cells aD_Jobs aD_Hist 1048576 (fun r1 =>
      bif (A.lt r1 0) then
        k true
      else
        c_37 aCells (fun r2 =>
          c_38 aD_Mem_Clock aD_Mem_Cells aD_Jobs aD_Hist (fun r3 r4 r5 r6 =>
            c_36 r2 r3 r4 r5 r6 (fun r7 =>
              c_37 aCells (fun r8 =>
                c_38 aD_Mem_Clock aD_Mem_Cells aD_Jobs aD_Hist (fun r9 r10 r11 r12 =>
                  c_39 r8 r9 r10 r11 r12 (fun r13 =>
                    bif (A.not (A.beq r13 r7)) then
                      k false
                    else
                      c_37 aCells (fun r14 =>
                        c_40 r8 r14 (fun r15 =>
                          bif (A.not r15) then
                            k false
                          else
                            c_38 aD_Mem_Clock aD_Mem_Cells aD_Jobs aD_Hist (fun r16 r17 r18 r19 =>
                              c_41 r9 r10 r11 r12 r16 r17 r18 r19 (fun r20 =>
                                bif (A.not r20) then
                                  k false
                                else
                                  k true)))))))))))
noncomputable def laws_FnExactDuelTrue (A : PM.Prims) : laws_FnExactDuelTrue_T := laws_FnExactDuelTrue_f A (laws_eqIntS A) (laws_toIntS A) (laws_szDuel A) (laws_toDuel A) (spec_DuelTrue A) (impl_DuelTrue A) (laws_eqDuel A)
noncomputable def laws_FnExactDuelTrue_L (A : PM.Prims) (c_40 : laws_eqIntS_T) (c_37 : laws_toIntS_T) (c_35 : laws_szDuel_T) (c_38 : laws_toDuel_T) (c_36 : spec_DuelTrue_T) (c_39 : impl_DuelTrue_T) (c_41 : laws_eqDuel_T) (n : Nat) : PM.Lam := fun cur σ K =>
  match cur, σ, K with
  | _, _, _ => none
noncomputable def laws_FnExactDuelTrue_E (A : PM.Prims) (c_40 : laws_eqIntS_T) (c_37 : laws_toIntS_T) (c_35 : laws_szDuel_T) (c_38 : laws_toDuel_T) (c_36 : spec_DuelTrue_T) (c_39 : impl_DuelTrue_T) (c_41 : laws_eqDuel_T) : PM.Env := ⟨[(40, ⟨[], laws_eqIntS_w c_40, none⟩), (37, ⟨[], laws_toIntS_w c_37, none⟩), (35, ⟨[], laws_szDuel_w c_35, none⟩), (38, ⟨[], laws_toDuel_w c_38, none⟩), (36, ⟨[], spec_DuelTrue_w c_36, none⟩), (39, ⟨[], impl_DuelTrue_w c_39, none⟩), (41, ⟨[], laws_eqDuel_w c_41, none⟩)], [], [], [(0, [0, 3]), (1, [0, 3, 12]), (2, [4]), (3, [0, 3, 5]), (4, [0, 3, 5]), (5, [0, 3, 17]), (6, [4]), (7, [0, 3, 6]), (8, [0, 3, 6, 7]), (9, [0, 3, 6, 7, 8]), (10, [0, 3, 6, 7, 8, 9]), (11, [0, 3, 7, 8, 32]), (12, [4]), (13, [3, 8, 37]), (14, [4]), (15, [42]), (16, [4]), (17, [4])], laws_FnExactDuelTrue_L A c_40 c_37 c_35 c_38 c_36 c_39 c_41 A.fuel⟩
theorem laws_FnExactDuelTrue_ok (A : PM.Prims) (c_40 : laws_eqIntS_T) (c_37 : laws_toIntS_T) (c_35 : laws_szDuel_T) (c_38 : laws_toDuel_T) (c_36 : spec_DuelTrue_T) (c_39 : impl_DuelTrue_T) (c_41 : laws_eqDuel_T) (aCells : List Int) (aD_Mem_Clock : Int) (aD_Mem_Cells : List (List Int)) (aD_Jobs : List (List PM.C)) (aD_Hist : List (List PM.C)) (k : PM.V → PM.R) : PM.pfun A cx [] (laws_FnExactDuelTrue_E A c_40 c_37 c_35 c_38 c_36 c_39 c_41) Go.Proofs.Try.f5 [.arr (.ints 3 .i64 aCells), .agg [.int .i64 aD_Mem_Clock, .arr (.vecs 354 3 aD_Mem_Cells), .arr (.rows 285 aD_Jobs), .arr (.rows 195 aD_Hist)]] k = laws_FnExactDuelTrue_f A c_40 c_37 c_35 c_38 c_36 c_39 c_41 aCells aD_Mem_Clock aD_Mem_Cells aD_Jobs aD_Hist (fun r0 => k (.bool r0)) := by kernel_rfl

theorem laws_FnExactDuelTrue_fn : PM.FnIs Try.prog 5 Try.f5 := .of Try.func5 (by kernel_rfl) (by kernel_rfl)
theorem laws_FnExactDuelTrue_g : PM.GOk Try.prog cx 5 ⟨[], laws_FnExactDuelTrue_w (laws_FnExactDuelTrue PM.std), none⟩ := by
  refine ⟨laws_FnExactDuelTrue_fn.enter, fun _ ds k r h => ?_, fun hm => absurd rfl hm, fun _ e => (by cases e)⟩
  change laws_FnExactDuelTrue_w (laws_FnExactDuelTrue PM.std) ds k = some r at h
  unfold laws_FnExactDuelTrue_w at h
  split at h
  · exact PM.pfun_ok (E := laws_FnExactDuelTrue_E PM.std (laws_eqIntS PM.std) (laws_toIntS PM.std) (laws_szDuel PM.std) (laws_toDuel PM.std) (spec_DuelTrue PM.std) (impl_DuelTrue PM.std) (laws_eqDuel PM.std)) (L := fun n => laws_FnExactDuelTrue_L PM.std (laws_eqIntS PM.std) (laws_toIntS PM.std) (laws_szDuel PM.std) (laws_toDuel PM.std) (spec_DuelTrue PM.std) (impl_DuelTrue PM.std) (laws_eqDuel PM.std) n) (N := PM.std.fuel) cx_ok (.cons laws_eqIntS_g (.cons laws_toIntS_g (.cons laws_szDuel_g (.cons laws_toDuel_g (.cons spec_DuelTrue_g (.cons impl_DuelTrue_g (.cons laws_eqDuel_g .nil))))))) mixed .nil laws_FnExactDuelTrue_fn (by kernel_rfl) ⟨rfl, fun _ _ _ => rfl, fun n cur σ K r h => by cases h⟩
      ((laws_FnExactDuelTrue_ok PM.std (laws_eqIntS PM.std) (laws_toIntS PM.std) (laws_szDuel PM.std) (laws_toDuel PM.std) (spec_DuelTrue PM.std) (impl_DuelTrue PM.std) (laws_eqDuel PM.std) _ _ _ _ _ k).trans h)
  · cases h

end X
