/- Models of the functions, or plain laws about them; each theorem states its own conditions. -/
import Derived.Test.YtnkgcegeinemjaaMdlA
import Derived.Test.YtnkgcegeinemjaaL3
import Derived.Test.YtnkgcegeinemjaaW1
import Derived.Test.YtnkgcegeinemjaaProg
import Derived.KernelRfl
set_option linter.unusedVariables false
set_option linter.unusedSimpArgs false
open Go.Proofs
namespace X
open PM
set_option maxRecDepth 100000
set_option maxHeartbeats 4000000
abbrev spec_l10Copy_T := (Int) → (Int) → (Int) → (Int) → (Int) → (List (List Int)) → (List Int) → ((Int) → (Int) → (Int) → (Int) → (Int) → (List (List Int)) → (List Int) → PM.R) → PM.R
noncomputable def spec_l10Copy_w (c : spec_l10Copy_T) (ds : List PM.V) (k : PM.V → PM.R) : PM.R :=
  match ds with
  | [.agg [.int .i64 c_Who, .int .i64 c_Rv, .int .i64 c_Phase, .int .i64 c_At, .int .i64 c_Wv, .arr (.vecs 135 2 c_Puts), .arr (.ints 3 .i64 c_Reads)]] => c c_Who c_Rv c_Phase c_At c_Wv c_Puts c_Reads (fun r0_Who r0_Rv r0_Phase r0_At r0_Wv r0_Puts r0_Reads => k (.agg [.int .i64 r0_Who, .int .i64 r0_Rv, .int .i64 r0_Phase, .int .i64 r0_At, .int .i64 r0_Wv, .arr (.vecs 135 2 r0_Puts), .arr (.ints 3 .i64 r0_Reads)]))
  | _ => none
noncomputable def spec_l10Copy_f (A : PM.Prims) (c_Who : Int) (c_Rv : Int) (c_Phase : Int) (c_At : Int) (c_Wv : Int) (c_Puts : List (List Int)) (c_Reads : List Int) (k : (Int) → (Int) → (Int) → (Int) → (Int) → (List (List Int)) → (List Int) → PM.R) : PM.R :=
  bif (A.room (A.vlen []) (A.vlen c_Puts)) then
    bif (A.room (A.ilen []) (A.ilen c_Reads)) then
      k c_Who c_Rv c_Phase c_At c_Wv (A.vapp [] c_Puts) (A.iapp [] c_Reads)
    else
      none
  else
    none
noncomputable def spec_l10Copy (A : PM.Prims) : spec_l10Copy_T := spec_l10Copy_f A
noncomputable def spec_l10Copy_L (A : PM.Prims) (n : Nat) : PM.Lam := fun cur σ K =>
  match cur, σ, K with
  | _, _, _ => none
noncomputable def spec_l10Copy_E (A : PM.Prims) : PM.Env := ⟨[], [], [], [(0, [1, 2]), (1, [1, 2]), (2, [1, 2]), (3, [2])], spec_l10Copy_L A A.fuel⟩
theorem spec_l10Copy_ok (A : PM.Prims) (c_Who : Int) (c_Rv : Int) (c_Phase : Int) (c_At : Int) (c_Wv : Int) (c_Puts : List (List Int)) (c_Reads : List Int) (k : PM.V → PM.R) : PM.pfun A cx [] (spec_l10Copy_E A) Go.Proofs.Try.f131 [.agg [.int .i64 c_Who, .int .i64 c_Rv, .int .i64 c_Phase, .int .i64 c_At, .int .i64 c_Wv, .arr (.vecs 135 2 c_Puts), .arr (.ints 3 .i64 c_Reads)]] k = spec_l10Copy_f A c_Who c_Rv c_Phase c_At c_Wv c_Puts c_Reads (fun r0_Who r0_Rv r0_Phase r0_At r0_Wv r0_Puts r0_Reads => k (.agg [.int .i64 r0_Who, .int .i64 r0_Rv, .int .i64 r0_Phase, .int .i64 r0_At, .int .i64 r0_Wv, .arr (.vecs 135 2 r0_Puts), .arr (.ints 3 .i64 r0_Reads)])) := by kernel_rfl

theorem spec_l10Copy_fn : PM.FnIs Try.prog 131 Try.f131 := .of Try.func131 (by kernel_rfl) (by kernel_rfl)
theorem spec_l10Copy_g : PM.GOk Try.prog cx 131 ⟨[], spec_l10Copy_w (spec_l10Copy PM.std), none⟩ := by
  refine ⟨spec_l10Copy_fn.enter, fun _ ds k r h => ?_, fun hm => absurd rfl hm, fun _ e => (by cases e)⟩
  change spec_l10Copy_w (spec_l10Copy PM.std) ds k = some r at h
  unfold spec_l10Copy_w at h
  split at h
  · exact PM.pfun_ok (E := spec_l10Copy_E PM.std) (L := fun n => spec_l10Copy_L PM.std n) (N := PM.std.fuel) cx_ok .nil mixed .nil spec_l10Copy_fn (by kernel_rfl) ⟨rfl, fun _ _ _ => rfl, fun n cur σ K r h => by cases h⟩
      ((spec_l10Copy_ok PM.std _ _ _ _ _ _ _ k).trans h)
  · cases h

abbrev impl_copyRows_T := (List (List Int)) → ((List (List Int)) → PM.R) → PM.R
noncomputable def impl_copyRows_w (c : impl_copyRows_T) (ds : List PM.V) (k : PM.V → PM.R) : PM.R :=
  match ds with
  | [.arr (.vecs 135 2 l)] => c l (fun r0 => k (.arr (.vecs 135 2 r0)))
  | _ => none
noncomputable def impl_copyRows_f (A : PM.Prims) (l : List (List Int)) (k : (List (List Int)) → PM.R) : PM.R :=
  bif (A.room (A.vlen []) (A.vlen l)) then
    k (A.vapp [] l)
  else
    none
noncomputable def impl_copyRows (A : PM.Prims) : impl_copyRows_T := impl_copyRows_f A
noncomputable def impl_copyRows_L (A : PM.Prims) (n : Nat) : PM.Lam := fun cur σ K =>
  match cur, σ, K with
  | _, _, _ => none
noncomputable def impl_copyRows_E (A : PM.Prims) : PM.Env := ⟨[], [], [], [(0, [0]), (1, [2])], impl_copyRows_L A A.fuel⟩
theorem impl_copyRows_ok (A : PM.Prims) (l : List (List Int)) (k : PM.V → PM.R) : PM.pfun A cx [] (impl_copyRows_E A) Go.Proofs.Try.f155 [.arr (.vecs 135 2 l)] k = impl_copyRows_f A l (fun r0 => k (.arr (.vecs 135 2 r0))) := by kernel_rfl

theorem impl_copyRows_fn : PM.FnIs Try.prog 155 Try.f155 := .of Try.func155 (by kernel_rfl) (by kernel_rfl)
theorem impl_copyRows_g : PM.GOk Try.prog cx 155 ⟨[], impl_copyRows_w (impl_copyRows PM.std), none⟩ := by
  refine ⟨impl_copyRows_fn.enter, fun _ ds k r h => ?_, fun hm => absurd rfl hm, fun _ e => (by cases e)⟩
  change impl_copyRows_w (impl_copyRows PM.std) ds k = some r at h
  unfold impl_copyRows_w at h
  split at h
  · exact PM.pfun_ok (E := impl_copyRows_E PM.std) (L := fun n => impl_copyRows_L PM.std n) (N := PM.std.fuel) cx_ok .nil mixed .nil impl_copyRows_fn (by kernel_rfl) ⟨rfl, fun _ _ _ => rfl, fun n cur σ K r h => by cases h⟩
      ((impl_copyRows_ok PM.std _ k).trans h)
  · cases h

abbrev impl_copyInts_T := (List Int) → ((List Int) → PM.R) → PM.R
noncomputable def impl_copyInts_w (c : impl_copyInts_T) (ds : List PM.V) (k : PM.V → PM.R) : PM.R :=
  match ds with
  | [.arr (.ints 3 .i64 l)] => c l (fun r0 => k (.arr (.ints 3 .i64 r0)))
  | _ => none
noncomputable def impl_copyInts_f (A : PM.Prims) (l : List Int) (k : (List Int) → PM.R) : PM.R :=
  bif (A.room (A.ilen []) (A.ilen l)) then
    k (A.iapp [] l)
  else
    none
noncomputable def impl_copyInts (A : PM.Prims) : impl_copyInts_T := impl_copyInts_f A
noncomputable def impl_copyInts_L (A : PM.Prims) (n : Nat) : PM.Lam := fun cur σ K =>
  match cur, σ, K with
  | _, _, _ => none
noncomputable def impl_copyInts_E (A : PM.Prims) : PM.Env := ⟨[], [], [], [(0, [0]), (1, [2])], impl_copyInts_L A A.fuel⟩
theorem impl_copyInts_ok (A : PM.Prims) (l : List Int) (k : PM.V → PM.R) : PM.pfun A cx [] (impl_copyInts_E A) Go.Proofs.Try.f154 [.arr (.ints 3 .i64 l)] k = impl_copyInts_f A l (fun r0 => k (.arr (.ints 3 .i64 r0))) := by kernel_rfl

theorem impl_copyInts_fn : PM.FnIs Try.prog 154 Try.f154 := .of Try.func154 (by kernel_rfl) (by kernel_rfl)
theorem impl_copyInts_g : PM.GOk Try.prog cx 154 ⟨[], impl_copyInts_w (impl_copyInts PM.std), none⟩ := by
  refine ⟨impl_copyInts_fn.enter, fun _ ds k r h => ?_, fun hm => absurd rfl hm, fun _ e => (by cases e)⟩
  change impl_copyInts_w (impl_copyInts PM.std) ds k = some r at h
  unfold impl_copyInts_w at h
  split at h
  · exact PM.pfun_ok (E := impl_copyInts_E PM.std) (L := fun n => impl_copyInts_L PM.std n) (N := PM.std.fuel) cx_ok .nil mixed .nil impl_copyInts_fn (by kernel_rfl) ⟨rfl, fun _ _ _ => rfl, fun n cur σ K r h => by cases h⟩
      ((impl_copyInts_ok PM.std _ k).trans h)
  · cases h

abbrev impl_copyCommit_T := (Int) → (Int) → (Int) → (Int) → (Int) → (List (List Int)) → (List Int) → ((Int) → (Int) → (Int) → (Int) → (Int) → (List (List Int)) → (List Int) → PM.R) → PM.R
noncomputable def impl_copyCommit_w (c : impl_copyCommit_T) (ds : List PM.V) (k : PM.V → PM.R) : PM.R :=
  match ds with
  | [.agg [.int .i64 c_Who, .int .i64 c_Rv, .int .i64 c_Phase, .int .i64 c_At, .int .i64 c_Wv, .arr (.vecs 135 2 c_Puts), .arr (.ints 3 .i64 c_Reads)]] => c c_Who c_Rv c_Phase c_At c_Wv c_Puts c_Reads (fun r0_Who r0_Rv r0_Phase r0_At r0_Wv r0_Puts r0_Reads => k (.agg [.int .i64 r0_Who, .int .i64 r0_Rv, .int .i64 r0_Phase, .int .i64 r0_At, .int .i64 r0_Wv, .arr (.vecs 135 2 r0_Puts), .arr (.ints 3 .i64 r0_Reads)]))
  | _ => none
noncomputable def impl_copyCommit_f (A : PM.Prims) (c_155 : impl_copyRows_T) (c_154 : impl_copyInts_T) (c_Who : Int) (c_Rv : Int) (c_Phase : Int) (c_At : Int) (c_Wv : Int) (c_Puts : List (List Int)) (c_Reads : List Int) (k : (Int) → (Int) → (Int) → (Int) → (Int) → (List (List Int)) → (List Int) → PM.R) : PM.R :=
  c_155 c_Puts (fun r1 =>
    c_154 c_Reads (fun r2 =>
      k c_Who c_Rv c_Phase c_At c_Wv r1 r2))
noncomputable def impl_copyCommit (A : PM.Prims) : impl_copyCommit_T := impl_copyCommit_f A (impl_copyRows A) (impl_copyInts A)
noncomputable def impl_copyCommit_L (A : PM.Prims) (c_155 : impl_copyRows_T) (c_154 : impl_copyInts_T) (n : Nat) : PM.Lam := fun cur σ K =>
  match cur, σ, K with
  | _, _, _ => none
noncomputable def impl_copyCommit_E (A : PM.Prims) (c_155 : impl_copyRows_T) (c_154 : impl_copyInts_T) : PM.Env := ⟨[(155, ⟨[], impl_copyRows_w c_155, none⟩), (154, ⟨[], impl_copyInts_w c_154, none⟩)], [], [], [(0, [1, 2]), (1, [1, 2]), (2, [1, 2]), (3, [2])], impl_copyCommit_L A c_155 c_154 A.fuel⟩
theorem impl_copyCommit_ok (A : PM.Prims) (c_155 : impl_copyRows_T) (c_154 : impl_copyInts_T) (c_Who : Int) (c_Rv : Int) (c_Phase : Int) (c_At : Int) (c_Wv : Int) (c_Puts : List (List Int)) (c_Reads : List Int) (k : PM.V → PM.R) : PM.pfun A cx [] (impl_copyCommit_E A c_155 c_154) Go.Proofs.Try.f133 [.agg [.int .i64 c_Who, .int .i64 c_Rv, .int .i64 c_Phase, .int .i64 c_At, .int .i64 c_Wv, .arr (.vecs 135 2 c_Puts), .arr (.ints 3 .i64 c_Reads)]] k = impl_copyCommit_f A c_155 c_154 c_Who c_Rv c_Phase c_At c_Wv c_Puts c_Reads (fun r0_Who r0_Rv r0_Phase r0_At r0_Wv r0_Puts r0_Reads => k (.agg [.int .i64 r0_Who, .int .i64 r0_Rv, .int .i64 r0_Phase, .int .i64 r0_At, .int .i64 r0_Wv, .arr (.vecs 135 2 r0_Puts), .arr (.ints 3 .i64 r0_Reads)])) := by kernel_rfl

theorem impl_copyCommit_fn : PM.FnIs Try.prog 133 Try.f133 := .of Try.func133 (by kernel_rfl) (by kernel_rfl)
theorem impl_copyCommit_g : PM.GOk Try.prog cx 133 ⟨[], impl_copyCommit_w (impl_copyCommit PM.std), none⟩ := by
  refine ⟨impl_copyCommit_fn.enter, fun _ ds k r h => ?_, fun hm => absurd rfl hm, fun _ e => (by cases e)⟩
  change impl_copyCommit_w (impl_copyCommit PM.std) ds k = some r at h
  unfold impl_copyCommit_w at h
  split at h
  · exact PM.pfun_ok (E := impl_copyCommit_E PM.std (impl_copyRows PM.std) (impl_copyInts PM.std)) (L := fun n => impl_copyCommit_L PM.std (impl_copyRows PM.std) (impl_copyInts PM.std) n) (N := PM.std.fuel) cx_ok (.cons impl_copyRows_g (.cons impl_copyInts_g .nil)) mixed .nil impl_copyCommit_fn (by kernel_rfl) ⟨rfl, fun _ _ _ => rfl, fun n cur σ K r h => by cases h⟩
      ((impl_copyCommit_ok PM.std (impl_copyRows PM.std) (impl_copyInts PM.std) _ _ _ _ _ _ _ k).trans h)
  · cases h

abbrev impl_CommitBreak_T := (Int) → (Int) → (Int) → (Int) → (Int) → (List (List Int)) → (List Int) → ((Int) → (Int) → (Int) → (Int) → (Int) → (List (List Int)) → (List Int) → (Bool) → PM.R) → PM.R
noncomputable def impl_CommitBreak_w (c : impl_CommitBreak_T) (ds : List PM.V) (k : PM.V → PM.R) : PM.R :=
  match ds with
  | [.agg [.int .i64 c_Who, .int .i64 c_Rv, .int .i64 c_Phase, .int .i64 c_At, .int .i64 c_Wv, .arr (.vecs 135 2 c_Puts), .arr (.ints 3 .i64 c_Reads)]] => c c_Who c_Rv c_Phase c_At c_Wv c_Puts c_Reads (fun r0_Who r0_Rv r0_Phase r0_At r0_Wv r0_Puts r0_Reads r1 => k (.tup [.agg [.int .i64 r0_Who, .int .i64 r0_Rv, .int .i64 r0_Phase, .int .i64 r0_At, .int .i64 r0_Wv, .arr (.vecs 135 2 r0_Puts), .arr (.ints 3 .i64 r0_Reads)], .bool r1]))
  | _ => none
noncomputable def impl_CommitBreak_f (A : PM.Prims) (c_62 : impl_CommitOk_T) (c_133 : impl_copyCommit_T) (c_Who : Int) (c_Rv : Int) (c_Phase : Int) (c_At : Int) (c_Wv : Int) (c_Puts : List (List Int)) (c_Reads : List Int) (k : (Int) → (Int) → (Int) → (Int) → (Int) → (List (List Int)) → (List Int) → (Bool) → PM.R) : PM.R :=
  c_133 c_Who c_Rv c_Phase c_At c_Wv c_Puts c_Reads (fun r1 r2 r3 r4 r5 r6 r7 =>
    c_62 r1 r2 r3 r4 r5 r6 r7 (fun r8 =>
      bif (A.not r8) then
        k r1 r2 r3 r4 r5 r6 r7 false
      else
        bif (A.eq r3 1) then
          bif (A.eq r4 0) then
            k r1 r2 8 0 r5 r6 r7 true
          else
            k r1 r2 7 (A.sub .i64 r4 1) r5 r6 r7 true
        else
          bif (A.eq r3 2) then
            bif (A.eq (A.vlen r6) 0) then
              k r1 r2 8 0 r5 r6 r7 true
            else
              k r1 r2 7 (A.sub .i64 (A.vlen r6) 1) r5 r6 r7 true
          else
            bif (A.eq r3 3) then
              bif (A.eq (A.vlen r6) 0) then
                k r1 r2 8 0 r5 r6 r7 true
              else
                k r1 r2 7 (A.sub .i64 (A.vlen r6) 1) r5 r6 r7 true
            else
              k r1 r2 r3 r4 r5 r6 r7 false))
noncomputable def impl_CommitBreak (A : PM.Prims) : impl_CommitBreak_T := impl_CommitBreak_f A (impl_CommitOk A) (impl_copyCommit A)
noncomputable def impl_CommitBreak_L (A : PM.Prims) (c_62 : impl_CommitOk_T) (c_133 : impl_copyCommit_T) (n : Nat) : PM.Lam := fun cur σ K =>
  match cur, σ, K with
  | _, _, _ => none
noncomputable def impl_CommitBreak_E (A : PM.Prims) (c_62 : impl_CommitOk_T) (c_133 : impl_copyCommit_T) : PM.Env := ⟨[(62, ⟨[], impl_CommitOk_w c_62, none⟩), (133, ⟨[], impl_copyCommit_w c_133, none⟩)], [(134, Go.Proofs.Try.f134)], [], [(0, [1, 2]), (1, [1, 2]), (2, [1, 2, 8]), (3, [2, 3]), (4, [1, 2, 11]), (5, [2, 3]), (6, [1, 2, 11, 13]), (7, [1, 2]), (8, [1, 2, 11, 18]), (9, [1, 2, 18]), (10, [1, 2]), (11, [2, 3])], impl_CommitBreak_L A c_62 c_133 A.fuel⟩
theorem impl_CommitBreak_ok (A : PM.Prims) (c_62 : impl_CommitOk_T) (c_133 : impl_copyCommit_T) (c_Who : Int) (c_Rv : Int) (c_Phase : Int) (c_At : Int) (c_Wv : Int) (c_Puts : List (List Int)) (c_Reads : List Int) (k : PM.V → PM.R) : PM.pfun A cx [] (impl_CommitBreak_E A c_62 c_133) Go.Proofs.Try.f75 [.agg [.int .i64 c_Who, .int .i64 c_Rv, .int .i64 c_Phase, .int .i64 c_At, .int .i64 c_Wv, .arr (.vecs 135 2 c_Puts), .arr (.ints 3 .i64 c_Reads)]] k = impl_CommitBreak_f A c_62 c_133 c_Who c_Rv c_Phase c_At c_Wv c_Puts c_Reads (fun r0_Who r0_Rv r0_Phase r0_At r0_Wv r0_Puts r0_Reads r1 => k (.tup [.agg [.int .i64 r0_Who, .int .i64 r0_Rv, .int .i64 r0_Phase, .int .i64 r0_At, .int .i64 r0_Wv, .arr (.vecs 135 2 r0_Puts), .arr (.ints 3 .i64 r0_Reads)], .bool r1])) := by kernel_rfl

theorem impl_CommitBreak_fn : PM.FnIs Try.prog 75 Try.f75 := .of Try.func75 (by kernel_rfl) (by kernel_rfl)
theorem impl_CommitBreak_g : PM.GOk Try.prog cx 75 ⟨[], impl_CommitBreak_w (impl_CommitBreak PM.std), none⟩ := by
  refine ⟨impl_CommitBreak_fn.enter, fun _ ds k r h => ?_, fun hm => absurd rfl hm, fun _ e => (by cases e)⟩
  change impl_CommitBreak_w (impl_CommitBreak PM.std) ds k = some r at h
  unfold impl_CommitBreak_w at h
  split at h
  · exact PM.pfun_ok (E := impl_CommitBreak_E PM.std (impl_CommitOk PM.std) (impl_copyCommit PM.std)) (L := fun n => impl_CommitBreak_L PM.std (impl_CommitOk PM.std) (impl_copyCommit PM.std) n) (N := PM.std.fuel) cx_ok (.cons impl_CommitOk_g (.cons impl_copyCommit_g .nil)) mixed (.cons (.of Try.func134 (by kernel_rfl) (by kernel_rfl)) (by kernel_rfl) .nil) impl_CommitBreak_fn (by kernel_rfl) ⟨rfl, fun _ _ _ => rfl, fun n cur σ K r h => by cases h⟩
      ((impl_CommitBreak_ok PM.std (impl_CommitOk PM.std) (impl_copyCommit PM.std) _ _ _ _ _ _ _ k).trans h)
  · cases h

abbrev spec_l3Copy_T := (Int) → (List (List Int)) → ((Int) → (List (List Int)) → PM.R) → PM.R
noncomputable def spec_l3Copy_w (c : spec_l3Copy_T) (ds : List PM.V) (k : PM.V → PM.R) : PM.R :=
  match ds with
  | [.agg [.int .i64 m_Clock, .arr (.vecs 49 3 m_Cells)]] => c m_Clock m_Cells (fun r0_Clock r0_Cells => k (.agg [.int .i64 r0_Clock, .arr (.vecs 49 3 r0_Cells)]))
  | _ => none
noncomputable def spec_l3Copy_f (A : PM.Prims) (m_Clock : Int) (m_Cells : List (List Int)) (k : (Int) → (List (List Int)) → PM.R) : PM.R :=
  bif (A.room (A.vlen []) (A.vlen m_Cells)) then
    k m_Clock (A.vapp [] m_Cells)
  else
    none
noncomputable def spec_l3Copy (A : PM.Prims) : spec_l3Copy_T := spec_l3Copy_f A
noncomputable def spec_l3Copy_L (A : PM.Prims) (n : Nat) : PM.Lam := fun cur σ K =>
  match cur, σ, K with
  | _, _, _ => none
noncomputable def spec_l3Copy_E (A : PM.Prims) : PM.Env := ⟨[], [], [], [(0, [1, 2]), (1, [2])], spec_l3Copy_L A A.fuel⟩
theorem spec_l3Copy_ok (A : PM.Prims) (m_Clock : Int) (m_Cells : List (List Int)) (k : PM.V → PM.R) : PM.pfun A cx [] (spec_l3Copy_E A) Go.Proofs.Try.f135 [.agg [.int .i64 m_Clock, .arr (.vecs 49 3 m_Cells)]] k = spec_l3Copy_f A m_Clock m_Cells (fun r0_Clock r0_Cells => k (.agg [.int .i64 r0_Clock, .arr (.vecs 49 3 r0_Cells)])) := by kernel_rfl

theorem spec_l3Copy_fn : PM.FnIs Try.prog 135 Try.f135 := .of Try.func135 (by kernel_rfl) (by kernel_rfl)
theorem spec_l3Copy_g : PM.GOk Try.prog cx 135 ⟨[], spec_l3Copy_w (spec_l3Copy PM.std), none⟩ := by
  refine ⟨spec_l3Copy_fn.enter, fun _ ds k r h => ?_, fun hm => absurd rfl hm, fun _ e => (by cases e)⟩
  change spec_l3Copy_w (spec_l3Copy PM.std) ds k = some r at h
  unfold spec_l3Copy_w at h
  split at h
  · exact PM.pfun_ok (E := spec_l3Copy_E PM.std) (L := fun n => spec_l3Copy_L PM.std n) (N := PM.std.fuel) cx_ok .nil mixed .nil spec_l3Copy_fn (by kernel_rfl) ⟨rfl, fun _ _ _ => rfl, fun n cur σ K r h => by cases h⟩
      ((spec_l3Copy_ok PM.std _ _ k).trans h)
  · cases h

abbrev spec_Lock_T := (Int) → (List (List Int)) → (Int) → (Int) → ((Int) → (List (List Int)) → (Bool) → PM.R) → PM.R
noncomputable def spec_Lock_w (c : spec_Lock_T) (ds : List PM.V) (k : PM.V → PM.R) : PM.R :=
  match ds with
  | [.agg [.int .i64 m_Clock, .arr (.vecs 49 3 m_Cells)], .int .i64 i, .int .i64 who] => c m_Clock m_Cells i who (fun r0_Clock r0_Cells r1 => k (.tup [.agg [.int .i64 r0_Clock, .arr (.vecs 49 3 r0_Cells)], .bool r1]))
  | _ => none
noncomputable def spec_Lock_f (A : PM.Prims) (c_94 : spec_l1In_T) (c_35 : spec_MemOk_T) (c_93 : spec_l3Cell_T) (c_135 : spec_l3Copy_T) (m_Clock : Int) (m_Cells : List (List Int)) (i : Int) (who : Int) (k : (Int) → (List (List Int)) → (Bool) → PM.R) : PM.R :=
  c_135 m_Clock m_Cells (fun r1 r2 =>
    c_35 m_Clock m_Cells (fun r3 =>
      bif (A.not r3) then
        k r1 r2 false
      else
        c_93 i (fun r4 =>
          bif (A.not r4) then
            k r1 r2 false
          else
            c_94 who 1 99 (fun r5 =>
              bif (A.not r5) then
                k r1 r2 false
              else
                bif (A.inb i (A.vlen m_Cells)) then
                  bif (A.not (A.eq (A.vget m_Cells i 2) 0)) then
                    k r1 r2 false
                  else
                    bif (A.inb i (A.vlen r2)) then
                      k r1 (A.vset r2 i 2 who) true
                    else
                      none
                else
                  none))))
noncomputable def spec_Lock (A : PM.Prims) : spec_Lock_T := spec_Lock_f A (spec_l1In A) (spec_MemOk A) (spec_l3Cell A) (spec_l3Copy A)
noncomputable def spec_Lock_L (A : PM.Prims) (c_94 : spec_l1In_T) (c_35 : spec_MemOk_T) (c_93 : spec_l3Cell_T) (c_135 : spec_l3Copy_T) (n : Nat) : PM.Lam := fun cur σ K =>
  match cur, σ, K with
  | _, _, _ => none
noncomputable def spec_Lock_E (A : PM.Prims) (c_94 : spec_l1In_T) (c_35 : spec_MemOk_T) (c_93 : spec_l3Cell_T) (c_135 : spec_l3Copy_T) : PM.Env := ⟨[(94, ⟨[], spec_l1In_w c_94, none⟩), (35, ⟨[], spec_MemOk_w c_35, none⟩), (93, ⟨[], spec_l3Cell_w c_93, none⟩), (135, ⟨[], spec_l3Copy_w c_135, none⟩)], [], [], [(0, [1, 2, 3, 6]), (1, [1, 2, 3, 6, 8]), (2, [1, 2, 6, 8, 32]), (3, [6, 7]), (4, [6, 8]), (5, [6, 7])], spec_Lock_L A c_94 c_35 c_93 c_135 A.fuel⟩
theorem spec_Lock_ok (A : PM.Prims) (c_94 : spec_l1In_T) (c_35 : spec_MemOk_T) (c_93 : spec_l3Cell_T) (c_135 : spec_l3Copy_T) (m_Clock : Int) (m_Cells : List (List Int)) (i : Int) (who : Int) (k : PM.V → PM.R) : PM.pfun A cx [] (spec_Lock_E A c_94 c_35 c_93 c_135) Go.Proofs.Try.f136 [.agg [.int .i64 m_Clock, .arr (.vecs 49 3 m_Cells)], .int .i64 i, .int .i64 who] k = spec_Lock_f A c_94 c_35 c_93 c_135 m_Clock m_Cells i who (fun r0_Clock r0_Cells r1 => k (.tup [.agg [.int .i64 r0_Clock, .arr (.vecs 49 3 r0_Cells)], .bool r1])) := by kernel_rfl

theorem spec_Lock_fn : PM.FnIs Try.prog 136 Try.f136 := .of Try.func136 (by kernel_rfl) (by kernel_rfl)
theorem spec_Lock_g : PM.GOk Try.prog cx 136 ⟨[], spec_Lock_w (spec_Lock PM.std), none⟩ := by
  refine ⟨spec_Lock_fn.enter, fun _ ds k r h => ?_, fun hm => absurd rfl hm, fun _ e => (by cases e)⟩
  change spec_Lock_w (spec_Lock PM.std) ds k = some r at h
  unfold spec_Lock_w at h
  split at h
  · exact PM.pfun_ok (E := spec_Lock_E PM.std (spec_l1In PM.std) (spec_MemOk PM.std) (spec_l3Cell PM.std) (spec_l3Copy PM.std)) (L := fun n => spec_Lock_L PM.std (spec_l1In PM.std) (spec_MemOk PM.std) (spec_l3Cell PM.std) (spec_l3Copy PM.std) n) (N := PM.std.fuel) cx_ok (.cons spec_l1In_g (.cons spec_MemOk_g (.cons spec_l3Cell_g (.cons spec_l3Copy_g .nil)))) mixed .nil spec_Lock_fn (by kernel_rfl) ⟨rfl, fun _ _ _ => rfl, fun n cur σ K r h => by cases h⟩
      ((spec_Lock_ok PM.std (spec_l1In PM.std) (spec_MemOk PM.std) (spec_l3Cell PM.std) (spec_l3Copy PM.std) _ _ _ _ k).trans h)
  · cases h

abbrev spec_Tick_T := (Int) → (List (List Int)) → ((Int) → (List (List Int)) → (Int) → PM.R) → PM.R
noncomputable def spec_Tick_w (c : spec_Tick_T) (ds : List PM.V) (k : PM.V → PM.R) : PM.R :=
  match ds with
  | [.agg [.int .i64 m_Clock, .arr (.vecs 49 3 m_Cells)]] => c m_Clock m_Cells (fun r0_Clock r0_Cells r1 => k (.tup [.agg [.int .i64 r0_Clock, .arr (.vecs 49 3 r0_Cells)], .int .i64 r1]))
  | _ => none
noncomputable def spec_Tick_f (A : PM.Prims) (c_35 : spec_MemOk_T) (c_135 : spec_l3Copy_T) (m_Clock : Int) (m_Cells : List (List Int)) (k : (Int) → (List (List Int)) → (Int) → PM.R) : PM.R :=
  c_135 m_Clock m_Cells (fun r1 r2 =>
    c_35 m_Clock m_Cells (fun r3 =>
      bif (A.not r3) then
        k r1 r2 0
      else
        bif (A.le 1000000 m_Clock) then
          k r1 r2 0
        else
          k (A.add .i64 m_Clock 1) r2 (A.add .i64 m_Clock 1)))
noncomputable def spec_Tick (A : PM.Prims) : spec_Tick_T := spec_Tick_f A (spec_MemOk A) (spec_l3Copy A)
noncomputable def spec_Tick_L (A : PM.Prims) (c_35 : spec_MemOk_T) (c_135 : spec_l3Copy_T) (n : Nat) : PM.Lam := fun cur σ K =>
  match cur, σ, K with
  | _, _, _ => none
noncomputable def spec_Tick_E (A : PM.Prims) (c_35 : spec_MemOk_T) (c_135 : spec_l3Copy_T) : PM.Env := ⟨[(35, ⟨[], spec_MemOk_w c_35, none⟩), (135, ⟨[], spec_l3Copy_w c_135, none⟩)], [], [], [(0, [1, 2]), (1, [1, 2, 4]), (2, [1, 2, 4, 14]), (3, [2, 3]), (4, [2, 4]), (5, [2, 3])], spec_Tick_L A c_35 c_135 A.fuel⟩
theorem spec_Tick_ok (A : PM.Prims) (c_35 : spec_MemOk_T) (c_135 : spec_l3Copy_T) (m_Clock : Int) (m_Cells : List (List Int)) (k : PM.V → PM.R) : PM.pfun A cx [] (spec_Tick_E A c_35 c_135) Go.Proofs.Try.f138 [.agg [.int .i64 m_Clock, .arr (.vecs 49 3 m_Cells)]] k = spec_Tick_f A c_35 c_135 m_Clock m_Cells (fun r0_Clock r0_Cells r1 => k (.tup [.agg [.int .i64 r0_Clock, .arr (.vecs 49 3 r0_Cells)], .int .i64 r1])) := by kernel_rfl

theorem spec_Tick_fn : PM.FnIs Try.prog 138 Try.f138 := .of Try.func138 (by kernel_rfl) (by kernel_rfl)
theorem spec_Tick_g : PM.GOk Try.prog cx 138 ⟨[], spec_Tick_w (spec_Tick PM.std), none⟩ := by
  refine ⟨spec_Tick_fn.enter, fun _ ds k r h => ?_, fun hm => absurd rfl hm, fun _ e => (by cases e)⟩
  change spec_Tick_w (spec_Tick PM.std) ds k = some r at h
  unfold spec_Tick_w at h
  split at h
  · exact PM.pfun_ok (E := spec_Tick_E PM.std (spec_MemOk PM.std) (spec_l3Copy PM.std)) (L := fun n => spec_Tick_L PM.std (spec_MemOk PM.std) (spec_l3Copy PM.std) n) (N := PM.std.fuel) cx_ok (.cons spec_MemOk_g (.cons spec_l3Copy_g .nil)) mixed .nil spec_Tick_fn (by kernel_rfl) ⟨rfl, fun _ _ _ => rfl, fun n cur σ K r h => by cases h⟩
      ((spec_Tick_ok PM.std (spec_MemOk PM.std) (spec_l3Copy PM.std) _ _ k).trans h)
  · cases h

abbrev spec_l3Mine_T := (Int) → (List (List Int)) → (Int) → (Int) → ((Bool) → PM.R) → PM.R
noncomputable def spec_l3Mine_w (c : spec_l3Mine_T) (ds : List PM.V) (k : PM.V → PM.R) : PM.R :=
  match ds with
  | [.agg [.int .i64 m_Clock, .arr (.vecs 49 3 m_Cells)], .int .i64 i, .int .i64 who] => c m_Clock m_Cells i who (fun r0 => k (.bool r0))
  | _ => none
noncomputable def spec_l3Mine_f (A : PM.Prims) (c_94 : spec_l1In_T) (c_35 : spec_MemOk_T) (c_93 : spec_l3Cell_T) (m_Clock : Int) (m_Cells : List (List Int)) (i : Int) (who : Int) (k : (Bool) → PM.R) : PM.R :=
  c_35 m_Clock m_Cells (fun r1 =>
    bif r1 then
      c_93 i (fun r2 =>
        bif r2 then
          c_94 who 1 99 (fun r3 =>
            bif r3 then
              bif (A.inb i (A.vlen m_Cells)) then
                k (A.eq (A.vget m_Cells i 2) who)
              else
                none
            else
              k false)
        else
          k false)
    else
      k false)
noncomputable def spec_l3Mine (A : PM.Prims) : spec_l3Mine_T := spec_l3Mine_f A (spec_l1In A) (spec_MemOk A) (spec_l3Cell A)
noncomputable def spec_l3Mine_L (A : PM.Prims) (c_94 : spec_l1In_T) (c_35 : spec_MemOk_T) (c_93 : spec_l3Cell_T) (n : Nat) : PM.Lam := fun cur σ K =>
  match cur, σ, K with
  | _, _, _ => none
noncomputable def spec_l3Mine_E (A : PM.Prims) (c_94 : spec_l1In_T) (c_35 : spec_MemOk_T) (c_93 : spec_l3Cell_T) : PM.Env := ⟨[(94, ⟨[], spec_l1In_w c_94, none⟩), (35, ⟨[], spec_MemOk_w c_35, none⟩), (93, ⟨[], spec_l3Cell_w c_93, none⟩)], [], [], [(0, [1, 2, 3]), (1, [6])], spec_l3Mine_L A c_94 c_35 c_93 A.fuel⟩
theorem spec_l3Mine_ok (A : PM.Prims) (c_94 : spec_l1In_T) (c_35 : spec_MemOk_T) (c_93 : spec_l3Cell_T) (m_Clock : Int) (m_Cells : List (List Int)) (i : Int) (who : Int) (k : PM.V → PM.R) : PM.pfun A cx [] (spec_l3Mine_E A c_94 c_35 c_93) Go.Proofs.Try.f164 [.agg [.int .i64 m_Clock, .arr (.vecs 49 3 m_Cells)], .int .i64 i, .int .i64 who] k = spec_l3Mine_f A c_94 c_35 c_93 m_Clock m_Cells i who (fun r0 => k (.bool r0)) := by kernel_rfl

theorem spec_l3Mine_fn : PM.FnIs Try.prog 164 Try.f164 := .of Try.func164 (by kernel_rfl) (by kernel_rfl)
theorem spec_l3Mine_g : PM.GOk Try.prog cx 164 ⟨[], spec_l3Mine_w (spec_l3Mine PM.std), none⟩ := by
  refine ⟨spec_l3Mine_fn.enter, fun _ ds k r h => ?_, fun hm => absurd rfl hm, fun _ e => (by cases e)⟩
  change spec_l3Mine_w (spec_l3Mine PM.std) ds k = some r at h
  unfold spec_l3Mine_w at h
  split at h
  · exact PM.pfun_ok (E := spec_l3Mine_E PM.std (spec_l1In PM.std) (spec_MemOk PM.std) (spec_l3Cell PM.std)) (L := fun n => spec_l3Mine_L PM.std (spec_l1In PM.std) (spec_MemOk PM.std) (spec_l3Cell PM.std) n) (N := PM.std.fuel) cx_ok (.cons spec_l1In_g (.cons spec_MemOk_g (.cons spec_l3Cell_g .nil))) mixed .nil spec_l3Mine_fn (by kernel_rfl) ⟨rfl, fun _ _ _ => rfl, fun n cur σ K r h => by cases h⟩
      ((spec_l3Mine_ok PM.std (spec_l1In PM.std) (spec_MemOk PM.std) (spec_l3Cell PM.std) _ _ _ _ k).trans h)
  · cases h

abbrev spec_Store_T := (Int) → (List (List Int)) → (Int) → (Int) → (Int) → ((Int) → (List (List Int)) → (Bool) → PM.R) → PM.R
noncomputable def spec_Store_w (c : spec_Store_T) (ds : List PM.V) (k : PM.V → PM.R) : PM.R :=
  match ds with
  | [.agg [.int .i64 m_Clock, .arr (.vecs 49 3 m_Cells)], .int .i64 i, .int .i64 who, .int .i64 v] => c m_Clock m_Cells i who v (fun r0_Clock r0_Cells r1 => k (.tup [.agg [.int .i64 r0_Clock, .arr (.vecs 49 3 r0_Cells)], .bool r1]))
  | _ => none
noncomputable def spec_Store_f (A : PM.Prims) (c_95 : spec_l3Val_T) (c_135 : spec_l3Copy_T) (c_164 : spec_l3Mine_T) (m_Clock : Int) (m_Cells : List (List Int)) (i : Int) (who : Int) (v : Int) (k : (Int) → (List (List Int)) → (Bool) → PM.R) : PM.R :=
  c_135 m_Clock m_Cells (fun r1 r2 =>
    c_164 m_Clock m_Cells i who (fun r3 =>
      bif (A.not r3) then
        k r1 r2 false
      else
        c_95 v (fun r4 =>
          bif (A.not r4) then
            k r1 r2 false
          else
            bif (A.inb i (A.vlen r2)) then
              k r1 (A.vset r2 i 0 v) true
            else
              none)))
noncomputable def spec_Store (A : PM.Prims) : spec_Store_T := spec_Store_f A (spec_l3Val A) (spec_l3Copy A) (spec_l3Mine A)
noncomputable def spec_Store_L (A : PM.Prims) (c_95 : spec_l3Val_T) (c_135 : spec_l3Copy_T) (c_164 : spec_l3Mine_T) (n : Nat) : PM.Lam := fun cur σ K =>
  match cur, σ, K with
  | _, _, _ => none
noncomputable def spec_Store_E (A : PM.Prims) (c_95 : spec_l3Val_T) (c_135 : spec_l3Copy_T) (c_164 : spec_l3Mine_T) : PM.Env := ⟨[(95, ⟨[], spec_l3Val_w c_95, none⟩), (135, ⟨[], spec_l3Copy_w c_135, none⟩), (164, ⟨[], spec_l3Mine_w c_164, none⟩)], [], [], [(0, [1, 2, 3, 4, 8]), (1, [1, 2, 3, 4, 8, 10]), (2, [1, 3, 8, 10, 22]), (3, [8, 9]), (4, [8, 10]), (5, [8, 9])], spec_Store_L A c_95 c_135 c_164 A.fuel⟩
theorem spec_Store_ok (A : PM.Prims) (c_95 : spec_l3Val_T) (c_135 : spec_l3Copy_T) (c_164 : spec_l3Mine_T) (m_Clock : Int) (m_Cells : List (List Int)) (i : Int) (who : Int) (v : Int) (k : PM.V → PM.R) : PM.pfun A cx [] (spec_Store_E A c_95 c_135 c_164) Go.Proofs.Try.f139 [.agg [.int .i64 m_Clock, .arr (.vecs 49 3 m_Cells)], .int .i64 i, .int .i64 who, .int .i64 v] k = spec_Store_f A c_95 c_135 c_164 m_Clock m_Cells i who v (fun r0_Clock r0_Cells r1 => k (.tup [.agg [.int .i64 r0_Clock, .arr (.vecs 49 3 r0_Cells)], .bool r1])) := by kernel_rfl

theorem spec_Store_fn : PM.FnIs Try.prog 139 Try.f139 := .of Try.func139 (by kernel_rfl) (by kernel_rfl)
theorem spec_Store_g : PM.GOk Try.prog cx 139 ⟨[], spec_Store_w (spec_Store PM.std), none⟩ := by
  refine ⟨spec_Store_fn.enter, fun _ ds k r h => ?_, fun hm => absurd rfl hm, fun _ e => (by cases e)⟩
  change spec_Store_w (spec_Store PM.std) ds k = some r at h
  unfold spec_Store_w at h
  split at h
  · exact PM.pfun_ok (E := spec_Store_E PM.std (spec_l3Val PM.std) (spec_l3Copy PM.std) (spec_l3Mine PM.std)) (L := fun n => spec_Store_L PM.std (spec_l3Val PM.std) (spec_l3Copy PM.std) (spec_l3Mine PM.std) n) (N := PM.std.fuel) cx_ok (.cons spec_l3Val_g (.cons spec_l3Copy_g (.cons spec_l3Mine_g .nil))) mixed .nil spec_Store_fn (by kernel_rfl) ⟨rfl, fun _ _ _ => rfl, fun n cur σ K r h => by cases h⟩
      ((spec_Store_ok PM.std (spec_l3Val PM.std) (spec_l3Copy PM.std) (spec_l3Mine PM.std) _ _ _ _ _ k).trans h)
  · cases h

abbrev spec_Unlock_T := (Int) → (List (List Int)) → (Int) → (Int) → (Int) → ((Int) → (List (List Int)) → (Bool) → PM.R) → PM.R
noncomputable def spec_Unlock_w (c : spec_Unlock_T) (ds : List PM.V) (k : PM.V → PM.R) : PM.R :=
  match ds with
  | [.agg [.int .i64 m_Clock, .arr (.vecs 49 3 m_Cells)], .int .i64 i, .int .i64 who, .int .i64 ver] => c m_Clock m_Cells i who ver (fun r0_Clock r0_Cells r1 => k (.tup [.agg [.int .i64 r0_Clock, .arr (.vecs 49 3 r0_Cells)], .bool r1]))
  | _ => none
noncomputable def spec_Unlock_f (A : PM.Prims) (c_94 : spec_l1In_T) (c_135 : spec_l3Copy_T) (c_164 : spec_l3Mine_T) (m_Clock : Int) (m_Cells : List (List Int)) (i : Int) (who : Int) (ver : Int) (k : (Int) → (List (List Int)) → (Bool) → PM.R) : PM.R :=
  c_135 m_Clock m_Cells (fun r1 r2 =>
    c_164 m_Clock m_Cells i who (fun r3 =>
      bif (A.not r3) then
        k r1 r2 false
      else
        bif (A.inb i (A.vlen m_Cells)) then
          c_94 ver (A.vget m_Cells i 1) m_Clock (fun r4 =>
            bif (A.not r4) then
              k r1 r2 false
            else
              bif (A.inb i (A.vlen r2)) then
                bif (A.inb i (A.vlen (A.vset r2 i 2 0))) then
                  k r1 (A.vset (A.vset r2 i 2 0) i 1 ver) true
                else
                  none
              else
                none)
        else
          none))
noncomputable def spec_Unlock (A : PM.Prims) : spec_Unlock_T := spec_Unlock_f A (spec_l1In A) (spec_l3Copy A) (spec_l3Mine A)
noncomputable def spec_Unlock_L (A : PM.Prims) (c_94 : spec_l1In_T) (c_135 : spec_l3Copy_T) (c_164 : spec_l3Mine_T) (n : Nat) : PM.Lam := fun cur σ K =>
  match cur, σ, K with
  | _, _, _ => none
noncomputable def spec_Unlock_E (A : PM.Prims) (c_94 : spec_l1In_T) (c_135 : spec_l3Copy_T) (c_164 : spec_l3Mine_T) : PM.Env := ⟨[(94, ⟨[], spec_l1In_w c_94, none⟩), (135, ⟨[], spec_l3Copy_w c_135, none⟩), (164, ⟨[], spec_l3Mine_w c_164, none⟩)], [], [], [(0, [1, 2, 3, 4, 8]), (1, [1, 2, 3, 4, 8, 10]), (2, [1, 3, 8, 10, 30]), (3, [8, 9]), (4, [1, 3, 8, 10]), (5, [8, 10]), (6, [8, 9])], spec_Unlock_L A c_94 c_135 c_164 A.fuel⟩
theorem spec_Unlock_ok (A : PM.Prims) (c_94 : spec_l1In_T) (c_135 : spec_l3Copy_T) (c_164 : spec_l3Mine_T) (m_Clock : Int) (m_Cells : List (List Int)) (i : Int) (who : Int) (ver : Int) (k : PM.V → PM.R) : PM.pfun A cx [] (spec_Unlock_E A c_94 c_135 c_164) Go.Proofs.Try.f140 [.agg [.int .i64 m_Clock, .arr (.vecs 49 3 m_Cells)], .int .i64 i, .int .i64 who, .int .i64 ver] k = spec_Unlock_f A c_94 c_135 c_164 m_Clock m_Cells i who ver (fun r0_Clock r0_Cells r1 => k (.tup [.agg [.int .i64 r0_Clock, .arr (.vecs 49 3 r0_Cells)], .bool r1])) := by kernel_rfl

theorem spec_Unlock_fn : PM.FnIs Try.prog 140 Try.f140 := .of Try.func140 (by kernel_rfl) (by kernel_rfl)
theorem spec_Unlock_g : PM.GOk Try.prog cx 140 ⟨[], spec_Unlock_w (spec_Unlock PM.std), none⟩ := by
  refine ⟨spec_Unlock_fn.enter, fun _ ds k r h => ?_, fun hm => absurd rfl hm, fun _ e => (by cases e)⟩
  change spec_Unlock_w (spec_Unlock PM.std) ds k = some r at h
  unfold spec_Unlock_w at h
  split at h
  · exact PM.pfun_ok (E := spec_Unlock_E PM.std (spec_l1In PM.std) (spec_l3Copy PM.std) (spec_l3Mine PM.std)) (L := fun n => spec_Unlock_L PM.std (spec_l1In PM.std) (spec_l3Copy PM.std) (spec_l3Mine PM.std) n) (N := PM.std.fuel) cx_ok (.cons spec_l1In_g (.cons spec_l3Copy_g (.cons spec_l3Mine_g .nil))) mixed .nil spec_Unlock_fn (by kernel_rfl) ⟨rfl, fun _ _ _ => rfl, fun n cur σ K r h => by cases h⟩
      ((spec_Unlock_ok PM.std (spec_l1In PM.std) (spec_l3Copy PM.std) (spec_l3Mine PM.std) _ _ _ _ _ k).trans h)
  · cases h

abbrev impl_copyMem_T := (Int) → (List (List Int)) → ((Int) → (List (List Int)) → PM.R) → PM.R
noncomputable def impl_copyMem_w (c : impl_copyMem_T) (ds : List PM.V) (k : PM.V → PM.R) : PM.R :=
  match ds with
  | [.agg [.int .i64 m_Clock, .arr (.vecs 49 3 m_Cells)]] => c m_Clock m_Cells (fun r0_Clock r0_Cells => k (.agg [.int .i64 r0_Clock, .arr (.vecs 49 3 r0_Cells)]))
  | _ => none
noncomputable def impl_copyMem_f (A : PM.Prims) (m_Clock : Int) (m_Cells : List (List Int)) (k : (Int) → (List (List Int)) → PM.R) : PM.R :=
  bif (A.room (A.vlen []) (A.vlen m_Cells)) then
    k m_Clock (A.vapp [] m_Cells)
  else
    none
noncomputable def impl_copyMem (A : PM.Prims) : impl_copyMem_T := impl_copyMem_f A
noncomputable def impl_copyMem_L (A : PM.Prims) (n : Nat) : PM.Lam := fun cur σ K =>
  match cur, σ, K with
  | _, _, _ => none
noncomputable def impl_copyMem_E (A : PM.Prims) : PM.Env := ⟨[], [], [], [(0, [1, 2]), (1, [2])], impl_copyMem_L A A.fuel⟩
theorem impl_copyMem_ok (A : PM.Prims) (m_Clock : Int) (m_Cells : List (List Int)) (k : PM.V → PM.R) : PM.pfun A cx [] (impl_copyMem_E A) Go.Proofs.Try.f141 [.agg [.int .i64 m_Clock, .arr (.vecs 49 3 m_Cells)]] k = impl_copyMem_f A m_Clock m_Cells (fun r0_Clock r0_Cells => k (.agg [.int .i64 r0_Clock, .arr (.vecs 49 3 r0_Cells)])) := by kernel_rfl

theorem impl_copyMem_fn : PM.FnIs Try.prog 141 Try.f141 := .of Try.func141 (by kernel_rfl) (by kernel_rfl)
theorem impl_copyMem_g : PM.GOk Try.prog cx 141 ⟨[], impl_copyMem_w (impl_copyMem PM.std), none⟩ := by
  refine ⟨impl_copyMem_fn.enter, fun _ ds k r h => ?_, fun hm => absurd rfl hm, fun _ e => (by cases e)⟩
  change impl_copyMem_w (impl_copyMem PM.std) ds k = some r at h
  unfold impl_copyMem_w at h
  split at h
  · exact PM.pfun_ok (E := impl_copyMem_E PM.std) (L := fun n => impl_copyMem_L PM.std n) (N := PM.std.fuel) cx_ok .nil mixed .nil impl_copyMem_fn (by kernel_rfl) ⟨rfl, fun _ _ _ => rfl, fun n cur σ K r h => by cases h⟩
      ((impl_copyMem_ok PM.std _ _ k).trans h)
  · cases h

abbrev impl_Lock_T := (Int) → (List (List Int)) → (Int) → (Int) → ((Int) → (List (List Int)) → (Bool) → PM.R) → PM.R
noncomputable def impl_Lock_w (c : impl_Lock_T) (ds : List PM.V) (k : PM.V → PM.R) : PM.R :=
  match ds with
  | [.agg [.int .i64 m_Clock, .arr (.vecs 49 3 m_Cells)], .int .i64 i, .int .i64 who] => c m_Clock m_Cells i who (fun r0_Clock r0_Cells r1 => k (.tup [.agg [.int .i64 r0_Clock, .arr (.vecs 49 3 r0_Cells)], .bool r1]))
  | _ => none
noncomputable def impl_Lock_f (A : PM.Prims) (c_101 : impl_MemOk_T) (c_96 : impl_isCell_T) (c_123 : impl_isOwner_T) (c_141 : impl_copyMem_T) (m_Clock : Int) (m_Cells : List (List Int)) (i : Int) (who : Int) (k : (Int) → (List (List Int)) → (Bool) → PM.R) : PM.R :=
  c_141 m_Clock m_Cells (fun r1 r2 =>
    c_101 m_Clock m_Cells (fun r3 =>
      bif (A.not r3) then
        k r1 r2 false
      else
        c_96 i (fun r4 =>
          bif (A.not r4) then
            k r1 r2 false
          else
            c_123 who (fun r5 =>
              bif (A.not r5) then
                k r1 r2 false
              else
                bif (A.inb i (A.vlen m_Cells)) then
                  bif (A.not (A.eq (A.vget m_Cells i 2) 0)) then
                    k r1 r2 false
                  else
                    bif (A.inb i (A.vlen r2)) then
                      k r1 (A.vset r2 i 2 who) true
                    else
                      none
                else
                  none))))
noncomputable def impl_Lock (A : PM.Prims) : impl_Lock_T := impl_Lock_f A (impl_MemOk A) (impl_isCell A) (impl_isOwner A) (impl_copyMem A)
noncomputable def impl_Lock_L (A : PM.Prims) (c_101 : impl_MemOk_T) (c_96 : impl_isCell_T) (c_123 : impl_isOwner_T) (c_141 : impl_copyMem_T) (n : Nat) : PM.Lam := fun cur σ K =>
  match cur, σ, K with
  | _, _, _ => none
noncomputable def impl_Lock_E (A : PM.Prims) (c_101 : impl_MemOk_T) (c_96 : impl_isCell_T) (c_123 : impl_isOwner_T) (c_141 : impl_copyMem_T) : PM.Env := ⟨[(101, ⟨[], impl_MemOk_w c_101, none⟩), (96, ⟨[], impl_isCell_w c_96, none⟩), (123, ⟨[], impl_isOwner_w c_123, none⟩), (141, ⟨[], impl_copyMem_w c_141, none⟩)], [], [], [(0, [1, 2, 3, 6]), (1, [1, 2, 3, 6, 8]), (2, [1, 2, 6, 8, 32]), (3, [6, 7]), (4, [6, 8]), (5, [6, 7])], impl_Lock_L A c_101 c_96 c_123 c_141 A.fuel⟩
theorem impl_Lock_ok (A : PM.Prims) (c_101 : impl_MemOk_T) (c_96 : impl_isCell_T) (c_123 : impl_isOwner_T) (c_141 : impl_copyMem_T) (m_Clock : Int) (m_Cells : List (List Int)) (i : Int) (who : Int) (k : PM.V → PM.R) : PM.pfun A cx [] (impl_Lock_E A c_101 c_96 c_123 c_141) Go.Proofs.Try.f142 [.agg [.int .i64 m_Clock, .arr (.vecs 49 3 m_Cells)], .int .i64 i, .int .i64 who] k = impl_Lock_f A c_101 c_96 c_123 c_141 m_Clock m_Cells i who (fun r0_Clock r0_Cells r1 => k (.tup [.agg [.int .i64 r0_Clock, .arr (.vecs 49 3 r0_Cells)], .bool r1])) := by kernel_rfl

theorem impl_Lock_fn : PM.FnIs Try.prog 142 Try.f142 := .of Try.func142 (by kernel_rfl) (by kernel_rfl)
theorem impl_Lock_g : PM.GOk Try.prog cx 142 ⟨[], impl_Lock_w (impl_Lock PM.std), none⟩ := by
  refine ⟨impl_Lock_fn.enter, fun _ ds k r h => ?_, fun hm => absurd rfl hm, fun _ e => (by cases e)⟩
  change impl_Lock_w (impl_Lock PM.std) ds k = some r at h
  unfold impl_Lock_w at h
  split at h
  · exact PM.pfun_ok (E := impl_Lock_E PM.std (impl_MemOk PM.std) (impl_isCell PM.std) (impl_isOwner PM.std) (impl_copyMem PM.std)) (L := fun n => impl_Lock_L PM.std (impl_MemOk PM.std) (impl_isCell PM.std) (impl_isOwner PM.std) (impl_copyMem PM.std) n) (N := PM.std.fuel) cx_ok (.cons impl_MemOk_g (.cons impl_isCell_g (.cons impl_isOwner_g (.cons impl_copyMem_g .nil)))) mixed .nil impl_Lock_fn (by kernel_rfl) ⟨rfl, fun _ _ _ => rfl, fun n cur σ K r h => by cases h⟩
      ((impl_Lock_ok PM.std (impl_MemOk PM.std) (impl_isCell PM.std) (impl_isOwner PM.std) (impl_copyMem PM.std) _ _ _ _ k).trans h)
  · cases h

abbrev impl_Tick_T := (Int) → (List (List Int)) → ((Int) → (List (List Int)) → (Int) → PM.R) → PM.R
noncomputable def impl_Tick_w (c : impl_Tick_T) (ds : List PM.V) (k : PM.V → PM.R) : PM.R :=
  match ds with
  | [.agg [.int .i64 m_Clock, .arr (.vecs 49 3 m_Cells)]] => c m_Clock m_Cells (fun r0_Clock r0_Cells r1 => k (.tup [.agg [.int .i64 r0_Clock, .arr (.vecs 49 3 r0_Cells)], .int .i64 r1]))
  | _ => none
noncomputable def impl_Tick_f (A : PM.Prims) (c_101 : impl_MemOk_T) (c_141 : impl_copyMem_T) (m_Clock : Int) (m_Cells : List (List Int)) (k : (Int) → (List (List Int)) → (Int) → PM.R) : PM.R :=
  c_141 m_Clock m_Cells (fun r1 r2 =>
    c_101 m_Clock m_Cells (fun r3 =>
      bif (A.not r3) then
        k r1 r2 0
      else
        bif (A.eq m_Clock 1000000) then
          k r1 r2 0
        else
          k (A.add .i64 r1 1) r2 (A.add .i64 r1 1)))
noncomputable def impl_Tick (A : PM.Prims) : impl_Tick_T := impl_Tick_f A (impl_MemOk A) (impl_copyMem A)
noncomputable def impl_Tick_L (A : PM.Prims) (c_101 : impl_MemOk_T) (c_141 : impl_copyMem_T) (n : Nat) : PM.Lam := fun cur σ K =>
  match cur, σ, K with
  | _, _, _ => none
noncomputable def impl_Tick_E (A : PM.Prims) (c_101 : impl_MemOk_T) (c_141 : impl_copyMem_T) : PM.Env := ⟨[(101, ⟨[], impl_MemOk_w c_101, none⟩), (141, ⟨[], impl_copyMem_w c_141, none⟩)], [], [], [(0, [1, 2]), (1, [1, 2, 4]), (2, [2, 4, 14]), (3, [2, 3]), (4, [2, 4]), (5, [2, 3])], impl_Tick_L A c_101 c_141 A.fuel⟩
theorem impl_Tick_ok (A : PM.Prims) (c_101 : impl_MemOk_T) (c_141 : impl_copyMem_T) (m_Clock : Int) (m_Cells : List (List Int)) (k : PM.V → PM.R) : PM.pfun A cx [] (impl_Tick_E A c_101 c_141) Go.Proofs.Try.f144 [.agg [.int .i64 m_Clock, .arr (.vecs 49 3 m_Cells)]] k = impl_Tick_f A c_101 c_141 m_Clock m_Cells (fun r0_Clock r0_Cells r1 => k (.tup [.agg [.int .i64 r0_Clock, .arr (.vecs 49 3 r0_Cells)], .int .i64 r1])) := by kernel_rfl

theorem impl_Tick_fn : PM.FnIs Try.prog 144 Try.f144 := .of Try.func144 (by kernel_rfl) (by kernel_rfl)
theorem impl_Tick_g : PM.GOk Try.prog cx 144 ⟨[], impl_Tick_w (impl_Tick PM.std), none⟩ := by
  refine ⟨impl_Tick_fn.enter, fun _ ds k r h => ?_, fun hm => absurd rfl hm, fun _ e => (by cases e)⟩
  change impl_Tick_w (impl_Tick PM.std) ds k = some r at h
  unfold impl_Tick_w at h
  split at h
  · exact PM.pfun_ok (E := impl_Tick_E PM.std (impl_MemOk PM.std) (impl_copyMem PM.std)) (L := fun n => impl_Tick_L PM.std (impl_MemOk PM.std) (impl_copyMem PM.std) n) (N := PM.std.fuel) cx_ok (.cons impl_MemOk_g (.cons impl_copyMem_g .nil)) mixed .nil impl_Tick_fn (by kernel_rfl) ⟨rfl, fun _ _ _ => rfl, fun n cur σ K r h => by cases h⟩
      ((impl_Tick_ok PM.std (impl_MemOk PM.std) (impl_copyMem PM.std) _ _ k).trans h)
  · cases h

abbrev impl_Store_T := (Int) → (List (List Int)) → (Int) → (Int) → (Int) → ((Int) → (List (List Int)) → (Bool) → PM.R) → PM.R
noncomputable def impl_Store_w (c : impl_Store_T) (ds : List PM.V) (k : PM.V → PM.R) : PM.R :=
  match ds with
  | [.agg [.int .i64 m_Clock, .arr (.vecs 49 3 m_Cells)], .int .i64 i, .int .i64 who, .int .i64 v] => c m_Clock m_Cells i who v (fun r0_Clock r0_Cells r1 => k (.tup [.agg [.int .i64 r0_Clock, .arr (.vecs 49 3 r0_Cells)], .bool r1]))
  | _ => none
noncomputable def impl_Store_f (A : PM.Prims) (c_98 : impl_isValue_T) (c_101 : impl_MemOk_T) (c_96 : impl_isCell_T) (c_123 : impl_isOwner_T) (c_141 : impl_copyMem_T) (m_Clock : Int) (m_Cells : List (List Int)) (i : Int) (who : Int) (v : Int) (k : (Int) → (List (List Int)) → (Bool) → PM.R) : PM.R :=
  c_141 m_Clock m_Cells (fun r1 r2 =>
    c_101 m_Clock m_Cells (fun r3 =>
      bif (A.not r3) then
        k r1 r2 false
      else
        c_96 i (fun r4 =>
          bif (A.not r4) then
            k r1 r2 false
          else
            c_123 who (fun r5 =>
              bif (A.not r5) then
                k r1 r2 false
              else
                bif (A.inb i (A.vlen m_Cells)) then
                  bif (A.not (A.eq (A.vget m_Cells i 2) who)) then
                    k r1 r2 false
                  else
                    c_98 v (fun r6 =>
                      bif (A.not r6) then
                        k r1 r2 false
                      else
                        bif (A.inb i (A.vlen r2)) then
                          k r1 (A.vset r2 i 0 v) true
                        else
                          none)
                else
                  none))))
noncomputable def impl_Store (A : PM.Prims) : impl_Store_T := impl_Store_f A (impl_isValue A) (impl_MemOk A) (impl_isCell A) (impl_isOwner A) (impl_copyMem A)
noncomputable def impl_Store_L (A : PM.Prims) (c_98 : impl_isValue_T) (c_101 : impl_MemOk_T) (c_96 : impl_isCell_T) (c_123 : impl_isOwner_T) (c_141 : impl_copyMem_T) (n : Nat) : PM.Lam := fun cur σ K =>
  match cur, σ, K with
  | _, _, _ => none
noncomputable def impl_Store_E (A : PM.Prims) (c_98 : impl_isValue_T) (c_101 : impl_MemOk_T) (c_96 : impl_isCell_T) (c_123 : impl_isOwner_T) (c_141 : impl_copyMem_T) : PM.Env := ⟨[(98, ⟨[], impl_isValue_w c_98, none⟩), (101, ⟨[], impl_MemOk_w c_101, none⟩), (96, ⟨[], impl_isCell_w c_96, none⟩), (123, ⟨[], impl_isOwner_w c_123, none⟩), (141, ⟨[], impl_copyMem_w c_141, none⟩)], [], [], [(0, [1, 2, 3, 4, 8]), (1, [1, 2, 3, 4, 8, 10]), (2, [1, 3, 8, 10, 40]), (3, [8, 9]), (4, [8, 10]), (5, [8, 9])], impl_Store_L A c_98 c_101 c_96 c_123 c_141 A.fuel⟩
theorem impl_Store_ok (A : PM.Prims) (c_98 : impl_isValue_T) (c_101 : impl_MemOk_T) (c_96 : impl_isCell_T) (c_123 : impl_isOwner_T) (c_141 : impl_copyMem_T) (m_Clock : Int) (m_Cells : List (List Int)) (i : Int) (who : Int) (v : Int) (k : PM.V → PM.R) : PM.pfun A cx [] (impl_Store_E A c_98 c_101 c_96 c_123 c_141) Go.Proofs.Try.f146 [.agg [.int .i64 m_Clock, .arr (.vecs 49 3 m_Cells)], .int .i64 i, .int .i64 who, .int .i64 v] k = impl_Store_f A c_98 c_101 c_96 c_123 c_141 m_Clock m_Cells i who v (fun r0_Clock r0_Cells r1 => k (.tup [.agg [.int .i64 r0_Clock, .arr (.vecs 49 3 r0_Cells)], .bool r1])) := by kernel_rfl

theorem impl_Store_fn : PM.FnIs Try.prog 146 Try.f146 := .of Try.func146 (by kernel_rfl) (by kernel_rfl)
theorem impl_Store_g : PM.GOk Try.prog cx 146 ⟨[], impl_Store_w (impl_Store PM.std), none⟩ := by
  refine ⟨impl_Store_fn.enter, fun _ ds k r h => ?_, fun hm => absurd rfl hm, fun _ e => (by cases e)⟩
  change impl_Store_w (impl_Store PM.std) ds k = some r at h
  unfold impl_Store_w at h
  split at h
  · exact PM.pfun_ok (E := impl_Store_E PM.std (impl_isValue PM.std) (impl_MemOk PM.std) (impl_isCell PM.std) (impl_isOwner PM.std) (impl_copyMem PM.std)) (L := fun n => impl_Store_L PM.std (impl_isValue PM.std) (impl_MemOk PM.std) (impl_isCell PM.std) (impl_isOwner PM.std) (impl_copyMem PM.std) n) (N := PM.std.fuel) cx_ok (.cons impl_isValue_g (.cons impl_MemOk_g (.cons impl_isCell_g (.cons impl_isOwner_g (.cons impl_copyMem_g .nil))))) mixed .nil impl_Store_fn (by kernel_rfl) ⟨rfl, fun _ _ _ => rfl, fun n cur σ K r h => by cases h⟩
      ((impl_Store_ok PM.std (impl_isValue PM.std) (impl_MemOk PM.std) (impl_isCell PM.std) (impl_isOwner PM.std) (impl_copyMem PM.std) _ _ _ _ _ k).trans h)
  · cases h

abbrev impl_Unlock_T := (Int) → (List (List Int)) → (Int) → (Int) → (Int) → ((Int) → (List (List Int)) → (Bool) → PM.R) → PM.R
noncomputable def impl_Unlock_w (c : impl_Unlock_T) (ds : List PM.V) (k : PM.V → PM.R) : PM.R :=
  match ds with
  | [.agg [.int .i64 m_Clock, .arr (.vecs 49 3 m_Cells)], .int .i64 i, .int .i64 who, .int .i64 ver] => c m_Clock m_Cells i who ver (fun r0_Clock r0_Cells r1 => k (.tup [.agg [.int .i64 r0_Clock, .arr (.vecs 49 3 r0_Cells)], .bool r1]))
  | _ => none
noncomputable def impl_Unlock_f (A : PM.Prims) (c_97 : impl_within_T) (c_101 : impl_MemOk_T) (c_96 : impl_isCell_T) (c_123 : impl_isOwner_T) (c_141 : impl_copyMem_T) (m_Clock : Int) (m_Cells : List (List Int)) (i : Int) (who : Int) (ver : Int) (k : (Int) → (List (List Int)) → (Bool) → PM.R) : PM.R :=
  c_141 m_Clock m_Cells (fun r1 r2 =>
    c_101 m_Clock m_Cells (fun r3 =>
      bif (A.not r3) then
        k r1 r2 false
      else
        c_96 i (fun r4 =>
          bif (A.not r4) then
            k r1 r2 false
          else
            c_123 who (fun r5 =>
              bif (A.not r5) then
                k r1 r2 false
              else
                bif (A.inb i (A.vlen m_Cells)) then
                  bif (A.not (A.eq (A.vget m_Cells i 2) who)) then
                    k r1 r2 false
                  else
                    bif (A.inb i (A.vlen m_Cells)) then
                      c_97 ver (A.vget m_Cells i 1) m_Clock (fun r6 =>
                        bif (A.not r6) then
                          k r1 r2 false
                        else
                          bif (A.inb i (A.vlen r2)) then
                            bif (A.inb i (A.vlen (A.vset r2 i 2 0))) then
                              k r1 (A.vset (A.vset r2 i 2 0) i 1 ver) true
                            else
                              none
                          else
                            none)
                    else
                      none
                else
                  none))))
noncomputable def impl_Unlock (A : PM.Prims) : impl_Unlock_T := impl_Unlock_f A (impl_within A) (impl_MemOk A) (impl_isCell A) (impl_isOwner A) (impl_copyMem A)
noncomputable def impl_Unlock_L (A : PM.Prims) (c_97 : impl_within_T) (c_101 : impl_MemOk_T) (c_96 : impl_isCell_T) (c_123 : impl_isOwner_T) (c_141 : impl_copyMem_T) (n : Nat) : PM.Lam := fun cur σ K =>
  match cur, σ, K with
  | _, _, _ => none
noncomputable def impl_Unlock_E (A : PM.Prims) (c_97 : impl_within_T) (c_101 : impl_MemOk_T) (c_96 : impl_isCell_T) (c_123 : impl_isOwner_T) (c_141 : impl_copyMem_T) : PM.Env := ⟨[(97, ⟨[], impl_within_w c_97, none⟩), (101, ⟨[], impl_MemOk_w c_101, none⟩), (96, ⟨[], impl_isCell_w c_96, none⟩), (123, ⟨[], impl_isOwner_w c_123, none⟩), (141, ⟨[], impl_copyMem_w c_141, none⟩)], [], [], [(0, [1, 2, 3, 4, 8]), (1, [1, 2, 3, 4, 8, 10]), (2, [1, 3, 8, 10, 48]), (3, [8, 9]), (4, [1, 3, 8, 10]), (5, [8, 10]), (6, [8, 9])], impl_Unlock_L A c_97 c_101 c_96 c_123 c_141 A.fuel⟩
theorem impl_Unlock_ok (A : PM.Prims) (c_97 : impl_within_T) (c_101 : impl_MemOk_T) (c_96 : impl_isCell_T) (c_123 : impl_isOwner_T) (c_141 : impl_copyMem_T) (m_Clock : Int) (m_Cells : List (List Int)) (i : Int) (who : Int) (ver : Int) (k : PM.V → PM.R) : PM.pfun A cx [] (impl_Unlock_E A c_97 c_101 c_96 c_123 c_141) Go.Proofs.Try.f147 [.agg [.int .i64 m_Clock, .arr (.vecs 49 3 m_Cells)], .int .i64 i, .int .i64 who, .int .i64 ver] k = impl_Unlock_f A c_97 c_101 c_96 c_123 c_141 m_Clock m_Cells i who ver (fun r0_Clock r0_Cells r1 => k (.tup [.agg [.int .i64 r0_Clock, .arr (.vecs 49 3 r0_Cells)], .bool r1])) := by kernel_rfl

theorem impl_Unlock_fn : PM.FnIs Try.prog 147 Try.f147 := .of Try.func147 (by kernel_rfl) (by kernel_rfl)
theorem impl_Unlock_g : PM.GOk Try.prog cx 147 ⟨[], impl_Unlock_w (impl_Unlock PM.std), none⟩ := by
  refine ⟨impl_Unlock_fn.enter, fun _ ds k r h => ?_, fun hm => absurd rfl hm, fun _ e => (by cases e)⟩
  change impl_Unlock_w (impl_Unlock PM.std) ds k = some r at h
  unfold impl_Unlock_w at h
  split at h
  · exact PM.pfun_ok (E := impl_Unlock_E PM.std (impl_within PM.std) (impl_MemOk PM.std) (impl_isCell PM.std) (impl_isOwner PM.std) (impl_copyMem PM.std)) (L := fun n => impl_Unlock_L PM.std (impl_within PM.std) (impl_MemOk PM.std) (impl_isCell PM.std) (impl_isOwner PM.std) (impl_copyMem PM.std) n) (N := PM.std.fuel) cx_ok (.cons impl_within_g (.cons impl_MemOk_g (.cons impl_isCell_g (.cons impl_isOwner_g (.cons impl_copyMem_g .nil))))) mixed .nil impl_Unlock_fn (by kernel_rfl) ⟨rfl, fun _ _ _ => rfl, fun n cur σ K r h => by cases h⟩
      ((impl_Unlock_ok PM.std (impl_within PM.std) (impl_MemOk PM.std) (impl_isCell PM.std) (impl_isOwner PM.std) (impl_copyMem PM.std) _ _ _ _ _ k).trans h)
  · cases h

abbrev impl_CommitStep_T := (Int) → (List (List Int)) → (Int) → (Int) → (Int) → (Int) → (Int) → (List (List Int)) → (List Int) → ((Int) → (List (List Int)) → (Int) → (Int) → (Int) → (Int) → (Int) → (List (List Int)) → (List Int) → PM.R) → PM.R
noncomputable def impl_CommitStep_w (c : impl_CommitStep_T) (ds : List PM.V) (k : PM.V → PM.R) : PM.R :=
  match ds with
  | [.agg [.int .i64 ___Clock, .arr (.vecs 49 3 ___Cells)], .agg [.int .i64 a_Who, .int .i64 a_Rv, .int .i64 a_Phase, .int .i64 a_At, .int .i64 a_Wv, .arr (.vecs 135 2 a_Puts), .arr (.ints 3 .i64 a_Reads)]] => c ___Clock ___Cells a_Who a_Rv a_Phase a_At a_Wv a_Puts a_Reads (fun r0_Clock r0_Cells r1_Who r1_Rv r1_Phase r1_At r1_Wv r1_Puts r1_Reads => k (.tup [.agg [.int .i64 r0_Clock, .arr (.vecs 49 3 r0_Cells)], .agg [.int .i64 r1_Who, .int .i64 r1_Rv, .int .i64 r1_Phase, .int .i64 r1_At, .int .i64 r1_Wv, .arr (.vecs 135 2 r1_Puts), .arr (.ints 3 .i64 r1_Reads)]]))
  | _ => none
noncomputable def impl_CommitStep_f (A : PM.Prims) (c_101 : impl_MemOk_T) (c_125 : impl_Commit_steps_T) (c_62 : impl_CommitOk_T) (c_133 : impl_copyCommit_T) (c_141 : impl_copyMem_T) (c_142 : impl_Lock_T) (c_144 : impl_Tick_T) (c_146 : impl_Store_T) (c_147 : impl_Unlock_T) (___Clock : Int) (___Cells : List (List Int)) (a_Who : Int) (a_Rv : Int) (a_Phase : Int) (a_At : Int) (a_Wv : Int) (a_Puts : List (List Int)) (a_Reads : List Int) (k : (Int) → (List (List Int)) → (Int) → (Int) → (Int) → (Int) → (Int) → (List (List Int)) → (List Int) → PM.R) : PM.R :=
  c_141 ___Clock ___Cells (fun r1 r2 =>
    c_133 a_Who a_Rv a_Phase a_At a_Wv a_Puts a_Reads (fun r3 r4 r5 r6 r7 r8 r9 =>
      c_101 r1 r2 (fun r10 =>
        bif (A.not r10) then
          k r1 r2 r3 r4 r5 r6 r7 r8 r9
        else
          c_62 r3 r4 r5 r6 r7 r8 r9 (fun r11 =>
            bif (A.not r11) then
              k r1 r2 r3 r4 r5 r6 r7 r8 r9
            else
              bif (A.eq r5 1) then
                bif (A.inb r6 (A.vlen r8)) then
                  c_142 r1 r2 (A.vget r8 r6 0) r3 (fun r12 r13 r14 =>
                    bif r14 then
                      c_125 r3 r4 r5 (A.add .i64 r6 1) r7 r8 r9 (fun r15 =>
                        bif (A.eq (A.add .i64 r6 1) r15) then
                          bif (A.eq 2 3) then
                            bif (A.eq (A.ilen r9) 0) then
                              bif (A.eq 4 4) then
                                bif (A.eq (A.vlen r8) 0) then
                                  k r12 r13 r3 r4 6 0 r7 r8 r9
                                else
                                  k r12 r13 r3 r4 4 0 r7 r8 r9
                              else
                                k r12 r13 r3 r4 4 0 r7 r8 r9
                            else
                              bif (A.eq 2 4) then
                                bif (A.eq (A.vlen r8) 0) then
                                  k r12 r13 r3 r4 6 0 r7 r8 r9
                                else
                                  k r12 r13 r3 r4 2 0 r7 r8 r9
                              else
                                k r12 r13 r3 r4 2 0 r7 r8 r9
                          else
                            bif (A.eq 2 4) then
                              bif (A.eq (A.vlen r8) 0) then
                                k r12 r13 r3 r4 6 0 r7 r8 r9
                              else
                                k r12 r13 r3 r4 2 0 r7 r8 r9
                            else
                              k r12 r13 r3 r4 2 0 r7 r8 r9
                        else
                          k r12 r13 r3 r4 r5 (A.add .i64 r6 1) r7 r8 r9)
                    else
                      bif (A.eq r6 0) then
                        k r12 r13 r3 r4 8 0 r7 r8 r9
                      else
                        k r12 r13 r3 r4 7 (A.sub .i64 r6 1) r7 r8 r9)
                else
                  none
              else
                bif (A.eq r5 2) then
                  c_144 r1 r2 (fun r16 r17 r18 =>
                    bif (A.eq r18 0) then
                      bif (A.eq (A.vlen r8) 0) then
                        k r16 r17 r3 r4 8 0 r7 r8 r9
                      else
                        k r16 r17 r3 r4 7 (A.sub .i64 (A.vlen r8) 1) r7 r8 r9
                    else
                      bif (A.eq 3 3) then
                        bif (A.eq (A.ilen r9) 0) then
                          bif (A.eq 4 4) then
                            bif (A.eq (A.vlen r8) 0) then
                              k r16 r17 r3 r4 6 0 r18 r8 r9
                            else
                              k r16 r17 r3 r4 4 0 r18 r8 r9
                          else
                            k r16 r17 r3 r4 4 0 r18 r8 r9
                        else
                          bif (A.eq 3 4) then
                            bif (A.eq (A.vlen r8) 0) then
                              k r16 r17 r3 r4 6 0 r18 r8 r9
                            else
                              k r16 r17 r3 r4 3 0 r18 r8 r9
                          else
                            k r16 r17 r3 r4 3 0 r18 r8 r9
                      else
                        bif (A.eq 3 4) then
                          bif (A.eq (A.vlen r8) 0) then
                            k r16 r17 r3 r4 6 0 r18 r8 r9
                          else
                            k r16 r17 r3 r4 3 0 r18 r8 r9
                        else
                          k r16 r17 r3 r4 3 0 r18 r8 r9)
                else
                  bif (A.eq r5 3) then
                    bif (A.inb r6 (A.ilen r9)) then
                      bif (A.inb (A.iget r9 r6) (A.vlen r2)) then
                        bif (A.not (A.eq (A.vget r2 (A.iget r9 r6) 2) 0)) then
                          bif (A.not (A.eq (A.vget r2 (A.iget r9 r6) 2) r3)) then
                            bif (A.eq (A.vlen r8) 0) then
                              k r1 r2 r3 r4 8 0 r7 r8 r9
                            else
                              k r1 r2 r3 r4 7 (A.sub .i64 (A.vlen r8) 1) r7 r8 r9
                          else
                            bif (A.lt r4 (A.vget r2 (A.iget r9 r6) 1)) then
                              bif (A.eq (A.vlen r8) 0) then
                                k r1 r2 r3 r4 8 0 r7 r8 r9
                              else
                                k r1 r2 r3 r4 7 (A.sub .i64 (A.vlen r8) 1) r7 r8 r9
                            else
                              c_125 r3 r4 r5 (A.add .i64 r6 1) r7 r8 r9 (fun r19 =>
                                bif (A.eq (A.add .i64 r6 1) r19) then
                                  bif (A.eq 4 3) then
                                    bif (A.eq (A.ilen r9) 0) then
                                      bif (A.eq 4 4) then
                                        bif (A.eq (A.vlen r8) 0) then
                                          k r1 r2 r3 r4 6 0 r7 r8 r9
                                        else
                                          k r1 r2 r3 r4 4 0 r7 r8 r9
                                      else
                                        k r1 r2 r3 r4 4 0 r7 r8 r9
                                    else
                                      bif (A.eq 4 4) then
                                        bif (A.eq (A.vlen r8) 0) then
                                          k r1 r2 r3 r4 6 0 r7 r8 r9
                                        else
                                          k r1 r2 r3 r4 4 0 r7 r8 r9
                                      else
                                        k r1 r2 r3 r4 4 0 r7 r8 r9
                                  else
                                    bif (A.eq 4 4) then
                                      bif (A.eq (A.vlen r8) 0) then
                                        k r1 r2 r3 r4 6 0 r7 r8 r9
                                      else
                                        k r1 r2 r3 r4 4 0 r7 r8 r9
                                    else
                                      k r1 r2 r3 r4 4 0 r7 r8 r9
                                else
                                  k r1 r2 r3 r4 r5 (A.add .i64 r6 1) r7 r8 r9)
                        else
                          bif (A.lt r4 (A.vget r2 (A.iget r9 r6) 1)) then
                            bif (A.eq (A.vlen r8) 0) then
                              k r1 r2 r3 r4 8 0 r7 r8 r9
                            else
                              k r1 r2 r3 r4 7 (A.sub .i64 (A.vlen r8) 1) r7 r8 r9
                          else
                            c_125 r3 r4 r5 (A.add .i64 r6 1) r7 r8 r9 (fun r20 =>
                              bif (A.eq (A.add .i64 r6 1) r20) then
                                bif (A.eq 4 3) then
                                  bif (A.eq (A.ilen r9) 0) then
                                    bif (A.eq 4 4) then
                                      bif (A.eq (A.vlen r8) 0) then
                                        k r1 r2 r3 r4 6 0 r7 r8 r9
                                      else
                                        k r1 r2 r3 r4 4 0 r7 r8 r9
                                    else
                                      k r1 r2 r3 r4 4 0 r7 r8 r9
                                  else
                                    bif (A.eq 4 4) then
                                      bif (A.eq (A.vlen r8) 0) then
                                        k r1 r2 r3 r4 6 0 r7 r8 r9
                                      else
                                        k r1 r2 r3 r4 4 0 r7 r8 r9
                                    else
                                      k r1 r2 r3 r4 4 0 r7 r8 r9
                                else
                                  bif (A.eq 4 4) then
                                    bif (A.eq (A.vlen r8) 0) then
                                      k r1 r2 r3 r4 6 0 r7 r8 r9
                                    else
                                      k r1 r2 r3 r4 4 0 r7 r8 r9
                                  else
                                    k r1 r2 r3 r4 4 0 r7 r8 r9
                              else
                                k r1 r2 r3 r4 r5 (A.add .i64 r6 1) r7 r8 r9)
                      else
                        none
                    else
                      none
                  else
                    bif (A.eq r5 4) then
                      bif (A.inb r6 (A.vlen r8)) then
                        bif (A.inb r6 (A.vlen r8)) then
                          c_146 r1 r2 (A.vget r8 r6 0) r3 (A.vget r8 r6 1) (fun r21 r22 r23 =>
                            c_125 r3 r4 r5 (A.add .i64 r6 1) r7 r8 r9 (fun r24 =>
                              bif (A.eq (A.add .i64 r6 1) r24) then
                                bif (A.eq 5 3) then
                                  bif (A.eq (A.ilen r9) 0) then
                                    bif (A.eq 4 4) then
                                      bif (A.eq (A.vlen r8) 0) then
                                        k r21 r22 r3 r4 6 0 r7 r8 r9
                                      else
                                        k r21 r22 r3 r4 4 0 r7 r8 r9
                                    else
                                      k r21 r22 r3 r4 4 0 r7 r8 r9
                                  else
                                    bif (A.eq 5 4) then
                                      bif (A.eq (A.vlen r8) 0) then
                                        k r21 r22 r3 r4 6 0 r7 r8 r9
                                      else
                                        k r21 r22 r3 r4 5 0 r7 r8 r9
                                    else
                                      k r21 r22 r3 r4 5 0 r7 r8 r9
                                else
                                  bif (A.eq 5 4) then
                                    bif (A.eq (A.vlen r8) 0) then
                                      k r21 r22 r3 r4 6 0 r7 r8 r9
                                    else
                                      k r21 r22 r3 r4 5 0 r7 r8 r9
                                  else
                                    k r21 r22 r3 r4 5 0 r7 r8 r9
                              else
                                k r21 r22 r3 r4 r5 (A.add .i64 r6 1) r7 r8 r9))
                        else
                          none
                      else
                        none
                    else
                      bif (A.eq r5 5) then
                        bif (A.inb r6 (A.vlen r8)) then
                          c_147 r1 r2 (A.vget r8 r6 0) r3 r7 (fun r25 r26 r27 =>
                            c_125 r3 r4 r5 (A.add .i64 r6 1) r7 r8 r9 (fun r28 =>
                              bif (A.eq (A.add .i64 r6 1) r28) then
                                bif (A.eq 6 3) then
                                  bif (A.eq (A.ilen r9) 0) then
                                    bif (A.eq 4 4) then
                                      bif (A.eq (A.vlen r8) 0) then
                                        k r25 r26 r3 r4 6 0 r7 r8 r9
                                      else
                                        k r25 r26 r3 r4 4 0 r7 r8 r9
                                    else
                                      k r25 r26 r3 r4 4 0 r7 r8 r9
                                  else
                                    bif (A.eq 6 4) then
                                      bif (A.eq (A.vlen r8) 0) then
                                        k r25 r26 r3 r4 6 0 r7 r8 r9
                                      else
                                        k r25 r26 r3 r4 6 0 r7 r8 r9
                                    else
                                      k r25 r26 r3 r4 6 0 r7 r8 r9
                                else
                                  bif (A.eq 6 4) then
                                    bif (A.eq (A.vlen r8) 0) then
                                      k r25 r26 r3 r4 6 0 r7 r8 r9
                                    else
                                      k r25 r26 r3 r4 6 0 r7 r8 r9
                                  else
                                    k r25 r26 r3 r4 6 0 r7 r8 r9
                              else
                                k r25 r26 r3 r4 r5 (A.add .i64 r6 1) r7 r8 r9))
                        else
                          none
                      else
                        bif (A.eq r5 7) then
                          bif (A.inb r6 (A.vlen r8)) then
                            bif (A.inb (A.vget r8 r6 0) (A.vlen r2)) then
                              c_147 r1 r2 (A.vget r8 r6 0) r3 (A.vget r2 (A.vget r8 r6 0) 1) (fun r29 r30 r31 =>
                                bif (A.eq r6 0) then
                                  k r29 r30 r3 r4 8 0 r7 r8 r9
                                else
                                  k r29 r30 r3 r4 7 (A.sub .i64 r6 1) r7 r8 r9)
                            else
                              none
                          else
                            none
                        else
                          k r1 r2 r3 r4 r5 r6 r7 r8 r9))))
noncomputable def impl_CommitStep (A : PM.Prims) : impl_CommitStep_T := impl_CommitStep_f A (impl_MemOk A) (impl_Commit_steps A) (impl_CommitOk A) (impl_copyCommit A) (impl_copyMem A) (impl_Lock A) (impl_Tick A) (impl_Store A) (impl_Unlock A)
noncomputable def impl_CommitStep_L (A : PM.Prims) (c_101 : impl_MemOk_T) (c_125 : impl_Commit_steps_T) (c_62 : impl_CommitOk_T) (c_133 : impl_copyCommit_T) (c_141 : impl_copyMem_T) (c_142 : impl_Lock_T) (c_144 : impl_Tick_T) (c_146 : impl_Store_T) (c_147 : impl_Unlock_T) (n : Nat) : PM.Lam := fun cur σ K =>
  match cur, σ, K with
  | _, _, _ => none
noncomputable def impl_CommitStep_E (A : PM.Prims) (c_101 : impl_MemOk_T) (c_125 : impl_Commit_steps_T) (c_62 : impl_CommitOk_T) (c_133 : impl_copyCommit_T) (c_141 : impl_copyMem_T) (c_142 : impl_Lock_T) (c_144 : impl_Tick_T) (c_146 : impl_Store_T) (c_147 : impl_Unlock_T) : PM.Env := ⟨[(101, ⟨[], impl_MemOk_w c_101, none⟩), (125, ⟨[], impl_Commit_steps_w c_125, none⟩), (62, ⟨[], impl_CommitOk_w c_62, none⟩), (133, ⟨[], impl_copyCommit_w c_133, none⟩), (141, ⟨[], impl_copyMem_w c_141, none⟩), (142, ⟨[], impl_Lock_w c_142, none⟩), (144, ⟨[], impl_Tick_w c_144, none⟩), (146, ⟨[], impl_Store_w c_146, none⟩), (147, ⟨[], impl_Unlock_w c_147, none⟩)], [(143, Go.Proofs.Try.f143), (145, Go.Proofs.Try.f145), (134, Go.Proofs.Try.f134)], [], [(0, [2, 3, 4, 5]), (1, [2, 3, 4, 5]), (2, [2, 3, 4, 5]), (3, [2, 3, 4, 5, 23]), (4, [4, 5]), (5, [2, 3, 4, 5, 27]), (6, [2, 3, 4, 5, 27, 28]), (7, [2, 3, 4, 5, 6, 7]), (8, [2, 3, 4, 5, 7]), (9, [2, 3, 4, 5, 45]), (10, [2, 3, 4, 5]), (11, [2, 3, 4, 5]), (12, [2, 3, 4, 5, 27, 50]), (13, [2, 3, 4, 5, 8, 9]), (14, [2, 3, 4, 5, 9]), (15, [2, 3, 4, 5, 9, 59]), (16, [2, 3, 4, 5]), (17, [2, 3, 4, 5]), (18, [2, 3, 4, 5]), (19, [2, 3, 4, 5, 27, 67]), (20, [2, 3, 4, 5, 10]), (21, [2, 3, 4, 5, 95]), (22, [2, 3, 4, 5]), (23, [2, 3, 4, 5]), (24, [2, 3, 4, 5, 27, 101]), (25, [2, 3, 4, 5]), (26, [2, 3, 4, 5]), (27, [2, 3, 4, 5, 27, 125]), (28, [2, 3, 4, 5]), (29, [2, 3, 4, 5]), (30, [2, 3, 4, 5, 144]), (31, [2, 3, 4, 5, 11]), (32, [2, 3, 4, 5]), (33, [2, 3, 4, 5]), (34, [4, 5])], impl_CommitStep_L A c_101 c_125 c_62 c_133 c_141 c_142 c_144 c_146 c_147 A.fuel⟩
theorem impl_CommitStep_ok (A : PM.Prims) (c_101 : impl_MemOk_T) (c_125 : impl_Commit_steps_T) (c_62 : impl_CommitOk_T) (c_133 : impl_copyCommit_T) (c_141 : impl_copyMem_T) (c_142 : impl_Lock_T) (c_144 : impl_Tick_T) (c_146 : impl_Store_T) (c_147 : impl_Unlock_T) (___Clock : Int) (___Cells : List (List Int)) (a_Who : Int) (a_Rv : Int) (a_Phase : Int) (a_At : Int) (a_Wv : Int) (a_Puts : List (List Int)) (a_Reads : List Int) (k : PM.V → PM.R) : PM.pfun A cx [] (impl_CommitStep_E A c_101 c_125 c_62 c_133 c_141 c_142 c_144 c_146 c_147) Go.Proofs.Try.f77 [.agg [.int .i64 ___Clock, .arr (.vecs 49 3 ___Cells)], .agg [.int .i64 a_Who, .int .i64 a_Rv, .int .i64 a_Phase, .int .i64 a_At, .int .i64 a_Wv, .arr (.vecs 135 2 a_Puts), .arr (.ints 3 .i64 a_Reads)]] k = impl_CommitStep_f A c_101 c_125 c_62 c_133 c_141 c_142 c_144 c_146 c_147 ___Clock ___Cells a_Who a_Rv a_Phase a_At a_Wv a_Puts a_Reads (fun r0_Clock r0_Cells r1_Who r1_Rv r1_Phase r1_At r1_Wv r1_Puts r1_Reads => k (.tup [.agg [.int .i64 r0_Clock, .arr (.vecs 49 3 r0_Cells)], .agg [.int .i64 r1_Who, .int .i64 r1_Rv, .int .i64 r1_Phase, .int .i64 r1_At, .int .i64 r1_Wv, .arr (.vecs 135 2 r1_Puts), .arr (.ints 3 .i64 r1_Reads)]])) := by kernel_rfl

theorem impl_CommitStep_fn : PM.FnIs Try.prog 77 Try.f77 := .of Try.func77 (by kernel_rfl) (by kernel_rfl)
theorem impl_CommitStep_g : PM.GOk Try.prog cx 77 ⟨[], impl_CommitStep_w (impl_CommitStep PM.std), none⟩ := by
  refine ⟨impl_CommitStep_fn.enter, fun _ ds k r h => ?_, fun hm => absurd rfl hm, fun _ e => (by cases e)⟩
  change impl_CommitStep_w (impl_CommitStep PM.std) ds k = some r at h
  unfold impl_CommitStep_w at h
  split at h
  · exact PM.pfun_ok (E := impl_CommitStep_E PM.std (impl_MemOk PM.std) (impl_Commit_steps PM.std) (impl_CommitOk PM.std) (impl_copyCommit PM.std) (impl_copyMem PM.std) (impl_Lock PM.std) (impl_Tick PM.std) (impl_Store PM.std) (impl_Unlock PM.std)) (L := fun n => impl_CommitStep_L PM.std (impl_MemOk PM.std) (impl_Commit_steps PM.std) (impl_CommitOk PM.std) (impl_copyCommit PM.std) (impl_copyMem PM.std) (impl_Lock PM.std) (impl_Tick PM.std) (impl_Store PM.std) (impl_Unlock PM.std) n) (N := PM.std.fuel) cx_ok (.cons impl_MemOk_g (.cons impl_Commit_steps_g (.cons impl_CommitOk_g (.cons impl_copyCommit_g (.cons impl_copyMem_g (.cons impl_Lock_g (.cons impl_Tick_g (.cons impl_Store_g (.cons impl_Unlock_g .nil))))))))) mixed (.cons (.of Try.func143 (by kernel_rfl) (by kernel_rfl)) (by kernel_rfl) (.cons (.of Try.func145 (by kernel_rfl) (by kernel_rfl)) (by kernel_rfl) (.cons (.of Try.func134 (by kernel_rfl) (by kernel_rfl)) (by kernel_rfl) .nil))) impl_CommitStep_fn (by kernel_rfl) ⟨rfl, fun _ _ _ => rfl, fun n cur σ K r h => by cases h⟩
      ((impl_CommitStep_ok PM.std (impl_MemOk PM.std) (impl_Commit_steps PM.std) (impl_CommitOk PM.std) (impl_copyCommit PM.std) (impl_copyMem PM.std) (impl_Lock PM.std) (impl_Tick PM.std) (impl_Store PM.std) (impl_Unlock PM.std) _ _ _ _ _ _ _ _ _ k).trans h)
  · cases h

abbrev laws_markWordS_T := (List (List Int)) → (Int) → ((Int) → (List (List Int)) → PM.R) → PM.R
noncomputable def laws_markWordS_w (c : laws_markWordS_T) (ds : List PM.V) (k : PM.V → PM.R) : PM.R :=
  match ds with
  | [.arr (.vecs 49 3 a), .int .i64 k_] => c a k_ (fun r0 o0 => k (.tup [.int .i64 r0, .arr (.vecs 49 3 o0)]))
  | _ => none
noncomputable def laws_markWordS_l0 (A : PM.Prims) : Nat → (Int) → (Int) → (List (List Int)) → ((Int) → (List (List Int)) → PM.R) → PM.R
  | 0, _, _, _, _ => none
  | n + 1, k1, i2, o03, kx0_0 =>
    bif (A.lt i2 (A.vlen o03)) then
      bif (A.inb i2 (A.vlen o03)) then
        bif (A.inb i2 (A.vlen (A.vset o03 i2 0 k1))) then
          bif (A.inb i2 (A.vlen (A.vset (A.vset o03 i2 0 k1) i2 1 (A.add .i64 k1 1)))) then
            laws_markWordS_l0 A n (A.add .i64 (A.add .i64 (A.add .i64 k1 1) 1) 1) (A.add .i64 i2 1) (A.vset (A.vset (A.vset o03 i2 0 k1) i2 1 (A.add .i64 k1 1)) i2 2 (A.add .i64 (A.add .i64 k1 1) 1)) kx0_0
          else
            none
        else
          none
      else
        none
    else
      kx0_0 k1 o03
noncomputable def laws_markWordS_f (A : PM.Prims) (a : List (List Int)) (k_ : Int) (k : (Int) → (List (List Int)) → PM.R) : PM.R :=
  laws_markWordS_l0 A A.fuel k_ 0 a (fun k46 o057 =>
    k k46 o057)
noncomputable def laws_markWordS (A : PM.Prims) : laws_markWordS_T := laws_markWordS_f A
noncomputable def laws_markWordS_L (A : PM.Prims) (n : Nat) : PM.Lam := fun cur σ K =>
  match cur, σ, K with
  | 0, ⟨[(0, .sref 0), (1, .int .i64 k1), (5, .int .i64 i2)], [(0, .arr false (.vecs 49 3 o03))]⟩, K => laws_markWordS_l0 A n k1 i2 o03 (fun k4 o05 => K (.exit 0) ⟨[(0, .sref 0), (1, .int .i64 k4)], [(0, .arr false (.vecs 49 3 o05))]⟩)
  | _, _, _ => none
noncomputable def laws_markWordS_E (A : PM.Prims) : PM.Env := ⟨[], [], [(0, [0, 1, 5], [0, 1, 4])], [(0, [0, 1]), (1, [0, 1, 5]), (2, [0, 1, 5, 9]), (3, [0, 1, 5]), (4, [0, 1, 5]), (5, [0, 1, 5]), (6, [0, 1, 5]), (7, [0, 1, 5]), (8, [0, 1, 5]), (9, [0, 1, 5]), (10, [0, 4])], laws_markWordS_L A A.fuel⟩
theorem laws_markWordS_l0_ok (A : PM.Prims) (n : Nat) (k1 : Int) (i2 : Int) (o03 : List (List Int)) (K : Go.Exit → PM.S → PM.R) : laws_markWordS_L A (n + 1) 0 ⟨[(0, .sref 0), (1, .int .i64 k1), (5, .int .i64 i2)], [(0, .arr false (.vecs 49 3 o03))]⟩ K = PM.roundF A cx (PM.runD A cx (laws_markWordS_E A).inl (laws_markWordS_E A).Γ 3) (laws_markWordS_E A) (laws_markWordS_L A n) 0 Go.Proofs.Try.f148 ⟨[(0, .sref 0), (1, .int .i64 k1), (5, .int .i64 i2)], [(0, .arr false (.vecs 49 3 o03))]⟩ K := by kernel_rfl
theorem laws_markWordS_ok (A : PM.Prims) (a : List (List Int)) (k_ : Int) (k : PM.V → PM.R) : PM.pfun A cx [true, false] (laws_markWordS_E A) Go.Proofs.Try.f148 [.arr (.vecs 49 3 a), .int .i64 k_] k = laws_markWordS_f A a k_ (fun r0 o0 => k (.tup [.int .i64 r0, .arr (.vecs 49 3 o0)])) := by kernel_rfl

theorem laws_markWordS_fn : PM.FnIs Try.prog 148 Try.f148 := .of Try.func148 (by kernel_rfl) (by kernel_rfl)
theorem laws_markWordS_g : PM.GOk Try.prog cx 148 ⟨[true, false], laws_markWordS_w (laws_markWordS PM.std), none⟩ := by
  refine ⟨laws_markWordS_fn.enter, fun hm => (by cases hm), fun _ ds k r h => ?_, fun _ e => (by cases e)⟩
  change laws_markWordS_w (laws_markWordS PM.std) ds k = some r at h
  unfold laws_markWordS_w at h
  split at h
  · exact PM.pfun_okM (List.cons_ne_nil _ _) (E := laws_markWordS_E PM.std) (L := fun n => laws_markWordS_L PM.std n) (N := PM.std.fuel) cx_ok .nil mixed .nil laws_markWordS_fn (by kernel_rfl) ⟨rfl, fun cur σ K => by
      dsimp only [laws_markWordS_L]
      split <;> rfl, fun n cur σ K r h => by
      dsimp only [laws_markWordS_L] at h
      split at h
      · exact (laws_markWordS_l0_ok PM.std n _ _ _ K).symm.trans h
      · cases h⟩
      ((laws_markWordS_ok PM.std _ _ k).trans h)
  · cases h

abbrev laws_markMem_T := (Int) → (List (List Int)) → (Int) → ((Int) → (List (List Int)) → PM.R) → PM.R
noncomputable def laws_markMem_w (c : laws_markMem_T) (ds : List PM.V) (k : PM.V → PM.R) : PM.R :=
  match ds with
  | [.agg [.int .i64 a_Clock, .arr (.vecs 49 3 a_Cells)], .int .i64 k_] => c a_Clock a_Cells k_ (fun r0 o0_Cells => k (.tup [.int .i64 r0, .arr (.vecs 49 3 o0_Cells)]))
  | _ => none
noncomputable def laws_markMem_f (A : PM.Prims) (c_148 : laws_markWordS_T) (a_Clock : Int) (a_Cells : List (List Int)) (k_ : Int) (k : (Int) → (List (List Int)) → PM.R) : PM.R :=
  c_148 a_Cells k_ (fun r1 r2 =>
    k r1 r2)
noncomputable def laws_markMem (A : PM.Prims) : laws_markMem_T := laws_markMem_f A (laws_markWordS A)
noncomputable def laws_markMem_L (A : PM.Prims) (c_148 : laws_markWordS_T) (n : Nat) : PM.Lam := fun cur σ K =>
  match cur, σ, K with
  | _, _, _ => none
noncomputable def laws_markMem_E (A : PM.Prims) (c_148 : laws_markWordS_T) : PM.Env := ⟨[(148, ⟨[true, false], laws_markWordS_w c_148, none⟩)], [], [], [(0, [0, 1, 2]), (1, [0, 1]), (2, [0, 4])], laws_markMem_L A c_148 A.fuel⟩
theorem laws_markMem_ok (A : PM.Prims) (c_148 : laws_markWordS_T) (a_Clock : Int) (a_Cells : List (List Int)) (k_ : Int) (k : PM.V → PM.R) : PM.pfun A cx [true, false] (laws_markMem_E A c_148) Go.Proofs.Try.f78 [.agg [.int .i64 a_Clock, .arr (.vecs 49 3 a_Cells)], .int .i64 k_] k = laws_markMem_f A c_148 a_Clock a_Cells k_ (fun r0 o0_Cells => k (.tup [.int .i64 r0, .arr (.vecs 49 3 o0_Cells)])) := by kernel_rfl

theorem laws_markMem_fn : PM.FnIs Try.prog 78 Try.f78 := .of Try.func78 (by kernel_rfl) (by kernel_rfl)
theorem laws_markMem_g : PM.GOk Try.prog cx 78 ⟨[true, false], laws_markMem_w (laws_markMem PM.std), none⟩ := by
  refine ⟨laws_markMem_fn.enter, fun hm => (by cases hm), fun _ ds k r h => ?_, fun _ e => (by cases e)⟩
  change laws_markMem_w (laws_markMem PM.std) ds k = some r at h
  unfold laws_markMem_w at h
  split at h
  · exact PM.pfun_okM (List.cons_ne_nil _ _) (E := laws_markMem_E PM.std (laws_markWordS PM.std)) (L := fun n => laws_markMem_L PM.std (laws_markWordS PM.std) n) (N := PM.std.fuel) cx_ok (.cons laws_markWordS_g .nil) mixed .nil laws_markMem_fn (by kernel_rfl) ⟨rfl, fun _ _ _ => rfl, fun n cur σ K r h => by cases h⟩
      ((laws_markMem_ok PM.std (laws_markWordS PM.std) _ _ _ k).trans h)
  · cases h

abbrev laws_heldWordS_T := (List (List Int)) → (Int) → ((Int) → PM.R) → PM.R
noncomputable def laws_heldWordS_w (c : laws_heldWordS_T) (ds : List PM.V) (k : PM.V → PM.R) : PM.R :=
  match ds with
  | [.arr (.vecs 49 3 a), .int .i64 k_] => c a k_ (fun r0 => k (.int .i64 r0))
  | _ => none
noncomputable def laws_heldWordS_l0 (A : PM.Prims) : Nat → (List (List Int)) → (Int) → (Int) → ((Int) → PM.R) → ((Int) → PM.R) → PM.R
  | 0, _, _, _, _, _ => none
  | n + 1, a1, k2, i3, kret_0, kx0_0 =>
    bif (A.lt i3 (A.vlen a1)) then
      bif (A.inb i3 (A.vlen a1)) then
        bif (A.not (A.eq (A.vget a1 i3 0) k2)) then
          kret_0 (-1)
        else
          bif (A.inb i3 (A.vlen a1)) then
            bif (A.not (A.eq (A.vget a1 i3 1) (A.add .i64 k2 1))) then
              kret_0 (-1)
            else
              bif (A.inb i3 (A.vlen a1)) then
                bif (A.not (A.eq (A.vget a1 i3 2) (A.add .i64 (A.add .i64 k2 1) 1))) then
                  kret_0 (-1)
                else
                  laws_heldWordS_l0 A n a1 (A.add .i64 (A.add .i64 (A.add .i64 k2 1) 1) 1) (A.add .i64 i3 1) kret_0 kx0_0
              else
                none
          else
            none
      else
        none
    else
      kx0_0 k2
noncomputable def laws_heldWordS_f (A : PM.Prims) (a : List (List Int)) (k_ : Int) (k : (Int) → PM.R) : PM.R :=
  laws_heldWordS_l0 A A.fuel a k_ 0 (fun t446 =>
    k t446) (fun k57 =>
    k k57)
noncomputable def laws_heldWordS (A : PM.Prims) : laws_heldWordS_T := laws_heldWordS_f A
noncomputable def laws_heldWordS_L (A : PM.Prims) (n : Nat) : PM.Lam := fun cur σ K =>
  match cur, σ, K with
  | 0, ⟨[(0, .arr (.vecs 49 3 a1)), (1, .int .i64 k2), (5, .int .i64 i3)], []⟩, K => laws_heldWordS_l0 A n a1 k2 i3 (fun t44 => K .ret ⟨[(4, .int .i64 t44)], []⟩) (fun k5 => K (.exit 0) ⟨[(1, .int .i64 k5)], []⟩)
  | _, _, _ => none
noncomputable def laws_heldWordS_E (A : PM.Prims) : PM.Env := ⟨[], [], [(0, [0, 1, 5], [1, 4])], [(0, [0, 1]), (1, [0, 1, 5]), (2, [0, 1, 5, 9]), (3, [0, 1, 5]), (4, [0, 1, 5, 18]), (5, [4]), (6, [0, 1, 5]), (7, [0, 1, 5, 27]), (8, [4]), (9, [0, 1, 5]), (10, [0, 1, 5, 36]), (11, [4]), (12, [0, 1, 5]), (13, [4])], laws_heldWordS_L A A.fuel⟩
theorem laws_heldWordS_l0_ok (A : PM.Prims) (n : Nat) (a1 : List (List Int)) (k2 : Int) (i3 : Int) (K : Go.Exit → PM.S → PM.R) : laws_heldWordS_L A (n + 1) 0 ⟨[(0, .arr (.vecs 49 3 a1)), (1, .int .i64 k2), (5, .int .i64 i3)], []⟩ K = PM.roundF A cx (PM.runD A cx (laws_heldWordS_E A).inl (laws_heldWordS_E A).Γ 3) (laws_heldWordS_E A) (laws_heldWordS_L A n) 0 Go.Proofs.Try.f149 ⟨[(0, .arr (.vecs 49 3 a1)), (1, .int .i64 k2), (5, .int .i64 i3)], []⟩ K := by kernel_rfl
theorem laws_heldWordS_ok (A : PM.Prims) (a : List (List Int)) (k_ : Int) (k : PM.V → PM.R) : PM.pfun A cx [] (laws_heldWordS_E A) Go.Proofs.Try.f149 [.arr (.vecs 49 3 a), .int .i64 k_] k = laws_heldWordS_f A a k_ (fun r0 => k (.int .i64 r0)) := by kernel_rfl

theorem laws_heldWordS_fn : PM.FnIs Try.prog 149 Try.f149 := .of Try.func149 (by kernel_rfl) (by kernel_rfl)
theorem laws_heldWordS_g : PM.GOk Try.prog cx 149 ⟨[], laws_heldWordS_w (laws_heldWordS PM.std), none⟩ := by
  refine ⟨laws_heldWordS_fn.enter, fun _ ds k r h => ?_, fun hm => absurd rfl hm, fun _ e => (by cases e)⟩
  change laws_heldWordS_w (laws_heldWordS PM.std) ds k = some r at h
  unfold laws_heldWordS_w at h
  split at h
  · exact PM.pfun_ok (E := laws_heldWordS_E PM.std) (L := fun n => laws_heldWordS_L PM.std n) (N := PM.std.fuel) cx_ok .nil mixed .nil laws_heldWordS_fn (by kernel_rfl) ⟨rfl, fun cur σ K => by
      dsimp only [laws_heldWordS_L]
      split <;> rfl, fun n cur σ K r h => by
      dsimp only [laws_heldWordS_L] at h
      split at h
      · exact (laws_heldWordS_l0_ok PM.std n _ _ _ K).symm.trans h
      · cases h⟩
      ((laws_heldWordS_ok PM.std _ _ k).trans h)
  · cases h

abbrev laws_heldMem_T := (Int) → (List (List Int)) → (Int) → ((Int) → PM.R) → PM.R
noncomputable def laws_heldMem_w (c : laws_heldMem_T) (ds : List PM.V) (k : PM.V → PM.R) : PM.R :=
  match ds with
  | [.agg [.int .i64 a_Clock, .arr (.vecs 49 3 a_Cells)], .int .i64 k_] => c a_Clock a_Cells k_ (fun r0 => k (.int .i64 r0))
  | _ => none
noncomputable def laws_heldMem_f (A : PM.Prims) (c_149 : laws_heldWordS_T) (a_Clock : Int) (a_Cells : List (List Int)) (k_ : Int) (k : (Int) → PM.R) : PM.R :=
  c_149 a_Cells k_ (fun r1 =>
    bif (A.lt r1 0) then
      k (-1)
    else
      k r1)
noncomputable def laws_heldMem (A : PM.Prims) : laws_heldMem_T := laws_heldMem_f A (laws_heldWordS A)
noncomputable def laws_heldMem_L (A : PM.Prims) (c_149 : laws_heldWordS_T) (n : Nat) : PM.Lam := fun cur σ K =>
  match cur, σ, K with
  | _, _, _ => none
noncomputable def laws_heldMem_E (A : PM.Prims) (c_149 : laws_heldWordS_T) : PM.Env := ⟨[(149, ⟨[], laws_heldWordS_w c_149, none⟩)], [], [], [(0, [1, 2]), (1, [1]), (2, [1, 10]), (3, [4]), (4, [4])], laws_heldMem_L A c_149 A.fuel⟩
theorem laws_heldMem_ok (A : PM.Prims) (c_149 : laws_heldWordS_T) (a_Clock : Int) (a_Cells : List (List Int)) (k_ : Int) (k : PM.V → PM.R) : PM.pfun A cx [] (laws_heldMem_E A c_149) Go.Proofs.Try.f79 [.agg [.int .i64 a_Clock, .arr (.vecs 49 3 a_Cells)], .int .i64 k_] k = laws_heldMem_f A c_149 a_Clock a_Cells k_ (fun r0 => k (.int .i64 r0)) := by kernel_rfl

theorem laws_heldMem_fn : PM.FnIs Try.prog 79 Try.f79 := .of Try.func79 (by kernel_rfl) (by kernel_rfl)
theorem laws_heldMem_g : PM.GOk Try.prog cx 79 ⟨[], laws_heldMem_w (laws_heldMem PM.std), none⟩ := by
  refine ⟨laws_heldMem_fn.enter, fun _ ds k r h => ?_, fun hm => absurd rfl hm, fun _ e => (by cases e)⟩
  change laws_heldMem_w (laws_heldMem PM.std) ds k = some r at h
  unfold laws_heldMem_w at h
  split at h
  · exact PM.pfun_ok (E := laws_heldMem_E PM.std (laws_heldWordS PM.std)) (L := fun n => laws_heldMem_L PM.std (laws_heldWordS PM.std) n) (N := PM.std.fuel) cx_ok (.cons laws_heldWordS_g .nil) mixed .nil laws_heldMem_fn (by kernel_rfl) ⟨rfl, fun _ _ _ => rfl, fun n cur σ K r h => by cases h⟩
      ((laws_heldMem_ok PM.std (laws_heldWordS PM.std) _ _ _ k).trans h)
  · cases h

abbrev laws_FnExactProbeOk_T := (Int) → (Int) → (Int) → (Int) → ((Bool) → PM.R) → PM.R
noncomputable def laws_FnExactProbeOk_w (c : laws_FnExactProbeOk_T) (ds : List PM.V) (k : PM.V → PM.R) : PM.R :=
  match ds with
  | [.agg [.int .i64 aP_Cell, .int .i64 aP_Phase, .int .i64 aP_Ver, .int .i64 aP_Val]] => c aP_Cell aP_Phase aP_Ver aP_Val (fun r0 => k (.bool r0))
  | _ => none
noncomputable def laws_FnExactProbeOk_f (A : PM.Prims) (c_23 : laws_toProbe_T) (c_22 : spec_ProbeOk_T) (c_24 : impl_ProbeOk_T) (aP_Cell : Int) (aP_Phase : Int) (aP_Ver : Int) (aP_Val : Int) (k : (Bool) → PM.R) : PM.R :=
  c_23 aP_Cell aP_Phase aP_Ver aP_Val (fun r1 r2 r3 r4 =>
    c_22 r1 r2 r3 r4 (fun r5 =>
      c_23 aP_Cell aP_Phase aP_Ver aP_Val (fun r6 r7 r8 r9 =>
        c_24 r6 r7 r8 r9 (fun r10 =>
          bif (A.not (A.beq r10 r5)) then
            k false
          else
            k true))))
noncomputable def laws_FnExactProbeOk (A : PM.Prims) : laws_FnExactProbeOk_T := laws_FnExactProbeOk_f A (laws_toProbe A) (spec_ProbeOk A) (impl_ProbeOk A)
noncomputable def laws_FnExactProbeOk_L (A : PM.Prims) (c_23 : laws_toProbe_T) (c_22 : spec_ProbeOk_T) (c_24 : impl_ProbeOk_T) (n : Nat) : PM.Lam := fun cur σ K =>
  match cur, σ, K with
  | _, _, _ => none
noncomputable def laws_FnExactProbeOk_E (A : PM.Prims) (c_23 : laws_toProbe_T) (c_22 : spec_ProbeOk_T) (c_24 : impl_ProbeOk_T) : PM.Env := ⟨[(23, ⟨[], laws_toProbe_w c_23, none⟩), (22, ⟨[], spec_ProbeOk_w c_22, none⟩), (24, ⟨[], impl_ProbeOk_w c_24, none⟩)], [], [], [(0, [1]), (1, [1, 3]), (2, [3, 4]), (3, [13]), (4, [2]), (5, [2])], laws_FnExactProbeOk_L A c_23 c_22 c_24 A.fuel⟩
theorem laws_FnExactProbeOk_ok (A : PM.Prims) (c_23 : laws_toProbe_T) (c_22 : spec_ProbeOk_T) (c_24 : impl_ProbeOk_T) (aP_Cell : Int) (aP_Phase : Int) (aP_Ver : Int) (aP_Val : Int) (k : PM.V → PM.R) : PM.pfun A cx [] (laws_FnExactProbeOk_E A c_23 c_22 c_24) Go.Proofs.Try.f3 [.agg [.int .i64 aP_Cell, .int .i64 aP_Phase, .int .i64 aP_Ver, .int .i64 aP_Val]] k = laws_FnExactProbeOk_f A c_23 c_22 c_24 aP_Cell aP_Phase aP_Ver aP_Val (fun r0 => k (.bool r0)) := by kernel_rfl

theorem laws_FnExactProbeOk_fn : PM.FnIs Try.prog 3 Try.f3 := .of Try.func3 (by kernel_rfl) (by kernel_rfl)
theorem laws_FnExactProbeOk_g : PM.GOk Try.prog cx 3 ⟨[], laws_FnExactProbeOk_w (laws_FnExactProbeOk PM.std), none⟩ := by
  refine ⟨laws_FnExactProbeOk_fn.enter, fun _ ds k r h => ?_, fun hm => absurd rfl hm, fun _ e => (by cases e)⟩
  change laws_FnExactProbeOk_w (laws_FnExactProbeOk PM.std) ds k = some r at h
  unfold laws_FnExactProbeOk_w at h
  split at h
  · exact PM.pfun_ok (E := laws_FnExactProbeOk_E PM.std (laws_toProbe PM.std) (spec_ProbeOk PM.std) (impl_ProbeOk PM.std)) (L := fun n => laws_FnExactProbeOk_L PM.std (laws_toProbe PM.std) (spec_ProbeOk PM.std) (impl_ProbeOk PM.std) n) (N := PM.std.fuel) cx_ok (.cons laws_toProbe_g (.cons spec_ProbeOk_g (.cons impl_ProbeOk_g .nil))) mixed .nil laws_FnExactProbeOk_fn (by kernel_rfl) ⟨rfl, fun _ _ _ => rfl, fun n cur σ K r h => by cases h⟩
      ((laws_FnExactProbeOk_ok PM.std (laws_toProbe PM.std) (spec_ProbeOk PM.std) (impl_ProbeOk PM.std) _ _ _ _ k).trans h)
  · cases h

abbrev spec_ProbeNew_T := (Int) → ((Int) → (Int) → (Int) → (Int) → (Bool) → PM.R) → PM.R
noncomputable def spec_ProbeNew_w (c : spec_ProbeNew_T) (ds : List PM.V) (k : PM.V → PM.R) : PM.R :=
  match ds with
  | [.int .i64 cell] => c cell (fun r0_Cell r0_Phase r0_Ver r0_Val r1 => k (.tup [.agg [.int .i64 r0_Cell, .int .i64 r0_Phase, .int .i64 r0_Ver, .int .i64 r0_Val], .bool r1]))
  | _ => none
noncomputable def spec_ProbeNew_f (A : PM.Prims) (c_93 : spec_l3Cell_T) (cell : Int) (k : (Int) → (Int) → (Int) → (Int) → (Bool) → PM.R) : PM.R :=
  c_93 cell (fun r1 =>
    bif (A.not r1) then
      k 0 0 0 0 false
    else
      k cell 0 0 0 true)
noncomputable def spec_ProbeNew (A : PM.Prims) : spec_ProbeNew_T := spec_ProbeNew_f A (spec_l3Cell A)
noncomputable def spec_ProbeNew_L (A : PM.Prims) (c_93 : spec_l3Cell_T) (n : Nat) : PM.Lam := fun cur σ K =>
  match cur, σ, K with
  | _, _, _ => none
noncomputable def spec_ProbeNew_E (A : PM.Prims) (c_93 : spec_l3Cell_T) : PM.Env := ⟨[(93, ⟨[], spec_l3Cell_w c_93, none⟩)], [], [], [(0, [0, 2]), (1, [0, 2, 6]), (2, [2, 3]), (3, [2, 3])], spec_ProbeNew_L A c_93 A.fuel⟩
theorem spec_ProbeNew_ok (A : PM.Prims) (c_93 : spec_l3Cell_T) (cell : Int) (k : PM.V → PM.R) : PM.pfun A cx [] (spec_ProbeNew_E A c_93) Go.Proofs.Try.f25 [.int .i64 cell] k = spec_ProbeNew_f A c_93 cell (fun r0_Cell r0_Phase r0_Ver r0_Val r1 => k (.tup [.agg [.int .i64 r0_Cell, .int .i64 r0_Phase, .int .i64 r0_Ver, .int .i64 r0_Val], .bool r1])) := by kernel_rfl

theorem spec_ProbeNew_fn : PM.FnIs Try.prog 25 Try.f25 := .of Try.func25 (by kernel_rfl) (by kernel_rfl)
theorem spec_ProbeNew_g : PM.GOk Try.prog cx 25 ⟨[], spec_ProbeNew_w (spec_ProbeNew PM.std), none⟩ := by
  refine ⟨spec_ProbeNew_fn.enter, fun _ ds k r h => ?_, fun hm => absurd rfl hm, fun _ e => (by cases e)⟩
  change spec_ProbeNew_w (spec_ProbeNew PM.std) ds k = some r at h
  unfold spec_ProbeNew_w at h
  split at h
  · exact PM.pfun_ok (E := spec_ProbeNew_E PM.std (spec_l3Cell PM.std)) (L := fun n => spec_ProbeNew_L PM.std (spec_l3Cell PM.std) n) (N := PM.std.fuel) cx_ok (.cons spec_l3Cell_g .nil) mixed .nil spec_ProbeNew_fn (by kernel_rfl) ⟨rfl, fun _ _ _ => rfl, fun n cur σ K r h => by cases h⟩
      ((spec_ProbeNew_ok PM.std (spec_l3Cell PM.std) _ k).trans h)
  · cases h

abbrev impl_ProbeNew_T := (Int) → ((Int) → (Int) → (Int) → (Int) → (Bool) → PM.R) → PM.R
noncomputable def impl_ProbeNew_w (c : impl_ProbeNew_T) (ds : List PM.V) (k : PM.V → PM.R) : PM.R :=
  match ds with
  | [.int .i64 cell] => c cell (fun r0_Cell r0_Phase r0_Ver r0_Val r1 => k (.tup [.agg [.int .i64 r0_Cell, .int .i64 r0_Phase, .int .i64 r0_Ver, .int .i64 r0_Val], .bool r1]))
  | _ => none
noncomputable def impl_ProbeNew_f (A : PM.Prims) (c_96 : impl_isCell_T) (cell : Int) (k : (Int) → (Int) → (Int) → (Int) → (Bool) → PM.R) : PM.R :=
  c_96 cell (fun r1 =>
    bif (A.not r1) then
      k 0 0 0 0 false
    else
      k cell 0 0 0 true)
noncomputable def impl_ProbeNew (A : PM.Prims) : impl_ProbeNew_T := impl_ProbeNew_f A (impl_isCell A)
noncomputable def impl_ProbeNew_L (A : PM.Prims) (c_96 : impl_isCell_T) (n : Nat) : PM.Lam := fun cur σ K =>
  match cur, σ, K with
  | _, _, _ => none
noncomputable def impl_ProbeNew_E (A : PM.Prims) (c_96 : impl_isCell_T) : PM.Env := ⟨[(96, ⟨[], impl_isCell_w c_96, none⟩)], [], [], [(0, [0, 2]), (1, [0, 2, 6]), (2, [2, 3]), (3, [2, 3])], impl_ProbeNew_L A c_96 A.fuel⟩
theorem impl_ProbeNew_ok (A : PM.Prims) (c_96 : impl_isCell_T) (cell : Int) (k : PM.V → PM.R) : PM.pfun A cx [] (impl_ProbeNew_E A c_96) Go.Proofs.Try.f26 [.int .i64 cell] k = impl_ProbeNew_f A c_96 cell (fun r0_Cell r0_Phase r0_Ver r0_Val r1 => k (.tup [.agg [.int .i64 r0_Cell, .int .i64 r0_Phase, .int .i64 r0_Ver, .int .i64 r0_Val], .bool r1])) := by kernel_rfl

theorem impl_ProbeNew_fn : PM.FnIs Try.prog 26 Try.f26 := .of Try.func26 (by kernel_rfl) (by kernel_rfl)
theorem impl_ProbeNew_g : PM.GOk Try.prog cx 26 ⟨[], impl_ProbeNew_w (impl_ProbeNew PM.std), none⟩ := by
  refine ⟨impl_ProbeNew_fn.enter, fun _ ds k r h => ?_, fun hm => absurd rfl hm, fun _ e => (by cases e)⟩
  change impl_ProbeNew_w (impl_ProbeNew PM.std) ds k = some r at h
  unfold impl_ProbeNew_w at h
  split at h
  · exact PM.pfun_ok (E := impl_ProbeNew_E PM.std (impl_isCell PM.std)) (L := fun n => impl_ProbeNew_L PM.std (impl_isCell PM.std) n) (N := PM.std.fuel) cx_ok (.cons impl_isCell_g .nil) mixed .nil impl_ProbeNew_fn (by kernel_rfl) ⟨rfl, fun _ _ _ => rfl, fun n cur σ K r h => by cases h⟩
      ((impl_ProbeNew_ok PM.std (impl_isCell PM.std) _ k).trans h)
  · cases h

abbrev laws_FnExactProbeNew_T := (Int) → ((Bool) → PM.R) → PM.R
noncomputable def laws_FnExactProbeNew_w (c : laws_FnExactProbeNew_T) (ds : List PM.V) (k : PM.V → PM.R) : PM.R :=
  match ds with
  | [.int .i64 aCell] => c aCell (fun r0 => k (.bool r0))
  | _ => none
noncomputable def laws_FnExactProbeNew_f (A : PM.Prims) (c_27 : laws_eqProbe_T) (c_25 : spec_ProbeNew_T) (c_26 : impl_ProbeNew_T) (aCell : Int) (k : (Bool) → PM.R) : PM.R :=
  c_25 aCell (fun r1 r2 r3 r4 r5 =>
    c_26 aCell (fun r6 r7 r8 r9 r10 =>
      c_27 r6 r7 r8 r9 r1 r2 r3 r4 (fun r11 =>
        bif (A.not r11) then
          k false
        else
          bif (A.not (A.beq r10 r5)) then
            k false
          else
            k true)))
noncomputable def laws_FnExactProbeNew (A : PM.Prims) : laws_FnExactProbeNew_T := laws_FnExactProbeNew_f A (laws_eqProbe A) (spec_ProbeNew A) (impl_ProbeNew A)
noncomputable def laws_FnExactProbeNew_L (A : PM.Prims) (c_27 : laws_eqProbe_T) (c_25 : spec_ProbeNew_T) (c_26 : impl_ProbeNew_T) (n : Nat) : PM.Lam := fun cur σ K =>
  match cur, σ, K with
  | _, _, _ => none
noncomputable def laws_FnExactProbeNew_E (A : PM.Prims) (c_27 : laws_eqProbe_T) (c_25 : spec_ProbeNew_T) (c_26 : impl_ProbeNew_T) : PM.Env := ⟨[(27, ⟨[], laws_eqProbe_w c_27, none⟩), (25, ⟨[], spec_ProbeNew_w c_25, none⟩), (26, ⟨[], impl_ProbeNew_w c_26, none⟩)], [], [], [(0, [0]), (1, [0, 3, 4]), (2, [3, 4, 5, 6]), (3, [25]), (4, [2]), (5, [2])], laws_FnExactProbeNew_L A c_27 c_25 c_26 A.fuel⟩
theorem laws_FnExactProbeNew_ok (A : PM.Prims) (c_27 : laws_eqProbe_T) (c_25 : spec_ProbeNew_T) (c_26 : impl_ProbeNew_T) (aCell : Int) (k : PM.V → PM.R) : PM.pfun A cx [] (laws_FnExactProbeNew_E A c_27 c_25 c_26) Go.Proofs.Try.f4 [.int .i64 aCell] k = laws_FnExactProbeNew_f A c_27 c_25 c_26 aCell (fun r0 => k (.bool r0)) := by kernel_rfl

theorem laws_FnExactProbeNew_fn : PM.FnIs Try.prog 4 Try.f4 := .of Try.func4 (by kernel_rfl) (by kernel_rfl)
theorem laws_FnExactProbeNew_g : PM.GOk Try.prog cx 4 ⟨[], laws_FnExactProbeNew_w (laws_FnExactProbeNew PM.std), none⟩ := by
  refine ⟨laws_FnExactProbeNew_fn.enter, fun _ ds k r h => ?_, fun hm => absurd rfl hm, fun _ e => (by cases e)⟩
  change laws_FnExactProbeNew_w (laws_FnExactProbeNew PM.std) ds k = some r at h
  unfold laws_FnExactProbeNew_w at h
  split at h
  · exact PM.pfun_ok (E := laws_FnExactProbeNew_E PM.std (laws_eqProbe PM.std) (spec_ProbeNew PM.std) (impl_ProbeNew PM.std)) (L := fun n => laws_FnExactProbeNew_L PM.std (laws_eqProbe PM.std) (spec_ProbeNew PM.std) (impl_ProbeNew PM.std) n) (N := PM.std.fuel) cx_ok (.cons laws_eqProbe_g (.cons spec_ProbeNew_g (.cons impl_ProbeNew_g .nil))) mixed .nil laws_FnExactProbeNew_fn (by kernel_rfl) ⟨rfl, fun _ _ _ => rfl, fun n cur σ K r h => by cases h⟩
      ((laws_FnExactProbeNew_ok PM.std (laws_eqProbe PM.std) (spec_ProbeNew PM.std) (impl_ProbeNew PM.std) _ k).trans h)
  · cases h

abbrev laws_FnExactHoldsOk_T := (List (List Int)) → ((Bool) → PM.R) → PM.R
noncomputable def laws_FnExactHoldsOk_w (c : laws_FnExactHoldsOk_T) (ds : List PM.V) (k : PM.V → PM.R) : PM.R :=
  match ds with
  | [.arr (.vecs 124 3 aL)] => c aL (fun r0 => k (.bool r0))
  | _ => none
noncomputable def laws_FnExactHoldsOk_f (A : PM.Prims) (c_36 : laws_szHoldS_T) (c_38 : laws_toHoldS_T) (c_37 : spec_HoldsOk_T) (c_39 : impl_HoldsOk_T) (c_40 : laws_eqHoldS_T) (aL : List (List Int)) (k : (Bool) → PM.R) : PM.R :=
  c_36 aL 1048576 (fun r1 =>
    bif (A.lt r1 0) then
      k true
    else
      c_38 aL (fun r2 =>
        c_37 r2 (fun r3 =>
          c_38 aL (fun r4 =>
            c_39 r4 (fun r5 =>
              bif (A.not (A.beq r5 r3)) then
                k false
              else
                c_38 aL (fun r6 =>
                  c_40 r4 r6 (fun r7 =>
                    bif (A.not r7) then
                      k false
                    else
                      k true)))))))
noncomputable def laws_FnExactHoldsOk (A : PM.Prims) : laws_FnExactHoldsOk_T := laws_FnExactHoldsOk_f A (laws_szHoldS A) (laws_toHoldS A) (spec_HoldsOk A) (impl_HoldsOk A) (laws_eqHoldS A)
noncomputable def laws_FnExactHoldsOk_L (A : PM.Prims) (c_36 : laws_szHoldS_T) (c_38 : laws_toHoldS_T) (c_37 : spec_HoldsOk_T) (c_39 : impl_HoldsOk_T) (c_40 : laws_eqHoldS_T) (n : Nat) : PM.Lam := fun cur σ K =>
  match cur, σ, K with
  | _, _, _ => none
noncomputable def laws_FnExactHoldsOk_E (A : PM.Prims) (c_36 : laws_szHoldS_T) (c_38 : laws_toHoldS_T) (c_37 : spec_HoldsOk_T) (c_39 : impl_HoldsOk_T) (c_40 : laws_eqHoldS_T) : PM.Env := ⟨[(36, ⟨[], laws_szHoldS_w c_36, none⟩), (38, ⟨[], laws_toHoldS_w c_38, none⟩), (37, ⟨[], spec_HoldsOk_w c_37, none⟩), (39, ⟨[], impl_HoldsOk_w c_39, none⟩), (40, ⟨[], laws_eqHoldS_w c_40, none⟩)], [], [], [(0, [0]), (1, [0, 3]), (2, [0, 3]), (3, [0, 11]), (4, [2]), (5, [0, 4]), (6, [0, 4, 5]), (7, [0, 4, 5, 6]), (8, [0, 5, 21]), (9, [2]), (10, [26]), (11, [2]), (12, [2])], laws_FnExactHoldsOk_L A c_36 c_38 c_37 c_39 c_40 A.fuel⟩
theorem laws_FnExactHoldsOk_ok (A : PM.Prims) (c_36 : laws_szHoldS_T) (c_38 : laws_toHoldS_T) (c_37 : spec_HoldsOk_T) (c_39 : impl_HoldsOk_T) (c_40 : laws_eqHoldS_T) (aL : List (List Int)) (k : PM.V → PM.R) : PM.pfun A cx [] (laws_FnExactHoldsOk_E A c_36 c_38 c_37 c_39 c_40) Go.Proofs.Try.f7 [.arr (.vecs 124 3 aL)] k = laws_FnExactHoldsOk_f A c_36 c_38 c_37 c_39 c_40 aL (fun r0 => k (.bool r0)) := by kernel_rfl

theorem laws_FnExactHoldsOk_fn : PM.FnIs Try.prog 7 Try.f7 := .of Try.func7 (by kernel_rfl) (by kernel_rfl)
theorem laws_FnExactHoldsOk_g : PM.GOk Try.prog cx 7 ⟨[], laws_FnExactHoldsOk_w (laws_FnExactHoldsOk PM.std), none⟩ := by
  refine ⟨laws_FnExactHoldsOk_fn.enter, fun _ ds k r h => ?_, fun hm => absurd rfl hm, fun _ e => (by cases e)⟩
  change laws_FnExactHoldsOk_w (laws_FnExactHoldsOk PM.std) ds k = some r at h
  unfold laws_FnExactHoldsOk_w at h
  split at h
  · exact PM.pfun_ok (E := laws_FnExactHoldsOk_E PM.std (laws_szHoldS PM.std) (laws_toHoldS PM.std) (spec_HoldsOk PM.std) (impl_HoldsOk PM.std) (laws_eqHoldS PM.std)) (L := fun n => laws_FnExactHoldsOk_L PM.std (laws_szHoldS PM.std) (laws_toHoldS PM.std) (spec_HoldsOk PM.std) (impl_HoldsOk PM.std) (laws_eqHoldS PM.std) n) (N := PM.std.fuel) cx_ok (.cons laws_szHoldS_g (.cons laws_toHoldS_g (.cons spec_HoldsOk_g (.cons impl_HoldsOk_g (.cons laws_eqHoldS_g .nil))))) mixed .nil laws_FnExactHoldsOk_fn (by kernel_rfl) ⟨rfl, fun _ _ _ => rfl, fun n cur σ K r h => by cases h⟩
      ((laws_FnExactHoldsOk_ok PM.std (laws_szHoldS PM.std) (laws_toHoldS PM.std) (spec_HoldsOk PM.std) (impl_HoldsOk PM.std) (laws_eqHoldS PM.std) _ k).trans h)
  · cases h

abbrev impl_HoldOf_T := (List (List Int)) → (Int) → (Int) → ((Int) → PM.R) → PM.R
noncomputable def impl_HoldOf_w (c : impl_HoldOf_T) (ds : List PM.V) (k : PM.V → PM.R) : PM.R :=
  match ds with
  | [.arr (.vecs 73 3 l), .int .i64 who, .int .i64 what] => c l who what (fun r0 => k (.int .i64 r0))
  | _ => none
noncomputable def impl_HoldOf_l0 (A : PM.Prims) (c_39 : impl_HoldsOk_T) : Nat → (Int) → (Int) → (List (List Int)) → (Int) → (Int) → ((Int) → PM.R) → (Unit → PM.R) → PM.R
  | 0, _, _, _, _, _, _, _ => none
  | n + 1, who2, what3, t124, t135, t146, kret_0, kx0_0 =>
    bif (A.lt t146 t135) then
      bif (A.inb t146 (A.vlen t124)) then
        bif (A.eq (A.vget t124 t146 0) who2) then
          bif (A.eq (A.vget t124 t146 1) what3) then
            kret_0 (A.vget t124 t146 2)
          else
            impl_HoldOf_l0 A c_39 n who2 what3 t124 t135 (A.add .i64 t146 1) kret_0 kx0_0
        else
          impl_HoldOf_l0 A c_39 n who2 what3 t124 t135 (A.add .i64 t146 1) kret_0 kx0_0
      else
        none
    else
      kx0_0 ()
noncomputable def impl_HoldOf_f (A : PM.Prims) (c_39 : impl_HoldsOk_T) (l : List (List Int)) (who : Int) (what : Int) (k : (Int) → PM.R) : PM.R :=
  c_39 l (fun r1 =>
    bif (A.not r1) then
      k 0
    else
      impl_HoldOf_l0 A c_39 A.fuel who what l (A.vlen l) 0 (fun t678 =>
        k t678) (fun _ =>
        k 0))
noncomputable def impl_HoldOf (A : PM.Prims) : impl_HoldOf_T := impl_HoldOf_f A (impl_HoldsOk A)
noncomputable def impl_HoldOf_L (A : PM.Prims) (c_39 : impl_HoldsOk_T) (n : Nat) : PM.Lam := fun cur σ K =>
  match cur, σ, K with
  | 0, ⟨[(1, .int .i64 who2), (2, .int .i64 what3), (12, .arr (.vecs 73 3 t124)), (13, .int .i64 t135), (14, .int .i64 t146)], []⟩, K => impl_HoldOf_l0 A c_39 n who2 what3 t124 t135 t146 (fun t67 => K .ret ⟨[(6, .int .i64 t67)], []⟩) (fun _ => K (.exit 0) ⟨[], []⟩)
  | _, _, _ => none
noncomputable def impl_HoldOf_E (A : PM.Prims) (c_39 : impl_HoldsOk_T) : PM.Env := ⟨[(39, ⟨[], impl_HoldsOk_w c_39, none⟩)], [], [(0, [1, 2, 12, 13, 14], [6])], [(0, [0, 1, 2]), (1, [0, 1, 2, 11]), (2, [6]), (3, [1, 2, 12, 13, 14]), (4, [1, 2, 12, 13, 14, 15]), (5, [1, 2, 8, 12, 13, 14]), (6, [1, 2, 8, 12, 13, 14, 27]), (7, [6]), (8, [1, 2, 12, 13, 14]), (9, [6])], impl_HoldOf_L A c_39 A.fuel⟩
theorem impl_HoldOf_l0_ok (A : PM.Prims) (c_39 : impl_HoldsOk_T) (n : Nat) (who2 : Int) (what3 : Int) (t124 : List (List Int)) (t135 : Int) (t146 : Int) (K : Go.Exit → PM.S → PM.R) : impl_HoldOf_L A c_39 (n + 1) 0 ⟨[(1, .int .i64 who2), (2, .int .i64 what3), (12, .arr (.vecs 73 3 t124)), (13, .int .i64 t135), (14, .int .i64 t146)], []⟩ K = PM.roundF A cx (PM.runD A cx (impl_HoldOf_E A c_39).inl (impl_HoldOf_E A c_39).Γ 3) (impl_HoldOf_E A c_39) (impl_HoldOf_L A c_39 n) 0 Go.Proofs.Try.f42 ⟨[(1, .int .i64 who2), (2, .int .i64 what3), (12, .arr (.vecs 73 3 t124)), (13, .int .i64 t135), (14, .int .i64 t146)], []⟩ K := by kernel_rfl
theorem impl_HoldOf_ok (A : PM.Prims) (c_39 : impl_HoldsOk_T) (l : List (List Int)) (who : Int) (what : Int) (k : PM.V → PM.R) : PM.pfun A cx [] (impl_HoldOf_E A c_39) Go.Proofs.Try.f42 [.arr (.vecs 73 3 l), .int .i64 who, .int .i64 what] k = impl_HoldOf_f A c_39 l who what (fun r0 => k (.int .i64 r0)) := by kernel_rfl

theorem impl_HoldOf_fn : PM.FnIs Try.prog 42 Try.f42 := .of Try.func42 (by kernel_rfl) (by kernel_rfl)
theorem impl_HoldOf_g : PM.GOk Try.prog cx 42 ⟨[], impl_HoldOf_w (impl_HoldOf PM.std), none⟩ := by
  refine ⟨impl_HoldOf_fn.enter, fun _ ds k r h => ?_, fun hm => absurd rfl hm, fun _ e => (by cases e)⟩
  change impl_HoldOf_w (impl_HoldOf PM.std) ds k = some r at h
  unfold impl_HoldOf_w at h
  split at h
  · exact PM.pfun_ok (E := impl_HoldOf_E PM.std (impl_HoldsOk PM.std)) (L := fun n => impl_HoldOf_L PM.std (impl_HoldsOk PM.std) n) (N := PM.std.fuel) cx_ok (.cons impl_HoldsOk_g .nil) mixed .nil impl_HoldOf_fn (by kernel_rfl) ⟨rfl, fun cur σ K => by
      dsimp only [impl_HoldOf_L]
      split <;> rfl, fun n cur σ K r h => by
      dsimp only [impl_HoldOf_L] at h
      split at h
      · exact (impl_HoldOf_l0_ok PM.std (impl_HoldsOk PM.std) n _ _ _ _ _ K).symm.trans h
      · cases h⟩
      ((impl_HoldOf_ok PM.std (impl_HoldsOk PM.std) _ _ _ k).trans h)
  · cases h

abbrev laws_FnExactHoldOf_T := (List (List Int)) → (Int) → (Int) → ((Bool) → PM.R) → PM.R
noncomputable def laws_FnExactHoldOf_w (c : laws_FnExactHoldOf_T) (ds : List PM.V) (k : PM.V → PM.R) : PM.R :=
  match ds with
  | [.arr (.vecs 124 3 aL), .int .i64 aWho, .int .i64 aWhat] => c aL aWho aWhat (fun r0 => k (.bool r0))
  | _ => none
noncomputable def laws_FnExactHoldOf_f (A : PM.Prims) (c_36 : laws_szHoldS_T) (c_38 : laws_toHoldS_T) (c_40 : laws_eqHoldS_T) (c_41 : spec_HoldOf_T) (c_42 : impl_HoldOf_T) (aL : List (List Int)) (aWho : Int) (aWhat : Int) (k : (Bool) → PM.R) : PM.R :=
  c_36 aL 1048576 (fun r1 =>
    bif (A.lt r1 0) then
      k true
    else
      c_38 aL (fun r2 =>
        c_41 r2 aWho aWhat (fun r3 =>
          c_38 aL (fun r4 =>
            c_42 r4 aWho aWhat (fun r5 =>
              bif (A.not (A.eq r5 r3)) then
                k false
              else
                c_38 aL (fun r6 =>
                  c_40 r4 r6 (fun r7 =>
                    bif (A.not r7) then
                      k false
                    else
                      k true)))))))
noncomputable def laws_FnExactHoldOf (A : PM.Prims) : laws_FnExactHoldOf_T := laws_FnExactHoldOf_f A (laws_szHoldS A) (laws_toHoldS A) (laws_eqHoldS A) (spec_HoldOf A) (impl_HoldOf A)
noncomputable def laws_FnExactHoldOf_L (A : PM.Prims) (c_36 : laws_szHoldS_T) (c_38 : laws_toHoldS_T) (c_40 : laws_eqHoldS_T) (c_41 : spec_HoldOf_T) (c_42 : impl_HoldOf_T) (n : Nat) : PM.Lam := fun cur σ K =>
  match cur, σ, K with
  | _, _, _ => none
noncomputable def laws_FnExactHoldOf_E (A : PM.Prims) (c_36 : laws_szHoldS_T) (c_38 : laws_toHoldS_T) (c_40 : laws_eqHoldS_T) (c_41 : spec_HoldOf_T) (c_42 : impl_HoldOf_T) : PM.Env := ⟨[(36, ⟨[], laws_szHoldS_w c_36, none⟩), (38, ⟨[], laws_toHoldS_w c_38, none⟩), (40, ⟨[], laws_eqHoldS_w c_40, none⟩), (41, ⟨[], spec_HoldOf_w c_41, none⟩), (42, ⟨[], impl_HoldOf_w c_42, none⟩)], [], [], [(0, [0, 1, 2]), (1, [0, 1, 2, 7]), (2, [0, 1, 2, 7]), (3, [0, 1, 2, 15]), (4, [6]), (5, [0, 1, 2, 8]), (6, [0, 1, 2, 8, 9]), (7, [0, 8, 9, 10]), (8, [0, 9, 29]), (9, [6]), (10, [34]), (11, [6]), (12, [6])], laws_FnExactHoldOf_L A c_36 c_38 c_40 c_41 c_42 A.fuel⟩
theorem laws_FnExactHoldOf_ok (A : PM.Prims) (c_36 : laws_szHoldS_T) (c_38 : laws_toHoldS_T) (c_40 : laws_eqHoldS_T) (c_41 : spec_HoldOf_T) (c_42 : impl_HoldOf_T) (aL : List (List Int)) (aWho : Int) (aWhat : Int) (k : PM.V → PM.R) : PM.pfun A cx [] (laws_FnExactHoldOf_E A c_36 c_38 c_40 c_41 c_42) Go.Proofs.Try.f8 [.arr (.vecs 124 3 aL), .int .i64 aWho, .int .i64 aWhat] k = laws_FnExactHoldOf_f A c_36 c_38 c_40 c_41 c_42 aL aWho aWhat (fun r0 => k (.bool r0)) := by kernel_rfl

theorem laws_FnExactHoldOf_fn : PM.FnIs Try.prog 8 Try.f8 := .of Try.func8 (by kernel_rfl) (by kernel_rfl)
theorem laws_FnExactHoldOf_g : PM.GOk Try.prog cx 8 ⟨[], laws_FnExactHoldOf_w (laws_FnExactHoldOf PM.std), none⟩ := by
  refine ⟨laws_FnExactHoldOf_fn.enter, fun _ ds k r h => ?_, fun hm => absurd rfl hm, fun _ e => (by cases e)⟩
  change laws_FnExactHoldOf_w (laws_FnExactHoldOf PM.std) ds k = some r at h
  unfold laws_FnExactHoldOf_w at h
  split at h
  · exact PM.pfun_ok (E := laws_FnExactHoldOf_E PM.std (laws_szHoldS PM.std) (laws_toHoldS PM.std) (laws_eqHoldS PM.std) (spec_HoldOf PM.std) (impl_HoldOf PM.std)) (L := fun n => laws_FnExactHoldOf_L PM.std (laws_szHoldS PM.std) (laws_toHoldS PM.std) (laws_eqHoldS PM.std) (spec_HoldOf PM.std) (impl_HoldOf PM.std) n) (N := PM.std.fuel) cx_ok (.cons laws_szHoldS_g (.cons laws_toHoldS_g (.cons laws_eqHoldS_g (.cons spec_HoldOf_g (.cons impl_HoldOf_g .nil))))) mixed .nil laws_FnExactHoldOf_fn (by kernel_rfl) ⟨rfl, fun _ _ _ => rfl, fun n cur σ K r h => by cases h⟩
      ((laws_FnExactHoldOf_ok PM.std (laws_szHoldS PM.std) (laws_toHoldS PM.std) (laws_eqHoldS PM.std) (spec_HoldOf PM.std) (impl_HoldOf PM.std) _ _ _ k).trans h)
  · cases h

abbrev spec_CommitBreak_T := (Int) → (Int) → (Int) → (Int) → (Int) → (List (List Int)) → (List Int) → ((Int) → (Int) → (Int) → (Int) → (Int) → (List (List Int)) → (List Int) → (Bool) → PM.R) → PM.R
noncomputable def spec_CommitBreak_w (c : spec_CommitBreak_T) (ds : List PM.V) (k : PM.V → PM.R) : PM.R :=
  match ds with
  | [.agg [.int .i64 c_Who, .int .i64 c_Rv, .int .i64 c_Phase, .int .i64 c_At, .int .i64 c_Wv, .arr (.vecs 135 2 c_Puts), .arr (.ints 3 .i64 c_Reads)]] => c c_Who c_Rv c_Phase c_At c_Wv c_Puts c_Reads (fun r0_Who r0_Rv r0_Phase r0_At r0_Wv r0_Puts r0_Reads r1 => k (.tup [.agg [.int .i64 r0_Who, .int .i64 r0_Rv, .int .i64 r0_Phase, .int .i64 r0_At, .int .i64 r0_Wv, .arr (.vecs 135 2 r0_Puts), .arr (.ints 3 .i64 r0_Reads)], .bool r1]))
  | _ => none
noncomputable def spec_CommitBreak_f (A : PM.Prims) (c_60 : spec_CommitOk_T) (c_131 : spec_l10Copy_T) (c_Who : Int) (c_Rv : Int) (c_Phase : Int) (c_At : Int) (c_Wv : Int) (c_Puts : List (List Int)) (c_Reads : List Int) (k : (Int) → (Int) → (Int) → (Int) → (Int) → (List (List Int)) → (List Int) → (Bool) → PM.R) : PM.R :=
  c_131 c_Who c_Rv c_Phase c_At c_Wv c_Puts c_Reads (fun r1 r2 r3 r4 r5 r6 r7 =>
    c_60 c_Who c_Rv c_Phase c_At c_Wv c_Puts c_Reads (fun r8 =>
      bif (A.not r8) then
        k r1 r2 r3 r4 r5 r6 r7 false
      else
        bif (A.lt 3 c_Phase) then
          k r1 r2 r3 r4 r5 r6 r7 false
        else
          bif (A.eq c_Phase 1) then
            bif (A.eq c_At 0) then
              k r1 r2 8 0 r5 r6 r7 true
            else
              k r1 r2 7 (A.sub .i64 c_At 1) r5 r6 r7 true
          else
            bif (A.eq (A.vlen c_Puts) 0) then
              k r1 r2 8 0 r5 r6 r7 true
            else
              k r1 r2 7 (A.sub .i64 (A.vlen c_Puts) 1) r5 r6 r7 true))
noncomputable def spec_CommitBreak (A : PM.Prims) : spec_CommitBreak_T := spec_CommitBreak_f A (spec_CommitOk A) (spec_l10Copy A)
noncomputable def spec_CommitBreak_L (A : PM.Prims) (c_60 : spec_CommitOk_T) (c_131 : spec_l10Copy_T) (n : Nat) : PM.Lam := fun cur σ K =>
  match cur, σ, K with
  | _, _, _ => none
noncomputable def spec_CommitBreak_E (A : PM.Prims) (c_60 : spec_CommitOk_T) (c_131 : spec_l10Copy_T) : PM.Env := ⟨[(60, ⟨[], spec_CommitOk_w c_60, none⟩), (131, ⟨[], spec_l10Copy_w c_131, none⟩), (132, ⟨[], fun _ _ => none, some (PM.spT (X.l10Back_t A))⟩)], [], [], [(0, [1, 2]), (1, [1, 2, 4]), (2, [1, 2, 4, 14]), (3, [2, 3]), (4, [1, 2, 4, 18]), (5, [2, 3]), (6, [2, 3])], spec_CommitBreak_L A c_60 c_131 A.fuel⟩
theorem spec_CommitBreak_ok (A : PM.Prims) (c_60 : spec_CommitOk_T) (c_131 : spec_l10Copy_T) (c_Who : Int) (c_Rv : Int) (c_Phase : Int) (c_At : Int) (c_Wv : Int) (c_Puts : List (List Int)) (c_Reads : List Int) (k : PM.V → PM.R) : PM.pfun A cx [] (spec_CommitBreak_E A c_60 c_131) Go.Proofs.Try.f74 [.agg [.int .i64 c_Who, .int .i64 c_Rv, .int .i64 c_Phase, .int .i64 c_At, .int .i64 c_Wv, .arr (.vecs 135 2 c_Puts), .arr (.ints 3 .i64 c_Reads)]] k = spec_CommitBreak_f A c_60 c_131 c_Who c_Rv c_Phase c_At c_Wv c_Puts c_Reads (fun r0_Who r0_Rv r0_Phase r0_At r0_Wv r0_Puts r0_Reads r1 => k (.tup [.agg [.int .i64 r0_Who, .int .i64 r0_Rv, .int .i64 r0_Phase, .int .i64 r0_At, .int .i64 r0_Wv, .arr (.vecs 135 2 r0_Puts), .arr (.ints 3 .i64 r0_Reads)], .bool r1])) := by kernel_rfl

theorem spec_CommitBreak_fn : PM.FnIs Try.prog 74 Try.f74 := .of Try.func74 (by kernel_rfl) (by kernel_rfl)
theorem spec_CommitBreak_g : PM.GOk Try.prog cx 74 ⟨[], spec_CommitBreak_w (spec_CommitBreak PM.std), none⟩ := by
  refine ⟨spec_CommitBreak_fn.enter, fun _ ds k r h => ?_, fun hm => absurd rfl hm, fun _ e => (by cases e)⟩
  change spec_CommitBreak_w (spec_CommitBreak PM.std) ds k = some r at h
  unfold spec_CommitBreak_w at h
  split at h
  · exact PM.pfun_ok (E := spec_CommitBreak_E PM.std (spec_CommitOk PM.std) (spec_l10Copy PM.std)) (L := fun n => spec_CommitBreak_L PM.std (spec_CommitOk PM.std) (spec_l10Copy PM.std) n) (N := PM.std.fuel) cx_ok (.cons spec_CommitOk_g (.cons spec_l10Copy_g (.cons X.l10Back_gok .nil))) mixed .nil spec_CommitBreak_fn (by kernel_rfl) ⟨rfl, fun _ _ _ => rfl, fun n cur σ K r h => by cases h⟩
      ((spec_CommitBreak_ok PM.std (spec_CommitOk PM.std) (spec_l10Copy PM.std) _ _ _ _ _ _ _ k).trans h)
  · cases h

abbrev laws_FnExactCommitBreak_T := (Int) → (Int) → (Int) → (Int) → (Int) → (List (List Int)) → (List Int) → ((Bool) → PM.R) → PM.R
noncomputable def laws_FnExactCommitBreak_w (c : laws_FnExactCommitBreak_T) (ds : List PM.V) (k : PM.V → PM.R) : PM.R :=
  match ds with
  | [.agg [.int .i64 ___Who, .int .i64 ___Rv, .int .i64 ___Phase, .int .i64 ___At, .int .i64 ___Wv, .arr (.vecs 139 2 ___Puts), .arr (.ints 3 .i64 ___Reads)]] => c ___Who ___Rv ___Phase ___At ___Wv ___Puts ___Reads (fun r0 => k (.bool r0))
  | _ => none
noncomputable def laws_FnExactCommitBreak_f (A : PM.Prims) (c_59 : laws_szCommit_T) (c_61 : laws_toCommit_T) (c_63 : laws_eqCommit_T) (c_72 : laws_markCommit_T) (c_73 : laws_heldCommit_T) (c_75 : impl_CommitBreak_T) (c_74 : spec_CommitBreak_T) (___Who : Int) (___Rv : Int) (___Phase : Int) (___At : Int) (___Wv : Int) (___Puts : List (List Int)) (___Reads : List Int) (k : (Bool) → PM.R) : PM.R :=
  c_59 ___Who ___Rv ___Phase ___At ___Wv ___Puts ___Reads 1048576 (fun r1 =>
    bif (A.lt r1 0) then
      k true
    else
      c_61 ___Who ___Rv ___Phase ___At ___Wv ___Puts ___Reads (fun r2 r3 r4 r5 r6 r7 r8 =>
        c_74 r2 r3 r4 r5 r6 r7 r8 (fun r9 r10 r11 r12 r13 r14 r15 r16 =>
          c_61 ___Who ___Rv ___Phase ___At ___Wv ___Puts ___Reads (fun r17 r18 r19 r20 r21 r22 r23 =>
            c_75 r17 r18 r19 r20 r21 r22 r23 (fun r24 r25 r26 r27 r28 r29 r30 r31 =>
              c_63 r24 r25 r26 r27 r28 r29 r30 r9 r10 r11 r12 r13 r14 r15 (fun r32 =>
                bif (A.not r32) then
                  k false
                else
                  bif (A.not (A.beq r31 r16)) then
                    k false
                  else
                    c_61 ___Who ___Rv ___Phase ___At ___Wv ___Puts ___Reads (fun r33 r34 r35 r36 r37 r38 r39 =>
                      c_63 r17 r18 r19 r20 r21 r22 r23 r33 r34 r35 r36 r37 r38 r39 (fun r40 =>
                        bif (A.not r40) then
                          k false
                        else
                          c_72 r17 r18 r19 r20 r21 r22 r23 1 (fun r41 r42 r43 =>
                            bif (A.lt r41 0) then
                              k false
                            else
                              c_63 r24 r25 r26 r27 r28 r29 r30 r9 r10 r11 r12 r13 r14 r15 (fun r44 =>
                                bif (A.not r44) then
                                  k false
                                else
                                  bif (A.not (A.beq r31 r16)) then
                                    k false
                                  else
                                    c_72 r24 r25 r26 r27 r28 r29 r30 1 (fun r45 r46 r47 =>
                                      c_73 r24 r25 r26 r27 r28 r46 r47 1 (fun r48 =>
                                        bif (A.lt r48 0) then
                                          k false
                                        else
                                          bif (A.not (A.eq r48 r45)) then
                                            k false
                                          else
                                            c_61 ___Who ___Rv ___Phase ___At ___Wv ___Puts ___Reads (fun r49 r50 r51 r52 r53 r54 r55 =>
                                              c_75 r49 r50 r51 r52 r53 r54 r55 (fun r56 r57 r58 r59 r60 r61 r62 r63 =>
                                                c_63 r56 r57 r58 r59 r60 r61 r62 r9 r10 r11 r12 r13 r14 r15 (fun r64 =>
                                                  bif (A.not r64) then
                                                    k false
                                                  else
                                                    bif (A.not (A.beq r63 r16)) then
                                                      k false
                                                    else
                                                      c_73 r24 r25 r26 r27 r28 r46 r47 1 (fun r65 =>
                                                        bif (A.lt r65 0) then
                                                          k false
                                                        else
                                                          bif (A.not (A.eq r65 r45)) then
                                                            k false
                                                          else
                                                            k true))))))))))))))))
noncomputable def laws_FnExactCommitBreak (A : PM.Prims) : laws_FnExactCommitBreak_T := laws_FnExactCommitBreak_f A (laws_szCommit A) (laws_toCommit A) (laws_eqCommit A) (laws_markCommit A) (laws_heldCommit A) (impl_CommitBreak A) (spec_CommitBreak A)
noncomputable def laws_FnExactCommitBreak_L (A : PM.Prims) (c_59 : laws_szCommit_T) (c_61 : laws_toCommit_T) (c_63 : laws_eqCommit_T) (c_72 : laws_markCommit_T) (c_73 : laws_heldCommit_T) (c_75 : impl_CommitBreak_T) (c_74 : spec_CommitBreak_T) (n : Nat) : PM.Lam := fun cur σ K =>
  match cur, σ, K with
  | _, _, _ => none
noncomputable def laws_FnExactCommitBreak_E (A : PM.Prims) (c_59 : laws_szCommit_T) (c_61 : laws_toCommit_T) (c_63 : laws_eqCommit_T) (c_72 : laws_markCommit_T) (c_73 : laws_heldCommit_T) (c_75 : impl_CommitBreak_T) (c_74 : spec_CommitBreak_T) : PM.Env := ⟨[(59, ⟨[], laws_szCommit_w c_59, none⟩), (61, ⟨[], laws_toCommit_w c_61, none⟩), (63, ⟨[], laws_eqCommit_w c_63, none⟩), (72, ⟨[true, false], laws_markCommit_w c_72, none⟩), (73, ⟨[], laws_heldCommit_w c_73, none⟩), (75, ⟨[], impl_CommitBreak_w c_75, none⟩), (74, ⟨[], spec_CommitBreak_w c_74, none⟩)], [], [], [(0, [1]), (1, [1, 3]), (2, [1, 3]), (3, [1, 18]), (4, [2]), (5, [1, 4, 5]), (6, [1, 4, 5, 6]), (7, [1, 4, 5, 6, 7, 8]), (8, [1, 4, 5, 6, 7, 8, 40]), (9, [2]), (10, [1, 4, 5, 6, 7, 8, 45]), (11, [2]), (12, [1, 4, 5, 6, 7, 8, 9]), (13, [1, 4, 5, 7, 8, 9]), (14, [1, 4, 5, 7, 61]), (15, [2]), (16, [1, 4, 5, 7, 10]), (17, [1, 4, 5, 7, 10]), (18, [1, 4, 5, 7, 10, 11]), (19, [1, 4, 5, 7, 10, 11]), (20, [1, 4, 5, 7, 10, 11, 69]), (21, [2]), (22, [1, 4, 5, 7, 10, 72]), (23, [2]), (24, [4, 5, 7, 10, 12, 13]), (25, [7, 10, 87]), (26, [2]), (27, [7, 10, 11]), (28, [10, 11]), (29, [10, 11, 92]), (30, [2]), (31, [95]), (32, [2]), (33, [2])], laws_FnExactCommitBreak_L A c_59 c_61 c_63 c_72 c_73 c_75 c_74 A.fuel⟩
theorem laws_FnExactCommitBreak_ok (A : PM.Prims) (c_59 : laws_szCommit_T) (c_61 : laws_toCommit_T) (c_63 : laws_eqCommit_T) (c_72 : laws_markCommit_T) (c_73 : laws_heldCommit_T) (c_75 : impl_CommitBreak_T) (c_74 : spec_CommitBreak_T) (___Who : Int) (___Rv : Int) (___Phase : Int) (___At : Int) (___Wv : Int) (___Puts : List (List Int)) (___Reads : List Int) (k : PM.V → PM.R) : PM.pfun A cx [] (laws_FnExactCommitBreak_E A c_59 c_61 c_63 c_72 c_73 c_75 c_74) Go.Proofs.Try.f17 [.agg [.int .i64 ___Who, .int .i64 ___Rv, .int .i64 ___Phase, .int .i64 ___At, .int .i64 ___Wv, .arr (.vecs 139 2 ___Puts), .arr (.ints 3 .i64 ___Reads)]] k = laws_FnExactCommitBreak_f A c_59 c_61 c_63 c_72 c_73 c_75 c_74 ___Who ___Rv ___Phase ___At ___Wv ___Puts ___Reads (fun r0 => k (.bool r0)) := by kernel_rfl

theorem laws_FnExactCommitBreak_fn : PM.FnIs Try.prog 17 Try.f17 := .of Try.func17 (by kernel_rfl) (by kernel_rfl)
theorem laws_FnExactCommitBreak_g : PM.GOk Try.prog cx 17 ⟨[], laws_FnExactCommitBreak_w (laws_FnExactCommitBreak PM.std), none⟩ := by
  refine ⟨laws_FnExactCommitBreak_fn.enter, fun _ ds k r h => ?_, fun hm => absurd rfl hm, fun _ e => (by cases e)⟩
  change laws_FnExactCommitBreak_w (laws_FnExactCommitBreak PM.std) ds k = some r at h
  unfold laws_FnExactCommitBreak_w at h
  split at h
  · exact PM.pfun_ok (E := laws_FnExactCommitBreak_E PM.std (laws_szCommit PM.std) (laws_toCommit PM.std) (laws_eqCommit PM.std) (laws_markCommit PM.std) (laws_heldCommit PM.std) (impl_CommitBreak PM.std) (spec_CommitBreak PM.std)) (L := fun n => laws_FnExactCommitBreak_L PM.std (laws_szCommit PM.std) (laws_toCommit PM.std) (laws_eqCommit PM.std) (laws_markCommit PM.std) (laws_heldCommit PM.std) (impl_CommitBreak PM.std) (spec_CommitBreak PM.std) n) (N := PM.std.fuel) cx_ok (.cons laws_szCommit_g (.cons laws_toCommit_g (.cons laws_eqCommit_g (.cons laws_markCommit_g (.cons laws_heldCommit_g (.cons impl_CommitBreak_g (.cons spec_CommitBreak_g .nil))))))) mixed .nil laws_FnExactCommitBreak_fn (by kernel_rfl) ⟨rfl, fun _ _ _ => rfl, fun n cur σ K r h => by cases h⟩
      ((laws_FnExactCommitBreak_ok PM.std (laws_szCommit PM.std) (laws_toCommit PM.std) (laws_eqCommit PM.std) (laws_markCommit PM.std) (laws_heldCommit PM.std) (impl_CommitBreak PM.std) (spec_CommitBreak PM.std) _ _ _ _ _ _ _ k).trans h)
  · cases h

abbrev spec_CommitStep_T := (Int) → (List (List Int)) → (Int) → (Int) → (Int) → (Int) → (Int) → (List (List Int)) → (List Int) → ((Int) → (List (List Int)) → (Int) → (Int) → (Int) → (Int) → (Int) → (List (List Int)) → (List Int) → PM.R) → PM.R
noncomputable def spec_CommitStep_w (c : spec_CommitStep_T) (ds : List PM.V) (k : PM.V → PM.R) : PM.R :=
  match ds with
  | [.agg [.int .i64 ___Clock, .arr (.vecs 49 3 ___Cells)], .agg [.int .i64 a_Who, .int .i64 a_Rv, .int .i64 a_Phase, .int .i64 a_At, .int .i64 a_Wv, .arr (.vecs 135 2 a_Puts), .arr (.ints 3 .i64 a_Reads)]] => c ___Clock ___Cells a_Who a_Rv a_Phase a_At a_Wv a_Puts a_Reads (fun r0_Clock r0_Cells r1_Who r1_Rv r1_Phase r1_At r1_Wv r1_Puts r1_Reads => k (.tup [.agg [.int .i64 r0_Clock, .arr (.vecs 49 3 r0_Cells)], .agg [.int .i64 r1_Who, .int .i64 r1_Rv, .int .i64 r1_Phase, .int .i64 r1_At, .int .i64 r1_Wv, .arr (.vecs 135 2 r1_Puts), .arr (.ints 3 .i64 r1_Reads)]]))
  | _ => none
noncomputable def spec_CommitStep_f (A : PM.Prims) (c_35 : spec_MemOk_T) (c_60 : spec_CommitOk_T) (c_131 : spec_l10Copy_T) (c_135 : spec_l3Copy_T) (c_136 : spec_Lock_T) (c_138 : spec_Tick_T) (c_139 : spec_Store_T) (c_140 : spec_Unlock_T) (___Clock : Int) (___Cells : List (List Int)) (a_Who : Int) (a_Rv : Int) (a_Phase : Int) (a_At : Int) (a_Wv : Int) (a_Puts : List (List Int)) (a_Reads : List Int) (k : (Int) → (List (List Int)) → (Int) → (Int) → (Int) → (Int) → (Int) → (List (List Int)) → (List Int) → PM.R) : PM.R :=
  c_135 ___Clock ___Cells (fun r1 r2 =>
    c_131 a_Who a_Rv a_Phase a_At a_Wv a_Puts a_Reads (fun r3 r4 r5 r6 r7 r8 r9 =>
      c_35 ___Clock ___Cells (fun r10 =>
        bif (A.not r10) then
          k r1 r2 r3 r4 r5 r6 r7 r8 r9
        else
          c_60 a_Who a_Rv a_Phase a_At a_Wv a_Puts a_Reads (fun r11 =>
            bif (A.not r11) then
              k r1 r2 r3 r4 r5 r6 r7 r8 r9
            else
              bif (A.eq a_Phase 1) then
                bif (A.inb a_At (A.vlen a_Puts)) then
                  c_136 ___Clock ___Cells (A.vget a_Puts a_At 0) a_Who (fun r12 r13 r14 =>
                    bif (A.not r14) then
                      bif (A.eq a_At 0) then
                        k r1 r2 r3 r4 8 0 r7 r8 r9
                      else
                        k r1 r2 r3 r4 7 (A.sub .i64 a_At 1) r7 r8 r9
                    else
                      bif (A.eq (A.add .i64 a_At 1) (A.vlen a_Puts)) then
                        bif (A.eq 2 3) then
                          bif (A.eq (A.ilen r9) 0) then
                            bif (A.eq 4 4) then
                              bif (A.eq (A.vlen r8) 0) then
                                k r12 r13 r3 r4 6 0 r7 r8 r9
                              else
                                k r12 r13 r3 r4 4 0 r7 r8 r9
                            else
                              k r12 r13 r3 r4 4 0 r7 r8 r9
                          else
                            bif (A.eq 2 4) then
                              bif (A.eq (A.vlen r8) 0) then
                                k r12 r13 r3 r4 6 0 r7 r8 r9
                              else
                                k r12 r13 r3 r4 2 0 r7 r8 r9
                            else
                              k r12 r13 r3 r4 2 0 r7 r8 r9
                        else
                          bif (A.eq 2 4) then
                            bif (A.eq (A.vlen r8) 0) then
                              k r12 r13 r3 r4 6 0 r7 r8 r9
                            else
                              k r12 r13 r3 r4 2 0 r7 r8 r9
                          else
                            k r12 r13 r3 r4 2 0 r7 r8 r9
                      else
                        k r12 r13 r3 r4 r5 (A.add .i64 a_At 1) r7 r8 r9)
                else
                  none
              else
                bif (A.eq a_Phase 2) then
                  c_138 ___Clock ___Cells (fun r15 r16 r17 =>
                    bif (A.eq r17 0) then
                      bif (A.eq (A.vlen a_Puts) 0) then
                        k r1 r2 r3 r4 8 0 r7 r8 r9
                      else
                        k r1 r2 r3 r4 7 (A.sub .i64 (A.vlen a_Puts) 1) r7 r8 r9
                    else
                      bif (A.eq 3 3) then
                        bif (A.eq (A.ilen r9) 0) then
                          bif (A.eq 4 4) then
                            bif (A.eq (A.vlen r8) 0) then
                              k r15 r16 r3 r4 6 0 r17 r8 r9
                            else
                              k r15 r16 r3 r4 4 0 r17 r8 r9
                          else
                            k r15 r16 r3 r4 4 0 r17 r8 r9
                        else
                          bif (A.eq 3 4) then
                            bif (A.eq (A.vlen r8) 0) then
                              k r15 r16 r3 r4 6 0 r17 r8 r9
                            else
                              k r15 r16 r3 r4 3 0 r17 r8 r9
                          else
                            k r15 r16 r3 r4 3 0 r17 r8 r9
                      else
                        bif (A.eq 3 4) then
                          bif (A.eq (A.vlen r8) 0) then
                            k r15 r16 r3 r4 6 0 r17 r8 r9
                          else
                            k r15 r16 r3 r4 3 0 r17 r8 r9
                        else
                          k r15 r16 r3 r4 3 0 r17 r8 r9)
                else
                  bif (A.eq a_Phase 3) then
                    bif (A.inb a_At (A.ilen a_Reads)) then
                      bif (A.inb (A.iget a_Reads a_At) (A.vlen ___Cells)) then
                        bif (A.not (A.eq (A.vget ___Cells (A.iget a_Reads a_At) 2) 0)) then
                          bif (A.not (A.eq (A.vget ___Cells (A.iget a_Reads a_At) 2) a_Who)) then
                            bif (A.eq (A.vlen a_Puts) 0) then
                              k r1 r2 r3 r4 8 0 r7 r8 r9
                            else
                              k r1 r2 r3 r4 7 (A.sub .i64 (A.vlen a_Puts) 1) r7 r8 r9
                          else
                            bif (A.lt a_Rv (A.vget ___Cells (A.iget a_Reads a_At) 1)) then
                              bif (A.eq (A.vlen a_Puts) 0) then
                                k r1 r2 r3 r4 8 0 r7 r8 r9
                              else
                                k r1 r2 r3 r4 7 (A.sub .i64 (A.vlen a_Puts) 1) r7 r8 r9
                            else
                              bif (A.eq (A.add .i64 a_At 1) (A.ilen a_Reads)) then
                                bif (A.eq 4 3) then
                                  bif (A.eq (A.ilen r9) 0) then
                                    bif (A.eq 4 4) then
                                      bif (A.eq (A.vlen r8) 0) then
                                        k r1 r2 r3 r4 6 0 r7 r8 r9
                                      else
                                        k r1 r2 r3 r4 4 0 r7 r8 r9
                                    else
                                      k r1 r2 r3 r4 4 0 r7 r8 r9
                                  else
                                    bif (A.eq 4 4) then
                                      bif (A.eq (A.vlen r8) 0) then
                                        k r1 r2 r3 r4 6 0 r7 r8 r9
                                      else
                                        k r1 r2 r3 r4 4 0 r7 r8 r9
                                    else
                                      k r1 r2 r3 r4 4 0 r7 r8 r9
                                else
                                  bif (A.eq 4 4) then
                                    bif (A.eq (A.vlen r8) 0) then
                                      k r1 r2 r3 r4 6 0 r7 r8 r9
                                    else
                                      k r1 r2 r3 r4 4 0 r7 r8 r9
                                  else
                                    k r1 r2 r3 r4 4 0 r7 r8 r9
                              else
                                k r1 r2 r3 r4 r5 (A.add .i64 a_At 1) r7 r8 r9
                        else
                          bif (A.lt a_Rv (A.vget ___Cells (A.iget a_Reads a_At) 1)) then
                            bif (A.eq (A.vlen a_Puts) 0) then
                              k r1 r2 r3 r4 8 0 r7 r8 r9
                            else
                              k r1 r2 r3 r4 7 (A.sub .i64 (A.vlen a_Puts) 1) r7 r8 r9
                          else
                            bif (A.eq (A.add .i64 a_At 1) (A.ilen a_Reads)) then
                              bif (A.eq 4 3) then
                                bif (A.eq (A.ilen r9) 0) then
                                  bif (A.eq 4 4) then
                                    bif (A.eq (A.vlen r8) 0) then
                                      k r1 r2 r3 r4 6 0 r7 r8 r9
                                    else
                                      k r1 r2 r3 r4 4 0 r7 r8 r9
                                  else
                                    k r1 r2 r3 r4 4 0 r7 r8 r9
                                else
                                  bif (A.eq 4 4) then
                                    bif (A.eq (A.vlen r8) 0) then
                                      k r1 r2 r3 r4 6 0 r7 r8 r9
                                    else
                                      k r1 r2 r3 r4 4 0 r7 r8 r9
                                  else
                                    k r1 r2 r3 r4 4 0 r7 r8 r9
                              else
                                bif (A.eq 4 4) then
                                  bif (A.eq (A.vlen r8) 0) then
                                    k r1 r2 r3 r4 6 0 r7 r8 r9
                                  else
                                    k r1 r2 r3 r4 4 0 r7 r8 r9
                                else
                                  k r1 r2 r3 r4 4 0 r7 r8 r9
                            else
                              k r1 r2 r3 r4 r5 (A.add .i64 a_At 1) r7 r8 r9
                      else
                        none
                    else
                      none
                  else
                    bif (A.eq a_Phase 4) then
                      bif (A.inb a_At (A.vlen a_Puts)) then
                        bif (A.inb a_At (A.vlen a_Puts)) then
                          c_139 ___Clock ___Cells (A.vget a_Puts a_At 0) a_Who (A.vget a_Puts a_At 1) (fun r18 r19 r20 =>
                            bif (A.eq (A.add .i64 a_At 1) (A.vlen a_Puts)) then
                              bif (A.eq 5 3) then
                                bif (A.eq (A.ilen r9) 0) then
                                  bif (A.eq 4 4) then
                                    bif (A.eq (A.vlen r8) 0) then
                                      k r18 r19 r3 r4 6 0 r7 r8 r9
                                    else
                                      k r18 r19 r3 r4 4 0 r7 r8 r9
                                  else
                                    k r18 r19 r3 r4 4 0 r7 r8 r9
                                else
                                  bif (A.eq 5 4) then
                                    bif (A.eq (A.vlen r8) 0) then
                                      k r18 r19 r3 r4 6 0 r7 r8 r9
                                    else
                                      k r18 r19 r3 r4 5 0 r7 r8 r9
                                  else
                                    k r18 r19 r3 r4 5 0 r7 r8 r9
                              else
                                bif (A.eq 5 4) then
                                  bif (A.eq (A.vlen r8) 0) then
                                    k r18 r19 r3 r4 6 0 r7 r8 r9
                                  else
                                    k r18 r19 r3 r4 5 0 r7 r8 r9
                                else
                                  k r18 r19 r3 r4 5 0 r7 r8 r9
                            else
                              k r18 r19 r3 r4 r5 (A.add .i64 a_At 1) r7 r8 r9)
                        else
                          none
                      else
                        none
                    else
                      bif (A.eq a_Phase 5) then
                        bif (A.inb a_At (A.vlen a_Puts)) then
                          c_140 ___Clock ___Cells (A.vget a_Puts a_At 0) a_Who a_Wv (fun r21 r22 r23 =>
                            bif (A.eq (A.add .i64 a_At 1) (A.vlen a_Puts)) then
                              k r21 r22 r3 r4 6 0 r7 r8 r9
                            else
                              k r21 r22 r3 r4 r5 (A.add .i64 a_At 1) r7 r8 r9)
                        else
                          none
                      else
                        bif (A.eq a_Phase 7) then
                          bif (A.inb a_At (A.vlen a_Puts)) then
                            bif (A.inb (A.vget a_Puts a_At 0) (A.vlen ___Cells)) then
                              c_140 ___Clock ___Cells (A.vget a_Puts a_At 0) a_Who (A.vget ___Cells (A.vget a_Puts a_At 0) 1) (fun r24 r25 r26 =>
                                bif (A.eq a_At 0) then
                                  k r24 r25 r3 r4 8 0 r7 r8 r9
                                else
                                  k r24 r25 r3 r4 7 (A.sub .i64 a_At 1) r7 r8 r9)
                            else
                              none
                          else
                            none
                        else
                          k r1 r2 r3 r4 r5 r6 r7 r8 r9))))
noncomputable def spec_CommitStep (A : PM.Prims) : spec_CommitStep_T := spec_CommitStep_f A (spec_MemOk A) (spec_CommitOk A) (spec_l10Copy A) (spec_l3Copy A) (spec_Lock A) (spec_Tick A) (spec_Store A) (spec_Unlock A)
noncomputable def spec_CommitStep_L (A : PM.Prims) (c_35 : spec_MemOk_T) (c_60 : spec_CommitOk_T) (c_131 : spec_l10Copy_T) (c_135 : spec_l3Copy_T) (c_136 : spec_Lock_T) (c_138 : spec_Tick_T) (c_139 : spec_Store_T) (c_140 : spec_Unlock_T) (n : Nat) : PM.Lam := fun cur σ K =>
  match cur, σ, K with
  | _, _, _ => none
noncomputable def spec_CommitStep_E (A : PM.Prims) (c_35 : spec_MemOk_T) (c_60 : spec_CommitOk_T) (c_131 : spec_l10Copy_T) (c_135 : spec_l3Copy_T) (c_136 : spec_Lock_T) (c_138 : spec_Tick_T) (c_139 : spec_Store_T) (c_140 : spec_Unlock_T) : PM.Env := ⟨[(35, ⟨[], spec_MemOk_w c_35, none⟩), (60, ⟨[], spec_CommitOk_w c_60, none⟩), (131, ⟨[], spec_l10Copy_w c_131, none⟩), (135, ⟨[], spec_l3Copy_w c_135, none⟩), (136, ⟨[], spec_Lock_w c_136, none⟩), (138, ⟨[], spec_Tick_w c_138, none⟩), (139, ⟨[], spec_Store_w c_139, none⟩), (140, ⟨[], spec_Unlock_w c_140, none⟩), (132, ⟨[], fun _ _ => none, some (PM.spT (X.l10Back_t A))⟩)], [(137, Go.Proofs.Try.f137)], [], [(0, [2, 3, 4, 5]), (1, [2, 3, 4, 5, 6]), (2, [2, 3, 4, 5, 6, 7]), (3, [2, 3, 4, 5, 6, 7, 31]), (4, [4, 5]), (5, [2, 3, 4, 5, 6, 7, 35]), (6, [2, 3, 4, 5, 6, 7, 35, 36]), (7, [3, 4, 5, 6, 7, 8, 9]), (8, [3, 4, 5, 6, 7, 8, 53]), (9, [4, 5]), (10, [3, 4, 5, 6, 7]), (11, [3, 4, 5, 6, 7]), (12, [4, 5, 6, 7, 69]), (13, [4, 5, 6, 7]), (14, [2, 3, 4, 5, 6, 7, 35, 72]), (15, [3, 4, 5, 6, 7, 10, 11]), (16, [3, 4, 5, 6, 7, 10, 11, 80]), (17, [4, 5]), (18, [4, 5, 6, 7, 11]), (19, [4, 5, 6, 7]), (20, [4, 5, 6, 7]), (21, [2, 3, 4, 5, 6, 7, 35, 92]), (22, [3, 4, 5, 6, 7, 12]), (23, [3, 4, 5, 6, 7, 120]), (24, [4, 5]), (25, [3, 4, 5, 6, 7]), (26, [4, 5, 6, 7, 136]), (27, [4, 5, 6, 7]), (28, [2, 3, 4, 5, 6, 7, 35, 139]), (29, [3, 4, 5, 6, 7, 13]), (30, [3, 4, 5, 6, 7]), (31, [3, 4, 5, 6, 7]), (32, [4, 5, 6, 7, 172]), (33, [4, 5, 6, 7]), (34, [2, 3, 4, 5, 6, 7, 35, 175]), (35, [3, 4, 5, 6, 7, 15]), (36, [3, 4, 5, 6, 7]), (37, [3, 4, 5, 6, 7]), (38, [4, 5, 6, 7, 203]), (39, [4, 5, 6, 7]), (40, [4, 5, 6, 7]), (41, [2, 3, 4, 5, 6, 7, 206]), (42, [2, 3, 4, 5, 6, 7, 17]), (43, [3, 4, 5, 6, 7, 18]), (44, [3, 4, 5, 6, 7]), (45, [4, 5, 6, 7]), (46, [4, 5])], spec_CommitStep_L A c_35 c_60 c_131 c_135 c_136 c_138 c_139 c_140 A.fuel⟩
theorem spec_CommitStep_ok (A : PM.Prims) (c_35 : spec_MemOk_T) (c_60 : spec_CommitOk_T) (c_131 : spec_l10Copy_T) (c_135 : spec_l3Copy_T) (c_136 : spec_Lock_T) (c_138 : spec_Tick_T) (c_139 : spec_Store_T) (c_140 : spec_Unlock_T) (___Clock : Int) (___Cells : List (List Int)) (a_Who : Int) (a_Rv : Int) (a_Phase : Int) (a_At : Int) (a_Wv : Int) (a_Puts : List (List Int)) (a_Reads : List Int) (k : PM.V → PM.R) : PM.pfun A cx [] (spec_CommitStep_E A c_35 c_60 c_131 c_135 c_136 c_138 c_139 c_140) Go.Proofs.Try.f76 [.agg [.int .i64 ___Clock, .arr (.vecs 49 3 ___Cells)], .agg [.int .i64 a_Who, .int .i64 a_Rv, .int .i64 a_Phase, .int .i64 a_At, .int .i64 a_Wv, .arr (.vecs 135 2 a_Puts), .arr (.ints 3 .i64 a_Reads)]] k = spec_CommitStep_f A c_35 c_60 c_131 c_135 c_136 c_138 c_139 c_140 ___Clock ___Cells a_Who a_Rv a_Phase a_At a_Wv a_Puts a_Reads (fun r0_Clock r0_Cells r1_Who r1_Rv r1_Phase r1_At r1_Wv r1_Puts r1_Reads => k (.tup [.agg [.int .i64 r0_Clock, .arr (.vecs 49 3 r0_Cells)], .agg [.int .i64 r1_Who, .int .i64 r1_Rv, .int .i64 r1_Phase, .int .i64 r1_At, .int .i64 r1_Wv, .arr (.vecs 135 2 r1_Puts), .arr (.ints 3 .i64 r1_Reads)]])) := by kernel_rfl

theorem spec_CommitStep_fn : PM.FnIs Try.prog 76 Try.f76 := .of Try.func76 (by kernel_rfl) (by kernel_rfl)
theorem spec_CommitStep_g : PM.GOk Try.prog cx 76 ⟨[], spec_CommitStep_w (spec_CommitStep PM.std), none⟩ := by
  refine ⟨spec_CommitStep_fn.enter, fun _ ds k r h => ?_, fun hm => absurd rfl hm, fun _ e => (by cases e)⟩
  change spec_CommitStep_w (spec_CommitStep PM.std) ds k = some r at h
  unfold spec_CommitStep_w at h
  split at h
  · exact PM.pfun_ok (E := spec_CommitStep_E PM.std (spec_MemOk PM.std) (spec_CommitOk PM.std) (spec_l10Copy PM.std) (spec_l3Copy PM.std) (spec_Lock PM.std) (spec_Tick PM.std) (spec_Store PM.std) (spec_Unlock PM.std)) (L := fun n => spec_CommitStep_L PM.std (spec_MemOk PM.std) (spec_CommitOk PM.std) (spec_l10Copy PM.std) (spec_l3Copy PM.std) (spec_Lock PM.std) (spec_Tick PM.std) (spec_Store PM.std) (spec_Unlock PM.std) n) (N := PM.std.fuel) cx_ok (.cons spec_MemOk_g (.cons spec_CommitOk_g (.cons spec_l10Copy_g (.cons spec_l3Copy_g (.cons spec_Lock_g (.cons spec_Tick_g (.cons spec_Store_g (.cons spec_Unlock_g (.cons X.l10Back_gok .nil))))))))) mixed (.cons (.of Try.func137 (by kernel_rfl) (by kernel_rfl)) (by kernel_rfl) .nil) spec_CommitStep_fn (by kernel_rfl) ⟨rfl, fun _ _ _ => rfl, fun n cur σ K r h => by cases h⟩
      ((spec_CommitStep_ok PM.std (spec_MemOk PM.std) (spec_CommitOk PM.std) (spec_l10Copy PM.std) (spec_l3Copy PM.std) (spec_Lock PM.std) (spec_Tick PM.std) (spec_Store PM.std) (spec_Unlock PM.std) _ _ _ _ _ _ _ _ _ k).trans h)
  · cases h

abbrev laws_FnExactCommitStep_T := (Int) → (List (List Int)) → (Int) → (Int) → (Int) → (Int) → (Int) → (List (List Int)) → (List Int) → ((Bool) → PM.R) → PM.R
noncomputable def laws_FnExactCommitStep_w (c : laws_FnExactCommitStep_T) (ds : List PM.V) (k : PM.V → PM.R) : PM.R :=
  match ds with
  | [.agg [.int .i64 ___Clock, .arr (.vecs 155 3 ___Cells)], .agg [.int .i64 a_Who, .int .i64 a_Rv, .int .i64 a_Phase, .int .i64 a_At, .int .i64 a_Wv, .arr (.vecs 139 2 a_Puts), .arr (.ints 3 .i64 a_Reads)]] => c ___Clock ___Cells a_Who a_Rv a_Phase a_At a_Wv a_Puts a_Reads (fun r0 => k (.bool r0))
  | _ => none
noncomputable def laws_FnExactCommitStep_f (A : PM.Prims) (c_28 : laws_szMem_T) (c_30 : laws_toMem_T) (c_32 : laws_eqMem_T) (c_59 : laws_szCommit_T) (c_61 : laws_toCommit_T) (c_63 : laws_eqCommit_T) (c_72 : laws_markCommit_T) (c_73 : laws_heldCommit_T) (c_77 : impl_CommitStep_T) (c_78 : laws_markMem_T) (c_79 : laws_heldMem_T) (c_76 : spec_CommitStep_T) (___Clock : Int) (___Cells : List (List Int)) (a_Who : Int) (a_Rv : Int) (a_Phase : Int) (a_At : Int) (a_Wv : Int) (a_Puts : List (List Int)) (a_Reads : List Int) (k : (Bool) → PM.R) : PM.R :=
  c_28 ___Clock ___Cells 1048576 (fun r1 =>
    bif (A.lt r1 0) then
      k true
    else
      c_59 a_Who a_Rv a_Phase a_At a_Wv a_Puts a_Reads r1 (fun r2 =>
        bif (A.lt r2 0) then
          k true
        else
          c_30 ___Clock ___Cells (fun r3 r4 =>
            c_61 a_Who a_Rv a_Phase a_At a_Wv a_Puts a_Reads (fun r5 r6 r7 r8 r9 r10 r11 =>
              c_76 r3 r4 r5 r6 r7 r8 r9 r10 r11 (fun r12 r13 r14 r15 r16 r17 r18 r19 r20 =>
                c_30 ___Clock ___Cells (fun r21 r22 =>
                  c_61 a_Who a_Rv a_Phase a_At a_Wv a_Puts a_Reads (fun r23 r24 r25 r26 r27 r28 r29 =>
                    c_77 r21 r22 r23 r24 r25 r26 r27 r28 r29 (fun r30 r31 r32 r33 r34 r35 r36 r37 r38 =>
                      c_32 r30 r31 r12 r13 (fun r39 =>
                        bif (A.not r39) then
                          k false
                        else
                          c_63 r32 r33 r34 r35 r36 r37 r38 r14 r15 r16 r17 r18 r19 r20 (fun r40 =>
                            bif (A.not r40) then
                              k false
                            else
                              c_30 ___Clock ___Cells (fun r41 r42 =>
                                c_32 r21 r22 r41 r42 (fun r43 =>
                                  bif (A.not r43) then
                                    k false
                                  else
                                    c_61 a_Who a_Rv a_Phase a_At a_Wv a_Puts a_Reads (fun r44 r45 r46 r47 r48 r49 r50 =>
                                      c_63 r23 r24 r25 r26 r27 r28 r29 r44 r45 r46 r47 r48 r49 r50 (fun r51 =>
                                        bif (A.not r51) then
                                          k false
                                        else
                                          c_78 r21 r22 1 (fun r52 r53 =>
                                            c_72 r23 r24 r25 r26 r27 r28 r29 r52 (fun r54 r55 r56 =>
                                              bif (A.lt r54 0) then
                                                k false
                                              else
                                                c_32 r30 r31 r12 r13 (fun r57 =>
                                                  bif (A.not r57) then
                                                    k false
                                                  else
                                                    c_63 r32 r33 r34 r35 r36 r37 r38 r14 r15 r16 r17 r18 r19 r20 (fun r58 =>
                                                      bif (A.not r58) then
                                                        k false
                                                      else
                                                        c_78 r30 r31 1 (fun r59 r60 =>
                                                          c_72 r32 r33 r34 r35 r36 r37 r38 r59 (fun r61 r62 r63 =>
                                                            c_79 r30 r60 1 (fun r64 =>
                                                              bif (A.lt r64 0) then
                                                                k false
                                                              else
                                                                c_73 r32 r33 r34 r35 r36 r62 r63 r64 (fun r65 =>
                                                                  bif (A.lt r65 0) then
                                                                    k false
                                                                  else
                                                                    bif (A.not (A.eq r65 r61)) then
                                                                      k false
                                                                    else
                                                                      c_30 ___Clock ___Cells (fun r66 r67 =>
                                                                        c_61 a_Who a_Rv a_Phase a_At a_Wv a_Puts a_Reads (fun r68 r69 r70 r71 r72 r73 r74 =>
                                                                          c_77 r66 r67 r68 r69 r70 r71 r72 r73 r74 (fun r75 r76 r77 r78 r79 r80 r81 r82 r83 =>
                                                                            c_32 r75 r76 r12 r13 (fun r84 =>
                                                                              bif (A.not r84) then
                                                                                k false
                                                                              else
                                                                                c_63 r77 r78 r79 r80 r81 r82 r83 r14 r15 r16 r17 r18 r19 r20 (fun r85 =>
                                                                                  bif (A.not r85) then
                                                                                    k false
                                                                                  else
                                                                                    c_79 r30 r60 1 (fun r86 =>
                                                                                      bif (A.lt r86 0) then
                                                                                        k false
                                                                                      else
                                                                                        c_73 r32 r33 r34 r35 r36 r62 r63 r86 (fun r87 =>
                                                                                          bif (A.lt r87 0) then
                                                                                            k false
                                                                                          else
                                                                                            bif (A.not (A.eq r87 r61)) then
                                                                                              k false
                                                                                            else
                                                                                              k true)))))))))))))))))))))))))))))
noncomputable def laws_FnExactCommitStep (A : PM.Prims) : laws_FnExactCommitStep_T := laws_FnExactCommitStep_f A (laws_szMem A) (laws_toMem A) (laws_eqMem A) (laws_szCommit A) (laws_toCommit A) (laws_eqCommit A) (laws_markCommit A) (laws_heldCommit A) (impl_CommitStep A) (laws_markMem A) (laws_heldMem A) (spec_CommitStep A)
noncomputable def laws_FnExactCommitStep_L (A : PM.Prims) (c_28 : laws_szMem_T) (c_30 : laws_toMem_T) (c_32 : laws_eqMem_T) (c_59 : laws_szCommit_T) (c_61 : laws_toCommit_T) (c_63 : laws_eqCommit_T) (c_72 : laws_markCommit_T) (c_73 : laws_heldCommit_T) (c_77 : impl_CommitStep_T) (c_78 : laws_markMem_T) (c_79 : laws_heldMem_T) (c_76 : spec_CommitStep_T) (n : Nat) : PM.Lam := fun cur σ K =>
  match cur, σ, K with
  | _, _, _ => none
noncomputable def laws_FnExactCommitStep_E (A : PM.Prims) (c_28 : laws_szMem_T) (c_30 : laws_toMem_T) (c_32 : laws_eqMem_T) (c_59 : laws_szCommit_T) (c_61 : laws_toCommit_T) (c_63 : laws_eqCommit_T) (c_72 : laws_markCommit_T) (c_73 : laws_heldCommit_T) (c_77 : impl_CommitStep_T) (c_78 : laws_markMem_T) (c_79 : laws_heldMem_T) (c_76 : spec_CommitStep_T) : PM.Env := ⟨[(28, ⟨[], laws_szMem_w c_28, none⟩), (30, ⟨[], laws_toMem_w c_30, none⟩), (32, ⟨[], laws_eqMem_w c_32, none⟩), (59, ⟨[], laws_szCommit_w c_59, none⟩), (61, ⟨[], laws_toCommit_w c_61, none⟩), (63, ⟨[], laws_eqCommit_w c_63, none⟩), (72, ⟨[true, false], laws_markCommit_w c_72, none⟩), (73, ⟨[], laws_heldCommit_w c_73, none⟩), (77, ⟨[], impl_CommitStep_w c_77, none⟩), (78, ⟨[true, false], laws_markMem_w c_78, none⟩), (79, ⟨[], laws_heldMem_w c_79, none⟩), (76, ⟨[], spec_CommitStep_w c_76, none⟩)], [], [], [(0, [2, 3]), (1, [2, 3, 5]), (2, [2, 3, 5]), (3, [2, 3, 5, 21]), (4, [4]), (5, [2, 3, 5]), (6, [2, 3, 26]), (7, [4]), (8, [2, 3, 6, 7]), (9, [2, 3, 6, 7, 8]), (10, [2, 3, 6, 7, 8, 9]), (11, [2, 3, 6, 7, 8, 9, 10, 11]), (12, [2, 3, 6, 7, 8, 9, 10, 11, 54]), (13, [4]), (14, [2, 3, 6, 7, 8, 9, 10, 11, 59]), (15, [4]), (16, [2, 3, 6, 7, 8, 9, 10, 11, 64]), (17, [4]), (18, [2, 3, 6, 7, 8, 9, 10, 11, 12]), (19, [2, 3, 6, 7, 9, 10, 11, 12]), (20, [2, 3, 6, 7, 10, 11, 12]), (21, [2, 3, 6, 7, 10, 11, 84]), (22, [4]), (23, [2, 3, 6, 7, 10, 11, 13]), (24, [2, 3, 6, 7, 10, 11, 13]), (25, [2, 3, 6, 7, 10, 11, 13]), (26, [2, 3, 6, 7, 10, 11, 13, 14]), (27, [2, 3, 6, 7, 10, 11, 13, 14]), (28, [2, 3, 6, 7, 10, 11, 13, 14, 95]), (29, [4]), (30, [2, 3, 6, 7, 10, 11, 13, 14]), (31, [2, 3, 6, 7, 10, 11, 13, 14, 100]), (32, [4]), (33, [2, 3, 6, 7, 10, 11, 13, 103]), (34, [4]), (35, [6, 7, 10, 11, 13, 15, 16]), (36, [10, 11, 13, 121]), (37, [4]), (38, [10, 11, 13, 14]), (39, [11, 13, 14]), (40, [11, 13, 14, 126]), (41, [4]), (42, [13, 14]), (43, [13, 14, 131]), (44, [4]), (45, [134]), (46, [4]), (47, [4])], laws_FnExactCommitStep_L A c_28 c_30 c_32 c_59 c_61 c_63 c_72 c_73 c_77 c_78 c_79 c_76 A.fuel⟩
theorem laws_FnExactCommitStep_ok (A : PM.Prims) (c_28 : laws_szMem_T) (c_30 : laws_toMem_T) (c_32 : laws_eqMem_T) (c_59 : laws_szCommit_T) (c_61 : laws_toCommit_T) (c_63 : laws_eqCommit_T) (c_72 : laws_markCommit_T) (c_73 : laws_heldCommit_T) (c_77 : impl_CommitStep_T) (c_78 : laws_markMem_T) (c_79 : laws_heldMem_T) (c_76 : spec_CommitStep_T) (___Clock : Int) (___Cells : List (List Int)) (a_Who : Int) (a_Rv : Int) (a_Phase : Int) (a_At : Int) (a_Wv : Int) (a_Puts : List (List Int)) (a_Reads : List Int) (k : PM.V → PM.R) : PM.pfun A cx [] (laws_FnExactCommitStep_E A c_28 c_30 c_32 c_59 c_61 c_63 c_72 c_73 c_77 c_78 c_79 c_76) Go.Proofs.Try.f18 [.agg [.int .i64 ___Clock, .arr (.vecs 155 3 ___Cells)], .agg [.int .i64 a_Who, .int .i64 a_Rv, .int .i64 a_Phase, .int .i64 a_At, .int .i64 a_Wv, .arr (.vecs 139 2 a_Puts), .arr (.ints 3 .i64 a_Reads)]] k = laws_FnExactCommitStep_f A c_28 c_30 c_32 c_59 c_61 c_63 c_72 c_73 c_77 c_78 c_79 c_76 ___Clock ___Cells a_Who a_Rv a_Phase a_At a_Wv a_Puts a_Reads (fun r0 => k (.bool r0)) := by kernel_rfl

theorem laws_FnExactCommitStep_fn : PM.FnIs Try.prog 18 Try.f18 := .of Try.func18 (by kernel_rfl) (by kernel_rfl)
theorem laws_FnExactCommitStep_g : PM.GOk Try.prog cx 18 ⟨[], laws_FnExactCommitStep_w (laws_FnExactCommitStep PM.std), none⟩ := by
  refine ⟨laws_FnExactCommitStep_fn.enter, fun _ ds k r h => ?_, fun hm => absurd rfl hm, fun _ e => (by cases e)⟩
  change laws_FnExactCommitStep_w (laws_FnExactCommitStep PM.std) ds k = some r at h
  unfold laws_FnExactCommitStep_w at h
  split at h
  · exact PM.pfun_ok (E := laws_FnExactCommitStep_E PM.std (laws_szMem PM.std) (laws_toMem PM.std) (laws_eqMem PM.std) (laws_szCommit PM.std) (laws_toCommit PM.std) (laws_eqCommit PM.std) (laws_markCommit PM.std) (laws_heldCommit PM.std) (impl_CommitStep PM.std) (laws_markMem PM.std) (laws_heldMem PM.std) (spec_CommitStep PM.std)) (L := fun n => laws_FnExactCommitStep_L PM.std (laws_szMem PM.std) (laws_toMem PM.std) (laws_eqMem PM.std) (laws_szCommit PM.std) (laws_toCommit PM.std) (laws_eqCommit PM.std) (laws_markCommit PM.std) (laws_heldCommit PM.std) (impl_CommitStep PM.std) (laws_markMem PM.std) (laws_heldMem PM.std) (spec_CommitStep PM.std) n) (N := PM.std.fuel) cx_ok (.cons laws_szMem_g (.cons laws_toMem_g (.cons laws_eqMem_g (.cons laws_szCommit_g (.cons laws_toCommit_g (.cons laws_eqCommit_g (.cons laws_markCommit_g (.cons laws_heldCommit_g (.cons impl_CommitStep_g (.cons laws_markMem_g (.cons laws_heldMem_g (.cons spec_CommitStep_g .nil)))))))))))) mixed .nil laws_FnExactCommitStep_fn (by kernel_rfl) ⟨rfl, fun _ _ _ => rfl, fun n cur σ K r h => by cases h⟩
      ((laws_FnExactCommitStep_ok PM.std (laws_szMem PM.std) (laws_toMem PM.std) (laws_eqMem PM.std) (laws_szCommit PM.std) (laws_toCommit PM.std) (laws_eqCommit PM.std) (laws_markCommit PM.std) (laws_heldCommit PM.std) (impl_CommitStep PM.std) (laws_markMem PM.std) (laws_heldMem PM.std) (spec_CommitStep PM.std) _ _ _ _ _ _ _ _ _ k).trans h)
  · cases h

abbrev laws_big_T := (List Int) → ((Bool) → PM.R) → PM.R
noncomputable def laws_big_w (c : laws_big_T) (ds : List PM.V) (k : PM.V → PM.R) : PM.R :=
  match ds with
  | [.arr (.ints 5 .u8 code)] => c code (fun r0 => k (.bool r0))
  | _ => none
noncomputable def laws_big_f (A : PM.Prims) (code : List Int) (k : (Bool) → PM.R) : PM.R :=
  k (A.lt 1048576 (A.ilen code))
noncomputable def laws_big (A : PM.Prims) : laws_big_T := laws_big_f A
noncomputable def laws_big_L (A : PM.Prims) (n : Nat) : PM.Lam := fun cur σ K =>
  match cur, σ, K with
  | _, _, _ => none
noncomputable def laws_big_E (A : PM.Prims) : PM.Env := ⟨[], [], [], [(0, [0]), (1, [2])], laws_big_L A A.fuel⟩
theorem laws_big_ok (A : PM.Prims) (code : List Int) (k : PM.V → PM.R) : PM.pfun A cx [] (laws_big_E A) Go.Proofs.Try.f33 [.arr (.ints 5 .u8 code)] k = laws_big_f A code (fun r0 => k (.bool r0)) := by kernel_rfl

theorem laws_big_fn : PM.FnIs Try.prog 33 Try.f33 := .of Try.func33 (by kernel_rfl) (by kernel_rfl)
theorem laws_big_g : PM.GOk Try.prog cx 33 ⟨[], laws_big_w (laws_big PM.std), none⟩ := by
  refine ⟨laws_big_fn.enter, fun _ ds k r h => ?_, fun hm => absurd rfl hm, fun _ e => (by cases e)⟩
  change laws_big_w (laws_big PM.std) ds k = some r at h
  unfold laws_big_w at h
  split at h
  · exact PM.pfun_ok (E := laws_big_E PM.std) (L := fun n => laws_big_L PM.std n) (N := PM.std.fuel) cx_ok .nil mixed .nil laws_big_fn (by kernel_rfl) ⟨rfl, fun _ _ _ => rfl, fun n cur σ K r h => by cases h⟩
      ((laws_big_ok PM.std _ k).trans h)
  · cases h

abbrev spec_l1Byte_T := (List Int) → (Int) → (Int) → ((Int) → (List Int) → (Int) → (Int) → PM.R) → PM.R
noncomputable def spec_l1Byte_w (c : spec_l1Byte_T) (ds : List PM.V) (k : PM.V → PM.R) : PM.R :=
  match ds with
  | [.tup [.arr (.ints 5 .u8 c_b), .int .i64 c_i, .int .i64 c_h]] => c c_b c_i c_h (fun r0 bx_b bx_i bx_h => k (.tup [.int .i64 r0, .tup [.arr (.ints 5 .u8 bx_b), .int .i64 bx_i, .int .i64 bx_h]]))
  | _ => none
noncomputable def spec_l1Byte_f (A : PM.Prims) (c_b : List Int) (c_i : Int) (c_h : Int) (k : (Int) → (List Int) → (Int) → (Int) → PM.R) : PM.R :=
  bif (A.shOk .i64 33) then
    bif (A.shOk .i64 45) then
      bif (A.lt c_i (A.ilen c_b)) then
        bif (A.inb c_i (A.ilen c_b)) then
          k (A.bits .and .i64 (A.add .i64 (A.bits .and .i64 (A.bits .xor .i64 (A.shift .shr .i64 (A.add .i64 (A.mul .i64 c_h 6364136223846793005) 1442695040888963407) 33) (A.shift .shr .i64 (A.add .i64 (A.mul .i64 c_h 6364136223846793005) 1442695040888963407) 45)) 255) (A.wrap .i64 (A.iget c_b c_i))) 255) c_b (A.add .i64 c_i 1) (A.add .i64 (A.mul .i64 c_h 6364136223846793005) 1442695040888963407)
        else
          none
      else
        k (A.bits .and .i64 (A.bits .xor .i64 (A.shift .shr .i64 (A.add .i64 (A.mul .i64 c_h 6364136223846793005) 1442695040888963407) 33) (A.shift .shr .i64 (A.add .i64 (A.mul .i64 c_h 6364136223846793005) 1442695040888963407) 45)) 255) c_b c_i (A.add .i64 (A.mul .i64 c_h 6364136223846793005) 1442695040888963407)
    else
      none
  else
    none
noncomputable def spec_l1Byte (A : PM.Prims) : spec_l1Byte_T := spec_l1Byte_f A
noncomputable def spec_l1Byte_L (A : PM.Prims) (n : Nat) : PM.Lam := fun cur σ K =>
  match cur, σ, K with
  | _, _, _ => none
noncomputable def spec_l1Byte_E (A : PM.Prims) : PM.Env := ⟨[], [], [], [(0, [0]), (1, [0]), (2, [0, 3]), (3, [0, 3, 34]), (4, [0, 3]), (5, [0, 3]), (6, [0, 2])], spec_l1Byte_L A A.fuel⟩
theorem spec_l1Byte_ok (A : PM.Prims) (c_b : List Int) (c_i : Int) (c_h : Int) (k : PM.V → PM.R) : PM.pfunB A cx (spec_l1Byte_E A) Go.Proofs.Try.f159 [.tup [.arr (.ints 5 .u8 c_b), .int .i64 c_i, .int .i64 c_h]] k = spec_l1Byte_f A c_b c_i c_h (fun r0 bx_b bx_i bx_h => k (.tup [.int .i64 r0, .tup [.arr (.ints 5 .u8 bx_b), .int .i64 bx_i, .int .i64 bx_h]])) := by kernel_rfl

theorem spec_l1Byte_fn : PM.FnIs Try.prog 159 Try.f159 := .of Try.func159 (by kernel_rfl) (by kernel_rfl)
theorem spec_l1Byte_g : PM.GOk Try.prog cx 159 ⟨[], fun _ _ => none, some (PM.spBox (spec_l1Byte_w (spec_l1Byte PM.std)))⟩ := by
  refine PM.GOk.ofS spec_l1Byte_fn.enter (PM.spBox_ok fun ds k r h => ?_)
  change spec_l1Byte_w (spec_l1Byte PM.std) ds k = some r at h
  unfold spec_l1Byte_w at h
  split at h
  · exact PM.pfunB_ok (E := spec_l1Byte_E PM.std) (L := fun n => spec_l1Byte_L PM.std n) (N := PM.std.fuel) cx_ok .nil mixed .nil spec_l1Byte_fn (by kernel_rfl) ⟨rfl, fun _ _ _ => rfl, fun n cur σ K r h => by cases h⟩
      ((spec_l1Byte_ok PM.std _ _ _ k).trans h)
  · cases h

abbrev spec_l1Below_T := (List Int) → (Int) → (Int) → (Int) → ((Int) → (List Int) → (Int) → (Int) → PM.R) → PM.R
noncomputable def spec_l1Below_w (c : spec_l1Below_T) (ds : List PM.V) (k : PM.V → PM.R) : PM.R :=
  match ds with
  | [.tup [.arr (.ints 5 .u8 c_b), .int .i64 c_i, .int .i64 c_h], .int .i64 n_] => c c_b c_i c_h n_ (fun r0 bx_b bx_i bx_h => k (.tup [.int .i64 r0, .tup [.arr (.ints 5 .u8 bx_b), .int .i64 bx_i, .int .i64 bx_h]]))
  | _ => none
noncomputable def spec_l1Below_f (A : PM.Prims) (c_159 : spec_l1Byte_T) (c_b : List Int) (c_i : Int) (c_h : Int) (n_ : Int) (k : (Int) → (List Int) → (Int) → (Int) → PM.R) : PM.R :=
  bif (A.le n_ 0) then
    k 0 c_b c_i c_h
  else
    bif (A.le n_ 256) then
      c_159 c_b c_i c_h (fun r1 r2 r3 r4 =>
        bif (A.nz n_) then
          k (A.rem .i64 r1 n_) r2 r3 r4
        else
          none)
    else
      c_159 c_b c_i c_h (fun r5 r6 r7 r8 =>
        c_159 r6 r7 r8 (fun r9 r10 r11 r12 =>
          c_159 r10 r11 r12 (fun r13 r14 r15 r16 =>
            c_159 r14 r15 r16 (fun r17 r18 r19 r20 =>
              bif (A.nz n_) then
                k (A.rem .i64 (A.add .i64 (A.add .i64 (A.add .i64 (A.mul .i64 r5 16777216) (A.mul .i64 r9 65536)) (A.mul .i64 r13 256)) r17) n_) r18 r19 r20
              else
                none))))
noncomputable def spec_l1Below (A : PM.Prims) : spec_l1Below_T := spec_l1Below_f A (spec_l1Byte A)
noncomputable def spec_l1Below_L (A : PM.Prims) (c_159 : spec_l1Byte_T) (n : Nat) : PM.Lam := fun cur σ K =>
  match cur, σ, K with
  | _, _, _ => none
noncomputable def spec_l1Below_E (A : PM.Prims) (c_159 : spec_l1Byte_T) : PM.Env := ⟨[(159, ⟨[], fun _ _ => none, some (PM.spBox (spec_l1Byte_w c_159))⟩)], [], [], [(0, [0, 1]), (1, [0, 1, 10]), (2, [0, 4]), (3, [0, 1, 12]), (4, [0, 4]), (5, [0, 1, 5]), (6, [0, 1, 5, 6]), (7, [0, 1, 5, 6, 7]), (8, [0, 1, 5, 6, 7, 8]), (9, [0, 4])], spec_l1Below_L A c_159 A.fuel⟩
theorem spec_l1Below_ok (A : PM.Prims) (c_159 : spec_l1Byte_T) (c_b : List Int) (c_i : Int) (c_h : Int) (n_ : Int) (k : PM.V → PM.R) : PM.pfunB A cx (spec_l1Below_E A c_159) Go.Proofs.Try.f108 [.tup [.arr (.ints 5 .u8 c_b), .int .i64 c_i, .int .i64 c_h], .int .i64 n_] k = spec_l1Below_f A c_159 c_b c_i c_h n_ (fun r0 bx_b bx_i bx_h => k (.tup [.int .i64 r0, .tup [.arr (.ints 5 .u8 bx_b), .int .i64 bx_i, .int .i64 bx_h]])) := by kernel_rfl

theorem spec_l1Below_fn : PM.FnIs Try.prog 108 Try.f108 := .of Try.func108 (by kernel_rfl) (by kernel_rfl)
theorem spec_l1Below_g : PM.GOk Try.prog cx 108 ⟨[], fun _ _ => none, some (PM.spBox (spec_l1Below_w (spec_l1Below PM.std)))⟩ := by
  refine PM.GOk.ofS spec_l1Below_fn.enter (PM.spBox_ok fun ds k r h => ?_)
  change spec_l1Below_w (spec_l1Below PM.std) ds k = some r at h
  unfold spec_l1Below_w at h
  split at h
  · exact PM.pfunB_ok (E := spec_l1Below_E PM.std (spec_l1Byte PM.std)) (L := fun n => spec_l1Below_L PM.std (spec_l1Byte PM.std) n) (N := PM.std.fuel) cx_ok (.cons spec_l1Byte_g .nil) mixed .nil spec_l1Below_fn (by kernel_rfl) ⟨rfl, fun _ _ _ => rfl, fun n cur σ K r h => by cases h⟩
      ((spec_l1Below_ok PM.std (spec_l1Byte PM.std) _ _ _ _ k).trans h)
  · cases h

abbrev spec_l1Once_T := (List Int) → (Int) → (Int) → (Int) → ((Bool) → (List Int) → (Int) → (Int) → PM.R) → PM.R
noncomputable def spec_l1Once_w (c : spec_l1Once_T) (ds : List PM.V) (k : PM.V → PM.R) : PM.R :=
  match ds with
  | [.tup [.arr (.ints 5 .u8 c_b), .int .i64 c_i, .int .i64 c_h], .int .i64 n_] => c c_b c_i c_h n_ (fun r0 bx_b bx_i bx_h => k (.tup [.bool r0, .tup [.arr (.ints 5 .u8 bx_b), .int .i64 bx_i, .int .i64 bx_h]]))
  | _ => none
noncomputable def spec_l1Once_f (A : PM.Prims) (c_108 : spec_l1Below_T) (c_b : List Int) (c_i : Int) (c_h : Int) (n_ : Int) (k : (Bool) → (List Int) → (Int) → (Int) → PM.R) : PM.R :=
  c_108 c_b c_i c_h n_ (fun r1 r2 r3 r4 =>
    k (A.eq r1 0) r2 r3 r4)
noncomputable def spec_l1Once (A : PM.Prims) : spec_l1Once_T := spec_l1Once_f A (spec_l1Below A)
noncomputable def spec_l1Once_L (A : PM.Prims) (c_108 : spec_l1Below_T) (n : Nat) : PM.Lam := fun cur σ K =>
  match cur, σ, K with
  | _, _, _ => none
noncomputable def spec_l1Once_E (A : PM.Prims) (c_108 : spec_l1Below_T) : PM.Env := ⟨[(108, ⟨[], fun _ _ => none, some (PM.spBox (spec_l1Below_w c_108))⟩)], [], [], [(0, [0, 1]), (1, [0, 4])], spec_l1Once_L A c_108 A.fuel⟩
theorem spec_l1Once_ok (A : PM.Prims) (c_108 : spec_l1Below_T) (c_b : List Int) (c_i : Int) (c_h : Int) (n_ : Int) (k : PM.V → PM.R) : PM.pfunB A cx (spec_l1Once_E A c_108) Go.Proofs.Try.f105 [.tup [.arr (.ints 5 .u8 c_b), .int .i64 c_i, .int .i64 c_h], .int .i64 n_] k = spec_l1Once_f A c_108 c_b c_i c_h n_ (fun r0 bx_b bx_i bx_h => k (.tup [.bool r0, .tup [.arr (.ints 5 .u8 bx_b), .int .i64 bx_i, .int .i64 bx_h]])) := by kernel_rfl

theorem spec_l1Once_fn : PM.FnIs Try.prog 105 Try.f105 := .of Try.func105 (by kernel_rfl) (by kernel_rfl)
theorem spec_l1Once_g : PM.GOk Try.prog cx 105 ⟨[], fun _ _ => none, some (PM.spBox (spec_l1Once_w (spec_l1Once PM.std)))⟩ := by
  refine PM.GOk.ofS spec_l1Once_fn.enter (PM.spBox_ok fun ds k r h => ?_)
  change spec_l1Once_w (spec_l1Once PM.std) ds k = some r at h
  unfold spec_l1Once_w at h
  split at h
  · exact PM.pfunB_ok (E := spec_l1Once_E PM.std (spec_l1Below PM.std)) (L := fun n => spec_l1Once_L PM.std (spec_l1Below PM.std) n) (N := PM.std.fuel) cx_ok (.cons spec_l1Below_g .nil) mixed .nil spec_l1Once_fn (by kernel_rfl) ⟨rfl, fun _ _ _ => rfl, fun n cur σ K r h => by cases h⟩
      ((spec_l1Once_ok PM.std (spec_l1Below PM.std) _ _ _ _ k).trans h)
  · cases h

abbrev spec_l3Draw_T := (List Int) → (Int) → (Int) → ((Int) → (List Int) → (Int) → (Int) → PM.R) → PM.R
noncomputable def spec_l3Draw_w (c : spec_l3Draw_T) (ds : List PM.V) (k : PM.V → PM.R) : PM.R :=
  match ds with
  | [.tup [.arr (.ints 5 .u8 c_b), .int .i64 c_i, .int .i64 c_h]] => c c_b c_i c_h (fun r0 bx_b bx_i bx_h => k (.tup [.int .i64 r0, .tup [.arr (.ints 5 .u8 bx_b), .int .i64 bx_i, .int .i64 bx_h]]))
  | _ => none
noncomputable def spec_l3Draw_f (A : PM.Prims) (c_108 : spec_l1Below_T) (c_105 : spec_l1Once_T) (c_b : List Int) (c_i : Int) (c_h : Int) (k : (Int) → (List Int) → (Int) → (Int) → PM.R) : PM.R :=
  c_105 c_b c_i c_h 6 (fun r1 r2 r3 r4 =>
    bif r1 then
      c_108 r2 r3 r4 (A.ilen [0, 65535, 65534, 256]) (fun r5 r6 r7 r8 =>
        bif (A.inb r5 (A.ilen [0, 65535, 65534, 256])) then
          k (A.iget [0, 65535, 65534, 256] r5) r6 r7 r8
        else
          none)
    else
      c_108 r2 r3 r4 9 (fun r9 r10 r11 r12 =>
        k r9 r10 r11 r12))
noncomputable def spec_l3Draw (A : PM.Prims) : spec_l3Draw_T := spec_l3Draw_f A (spec_l1Below A) (spec_l1Once A)
noncomputable def spec_l3Draw_L (A : PM.Prims) (c_108 : spec_l1Below_T) (c_105 : spec_l1Once_T) (n : Nat) : PM.Lam := fun cur σ K =>
  match cur, σ, K with
  | _, _, _ => none
noncomputable def spec_l3Draw_E (A : PM.Prims) (c_108 : spec_l1Below_T) (c_105 : spec_l1Once_T) : PM.Env := ⟨[(108, ⟨[], fun _ _ => none, some (PM.spBox (spec_l1Below_w c_108))⟩), (105, ⟨[], fun _ _ => none, some (PM.spBox (spec_l1Once_w c_105))⟩)], [(118, Go.Proofs.Try.f118)], [], [(0, [0]), (1, [0, 4]), (2, [0, 2]), (3, [0, 2])], spec_l3Draw_L A c_108 c_105 A.fuel⟩
theorem spec_l3Draw_ok (A : PM.Prims) (c_108 : spec_l1Below_T) (c_105 : spec_l1Once_T) (c_b : List Int) (c_i : Int) (c_h : Int) (k : PM.V → PM.R) : PM.pfunB A cx (spec_l3Draw_E A c_108 c_105) Go.Proofs.Try.f158 [.tup [.arr (.ints 5 .u8 c_b), .int .i64 c_i, .int .i64 c_h]] k = spec_l3Draw_f A c_108 c_105 c_b c_i c_h (fun r0 bx_b bx_i bx_h => k (.tup [.int .i64 r0, .tup [.arr (.ints 5 .u8 bx_b), .int .i64 bx_i, .int .i64 bx_h]])) := by kernel_rfl

theorem spec_l3Draw_fn : PM.FnIs Try.prog 158 Try.f158 := .of Try.func158 (by kernel_rfl) (by kernel_rfl)
theorem spec_l3Draw_g : PM.GOk Try.prog cx 158 ⟨[], fun _ _ => none, some (PM.spBox (spec_l3Draw_w (spec_l3Draw PM.std)))⟩ := by
  refine PM.GOk.ofS spec_l3Draw_fn.enter (PM.spBox_ok fun ds k r h => ?_)
  change spec_l3Draw_w (spec_l3Draw PM.std) ds k = some r at h
  unfold spec_l3Draw_w at h
  split at h
  · exact PM.pfunB_ok (E := spec_l3Draw_E PM.std (spec_l1Below PM.std) (spec_l1Once PM.std)) (L := fun n => spec_l3Draw_L PM.std (spec_l1Below PM.std) (spec_l1Once PM.std) n) (N := PM.std.fuel) cx_ok (.cons spec_l1Below_g (.cons spec_l1Once_g .nil)) mixed (.cons (.of Try.func118 (by kernel_rfl) (by kernel_rfl)) (by kernel_rfl) .nil) spec_l3Draw_fn (by kernel_rfl) ⟨rfl, fun _ _ _ => rfl, fun n cur σ K r h => by cases h⟩
      ((spec_l3Draw_ok PM.std (spec_l1Below PM.std) (spec_l1Once PM.std) _ _ _ k).trans h)
  · cases h

abbrev spec_l3Mem_T := (List Int) → (Int) → (Int) → ((Int) → (List (List Int)) → (List Int) → (Int) → (Int) → PM.R) → PM.R
noncomputable def spec_l3Mem_w (c : spec_l3Mem_T) (ds : List PM.V) (k : PM.V → PM.R) : PM.R :=
  match ds with
  | [.tup [.arr (.ints 5 .u8 c_b), .int .i64 c_i, .int .i64 c_h]] => c c_b c_i c_h (fun r0_Clock r0_Cells bx_b bx_i bx_h => k (.tup [.agg [.int .i64 r0_Clock, .arr (.vecs 49 3 r0_Cells)], .tup [.arr (.ints 5 .u8 bx_b), .int .i64 bx_i, .int .i64 bx_h]]))
  | _ => none
noncomputable def spec_l3Mem_l0 (A : PM.Prims) (c_108 : spec_l1Below_T) (c_105 : spec_l1Once_T) (c_158 : spec_l3Draw_T) : Nat → (Int) → (Int) → (List Int) → (Int) → (Int) → (Int) → (Int) → (List (List Int)) → (List (List Int)) → ((List Int) → (Int) → (Int) → (Int) → (Int) → (List (List Int)) → (List (List Int)) → PM.R) → PM.R
  | 0, _, _, _, _, _, _, _, _, _, _ => none
  | n + 1, busy17, i18, o019, o020, o021, o122, o223, o324, o425, kx0_0 =>
    bif (A.lt i18 8) then
      c_158 o019 o020 o021 (fun r26 r27 r28 r29 =>
        c_108 r27 r28 r29 (A.add .i64 o223 1) (fun r30 r31 r32 r33 =>
          bif (A.lt 0 busy17) then
            c_105 r31 r32 r33 4 (fun r34 r35 r36 r37 =>
              bif r34 then
                c_108 r35 r36 r37 4 (fun r38 r39 r40 r41 =>
                  bif (A.room (A.vlen o425) (A.vlen [[r26, r30, (A.add .i64 1 r38)]])) then
                    spec_l3Mem_l0 A c_108 c_105 c_158 n busy17 (A.add .i64 i18 1) r39 r40 r41 o122 o223 o324 (A.vapp o425 [[r26, r30, (A.add .i64 1 r38)]]) kx0_0
                  else
                    none)
              else
                bif (A.room (A.vlen o425) (A.vlen [[r26, r30, 0]])) then
                  spec_l3Mem_l0 A c_108 c_105 c_158 n busy17 (A.add .i64 i18 1) r35 r36 r37 o122 o223 o324 (A.vapp o425 [[r26, r30, 0]]) kx0_0
                else
                  none)
          else
            bif (A.room (A.vlen o425) (A.vlen [[r26, r30, 0]])) then
              spec_l3Mem_l0 A c_108 c_105 c_158 n busy17 (A.add .i64 i18 1) r31 r32 r33 o122 o223 o324 (A.vapp o425 [[r26, r30, 0]]) kx0_0
            else
              none))
    else
      kx0_0 o019 o020 o021 o122 o223 o324 o425
noncomputable def spec_l3Mem_f (A : PM.Prims) (c_108 : spec_l1Below_T) (c_105 : spec_l1Once_T) (c_158 : spec_l3Draw_T) (c_b : List Int) (c_i : Int) (c_h : Int) (k : (Int) → (List (List Int)) → (List Int) → (Int) → (Int) → PM.R) : PM.R :=
  c_108 c_b c_i c_h 12 (fun r1 r2 r3 r4 =>
    c_105 r2 r3 r4 20 (fun r5 r6 r7 r8 =>
      bif r5 then
        c_108 r6 r7 r8 2 (fun r9 r10 r11 r12 =>
          c_108 r10 r11 r12 3 (fun r13 r14 r15 r16 =>
            spec_l3Mem_l0 A c_108 c_105 c_158 A.fuel r13 0 r14 r15 r16 0 (A.sub .i64 1000000 r9) [] [] (fun o04249 o04350 o04451 o14552 o24653 o34754 o44855 =>
              k o24653 o44855 o04249 o04350 o04451)))
      else
        c_108 r6 r7 r8 3 (fun r56 r57 r58 r59 =>
          spec_l3Mem_l0 A c_108 c_105 c_158 A.fuel r56 0 r57 r58 r59 0 r1 [] [] (fun o04269 o04370 o04471 o14572 o24673 o34774 o44875 =>
            k o24673 o44875 o04269 o04370 o04471))))
noncomputable def spec_l3Mem (A : PM.Prims) : spec_l3Mem_T := spec_l3Mem_f A (spec_l1Below A) (spec_l1Once A) (spec_l3Draw A)
noncomputable def spec_l3Mem_L (A : PM.Prims) (c_108 : spec_l1Below_T) (c_105 : spec_l1Once_T) (c_158 : spec_l3Draw_T) (n : Nat) : PM.Lam := fun cur σ K =>
  match cur, σ, K with
  | 0, ⟨[(0, .pbox 0 0), (2, .pbox 1 0), (3, .pbox 2 0), (4, .int .i64 busy17), (5, .int .i64 i18)], [(0, .box [.arr (.ints 5 .u8 o019), .int .i64 o020, .int .i64 o021]), (1, .box [.int .i64 o122, .sref 3]), (2, .box [.int .i64 o223, .sref 4]), (3, .arr true (.vecs 49 3 o324)), (4, .arr true (.vecs 49 3 o425))]⟩, K => spec_l3Mem_l0 A c_108 c_105 c_158 n busy17 i18 o019 o020 o021 o122 o223 o324 o425 (fun o042 o043 o044 o145 o246 o347 o448 => K (.exit 0) ⟨[(0, .pbox 0 0), (2, .pbox 1 0), (3, .pbox 2 0)], [(0, .box [.arr (.ints 5 .u8 o042), .int .i64 o043, .int .i64 o044]), (1, .box [.int .i64 o145, .sref 3]), (2, .box [.int .i64 o246, .sref 4]), (3, .arr true (.vecs 49 3 o347)), (4, .arr true (.vecs 49 3 o448))]⟩)
  | _, _, _ => none
noncomputable def spec_l3Mem_E (A : PM.Prims) (c_108 : spec_l1Below_T) (c_105 : spec_l1Once_T) (c_158 : spec_l3Draw_T) : PM.Env := ⟨[(108, ⟨[], fun _ _ => none, some (PM.spBox (spec_l1Below_w c_108))⟩), (105, ⟨[], fun _ _ => none, some (PM.spBox (spec_l1Once_w c_105))⟩), (158, ⟨[], fun _ _ => none, some (PM.spBox (spec_l3Draw_w c_158))⟩)], [], [(0, [0, 2, 3, 4, 5], [0, 2, 3])], [(0, [0, 2]), (1, [0, 2, 3]), (2, [0, 2, 3, 11]), (3, [0, 2, 3]), (4, [0, 2, 3, 4]), (5, [0, 2, 3, 4, 5]), (6, [0, 2, 3, 4, 5, 19]), (7, [0, 2, 3, 4, 5]), (8, [0, 2, 3, 4, 5, 6]), (9, [0, 2, 3, 4, 5, 6]), (10, [0, 2, 3, 4, 5, 6, 36]), (11, [0, 2, 3, 4, 5, 6]), (12, [0, 2, 3, 4, 5]), (13, [0, 2])], spec_l3Mem_L A c_108 c_105 c_158 A.fuel⟩
theorem spec_l3Mem_l0_ok (A : PM.Prims) (c_108 : spec_l1Below_T) (c_105 : spec_l1Once_T) (c_158 : spec_l3Draw_T) (n : Nat) (busy17 : Int) (i18 : Int) (o019 : List Int) (o020 : Int) (o021 : Int) (o122 : Int) (o223 : Int) (o324 : List (List Int)) (o425 : List (List Int)) (K : Go.Exit → PM.S → PM.R) : spec_l3Mem_L A c_108 c_105 c_158 (n + 1) 0 ⟨[(0, .pbox 0 0), (2, .pbox 1 0), (3, .pbox 2 0), (4, .int .i64 busy17), (5, .int .i64 i18)], [(0, .box [.arr (.ints 5 .u8 o019), .int .i64 o020, .int .i64 o021]), (1, .box [.int .i64 o122, .sref 3]), (2, .box [.int .i64 o223, .sref 4]), (3, .arr true (.vecs 49 3 o324)), (4, .arr true (.vecs 49 3 o425))]⟩ K = PM.roundF A cx (PM.runD A cx (spec_l3Mem_E A c_108 c_105 c_158).inl (spec_l3Mem_E A c_108 c_105 c_158).Γ 3) (spec_l3Mem_E A c_108 c_105 c_158) (spec_l3Mem_L A c_108 c_105 c_158 n) 0 Go.Proofs.Try.f104 ⟨[(0, .pbox 0 0), (2, .pbox 1 0), (3, .pbox 2 0), (4, .int .i64 busy17), (5, .int .i64 i18)], [(0, .box [.arr (.ints 5 .u8 o019), .int .i64 o020, .int .i64 o021]), (1, .box [.int .i64 o122, .sref 3]), (2, .box [.int .i64 o223, .sref 4]), (3, .arr true (.vecs 49 3 o324)), (4, .arr true (.vecs 49 3 o425))]⟩ K := by kernel_rfl
theorem spec_l3Mem_ok (A : PM.Prims) (c_108 : spec_l1Below_T) (c_105 : spec_l1Once_T) (c_158 : spec_l3Draw_T) (c_b : List Int) (c_i : Int) (c_h : Int) (k : PM.V → PM.R) : PM.pfunB A cx (spec_l3Mem_E A c_108 c_105 c_158) Go.Proofs.Try.f104 [.tup [.arr (.ints 5 .u8 c_b), .int .i64 c_i, .int .i64 c_h]] k = spec_l3Mem_f A c_108 c_105 c_158 c_b c_i c_h (fun r0_Clock r0_Cells bx_b bx_i bx_h => k (.tup [.agg [.int .i64 r0_Clock, .arr (.vecs 49 3 r0_Cells)], .tup [.arr (.ints 5 .u8 bx_b), .int .i64 bx_i, .int .i64 bx_h]])) := by kernel_rfl

theorem spec_l3Mem_fn : PM.FnIs Try.prog 104 Try.f104 := .of Try.func104 (by kernel_rfl) (by kernel_rfl)
theorem spec_l3Mem_g : PM.GOk Try.prog cx 104 ⟨[], fun _ _ => none, some (PM.spBox (spec_l3Mem_w (spec_l3Mem PM.std)))⟩ := by
  refine PM.GOk.ofS spec_l3Mem_fn.enter (PM.spBox_ok fun ds k r h => ?_)
  change spec_l3Mem_w (spec_l3Mem PM.std) ds k = some r at h
  unfold spec_l3Mem_w at h
  split at h
  · exact PM.pfunB_ok (E := spec_l3Mem_E PM.std (spec_l1Below PM.std) (spec_l1Once PM.std) (spec_l3Draw PM.std)) (L := fun n => spec_l3Mem_L PM.std (spec_l1Below PM.std) (spec_l1Once PM.std) (spec_l3Draw PM.std) n) (N := PM.std.fuel) cx_ok (.cons spec_l1Below_g (.cons spec_l1Once_g (.cons spec_l3Draw_g .nil))) mixed .nil spec_l3Mem_fn (by kernel_rfl) ⟨rfl, fun cur σ K => by
      dsimp only [spec_l3Mem_L]
      split <;> rfl, fun n cur σ K r h => by
      dsimp only [spec_l3Mem_L] at h
      split at h
      · exact (spec_l3Mem_l0_ok PM.std (spec_l1Below PM.std) (spec_l1Once PM.std) (spec_l3Draw PM.std) n _ _ _ _ _ _ _ _ _ K).symm.trans h
      · cases h⟩
      ((spec_l3Mem_ok PM.std (spec_l1Below PM.std) (spec_l1Once PM.std) (spec_l3Draw PM.std) _ _ _ k).trans h)
  · cases h

abbrev spec_l1New_T := (List Int) → ((List Int) → (Int) → (Int) → PM.R) → PM.R
noncomputable def spec_l1New_w (c : spec_l1New_T) (ds : List PM.V) (k : PM.V → PM.R) : PM.R :=
  match ds with
  | [.arr (.ints 5 .u8 code)] => c code (fun r0_b r0_i r0_h => k (.tup [.arr (.ints 5 .u8 r0_b), .int .i64 r0_i, .int .i64 r0_h]))
  | _ => none
noncomputable def spec_l1New_l0 (A : PM.Prims) : Nat → (List Int) → (Int) → (Int) → ((List Int) → (Int) → PM.R) → PM.R
  | 0, _, _, _, _ => none
  | n + 1, code1, h2, i3, kx0_0 =>
    bif (A.lt i3 (A.ilen code1)) then
      bif (A.lt i3 4000) then
        bif (A.inb i3 (A.ilen code1)) then
          spec_l1New_l0 A n code1 (A.bits .and .i64 (A.add .i64 (A.add .i64 (A.mul .i64 h2 131) (A.wrap .i64 (A.iget code1 i3))) 7) 1073741823) (A.add .i64 i3 1) kx0_0
        else
          none
      else
        kx0_0 code1 h2
    else
      kx0_0 code1 h2
noncomputable def spec_l1New_f (A : PM.Prims) (code : List Int) (k : (List Int) → (Int) → (Int) → PM.R) : PM.R :=
  spec_l1New_l0 A A.fuel code (A.add .i64 10101 (A.ilen code)) 0 (fun code46 h57 =>
    k code46 0 h57)
noncomputable def spec_l1New (A : PM.Prims) : spec_l1New_T := spec_l1New_f A
noncomputable def spec_l1New_L (A : PM.Prims) (n : Nat) : PM.Lam := fun cur σ K =>
  match cur, σ, K with
  | 0, ⟨[(0, .arr (.ints 5 .u8 code1)), (3, .int .i64 h2), (4, .int .i64 i3)], []⟩, K => spec_l1New_l0 A n code1 h2 i3 (fun code4 h5 => K (.exit 0) ⟨[(0, .arr (.ints 5 .u8 code4)), (3, .int .i64 h5)], []⟩)
  | _, _, _ => none
noncomputable def spec_l1New_E (A : PM.Prims) : PM.Env := ⟨[], [], [(0, [0, 3, 4], [0, 2, 3])], [(0, [0]), (1, [0, 3]), (2, [0, 3, 4]), (3, [0, 3, 4, 15]), (4, [0, 3, 4]), (5, [0, 3, 4]), (6, [2])], spec_l1New_L A A.fuel⟩
theorem spec_l1New_l0_ok (A : PM.Prims) (n : Nat) (code1 : List Int) (h2 : Int) (i3 : Int) (K : Go.Exit → PM.S → PM.R) : spec_l1New_L A (n + 1) 0 ⟨[(0, .arr (.ints 5 .u8 code1)), (3, .int .i64 h2), (4, .int .i64 i3)], []⟩ K = PM.roundF A cx (PM.runD A cx (spec_l1New_E A).inl (spec_l1New_E A).Γ 3) (spec_l1New_E A) (spec_l1New_L A n) 0 Go.Proofs.Try.f103 ⟨[(0, .arr (.ints 5 .u8 code1)), (3, .int .i64 h2), (4, .int .i64 i3)], []⟩ K := by kernel_rfl
theorem spec_l1New_ok (A : PM.Prims) (code : List Int) (k : PM.V → PM.R) : PM.pfunN A cx (spec_l1New_E A) Go.Proofs.Try.f103 [.arr (.ints 5 .u8 code)] k = spec_l1New_f A code (fun r0_b r0_i r0_h => k (.tup [.arr (.ints 5 .u8 r0_b), .int .i64 r0_i, .int .i64 r0_h])) := by kernel_rfl

theorem spec_l1New_fn : PM.FnIs Try.prog 103 Try.f103 := .of Try.func103 (by kernel_rfl) (by kernel_rfl)
theorem spec_l1New_g : PM.GOk Try.prog cx 103 ⟨[], fun _ _ => none, some (PM.spNew (spec_l1New_w (spec_l1New PM.std)))⟩ := by
  refine PM.GOk.ofS spec_l1New_fn.enter (PM.spNew_ok fun ds k r h => ?_)
  change spec_l1New_w (spec_l1New PM.std) ds k = some r at h
  unfold spec_l1New_w at h
  split at h
  · exact PM.pfunN_ok (E := spec_l1New_E PM.std) (L := fun n => spec_l1New_L PM.std n) (N := PM.std.fuel) cx_ok .nil mixed .nil spec_l1New_fn (by kernel_rfl) ⟨rfl, fun cur σ K => by
      dsimp only [spec_l1New_L]
      split <;> rfl, fun n cur σ K r h => by
      dsimp only [spec_l1New_L] at h
      split at h
      · exact (spec_l1New_l0_ok PM.std n _ _ _ K).symm.trans h
      · cases h⟩
      ((spec_l1New_ok PM.std _ k).trans h)
  · cases h

abbrev spec_l3Any_T := (List Int) → (Int) → (Int) → ((Int) → (List (List Int)) → (List Int) → (Int) → (Int) → PM.R) → PM.R
noncomputable def spec_l3Any_w (c : spec_l3Any_T) (ds : List PM.V) (k : PM.V → PM.R) : PM.R :=
  match ds with
  | [.tup [.arr (.ints 5 .u8 c_b), .int .i64 c_i, .int .i64 c_h]] => c c_b c_i c_h (fun r0_Clock r0_Cells bx_b bx_i bx_h => k (.tup [.agg [.int .i64 r0_Clock, .arr (.vecs 49 3 r0_Cells)], .tup [.arr (.ints 5 .u8 bx_b), .int .i64 bx_i, .int .i64 bx_h]]))
  | _ => none
noncomputable def spec_l3Any_f (A : PM.Prims) (c_108 : spec_l1Below_T) (c_104 : spec_l3Mem_T) (c_b : List Int) (c_i : Int) (c_h : Int) (k : (Int) → (List (List Int)) → (List Int) → (Int) → (Int) → PM.R) : PM.R :=
  c_104 c_b c_i c_h (fun r1 r2 r3 r4 r5 =>
    c_108 r3 r4 r5 8 (fun r6 r7 r8 r9 =>
      c_108 r7 r8 r9 30 (fun r10 r11 r12 r13 =>
        bif (A.eq r10 0) then
          bif (A.subb 0 r6 (A.vlen r2)) then
            k r1 (A.vsub r2 0 r6) r11 r12 r13
          else
            none
        else
          bif (A.eq r10 1) then
            bif (A.inb r6 (A.vlen r2)) then
              k r1 (A.vset r2 r6 1 (A.add .i64 r1 1)) r11 r12 r13
            else
              none
          else
            bif (A.eq r10 2) then
              bif (A.inb r6 (A.vlen r2)) then
                k r1 (A.vset r2 r6 0 65536) r11 r12 r13
              else
                none
            else
              bif (A.eq r10 3) then
                c_108 r11 r12 r13 2 (fun r14 r15 r16 r17 =>
                  bif (A.inb r6 (A.vlen r2)) then
                    k r1 (A.vset r2 r6 2 (A.sub .i64 100 (A.mul .i64 r14 101))) r15 r16 r17
                  else
                    none)
              else
                bif (A.eq r10 4) then
                  k 1000001 r2 r11 r12 r13
                else
                  bif (A.eq r10 5) then
                    bif (A.inb r6 (A.vlen r2)) then
                      k r1 (A.vset r2 r6 1 (-1)) r11 r12 r13
                    else
                      none
                  else
                    k r1 r2 r11 r12 r13)))
noncomputable def spec_l3Any (A : PM.Prims) : spec_l3Any_T := spec_l3Any_f A (spec_l1Below A) (spec_l3Mem A)
noncomputable def spec_l3Any_L (A : PM.Prims) (c_108 : spec_l1Below_T) (c_104 : spec_l3Mem_T) (n : Nat) : PM.Lam := fun cur σ K =>
  match cur, σ, K with
  | _, _, _ => none
noncomputable def spec_l3Any_E (A : PM.Prims) (c_108 : spec_l1Below_T) (c_104 : spec_l3Mem_T) : PM.Env := ⟨[(108, ⟨[], fun _ _ => none, some (PM.spBox (spec_l1Below_w c_108))⟩), (104, ⟨[], fun _ _ => none, some (PM.spBox (spec_l3Mem_w c_104))⟩)], [], [], [(0, [0, 2]), (1, [0, 2, 3]), (2, [0, 2, 3, 4]), (3, [0, 2, 3, 4, 10]), (4, [0, 2, 3, 4, 10, 11]), (5, [0, 2, 3]), (6, [0, 2, 3, 4, 10, 18]), (7, [0, 2, 3]), (8, [0, 2, 3, 4, 10, 28]), (9, [0, 2, 3]), (10, [0, 2, 3, 4, 10, 35]), (11, [0, 2, 3]), (12, [0, 2, 3, 4, 10, 46]), (13, [0, 2, 3]), (14, [0, 2, 3, 4, 49]), (15, [0, 2, 3]), (16, [0, 2])], spec_l3Any_L A c_108 c_104 A.fuel⟩
theorem spec_l3Any_ok (A : PM.Prims) (c_108 : spec_l1Below_T) (c_104 : spec_l3Mem_T) (c_b : List Int) (c_i : Int) (c_h : Int) (k : PM.V → PM.R) : PM.pfunB A cx (spec_l3Any_E A c_108 c_104) Go.Proofs.Try.f106 [.tup [.arr (.ints 5 .u8 c_b), .int .i64 c_i, .int .i64 c_h]] k = spec_l3Any_f A c_108 c_104 c_b c_i c_h (fun r0_Clock r0_Cells bx_b bx_i bx_h => k (.tup [.agg [.int .i64 r0_Clock, .arr (.vecs 49 3 r0_Cells)], .tup [.arr (.ints 5 .u8 bx_b), .int .i64 bx_i, .int .i64 bx_h]])) := by kernel_rfl

theorem spec_l3Any_fn : PM.FnIs Try.prog 106 Try.f106 := .of Try.func106 (by kernel_rfl) (by kernel_rfl)
theorem spec_l3Any_g : PM.GOk Try.prog cx 106 ⟨[], fun _ _ => none, some (PM.spBox (spec_l3Any_w (spec_l3Any PM.std)))⟩ := by
  refine PM.GOk.ofS spec_l3Any_fn.enter (PM.spBox_ok fun ds k r h => ?_)
  change spec_l3Any_w (spec_l3Any PM.std) ds k = some r at h
  unfold spec_l3Any_w at h
  split at h
  · exact PM.pfunB_ok (E := spec_l3Any_E PM.std (spec_l1Below PM.std) (spec_l3Mem PM.std)) (L := fun n => spec_l3Any_L PM.std (spec_l1Below PM.std) (spec_l3Mem PM.std) n) (N := PM.std.fuel) cx_ok (.cons spec_l1Below_g (.cons spec_l3Mem_g .nil)) mixed .nil spec_l3Any_fn (by kernel_rfl) ⟨rfl, fun _ _ _ => rfl, fun n cur σ K r h => by cases h⟩
      ((spec_l3Any_ok PM.std (spec_l1Below PM.std) (spec_l3Mem PM.std) _ _ _ k).trans h)
  · cases h

abbrev spec_l4DrawCell_T := (List Int) → (Int) → (Int) → ((Int) → (List Int) → (Int) → (Int) → PM.R) → PM.R
noncomputable def spec_l4DrawCell_w (c : spec_l4DrawCell_T) (ds : List PM.V) (k : PM.V → PM.R) : PM.R :=
  match ds with
  | [.tup [.arr (.ints 5 .u8 c_b), .int .i64 c_i, .int .i64 c_h]] => c c_b c_i c_h (fun r0 bx_b bx_i bx_h => k (.tup [.int .i64 r0, .tup [.arr (.ints 5 .u8 bx_b), .int .i64 bx_i, .int .i64 bx_h]]))
  | _ => none
noncomputable def spec_l4DrawCell_f (A : PM.Prims) (c_108 : spec_l1Below_T) (c_105 : spec_l1Once_T) (c_b : List Int) (c_i : Int) (c_h : Int) (k : (Int) → (List Int) → (Int) → (Int) → PM.R) : PM.R :=
  c_105 c_b c_i c_h 8 (fun r1 r2 r3 r4 =>
    bif r1 then
      c_108 r2 r3 r4 8 (fun r5 r6 r7 r8 =>
        k r5 r6 r7 r8)
    else
      c_108 r2 r3 r4 3 (fun r9 r10 r11 r12 =>
        k r9 r10 r11 r12))
noncomputable def spec_l4DrawCell (A : PM.Prims) : spec_l4DrawCell_T := spec_l4DrawCell_f A (spec_l1Below A) (spec_l1Once A)
noncomputable def spec_l4DrawCell_L (A : PM.Prims) (c_108 : spec_l1Below_T) (c_105 : spec_l1Once_T) (n : Nat) : PM.Lam := fun cur σ K =>
  match cur, σ, K with
  | _, _, _ => none
noncomputable def spec_l4DrawCell_E (A : PM.Prims) (c_108 : spec_l1Below_T) (c_105 : spec_l1Once_T) : PM.Env := ⟨[(108, ⟨[], fun _ _ => none, some (PM.spBox (spec_l1Below_w c_108))⟩), (105, ⟨[], fun _ _ => none, some (PM.spBox (spec_l1Once_w c_105))⟩)], [], [], [(0, [0]), (1, [0, 4]), (2, [0, 2]), (3, [0, 2])], spec_l4DrawCell_L A c_108 c_105 A.fuel⟩
theorem spec_l4DrawCell_ok (A : PM.Prims) (c_108 : spec_l1Below_T) (c_105 : spec_l1Once_T) (c_b : List Int) (c_i : Int) (c_h : Int) (k : PM.V → PM.R) : PM.pfunB A cx (spec_l4DrawCell_E A c_108 c_105) Go.Proofs.Try.f177 [.tup [.arr (.ints 5 .u8 c_b), .int .i64 c_i, .int .i64 c_h]] k = spec_l4DrawCell_f A c_108 c_105 c_b c_i c_h (fun r0 bx_b bx_i bx_h => k (.tup [.int .i64 r0, .tup [.arr (.ints 5 .u8 bx_b), .int .i64 bx_i, .int .i64 bx_h]])) := by kernel_rfl

theorem spec_l4DrawCell_fn : PM.FnIs Try.prog 177 Try.f177 := .of Try.func177 (by kernel_rfl) (by kernel_rfl)
theorem spec_l4DrawCell_g : PM.GOk Try.prog cx 177 ⟨[], fun _ _ => none, some (PM.spBox (spec_l4DrawCell_w (spec_l4DrawCell PM.std)))⟩ := by
  refine PM.GOk.ofS spec_l4DrawCell_fn.enter (PM.spBox_ok fun ds k r h => ?_)
  change spec_l4DrawCell_w (spec_l4DrawCell PM.std) ds k = some r at h
  unfold spec_l4DrawCell_w at h
  split at h
  · exact PM.pfunB_ok (E := spec_l4DrawCell_E PM.std (spec_l1Below PM.std) (spec_l1Once PM.std)) (L := fun n => spec_l4DrawCell_L PM.std (spec_l1Below PM.std) (spec_l1Once PM.std) n) (N := PM.std.fuel) cx_ok (.cons spec_l1Below_g (.cons spec_l1Once_g .nil)) mixed .nil spec_l4DrawCell_fn (by kernel_rfl) ⟨rfl, fun _ _ _ => rfl, fun n cur σ K r h => by cases h⟩
      ((spec_l4DrawCell_ok PM.std (spec_l1Below PM.std) (spec_l1Once PM.std) _ _ _ k).trans h)
  · cases h

abbrev spec_l8Rows_T := (List Int) → (Int) → (Int) → (Int) → ((List (List Int)) → (List Int) → (Int) → (Int) → PM.R) → PM.R
noncomputable def spec_l8Rows_w (c : spec_l8Rows_T) (ds : List PM.V) (k : PM.V → PM.R) : PM.R :=
  match ds with
  | [.tup [.arr (.ints 5 .u8 c_b), .int .i64 c_i, .int .i64 c_h], .int .i64 most] => c c_b c_i c_h most (fun r0 bx_b bx_i bx_h => k (.tup [.arr (.vecs 135 2 r0), .tup [.arr (.ints 5 .u8 bx_b), .int .i64 bx_i, .int .i64 bx_h]]))
  | _ => none
noncomputable def spec_l8Rows_l0 (A : PM.Prims) (c_108 : spec_l1Below_T) (c_158 : spec_l3Draw_T) (c_177 : spec_l4DrawCell_T) : Nat → (Int) → (List Int) → (Int) → (Int) → (List (List Int)) → ((List Int) → (Int) → (Int) → (List (List Int)) → PM.R) → PM.R
  | 0, _, _, _, _, _, _ => none
  | n + 1, n5, o06, o07, o08, o19, kx0_0 =>
    bif (A.lt 0 n5) then
      c_177 o06 o07 o08 (fun r10 r11 r12 r13 =>
        c_158 r11 r12 r13 (fun r14 r15 r16 r17 =>
          bif (A.room (A.vlen o19) (A.vlen [[r10, r14]])) then
            spec_l8Rows_l0 A c_108 c_158 c_177 n (A.sub .i64 n5 1) r15 r16 r17 (A.vapp o19 [[r10, r14]]) kx0_0
          else
            none))
    else
      kx0_0 o06 o07 o08 o19
noncomputable def spec_l8Rows_f (A : PM.Prims) (c_108 : spec_l1Below_T) (c_158 : spec_l3Draw_T) (c_177 : spec_l4DrawCell_T) (c_b : List Int) (c_i : Int) (c_h : Int) (most : Int) (k : (List (List Int)) → (List Int) → (Int) → (Int) → PM.R) : PM.R :=
  c_108 c_b c_i c_h (A.add .i64 most 1) (fun r1 r2 r3 r4 =>
    spec_l8Rows_l0 A c_108 c_158 c_177 A.fuel r1 r2 r3 r4 [] (fun o01822 o01923 o02024 o12125 =>
      k o12125 o01822 o01923 o02024))
noncomputable def spec_l8Rows (A : PM.Prims) : spec_l8Rows_T := spec_l8Rows_f A (spec_l1Below A) (spec_l3Draw A) (spec_l4DrawCell A)
noncomputable def spec_l8Rows_L (A : PM.Prims) (c_108 : spec_l1Below_T) (c_158 : spec_l3Draw_T) (c_177 : spec_l4DrawCell_T) (n : Nat) : PM.Lam := fun cur σ K =>
  match cur, σ, K with
  | 0, ⟨[(0, .pbox 0 0), (5, .sref 1), (6, .int .i64 n5)], [(0, .box [.arr (.ints 5 .u8 o06), .int .i64 o07, .int .i64 o08]), (1, .arr true (.vecs 135 2 o19))]⟩, K => spec_l8Rows_l0 A c_108 c_158 c_177 n n5 o06 o07 o08 o19 (fun o018 o019 o020 o121 => K (.exit 0) ⟨[(0, .pbox 0 0), (5, .sref 1)], [(0, .box [.arr (.ints 5 .u8 o018), .int .i64 o019, .int .i64 o020]), (1, .arr true (.vecs 135 2 o121))]⟩)
  | _, _, _ => none
noncomputable def spec_l8Rows_E (A : PM.Prims) (c_108 : spec_l1Below_T) (c_158 : spec_l3Draw_T) (c_177 : spec_l4DrawCell_T) : PM.Env := ⟨[(108, ⟨[], fun _ _ => none, some (PM.spBox (spec_l1Below_w c_108))⟩), (158, ⟨[], fun _ _ => none, some (PM.spBox (spec_l3Draw_w c_158))⟩), (177, ⟨[], fun _ _ => none, some (PM.spBox (spec_l4DrawCell_w c_177))⟩)], [], [(0, [0, 5, 6], [0, 4, 5])], [(0, [0, 1]), (1, [0, 1, 5]), (2, [0, 5, 6]), (3, [0, 5, 6, 13]), (4, [0, 5, 6]), (5, [0, 5, 6]), (6, [0, 4])], spec_l8Rows_L A c_108 c_158 c_177 A.fuel⟩
theorem spec_l8Rows_l0_ok (A : PM.Prims) (c_108 : spec_l1Below_T) (c_158 : spec_l3Draw_T) (c_177 : spec_l4DrawCell_T) (n : Nat) (n5 : Int) (o06 : List Int) (o07 : Int) (o08 : Int) (o19 : List (List Int)) (K : Go.Exit → PM.S → PM.R) : spec_l8Rows_L A c_108 c_158 c_177 (n + 1) 0 ⟨[(0, .pbox 0 0), (5, .sref 1), (6, .int .i64 n5)], [(0, .box [.arr (.ints 5 .u8 o06), .int .i64 o07, .int .i64 o08]), (1, .arr true (.vecs 135 2 o19))]⟩ K = PM.roundF A cx (PM.runD A cx (spec_l8Rows_E A c_108 c_158 c_177).inl (spec_l8Rows_E A c_108 c_158 c_177).Γ 3) (spec_l8Rows_E A c_108 c_158 c_177) (spec_l8Rows_L A c_108 c_158 c_177 n) 0 Go.Proofs.Try.f166 ⟨[(0, .pbox 0 0), (5, .sref 1), (6, .int .i64 n5)], [(0, .box [.arr (.ints 5 .u8 o06), .int .i64 o07, .int .i64 o08]), (1, .arr true (.vecs 135 2 o19))]⟩ K := by kernel_rfl
theorem spec_l8Rows_ok (A : PM.Prims) (c_108 : spec_l1Below_T) (c_158 : spec_l3Draw_T) (c_177 : spec_l4DrawCell_T) (c_b : List Int) (c_i : Int) (c_h : Int) (most : Int) (k : PM.V → PM.R) : PM.pfunB A cx (spec_l8Rows_E A c_108 c_158 c_177) Go.Proofs.Try.f166 [.tup [.arr (.ints 5 .u8 c_b), .int .i64 c_i, .int .i64 c_h], .int .i64 most] k = spec_l8Rows_f A c_108 c_158 c_177 c_b c_i c_h most (fun r0 bx_b bx_i bx_h => k (.tup [.arr (.vecs 135 2 r0), .tup [.arr (.ints 5 .u8 bx_b), .int .i64 bx_i, .int .i64 bx_h]])) := by kernel_rfl

theorem spec_l8Rows_fn : PM.FnIs Try.prog 166 Try.f166 := .of Try.func166 (by kernel_rfl) (by kernel_rfl)
theorem spec_l8Rows_g : PM.GOk Try.prog cx 166 ⟨[], fun _ _ => none, some (PM.spBox (spec_l8Rows_w (spec_l8Rows PM.std)))⟩ := by
  refine PM.GOk.ofS spec_l8Rows_fn.enter (PM.spBox_ok fun ds k r h => ?_)
  change spec_l8Rows_w (spec_l8Rows PM.std) ds k = some r at h
  unfold spec_l8Rows_w at h
  split at h
  · exact PM.pfunB_ok (E := spec_l8Rows_E PM.std (spec_l1Below PM.std) (spec_l3Draw PM.std) (spec_l4DrawCell PM.std)) (L := fun n => spec_l8Rows_L PM.std (spec_l1Below PM.std) (spec_l3Draw PM.std) (spec_l4DrawCell PM.std) n) (N := PM.std.fuel) cx_ok (.cons spec_l1Below_g (.cons spec_l3Draw_g (.cons spec_l4DrawCell_g .nil))) mixed .nil spec_l8Rows_fn (by kernel_rfl) ⟨rfl, fun cur σ K => by
      dsimp only [spec_l8Rows_L]
      split <;> rfl, fun n cur σ K r h => by
      dsimp only [spec_l8Rows_L] at h
      split at h
      · exact (spec_l8Rows_l0_ok PM.std (spec_l1Below PM.std) (spec_l3Draw PM.std) (spec_l4DrawCell PM.std) n _ _ _ _ _ K).symm.trans h
      · cases h⟩
      ((spec_l8Rows_ok PM.std (spec_l1Below PM.std) (spec_l3Draw PM.std) (spec_l4DrawCell PM.std) _ _ _ _ k).trans h)
  · cases h

abbrev spec_l10Some_T := (List Int) → (Int) → (Int) → ((Int) → (List (List Int)) → (Int) → (Int) → (Int) → (Int) → (Int) → (List (List Int)) → (List Int) → (List Int) → (Int) → (Int) → PM.R) → PM.R
noncomputable def spec_l10Some_w (c : spec_l10Some_T) (ds : List PM.V) (k : PM.V → PM.R) : PM.R :=
  match ds with
  | [.tup [.arr (.ints 5 .u8 c_b), .int .i64 c_i, .int .i64 c_h]] => c c_b c_i c_h (fun r0_Clock r0_Cells r1_Who r1_Rv r1_Phase r1_At r1_Wv r1_Puts r1_Reads bx_b bx_i bx_h => k (.tup [.tup [.agg [.int .i64 r0_Clock, .arr (.vecs 49 3 r0_Cells)], .agg [.int .i64 r1_Who, .int .i64 r1_Rv, .int .i64 r1_Phase, .int .i64 r1_At, .int .i64 r1_Wv, .arr (.vecs 135 2 r1_Puts), .arr (.ints 3 .i64 r1_Reads)]], .tup [.arr (.ints 5 .u8 bx_b), .int .i64 bx_i, .int .i64 bx_h]]))
  | _ => none
noncomputable def spec_l10Some_l2 (A : PM.Prims) (c_67 : spec_CommitNew_T) (c_76 : spec_CommitStep_T) (c_108 : spec_l1Below_T) (c_105 : spec_l1Once_T) (c_104 : spec_l3Mem_T) (c_166 : spec_l8Rows_T) : Nat → (Int) → (List Int) → (Int) → (Int) → (Int) → (Int) → (Int) → (Int) → (Int) → (Int) → (Int) → (Int) → (Int) → (Int) → (Int) → (Int) → (List (List Int)) → (List (List Int)) → (List Int) → (List (List Int)) → (List (List Int)) → (List Int) → ((List Int) → (Int) → (Int) → (Int) → (Int) → (Int) → (Int) → (Int) → (Int) → (Int) → (Int) → (Int) → (Int) → (Int) → (Int) → (List (List Int)) → (List (List Int)) → (List Int) → (List (List Int)) → (List (List Int)) → (List Int) → PM.R) → PM.R
  | 0, _, _, _, _, _, _, _, _, _, _, _, _, _, _, _, _, _, _, _, _, _, _, _ => none
  | n + 1, n81, o082, o083, o084, o185, o286, o287, o288, o289, o290, o391, o492, o493, o494, o495, o496, o597, o698, o799, o8100, o9101, o10102, kx2_2 =>
    bif (A.lt 0 n81) then
      c_76 o391 o8100 o492 o493 o494 o495 o496 o9101 o10102 (fun r103 r104 r105 r106 r107 r108 r109 r110 r111 =>
        spec_l10Some_l2 A c_67 c_76 c_108 c_105 c_104 c_166 n (A.sub .i64 n81 1) o082 o083 o084 o185 o286 o287 o288 o289 o290 r103 r105 r106 r107 r108 r109 o597 o698 o799 r104 r110 r111 kx2_2)
    else
      kx2_2 o082 o083 o084 o185 o286 o287 o288 o289 o290 o391 o492 o493 o494 o495 o496 o597 o698 o799 o8100 o9101 o10102
noncomputable def spec_l10Some_l0 (A : PM.Prims) (c_67 : spec_CommitNew_T) (c_76 : spec_CommitStep_T) (c_108 : spec_l1Below_T) (c_105 : spec_l1Once_T) (c_104 : spec_l3Mem_T) (c_166 : spec_l8Rows_T) : Nat → (Int) → (List Int) → (Int) → (Int) → (Int) → (Int) → (Int) → (Int) → (Int) → (Int) → (Int) → (List (List Int)) → (List (List Int)) → (List Int) → (List (List Int)) → ((List Int) → (Int) → (Int) → (Int) → (Int) → (Int) → (Int) → (Int) → (Int) → (Int) → (List (List Int)) → (List (List Int)) → (List Int) → (List (List Int)) → PM.R) → PM.R
  | 0, _, _, _, _, _, _, _, _, _, _, _, _, _, _, _, _ => none
  | n + 1, i10, o011, o012, o013, o114, o215, o216, o217, o218, o219, o320, o421, o522, o623, o724, kx0_0 =>
    bif (A.lt i10 (A.vlen o724)) then
      bif (A.inb i10 (A.vlen o724)) then
        spec_l10Some_l0 A c_67 c_76 c_108 c_105 c_104 c_166 n (A.add .i64 i10 1) o011 o012 o013 o114 o215 o216 o217 o218 o219 o320 o421 o522 o623 (A.vset o724 i10 2 0) kx0_0
      else
        none
    else
      kx0_0 o011 o012 o013 o114 o215 o216 o217 o218 o219 o320 o421 o522 o623 o724
noncomputable def spec_l10Some_f (A : PM.Prims) (c_67 : spec_CommitNew_T) (c_76 : spec_CommitStep_T) (c_108 : spec_l1Below_T) (c_105 : spec_l1Once_T) (c_104 : spec_l3Mem_T) (c_166 : spec_l8Rows_T) (c_b : List Int) (c_i : Int) (c_h : Int) (k : (Int) → (List (List Int)) → (Int) → (Int) → (Int) → (Int) → (Int) → (List (List Int)) → (List Int) → (List Int) → (Int) → (Int) → PM.R) : PM.R :=
  c_104 c_b c_i c_h (fun r1 r2 r3 r4 r5 =>
    c_105 r3 r4 r5 2 (fun r6 r7 r8 r9 =>
      bif r6 then
        spec_l10Some_l0 A c_67 c_76 c_108 c_105 c_104 c_166 A.fuel 0 r7 r8 r9 0 0 0 0 0 0 r1 [] [] [] r2 (fun o02539 o02640 o02741 o12842 o22943 o23044 o23145 o23246 o23347 o33448 o43549 o53650 o63751 o73852 =>
          c_108 o02539 o02640 o02741 3 (fun r53 r54 r55 r56 =>
            bif (A.lt (A.sub .i64 o33448 r53) 0) then
              c_108 r54 r55 r56 4 (fun r57 r58 r59 r60 =>
                c_166 r58 r59 r60 4 (fun r61 r62 r63 r64 =>
                  c_166 r62 r63 r64 4 (fun r65 r66 r67 r68 =>
                    c_67 (A.add .i64 1 r57) 0 r61 r65 (fun r69 r70 r71 r72 r73 r74 r75 r76 =>
                      c_108 r66 r67 r68 16 (fun r77 r78 r79 r80 =>
                        spec_l10Some_l2 A c_67 c_76 c_108 c_105 c_104 c_166 A.fuel r77 r78 r79 r80 o12842 o22943 o23044 o23145 o23246 o23347 o33448 r69 r70 r71 r72 r73 o43549 o53650 o63751 o73852 r74 r75 (fun o0112133 o0113134 o0114135 o1115136 o2116137 o2117138 o2118139 o2119140 o2120141 o3121142 o4122143 o4123144 o4124145 o4125146 o4126147 o5127148 o6128149 o7129150 o8130151 o9131152 o10132153 =>
                          k o3121142 o8130151 o4122143 o4123144 o4124145 o4125146 o4126147 o9131152 o10132153 o0112133 o0113134 o0114135))))))
            else
              c_108 r54 r55 r56 4 (fun r154 r155 r156 r157 =>
                c_166 r155 r156 r157 4 (fun r158 r159 r160 r161 =>
                  c_166 r159 r160 r161 4 (fun r162 r163 r164 r165 =>
                    c_67 (A.add .i64 1 r154) (A.sub .i64 o33448 r53) r158 r162 (fun r166 r167 r168 r169 r170 r171 r172 r173 =>
                      c_108 r163 r164 r165 16 (fun r174 r175 r176 r177 =>
                        spec_l10Some_l2 A c_67 c_76 c_108 c_105 c_104 c_166 A.fuel r174 r175 r176 r177 o12842 o22943 o23044 o23145 o23246 o23347 o33448 r166 r167 r168 r169 r170 o43549 o53650 o63751 o73852 r171 r172 (fun o0112200 o0113201 o0114202 o1115203 o2116204 o2117205 o2118206 o2119207 o2120208 o3121209 o4122210 o4123211 o4124212 o4125213 o4126214 o5127215 o6128216 o7129217 o8130218 o9131219 o10132220 =>
                          k o3121209 o8130218 o4122210 o4123211 o4124212 o4125213 o4126214 o9131219 o10132220 o0112200 o0113201 o0114202))))))))
      else
        c_108 r7 r8 r9 3 (fun r221 r222 r223 r224 =>
          bif (A.lt (A.sub .i64 r1 r221) 0) then
            c_108 r222 r223 r224 4 (fun r225 r226 r227 r228 =>
              c_166 r226 r227 r228 4 (fun r229 r230 r231 r232 =>
                c_166 r230 r231 r232 4 (fun r233 r234 r235 r236 =>
                  c_67 (A.add .i64 1 r225) 0 r229 r233 (fun r237 r238 r239 r240 r241 r242 r243 r244 =>
                    c_108 r234 r235 r236 16 (fun r245 r246 r247 r248 =>
                      spec_l10Some_l2 A c_67 c_76 c_108 c_105 c_104 c_166 A.fuel r245 r246 r247 r248 0 0 0 0 0 0 r1 r237 r238 r239 r240 r241 [] [] [] r2 r242 r243 (fun o0112271 o0113272 o0114273 o1115274 o2116275 o2117276 o2118277 o2119278 o2120279 o3121280 o4122281 o4123282 o4124283 o4125284 o4126285 o5127286 o6128287 o7129288 o8130289 o9131290 o10132291 =>
                        k o3121280 o8130289 o4122281 o4123282 o4124283 o4125284 o4126285 o9131290 o10132291 o0112271 o0113272 o0114273))))))
          else
            c_108 r222 r223 r224 4 (fun r292 r293 r294 r295 =>
              c_166 r293 r294 r295 4 (fun r296 r297 r298 r299 =>
                c_166 r297 r298 r299 4 (fun r300 r301 r302 r303 =>
                  c_67 (A.add .i64 1 r292) (A.sub .i64 r1 r221) r296 r300 (fun r304 r305 r306 r307 r308 r309 r310 r311 =>
                    c_108 r301 r302 r303 16 (fun r312 r313 r314 r315 =>
                      spec_l10Some_l2 A c_67 c_76 c_108 c_105 c_104 c_166 A.fuel r312 r313 r314 r315 0 0 0 0 0 0 r1 r304 r305 r306 r307 r308 [] [] [] r2 r309 r310 (fun o0112338 o0113339 o0114340 o1115341 o2116342 o2117343 o2118344 o2119345 o2120346 o3121347 o4122348 o4123349 o4124350 o4125351 o4126352 o5127353 o6128354 o7129355 o8130356 o9131357 o10132358 =>
                        k o3121347 o8130356 o4122348 o4123349 o4124350 o4125351 o4126352 o9131357 o10132358 o0112338 o0113339 o0114340)))))))))
noncomputable def spec_l10Some (A : PM.Prims) : spec_l10Some_T := spec_l10Some_f A (spec_CommitNew A) (spec_CommitStep A) (spec_l1Below A) (spec_l1Once A) (spec_l3Mem A) (spec_l8Rows A)
noncomputable def spec_l10Some_L (A : PM.Prims) (c_67 : spec_CommitNew_T) (c_76 : spec_CommitStep_T) (c_108 : spec_l1Below_T) (c_105 : spec_l1Once_T) (c_104 : spec_l3Mem_T) (c_166 : spec_l8Rows_T) (n : Nat) : PM.Lam := fun cur σ K =>
  match cur, σ, K with
  | 0, ⟨[(0, .pbox 0 0), (2, .pbox 1 0), (3, .pbox 2 0), (4, .pbox 3 0), (5, .int .i64 i10)], [(0, .box [.arr (.ints 5 .u8 o011), .int .i64 o012, .int .i64 o013]), (1, .box [.int .i64 o114, .sref 4]), (2, .box [.int .i64 o215, .int .i64 o216, .int .i64 o217, .int .i64 o218, .int .i64 o219, .sref 5, .sref 6]), (3, .box [.int .i64 o320, .sref 7]), (4, .arr true (.vecs 49 3 o421)), (5, .arr true (.vecs 135 2 o522)), (6, .arr true (.ints 3 .i64 o623)), (7, .arr true (.vecs 49 3 o724))]⟩, K => spec_l10Some_l0 A c_67 c_76 c_108 c_105 c_104 c_166 n i10 o011 o012 o013 o114 o215 o216 o217 o218 o219 o320 o421 o522 o623 o724 (fun o025 o026 o027 o128 o229 o230 o231 o232 o233 o334 o435 o536 o637 o738 => K (.exit 0) ⟨[(0, .pbox 0 0), (2, .pbox 1 0), (3, .pbox 2 0), (4, .pbox 3 0)], [(0, .box [.arr (.ints 5 .u8 o025), .int .i64 o026, .int .i64 o027]), (1, .box [.int .i64 o128, .sref 4]), (2, .box [.int .i64 o229, .int .i64 o230, .int .i64 o231, .int .i64 o232, .int .i64 o233, .sref 5, .sref 6]), (3, .box [.int .i64 o334, .sref 7]), (4, .arr true (.vecs 49 3 o435)), (5, .arr true (.vecs 135 2 o536)), (6, .arr true (.ints 3 .i64 o637)), (7, .arr true (.vecs 49 3 o738))]⟩)
  | 2, ⟨[(0, .pbox 0 0), (2, .pbox 1 0), (3, .pbox 2 0), (4, .pbox 3 0), (7, .pbox 4 0), (9, .int .i64 n81)], [(0, .box [.arr (.ints 5 .u8 o082), .int .i64 o083, .int .i64 o084]), (1, .box [.int .i64 o185, .sref 5]), (2, .box [.int .i64 o286, .int .i64 o287, .int .i64 o288, .int .i64 o289, .int .i64 o290, .sref 6, .sref 7]), (3, .box [.int .i64 o391, .sref 8]), (4, .box [.int .i64 o492, .int .i64 o493, .int .i64 o494, .int .i64 o495, .int .i64 o496, .sref 9, .sref 10]), (5, .arr true (.vecs 49 3 o597)), (6, .arr true (.vecs 135 2 o698)), (7, .arr true (.ints 3 .i64 o799)), (8, .arr true (.vecs 49 3 o8100)), (9, .arr true (.vecs 135 2 o9101)), (10, .arr true (.ints 3 .i64 o10102))]⟩, K => spec_l10Some_l2 A c_67 c_76 c_108 c_105 c_104 c_166 n n81 o082 o083 o084 o185 o286 o287 o288 o289 o290 o391 o492 o493 o494 o495 o496 o597 o698 o799 o8100 o9101 o10102 (fun o0112 o0113 o0114 o1115 o2116 o2117 o2118 o2119 o2120 o3121 o4122 o4123 o4124 o4125 o4126 o5127 o6128 o7129 o8130 o9131 o10132 => K (.exit 2) ⟨[(0, .pbox 0 0), (2, .pbox 1 0), (3, .pbox 2 0), (4, .pbox 3 0), (7, .pbox 4 0)], [(0, .box [.arr (.ints 5 .u8 o0112), .int .i64 o0113, .int .i64 o0114]), (1, .box [.int .i64 o1115, .sref 5]), (2, .box [.int .i64 o2116, .int .i64 o2117, .int .i64 o2118, .int .i64 o2119, .int .i64 o2120, .sref 6, .sref 7]), (3, .box [.int .i64 o3121, .sref 8]), (4, .box [.int .i64 o4122, .int .i64 o4123, .int .i64 o4124, .int .i64 o4125, .int .i64 o4126, .sref 9, .sref 10]), (5, .arr true (.vecs 49 3 o5127)), (6, .arr true (.vecs 135 2 o6128)), (7, .arr true (.ints 3 .i64 o7129)), (8, .arr true (.vecs 49 3 o8130)), (9, .arr true (.vecs 135 2 o9131)), (10, .arr true (.ints 3 .i64 o10132))]⟩)
  | _, _, _ => none
noncomputable def spec_l10Some_E (A : PM.Prims) (c_67 : spec_CommitNew_T) (c_76 : spec_CommitStep_T) (c_108 : spec_l1Below_T) (c_105 : spec_l1Once_T) (c_104 : spec_l3Mem_T) (c_166 : spec_l8Rows_T) : PM.Env := ⟨[(67, ⟨[], spec_CommitNew_w c_67, none⟩), (76, ⟨[], spec_CommitStep_w c_76, none⟩), (108, ⟨[], fun _ _ => none, some (PM.spBox (spec_l1Below_w c_108))⟩), (105, ⟨[], fun _ _ => none, some (PM.spBox (spec_l1Once_w c_105))⟩), (104, ⟨[], fun _ _ => none, some (PM.spBox (spec_l3Mem_w c_104))⟩), (166, ⟨[], fun _ _ => none, some (PM.spBox (spec_l8Rows_w c_166))⟩)], [], [(0, [0, 2, 3, 4, 5], [0, 2, 3, 4]), (2, [0, 2, 3, 4, 7, 9], [0, 2, 3, 4, 7])], [(0, [0, 2, 3]), (1, [0, 2, 3, 4]), (2, [0, 2, 3, 4, 13]), (3, [0, 2, 3, 4, 5]), (4, [0, 2, 3, 4, 5, 18]), (5, [0, 2, 3, 4, 5]), (6, [0, 2, 3, 4, 5]), (7, [0, 2, 3, 4, 6]), (8, [0, 2, 3, 4, 6, 32]), (9, [0, 2, 3, 4, 6]), (10, [0, 2, 3, 4, 7]), (11, [0, 2, 3, 4, 7, 9]), (12, [0, 2, 3, 4, 7, 9, 48]), (13, [0, 2, 3, 4, 7, 9]), (14, [0, 2, 3, 4, 7, 9]), (15, [0, 2, 3])], spec_l10Some_L A c_67 c_76 c_108 c_105 c_104 c_166 A.fuel⟩
theorem spec_l10Some_l0_ok (A : PM.Prims) (c_67 : spec_CommitNew_T) (c_76 : spec_CommitStep_T) (c_108 : spec_l1Below_T) (c_105 : spec_l1Once_T) (c_104 : spec_l3Mem_T) (c_166 : spec_l8Rows_T) (n : Nat) (i10 : Int) (o011 : List Int) (o012 : Int) (o013 : Int) (o114 : Int) (o215 : Int) (o216 : Int) (o217 : Int) (o218 : Int) (o219 : Int) (o320 : Int) (o421 : List (List Int)) (o522 : List (List Int)) (o623 : List Int) (o724 : List (List Int)) (K : Go.Exit → PM.S → PM.R) : spec_l10Some_L A c_67 c_76 c_108 c_105 c_104 c_166 (n + 1) 0 ⟨[(0, .pbox 0 0), (2, .pbox 1 0), (3, .pbox 2 0), (4, .pbox 3 0), (5, .int .i64 i10)], [(0, .box [.arr (.ints 5 .u8 o011), .int .i64 o012, .int .i64 o013]), (1, .box [.int .i64 o114, .sref 4]), (2, .box [.int .i64 o215, .int .i64 o216, .int .i64 o217, .int .i64 o218, .int .i64 o219, .sref 5, .sref 6]), (3, .box [.int .i64 o320, .sref 7]), (4, .arr true (.vecs 49 3 o421)), (5, .arr true (.vecs 135 2 o522)), (6, .arr true (.ints 3 .i64 o623)), (7, .arr true (.vecs 49 3 o724))]⟩ K = PM.roundF A cx (PM.runD A cx (spec_l10Some_E A c_67 c_76 c_108 c_105 c_104 c_166).inl (spec_l10Some_E A c_67 c_76 c_108 c_105 c_104 c_166).Γ 3) (spec_l10Some_E A c_67 c_76 c_108 c_105 c_104 c_166) (spec_l10Some_L A c_67 c_76 c_108 c_105 c_104 c_166 n) 0 Go.Proofs.Try.f165 ⟨[(0, .pbox 0 0), (2, .pbox 1 0), (3, .pbox 2 0), (4, .pbox 3 0), (5, .int .i64 i10)], [(0, .box [.arr (.ints 5 .u8 o011), .int .i64 o012, .int .i64 o013]), (1, .box [.int .i64 o114, .sref 4]), (2, .box [.int .i64 o215, .int .i64 o216, .int .i64 o217, .int .i64 o218, .int .i64 o219, .sref 5, .sref 6]), (3, .box [.int .i64 o320, .sref 7]), (4, .arr true (.vecs 49 3 o421)), (5, .arr true (.vecs 135 2 o522)), (6, .arr true (.ints 3 .i64 o623)), (7, .arr true (.vecs 49 3 o724))]⟩ K := by kernel_rfl
theorem spec_l10Some_l2_ok (A : PM.Prims) (c_67 : spec_CommitNew_T) (c_76 : spec_CommitStep_T) (c_108 : spec_l1Below_T) (c_105 : spec_l1Once_T) (c_104 : spec_l3Mem_T) (c_166 : spec_l8Rows_T) (n : Nat) (n81 : Int) (o082 : List Int) (o083 : Int) (o084 : Int) (o185 : Int) (o286 : Int) (o287 : Int) (o288 : Int) (o289 : Int) (o290 : Int) (o391 : Int) (o492 : Int) (o493 : Int) (o494 : Int) (o495 : Int) (o496 : Int) (o597 : List (List Int)) (o698 : List (List Int)) (o799 : List Int) (o8100 : List (List Int)) (o9101 : List (List Int)) (o10102 : List Int) (K : Go.Exit → PM.S → PM.R) : spec_l10Some_L A c_67 c_76 c_108 c_105 c_104 c_166 (n + 1) 2 ⟨[(0, .pbox 0 0), (2, .pbox 1 0), (3, .pbox 2 0), (4, .pbox 3 0), (7, .pbox 4 0), (9, .int .i64 n81)], [(0, .box [.arr (.ints 5 .u8 o082), .int .i64 o083, .int .i64 o084]), (1, .box [.int .i64 o185, .sref 5]), (2, .box [.int .i64 o286, .int .i64 o287, .int .i64 o288, .int .i64 o289, .int .i64 o290, .sref 6, .sref 7]), (3, .box [.int .i64 o391, .sref 8]), (4, .box [.int .i64 o492, .int .i64 o493, .int .i64 o494, .int .i64 o495, .int .i64 o496, .sref 9, .sref 10]), (5, .arr true (.vecs 49 3 o597)), (6, .arr true (.vecs 135 2 o698)), (7, .arr true (.ints 3 .i64 o799)), (8, .arr true (.vecs 49 3 o8100)), (9, .arr true (.vecs 135 2 o9101)), (10, .arr true (.ints 3 .i64 o10102))]⟩ K = PM.roundF A cx (PM.runD A cx (spec_l10Some_E A c_67 c_76 c_108 c_105 c_104 c_166).inl (spec_l10Some_E A c_67 c_76 c_108 c_105 c_104 c_166).Γ 3) (spec_l10Some_E A c_67 c_76 c_108 c_105 c_104 c_166) (spec_l10Some_L A c_67 c_76 c_108 c_105 c_104 c_166 n) 2 Go.Proofs.Try.f165 ⟨[(0, .pbox 0 0), (2, .pbox 1 0), (3, .pbox 2 0), (4, .pbox 3 0), (7, .pbox 4 0), (9, .int .i64 n81)], [(0, .box [.arr (.ints 5 .u8 o082), .int .i64 o083, .int .i64 o084]), (1, .box [.int .i64 o185, .sref 5]), (2, .box [.int .i64 o286, .int .i64 o287, .int .i64 o288, .int .i64 o289, .int .i64 o290, .sref 6, .sref 7]), (3, .box [.int .i64 o391, .sref 8]), (4, .box [.int .i64 o492, .int .i64 o493, .int .i64 o494, .int .i64 o495, .int .i64 o496, .sref 9, .sref 10]), (5, .arr true (.vecs 49 3 o597)), (6, .arr true (.vecs 135 2 o698)), (7, .arr true (.ints 3 .i64 o799)), (8, .arr true (.vecs 49 3 o8100)), (9, .arr true (.vecs 135 2 o9101)), (10, .arr true (.ints 3 .i64 o10102))]⟩ K := by kernel_rfl
theorem spec_l10Some_ok (A : PM.Prims) (c_67 : spec_CommitNew_T) (c_76 : spec_CommitStep_T) (c_108 : spec_l1Below_T) (c_105 : spec_l1Once_T) (c_104 : spec_l3Mem_T) (c_166 : spec_l8Rows_T) (c_b : List Int) (c_i : Int) (c_h : Int) (k : PM.V → PM.R) : PM.pfunB A cx (spec_l10Some_E A c_67 c_76 c_108 c_105 c_104 c_166) Go.Proofs.Try.f165 [.tup [.arr (.ints 5 .u8 c_b), .int .i64 c_i, .int .i64 c_h]] k = spec_l10Some_f A c_67 c_76 c_108 c_105 c_104 c_166 c_b c_i c_h (fun r0_Clock r0_Cells r1_Who r1_Rv r1_Phase r1_At r1_Wv r1_Puts r1_Reads bx_b bx_i bx_h => k (.tup [.tup [.agg [.int .i64 r0_Clock, .arr (.vecs 49 3 r0_Cells)], .agg [.int .i64 r1_Who, .int .i64 r1_Rv, .int .i64 r1_Phase, .int .i64 r1_At, .int .i64 r1_Wv, .arr (.vecs 135 2 r1_Puts), .arr (.ints 3 .i64 r1_Reads)]], .tup [.arr (.ints 5 .u8 bx_b), .int .i64 bx_i, .int .i64 bx_h]])) := by kernel_rfl

theorem spec_l10Some_fn : PM.FnIs Try.prog 165 Try.f165 := .of Try.func165 (by kernel_rfl) (by kernel_rfl)
theorem spec_l10Some_g : PM.GOk Try.prog cx 165 ⟨[], fun _ _ => none, some (PM.spBox (spec_l10Some_w (spec_l10Some PM.std)))⟩ := by
  refine PM.GOk.ofS spec_l10Some_fn.enter (PM.spBox_ok fun ds k r h => ?_)
  change spec_l10Some_w (spec_l10Some PM.std) ds k = some r at h
  unfold spec_l10Some_w at h
  split at h
  · exact PM.pfunB_ok (E := spec_l10Some_E PM.std (spec_CommitNew PM.std) (spec_CommitStep PM.std) (spec_l1Below PM.std) (spec_l1Once PM.std) (spec_l3Mem PM.std) (spec_l8Rows PM.std)) (L := fun n => spec_l10Some_L PM.std (spec_CommitNew PM.std) (spec_CommitStep PM.std) (spec_l1Below PM.std) (spec_l1Once PM.std) (spec_l3Mem PM.std) (spec_l8Rows PM.std) n) (N := PM.std.fuel) cx_ok (.cons spec_CommitNew_g (.cons spec_CommitStep_g (.cons spec_l1Below_g (.cons spec_l1Once_g (.cons spec_l3Mem_g (.cons spec_l8Rows_g .nil)))))) mixed .nil spec_l10Some_fn (by kernel_rfl) ⟨rfl, fun cur σ K => by
      dsimp only [spec_l10Some_L]
      split <;> rfl, fun n cur σ K r h => by
      dsimp only [spec_l10Some_L] at h
      split at h
      · exact (spec_l10Some_l0_ok PM.std (spec_CommitNew PM.std) (spec_CommitStep PM.std) (spec_l1Below PM.std) (spec_l1Once PM.std) (spec_l3Mem PM.std) (spec_l8Rows PM.std) n _ _ _ _ _ _ _ _ _ _ _ _ _ _ _ K).symm.trans h
      · exact (spec_l10Some_l2_ok PM.std (spec_CommitNew PM.std) (spec_CommitStep PM.std) (spec_l1Below PM.std) (spec_l1Once PM.std) (spec_l3Mem PM.std) (spec_l8Rows PM.std) n _ _ _ _ _ _ _ _ _ _ _ _ _ _ _ _ _ _ _ _ _ _ K).symm.trans h
      · cases h⟩
      ((spec_l10Some_ok PM.std (spec_CommitNew PM.std) (spec_CommitStep PM.std) (spec_l1Below PM.std) (spec_l1Once PM.std) (spec_l3Mem PM.std) (spec_l8Rows PM.std) _ _ _ k).trans h)
  · cases h

abbrev spec_l10Any_T := (List Int) → (Int) → (Int) → ((Int) → (List (List Int)) → (Int) → (Int) → (Int) → (Int) → (Int) → (List (List Int)) → (List Int) → (List Int) → (Int) → (Int) → PM.R) → PM.R
noncomputable def spec_l10Any_w (c : spec_l10Any_T) (ds : List PM.V) (k : PM.V → PM.R) : PM.R :=
  match ds with
  | [.tup [.arr (.ints 5 .u8 c_b), .int .i64 c_i, .int .i64 c_h]] => c c_b c_i c_h (fun r0_Clock r0_Cells r1_Who r1_Rv r1_Phase r1_At r1_Wv r1_Puts r1_Reads bx_b bx_i bx_h => k (.tup [.tup [.agg [.int .i64 r0_Clock, .arr (.vecs 49 3 r0_Cells)], .agg [.int .i64 r1_Who, .int .i64 r1_Rv, .int .i64 r1_Phase, .int .i64 r1_At, .int .i64 r1_Wv, .arr (.vecs 135 2 r1_Puts), .arr (.ints 3 .i64 r1_Reads)]], .tup [.arr (.ints 5 .u8 bx_b), .int .i64 bx_i, .int .i64 bx_h]]))
  | _ => none
noncomputable def spec_l10Any_f (A : PM.Prims) (c_108 : spec_l1Below_T) (c_106 : spec_l3Any_T) (c_165 : spec_l10Some_T) (c_b : List Int) (c_i : Int) (c_h : Int) (k : (Int) → (List (List Int)) → (Int) → (Int) → (Int) → (Int) → (Int) → (List (List Int)) → (List Int) → (List Int) → (Int) → (Int) → PM.R) : PM.R :=
  c_165 c_b c_i c_h (fun r1 r2 r3 r4 r5 r6 r7 r8 r9 r10 r11 r12 =>
    c_108 r10 r11 r12 20 (fun r13 r14 r15 r16 =>
      bif (A.eq r13 0) then
        c_108 r14 r15 r16 (A.ilen [(-1), 1, 8]) (fun r17 r18 r19 r20 =>
          bif (A.inb r17 (A.ilen [(-1), 1, 8])) then
            k r1 r2 r3 r4 r5 (A.iget [(-1), 1, 8] r17) r7 r8 r9 r18 r19 r20
          else
            none)
      else
        bif (A.eq r13 1) then
          c_108 r14 r15 r16 10 (fun r21 r22 r23 r24 =>
            k r1 r2 r3 r4 r21 r6 r7 r8 r9 r22 r23 r24)
        else
          bif (A.eq r13 2) then
            c_108 r14 r15 r16 (A.ilen [0, 100, 2]) (fun r25 r26 r27 r28 =>
              bif (A.inb r25 (A.ilen [0, 100, 2])) then
                k r1 r2 (A.iget [0, 100, 2] r25) r4 r5 r6 r7 r8 r9 r26 r27 r28
              else
                none)
          else
            bif (A.eq r13 3) then
              bif (A.room (A.ilen r9) (A.ilen [0])) then
                k r1 r2 r3 r4 r5 r6 r7 r8 (A.iapp r9 [0]) r14 r15 r16
              else
                none
            else
              bif (A.eq r13 4) then
                bif (A.room (A.vlen r8) (A.vlen [[0, 0]])) then
                  k r1 r2 r3 r4 r5 r6 r7 (A.vapp r8 [[0, 0]]) r9 r14 r15 r16
                else
                  none
              else
                bif (A.eq r13 5) then
                  c_106 r14 r15 r16 (fun r29 r30 r31 r32 r33 =>
                    k r29 r30 r3 r4 r5 r6 r7 r8 r9 r31 r32 r33)
                else
                  bif (A.eq r13 6) then
                    k r1 r2 r3 r4 r5 r6 (-1) r8 r9 r14 r15 r16
                  else
                    k r1 r2 r3 r4 r5 r6 r7 r8 r9 r14 r15 r16))
noncomputable def spec_l10Any (A : PM.Prims) : spec_l10Any_T := spec_l10Any_f A (spec_l1Below A) (spec_l3Any A) (spec_l10Some A)
noncomputable def spec_l10Any_L (A : PM.Prims) (c_108 : spec_l1Below_T) (c_106 : spec_l3Any_T) (c_165 : spec_l10Some_T) (n : Nat) : PM.Lam := fun cur σ K =>
  match cur, σ, K with
  | _, _, _ => none
noncomputable def spec_l10Any_E (A : PM.Prims) (c_108 : spec_l1Below_T) (c_106 : spec_l3Any_T) (c_165 : spec_l10Some_T) : PM.Env := ⟨[(108, ⟨[], fun _ _ => none, some (PM.spBox (spec_l1Below_w c_108))⟩), (106, ⟨[], fun _ _ => none, some (PM.spBox (spec_l3Any_w c_106))⟩), (165, ⟨[], fun _ _ => none, some (PM.spBox (spec_l10Some_w c_165))⟩)], [(118, Go.Proofs.Try.f118)], [], [(0, [0, 2, 3]), (1, [0, 2, 3, 4, 5]), (2, [0, 2, 3, 4, 5, 12]), (3, [0, 2, 3, 4, 5, 12, 13]), (4, [0, 2, 3, 4, 5]), (5, [0, 2, 3, 4, 5, 12, 19]), (6, [0, 2, 3, 4, 5]), (7, [0, 2, 3, 4, 5, 12, 24]), (8, [0, 2, 3, 4, 5]), (9, [0, 2, 3, 4, 5, 12, 30]), (10, [0, 2, 3, 4, 5]), (11, [0, 2, 3, 4, 5, 12, 37]), (12, [0, 2, 3, 4, 5]), (13, [0, 2, 3, 4, 5, 12, 45]), (14, [0, 2, 3]), (15, [0, 2, 3, 4, 5, 50]), (16, [0, 2, 3, 4, 5]), (17, [0, 2, 3])], spec_l10Any_L A c_108 c_106 c_165 A.fuel⟩
theorem spec_l10Any_ok (A : PM.Prims) (c_108 : spec_l1Below_T) (c_106 : spec_l3Any_T) (c_165 : spec_l10Some_T) (c_b : List Int) (c_i : Int) (c_h : Int) (k : PM.V → PM.R) : PM.pfunB A cx (spec_l10Any_E A c_108 c_106 c_165) Go.Proofs.Try.f150 [.tup [.arr (.ints 5 .u8 c_b), .int .i64 c_i, .int .i64 c_h]] k = spec_l10Any_f A c_108 c_106 c_165 c_b c_i c_h (fun r0_Clock r0_Cells r1_Who r1_Rv r1_Phase r1_At r1_Wv r1_Puts r1_Reads bx_b bx_i bx_h => k (.tup [.tup [.agg [.int .i64 r0_Clock, .arr (.vecs 49 3 r0_Cells)], .agg [.int .i64 r1_Who, .int .i64 r1_Rv, .int .i64 r1_Phase, .int .i64 r1_At, .int .i64 r1_Wv, .arr (.vecs 135 2 r1_Puts), .arr (.ints 3 .i64 r1_Reads)]], .tup [.arr (.ints 5 .u8 bx_b), .int .i64 bx_i, .int .i64 bx_h]])) := by kernel_rfl

theorem spec_l10Any_fn : PM.FnIs Try.prog 150 Try.f150 := .of Try.func150 (by kernel_rfl) (by kernel_rfl)
theorem spec_l10Any_g : PM.GOk Try.prog cx 150 ⟨[], fun _ _ => none, some (PM.spBox (spec_l10Any_w (spec_l10Any PM.std)))⟩ := by
  refine PM.GOk.ofS spec_l10Any_fn.enter (PM.spBox_ok fun ds k r h => ?_)
  change spec_l10Any_w (spec_l10Any PM.std) ds k = some r at h
  unfold spec_l10Any_w at h
  split at h
  · exact PM.pfunB_ok (E := spec_l10Any_E PM.std (spec_l1Below PM.std) (spec_l3Any PM.std) (spec_l10Some PM.std)) (L := fun n => spec_l10Any_L PM.std (spec_l1Below PM.std) (spec_l3Any PM.std) (spec_l10Some PM.std) n) (N := PM.std.fuel) cx_ok (.cons spec_l1Below_g (.cons spec_l3Any_g (.cons spec_l10Some_g .nil))) mixed (.cons (.of Try.func118 (by kernel_rfl) (by kernel_rfl)) (by kernel_rfl) .nil) spec_l10Any_fn (by kernel_rfl) ⟨rfl, fun _ _ _ => rfl, fun n cur σ K r h => by cases h⟩
      ((spec_l10Any_ok PM.std (spec_l1Below PM.std) (spec_l3Any PM.std) (spec_l10Some PM.std) _ _ _ k).trans h)
  · cases h

abbrev spec_DrawCommitStep_T := (List Int) → ((Int) → (List (List Int)) → (Int) → (Int) → (Int) → (Int) → (Int) → (List (List Int)) → (List Int) → PM.R) → PM.R
noncomputable def spec_DrawCommitStep_w (c : spec_DrawCommitStep_T) (ds : List PM.V) (k : PM.V → PM.R) : PM.R :=
  match ds with
  | [.arr (.ints 5 .u8 code)] => c code (fun r0_Clock r0_Cells r1_Who r1_Rv r1_Phase r1_At r1_Wv r1_Puts r1_Reads => k (.tup [.agg [.int .i64 r0_Clock, .arr (.vecs 49 3 r0_Cells)], .agg [.int .i64 r1_Who, .int .i64 r1_Rv, .int .i64 r1_Phase, .int .i64 r1_At, .int .i64 r1_Wv, .arr (.vecs 135 2 r1_Puts), .arr (.ints 3 .i64 r1_Reads)]]))
  | _ => none
noncomputable def spec_DrawCommitStep_f (A : PM.Prims) (c_103 : spec_l1New_T) (c_150 : spec_l10Any_T) (code : List Int) (k : (Int) → (List (List Int)) → (Int) → (Int) → (Int) → (Int) → (Int) → (List (List Int)) → (List Int) → PM.R) : PM.R :=
  c_103 code (fun r1 r2 r3 =>
    c_150 r1 r2 r3 (fun r4 r5 r6 r7 r8 r9 r10 r11 r12 r13 r14 r15 =>
      k r4 r5 r6 r7 r8 r9 r10 r11 r12))
noncomputable def spec_DrawCommitStep (A : PM.Prims) : spec_DrawCommitStep_T := spec_DrawCommitStep_f A (spec_l1New A) (spec_l10Any A)
noncomputable def spec_DrawCommitStep_L (A : PM.Prims) (c_103 : spec_l1New_T) (c_150 : spec_l10Any_T) (n : Nat) : PM.Lam := fun cur σ K =>
  match cur, σ, K with
  | _, _, _ => none
noncomputable def spec_DrawCommitStep_E (A : PM.Prims) (c_103 : spec_l1New_T) (c_150 : spec_l10Any_T) : PM.Env := ⟨[(103, ⟨[], fun _ _ => none, some (PM.spNew (spec_l1New_w c_103))⟩), (150, ⟨[], fun _ _ => none, some (PM.spBox (spec_l10Any_w c_150))⟩)], [], [], [(0, [0, 2, 3]), (1, [2, 3, 4]), (2, [2, 3])], spec_DrawCommitStep_L A c_103 c_150 A.fuel⟩
theorem spec_DrawCommitStep_ok (A : PM.Prims) (c_103 : spec_l1New_T) (c_150 : spec_l10Any_T) (code : List Int) (k : PM.V → PM.R) : PM.pfun A cx [] (spec_DrawCommitStep_E A c_103 c_150) Go.Proofs.Try.f80 [.arr (.ints 5 .u8 code)] k = spec_DrawCommitStep_f A c_103 c_150 code (fun r0_Clock r0_Cells r1_Who r1_Rv r1_Phase r1_At r1_Wv r1_Puts r1_Reads => k (.tup [.agg [.int .i64 r0_Clock, .arr (.vecs 49 3 r0_Cells)], .agg [.int .i64 r1_Who, .int .i64 r1_Rv, .int .i64 r1_Phase, .int .i64 r1_At, .int .i64 r1_Wv, .arr (.vecs 135 2 r1_Puts), .arr (.ints 3 .i64 r1_Reads)]])) := by kernel_rfl

theorem spec_DrawCommitStep_fn : PM.FnIs Try.prog 80 Try.f80 := .of Try.func80 (by kernel_rfl) (by kernel_rfl)
theorem spec_DrawCommitStep_g : PM.GOk Try.prog cx 80 ⟨[], spec_DrawCommitStep_w (spec_DrawCommitStep PM.std), none⟩ := by
  refine ⟨spec_DrawCommitStep_fn.enter, fun _ ds k r h => ?_, fun hm => absurd rfl hm, fun _ e => (by cases e)⟩
  change spec_DrawCommitStep_w (spec_DrawCommitStep PM.std) ds k = some r at h
  unfold spec_DrawCommitStep_w at h
  split at h
  · exact PM.pfun_ok (E := spec_DrawCommitStep_E PM.std (spec_l1New PM.std) (spec_l10Any PM.std)) (L := fun n => spec_DrawCommitStep_L PM.std (spec_l1New PM.std) (spec_l10Any PM.std) n) (N := PM.std.fuel) cx_ok (.cons spec_l1New_g (.cons spec_l10Any_g .nil)) mixed .nil spec_DrawCommitStep_fn (by kernel_rfl) ⟨rfl, fun _ _ _ => rfl, fun n cur σ K r h => by cases h⟩
      ((spec_DrawCommitStep_ok PM.std (spec_l1New PM.std) (spec_l10Any PM.std) _ k).trans h)
  · cases h

abbrev spec_l8Any_T := (List Int) → (Int) → (Int) → ((List (List Int)) → (List Int) → (Int) → (Int) → PM.R) → PM.R
noncomputable def spec_l8Any_w (c : spec_l8Any_T) (ds : List PM.V) (k : PM.V → PM.R) : PM.R :=
  match ds with
  | [.tup [.arr (.ints 5 .u8 c_b), .int .i64 c_i, .int .i64 c_h]] => c c_b c_i c_h (fun r0 bx_b bx_i bx_h => k (.tup [.arr (.vecs 135 2 r0), .tup [.arr (.ints 5 .u8 bx_b), .int .i64 bx_i, .int .i64 bx_h]]))
  | _ => none
noncomputable def spec_l8Any_l1 (A : PM.Prims) (c_108 : spec_l1Below_T) (c_105 : spec_l1Once_T) (c_166 : spec_l8Rows_T) : Nat → (List Int) → (Int) → (Int) → (List (List Int)) → ((List Int) → (Int) → (Int) → (List (List Int)) → PM.R) → PM.R
  | 0, _, _, _, _, _ => none
  | n + 1, o09, o010, o011, o112, kx1_1 =>
    bif (A.lt (A.vlen o112) 300) then
      bif (A.room (A.vlen o112) (A.vlen [[7, (A.vlen o112)]])) then
        spec_l8Any_l1 A c_108 c_105 c_166 n o09 o010 o011 (A.vapp o112 [[7, (A.vlen o112)]]) kx1_1
      else
        none
    else
      kx1_1 o09 o010 o011 o112
noncomputable def spec_l8Any_f (A : PM.Prims) (c_108 : spec_l1Below_T) (c_105 : spec_l1Once_T) (c_166 : spec_l8Rows_T) (c_b : List Int) (c_i : Int) (c_h : Int) (k : (List (List Int)) → (List Int) → (Int) → (Int) → PM.R) : PM.R :=
  c_166 c_b c_i c_h 10 (fun r1 r2 r3 r4 =>
    c_108 r2 r3 r4 20 (fun r5 r6 r7 r8 =>
      bif (A.eq r5 0) then
        bif (A.room (A.vlen r1) (A.vlen [[8, 0]])) then
          k (A.vapp r1 [[8, 0]]) r6 r7 r8
        else
          none
      else
        bif (A.eq r5 1) then
          bif (A.room (A.vlen r1) (A.vlen [[0, 65536]])) then
            k (A.vapp r1 [[0, 65536]]) r6 r7 r8
          else
            none
        else
          bif (A.eq r5 2) then
            spec_l8Any_l1 A c_108 c_105 c_166 A.fuel r6 r7 r8 r1 (fun o01317 o01418 o01519 o11620 =>
              c_105 o01317 o01418 o01519 2 (fun r21 r22 r23 r24 =>
                bif r21 then
                  bif (A.room (A.vlen o11620) (A.vlen [[0, 0]])) then
                    k (A.vapp o11620 [[0, 0]]) r22 r23 r24
                  else
                    none
                else
                  k o11620 r22 r23 r24))
          else
            bif (A.eq r5 3) then
              bif (A.room (A.vlen r1) (A.vlen [[(-1), 0]])) then
                k (A.vapp r1 [[(-1), 0]]) r6 r7 r8
              else
                none
            else
              k r1 r6 r7 r8))
noncomputable def spec_l8Any (A : PM.Prims) : spec_l8Any_T := spec_l8Any_f A (spec_l1Below A) (spec_l1Once A) (spec_l8Rows A)
noncomputable def spec_l8Any_L (A : PM.Prims) (c_108 : spec_l1Below_T) (c_105 : spec_l1Once_T) (c_166 : spec_l8Rows_T) (n : Nat) : PM.Lam := fun cur σ K =>
  match cur, σ, K with
  | 1, ⟨[(0, .pbox 0 0), (3, .sref 1)], [(0, .box [.arr (.ints 5 .u8 o09), .int .i64 o010, .int .i64 o011]), (1, .arr true (.vecs 135 2 o112))]⟩, K => spec_l8Any_l1 A c_108 c_105 c_166 n o09 o010 o011 o112 (fun o013 o014 o015 o116 => K (.exit 1) ⟨[(0, .pbox 0 0), (3, .sref 1)], [(0, .box [.arr (.ints 5 .u8 o013), .int .i64 o014, .int .i64 o015]), (1, .arr true (.vecs 135 2 o116))]⟩)
  | _, _, _ => none
noncomputable def spec_l8Any_E (A : PM.Prims) (c_108 : spec_l1Below_T) (c_105 : spec_l1Once_T) (c_166 : spec_l8Rows_T) : PM.Env := ⟨[(108, ⟨[], fun _ _ => none, some (PM.spBox (spec_l1Below_w c_108))⟩), (105, ⟨[], fun _ _ => none, some (PM.spBox (spec_l1Once_w c_105))⟩), (166, ⟨[], fun _ _ => none, some (PM.spBox (spec_l8Rows_w c_166))⟩)], [], [(1, [0, 3], [0, 2, 3])], [(0, [0]), (1, [0, 3]), (2, [0, 3, 7]), (3, [0, 3, 7, 8]), (4, [0, 2]), (5, [0, 3, 7, 14]), (6, [0, 2]), (7, [0, 3, 7, 20]), (8, [0, 3, 24]), (9, [0, 3]), (10, [0, 3, 32]), (11, [0, 3]), (12, [0, 3, 37]), (13, [0, 2]), (14, [0, 2])], spec_l8Any_L A c_108 c_105 c_166 A.fuel⟩
theorem spec_l8Any_l1_ok (A : PM.Prims) (c_108 : spec_l1Below_T) (c_105 : spec_l1Once_T) (c_166 : spec_l8Rows_T) (n : Nat) (o09 : List Int) (o010 : Int) (o011 : Int) (o112 : List (List Int)) (K : Go.Exit → PM.S → PM.R) : spec_l8Any_L A c_108 c_105 c_166 (n + 1) 1 ⟨[(0, .pbox 0 0), (3, .sref 1)], [(0, .box [.arr (.ints 5 .u8 o09), .int .i64 o010, .int .i64 o011]), (1, .arr true (.vecs 135 2 o112))]⟩ K = PM.roundF A cx (PM.runD A cx (spec_l8Any_E A c_108 c_105 c_166).inl (spec_l8Any_E A c_108 c_105 c_166).Γ 3) (spec_l8Any_E A c_108 c_105 c_166) (spec_l8Any_L A c_108 c_105 c_166 n) 1 Go.Proofs.Try.f151 ⟨[(0, .pbox 0 0), (3, .sref 1)], [(0, .box [.arr (.ints 5 .u8 o09), .int .i64 o010, .int .i64 o011]), (1, .arr true (.vecs 135 2 o112))]⟩ K := by kernel_rfl
theorem spec_l8Any_ok (A : PM.Prims) (c_108 : spec_l1Below_T) (c_105 : spec_l1Once_T) (c_166 : spec_l8Rows_T) (c_b : List Int) (c_i : Int) (c_h : Int) (k : PM.V → PM.R) : PM.pfunB A cx (spec_l8Any_E A c_108 c_105 c_166) Go.Proofs.Try.f151 [.tup [.arr (.ints 5 .u8 c_b), .int .i64 c_i, .int .i64 c_h]] k = spec_l8Any_f A c_108 c_105 c_166 c_b c_i c_h (fun r0 bx_b bx_i bx_h => k (.tup [.arr (.vecs 135 2 r0), .tup [.arr (.ints 5 .u8 bx_b), .int .i64 bx_i, .int .i64 bx_h]])) := by kernel_rfl

theorem spec_l8Any_fn : PM.FnIs Try.prog 151 Try.f151 := .of Try.func151 (by kernel_rfl) (by kernel_rfl)
theorem spec_l8Any_g : PM.GOk Try.prog cx 151 ⟨[], fun _ _ => none, some (PM.spBox (spec_l8Any_w (spec_l8Any PM.std)))⟩ := by
  refine PM.GOk.ofS spec_l8Any_fn.enter (PM.spBox_ok fun ds k r h => ?_)
  change spec_l8Any_w (spec_l8Any PM.std) ds k = some r at h
  unfold spec_l8Any_w at h
  split at h
  · exact PM.pfunB_ok (E := spec_l8Any_E PM.std (spec_l1Below PM.std) (spec_l1Once PM.std) (spec_l8Rows PM.std)) (L := fun n => spec_l8Any_L PM.std (spec_l1Below PM.std) (spec_l1Once PM.std) (spec_l8Rows PM.std) n) (N := PM.std.fuel) cx_ok (.cons spec_l1Below_g (.cons spec_l1Once_g (.cons spec_l8Rows_g .nil))) mixed .nil spec_l8Any_fn (by kernel_rfl) ⟨rfl, fun cur σ K => by
      dsimp only [spec_l8Any_L]
      split <;> rfl, fun n cur σ K r h => by
      dsimp only [spec_l8Any_L] at h
      split at h
      · exact (spec_l8Any_l1_ok PM.std (spec_l1Below PM.std) (spec_l1Once PM.std) (spec_l8Rows PM.std) n _ _ _ _ K).symm.trans h
      · cases h⟩
      ((spec_l8Any_ok PM.std (spec_l1Below PM.std) (spec_l1Once PM.std) (spec_l8Rows PM.std) _ _ _ k).trans h)
  · cases h

abbrev spec_DrawCommitNew_T := (List Int) → ((Int) → (Int) → (List (List Int)) → (List (List Int)) → PM.R) → PM.R
noncomputable def spec_DrawCommitNew_w (c : spec_DrawCommitNew_T) (ds : List PM.V) (k : PM.V → PM.R) : PM.R :=
  match ds with
  | [.arr (.ints 5 .u8 code)] => c code (fun r0 r1 r2 r3 => k (.tup [.int .i64 r0, .int .i64 r1, .arr (.vecs 135 2 r2), .arr (.vecs 135 2 r3)]))
  | _ => none
noncomputable def spec_DrawCommitNew_f (A : PM.Prims) (c_103 : spec_l1New_T) (c_108 : spec_l1Below_T) (c_151 : spec_l8Any_T) (code : List Int) (k : (Int) → (Int) → (List (List Int)) → (List (List Int)) → PM.R) : PM.R :=
  c_103 code (fun r1 r2 r3 =>
    c_108 r1 r2 r3 (A.ilen [1, 2, 99, 1, 3, 0, 100]) (fun r4 r5 r6 r7 =>
      bif (A.inb r4 (A.ilen [1, 2, 99, 1, 3, 0, 100])) then
        c_108 r5 r6 r7 (A.ilen [0, 1, 5, 1000000, 1000001, 3, (-1), 2, 2]) (fun r8 r9 r10 r11 =>
          bif (A.inb r8 (A.ilen [0, 1, 5, 1000000, 1000001, 3, (-1), 2, 2])) then
            c_151 r9 r10 r11 (fun r12 r13 r14 r15 =>
              c_151 r13 r14 r15 (fun r16 r17 r18 r19 =>
                k (A.iget [1, 2, 99, 1, 3, 0, 100] r4) (A.iget [0, 1, 5, 1000000, 1000001, 3, (-1), 2, 2] r8) r12 r16))
          else
            none)
      else
        none))
noncomputable def spec_DrawCommitNew (A : PM.Prims) : spec_DrawCommitNew_T := spec_DrawCommitNew_f A (spec_l1New A) (spec_l1Below A) (spec_l8Any A)
noncomputable def spec_DrawCommitNew_L (A : PM.Prims) (c_103 : spec_l1New_T) (c_108 : spec_l1Below_T) (c_151 : spec_l8Any_T) (n : Nat) : PM.Lam := fun cur σ K =>
  match cur, σ, K with
  | _, _, _ => none
noncomputable def spec_DrawCommitNew_E (A : PM.Prims) (c_103 : spec_l1New_T) (c_108 : spec_l1Below_T) (c_151 : spec_l8Any_T) : PM.Env := ⟨[(103, ⟨[], fun _ _ => none, some (PM.spNew (spec_l1New_w c_103))⟩), (108, ⟨[], fun _ _ => none, some (PM.spBox (spec_l1Below_w c_108))⟩), (151, ⟨[], fun _ _ => none, some (PM.spBox (spec_l8Any_w c_151))⟩)], [(118, Go.Proofs.Try.f118)], [], [(0, [0]), (1, [6]), (2, [6, 7]), (3, [6, 7, 8]), (4, [2, 3, 4, 5])], spec_DrawCommitNew_L A c_103 c_108 c_151 A.fuel⟩
theorem spec_DrawCommitNew_ok (A : PM.Prims) (c_103 : spec_l1New_T) (c_108 : spec_l1Below_T) (c_151 : spec_l8Any_T) (code : List Int) (k : PM.V → PM.R) : PM.pfun A cx [] (spec_DrawCommitNew_E A c_103 c_108 c_151) Go.Proofs.Try.f81 [.arr (.ints 5 .u8 code)] k = spec_DrawCommitNew_f A c_103 c_108 c_151 code (fun r0 r1 r2 r3 => k (.tup [.int .i64 r0, .int .i64 r1, .arr (.vecs 135 2 r2), .arr (.vecs 135 2 r3)])) := by kernel_rfl

theorem spec_DrawCommitNew_fn : PM.FnIs Try.prog 81 Try.f81 := .of Try.func81 (by kernel_rfl) (by kernel_rfl)
theorem spec_DrawCommitNew_g : PM.GOk Try.prog cx 81 ⟨[], spec_DrawCommitNew_w (spec_DrawCommitNew PM.std), none⟩ := by
  refine ⟨spec_DrawCommitNew_fn.enter, fun _ ds k r h => ?_, fun hm => absurd rfl hm, fun _ e => (by cases e)⟩
  change spec_DrawCommitNew_w (spec_DrawCommitNew PM.std) ds k = some r at h
  unfold spec_DrawCommitNew_w at h
  split at h
  · exact PM.pfun_ok (E := spec_DrawCommitNew_E PM.std (spec_l1New PM.std) (spec_l1Below PM.std) (spec_l8Any PM.std)) (L := fun n => spec_DrawCommitNew_L PM.std (spec_l1New PM.std) (spec_l1Below PM.std) (spec_l8Any PM.std) n) (N := PM.std.fuel) cx_ok (.cons spec_l1New_g (.cons spec_l1Below_g (.cons spec_l8Any_g .nil))) mixed (.cons (.of Try.func118 (by kernel_rfl) (by kernel_rfl)) (by kernel_rfl) .nil) spec_DrawCommitNew_fn (by kernel_rfl) ⟨rfl, fun _ _ _ => rfl, fun n cur σ K r h => by cases h⟩
      ((spec_DrawCommitNew_ok PM.std (spec_l1New PM.std) (spec_l1Below PM.std) (spec_l8Any PM.std) _ k).trans h)
  · cases h

abbrev laws_at_T := (List Int) → (Int) → ((Int) → PM.R) → PM.R
noncomputable def laws_at_w (c : laws_at_T) (ds : List PM.V) (k : PM.V → PM.R) : PM.R :=
  match ds with
  | [.arr (.ints 5 .u8 code), .int .i64 i] => c code i (fun r0 => k (.int .i64 r0))
  | _ => none
noncomputable def laws_at_f (A : PM.Prims) (code : List Int) (i : Int) (k : (Int) → PM.R) : PM.R :=
  bif (A.lt i (A.ilen code)) then
    bif (A.inb i (A.ilen code)) then
      k (A.wrap .i64 (A.iget code i))
    else
      none
  else
    bif (A.nz 256) then
      k (A.rem .i64 (A.add .i64 (A.mul .i64 i 37) (A.mul .i64 (A.ilen code) 11)) 256)
    else
      none
noncomputable def laws_at (A : PM.Prims) : laws_at_T := laws_at_f A
noncomputable def laws_at_L (A : PM.Prims) (n : Nat) : PM.Lam := fun cur σ K =>
  match cur, σ, K with
  | _, _, _ => none
noncomputable def laws_at_E (A : PM.Prims) : PM.Env := ⟨[], [], [], [(0, [0, 1]), (1, [0, 1, 8]), (2, [4]), (3, [4])], laws_at_L A A.fuel⟩
theorem laws_at_ok (A : PM.Prims) (code : List Int) (i : Int) (k : PM.V → PM.R) : PM.pfun A cx [] (laws_at_E A) Go.Proofs.Try.f84 [.arr (.ints 5 .u8 code), .int .i64 i] k = laws_at_f A code i (fun r0 => k (.int .i64 r0)) := by kernel_rfl

theorem laws_at_fn : PM.FnIs Try.prog 84 Try.f84 := .of Try.func84 (by kernel_rfl) (by kernel_rfl)
theorem laws_at_g : PM.GOk Try.prog cx 84 ⟨[], laws_at_w (laws_at PM.std), none⟩ := by
  refine ⟨laws_at_fn.enter, fun _ ds k r h => ?_, fun hm => absurd rfl hm, fun _ e => (by cases e)⟩
  change laws_at_w (laws_at PM.std) ds k = some r at h
  unfold laws_at_w at h
  split at h
  · exact PM.pfun_ok (E := laws_at_E PM.std) (L := fun n => laws_at_L PM.std n) (N := PM.std.fuel) cx_ok .nil mixed .nil laws_at_fn (by kernel_rfl) ⟨rfl, fun _ _ _ => rfl, fun n cur σ K r h => by cases h⟩
      ((laws_at_ok PM.std _ _ k).trans h)
  · cases h

abbrev spec_l3DrawVals_T := (List Int) → (Int) → (Int) → ((List Int) → (List Int) → (Int) → (Int) → PM.R) → PM.R
noncomputable def spec_l3DrawVals_w (c : spec_l3DrawVals_T) (ds : List PM.V) (k : PM.V → PM.R) : PM.R :=
  match ds with
  | [.tup [.arr (.ints 5 .u8 c_b), .int .i64 c_i, .int .i64 c_h]] => c c_b c_i c_h (fun r0 bx_b bx_i bx_h => k (.tup [.arr (.ints 3 .i64 r0), .tup [.arr (.ints 5 .u8 bx_b), .int .i64 bx_i, .int .i64 bx_h]]))
  | _ => none
noncomputable def spec_l3DrawVals_l0 (A : PM.Prims) (c_158 : spec_l3Draw_T) : Nat → (Int) → (List Int) → (Int) → (Int) → (List Int) → ((List Int) → (Int) → (Int) → (List Int) → PM.R) → PM.R
  | 0, _, _, _, _, _, _ => none
  | n + 1, i1, o02, o03, o04, o15, kx0_0 =>
    bif (A.lt i1 8) then
      c_158 o02 o03 o04 (fun r6 r7 r8 r9 =>
        bif (A.room (A.ilen o15) (A.ilen [r6])) then
          spec_l3DrawVals_l0 A c_158 n (A.add .i64 i1 1) r7 r8 r9 (A.iapp o15 [r6]) kx0_0
        else
          none)
    else
      kx0_0 o02 o03 o04 o15
noncomputable def spec_l3DrawVals_f (A : PM.Prims) (c_158 : spec_l3Draw_T) (c_b : List Int) (c_i : Int) (c_h : Int) (k : (List Int) → (List Int) → (Int) → (Int) → PM.R) : PM.R :=
  spec_l3DrawVals_l0 A c_158 A.fuel 0 c_b c_i c_h [] (fun o01014 o01115 o01216 o11317 =>
    k o11317 o01014 o01115 o01216)
noncomputable def spec_l3DrawVals (A : PM.Prims) : spec_l3DrawVals_T := spec_l3DrawVals_f A (spec_l3Draw A)
noncomputable def spec_l3DrawVals_L (A : PM.Prims) (c_158 : spec_l3Draw_T) (n : Nat) : PM.Lam := fun cur σ K =>
  match cur, σ, K with
  | 0, ⟨[(0, .pbox 0 0), (3, .sref 1), (4, .int .i64 i1)], [(0, .box [.arr (.ints 5 .u8 o02), .int .i64 o03, .int .i64 o04]), (1, .arr true (.ints 3 .i64 o15))]⟩, K => spec_l3DrawVals_l0 A c_158 n i1 o02 o03 o04 o15 (fun o010 o011 o012 o113 => K (.exit 0) ⟨[(0, .pbox 0 0), (3, .sref 1)], [(0, .box [.arr (.ints 5 .u8 o010), .int .i64 o011, .int .i64 o012]), (1, .arr true (.ints 3 .i64 o113))]⟩)
  | _, _, _ => none
noncomputable def spec_l3DrawVals_E (A : PM.Prims) (c_158 : spec_l3Draw_T) : PM.Env := ⟨[(158, ⟨[], fun _ _ => none, some (PM.spBox (spec_l3Draw_w c_158))⟩)], [], [(0, [0, 3, 4], [0, 2, 3])], [(0, [0]), (1, [0, 3]), (2, [0, 3, 4]), (3, [0, 3, 4, 7]), (4, [0, 3, 4]), (5, [0, 3, 4]), (6, [0, 2])], spec_l3DrawVals_L A c_158 A.fuel⟩
theorem spec_l3DrawVals_l0_ok (A : PM.Prims) (c_158 : spec_l3Draw_T) (n : Nat) (i1 : Int) (o02 : List Int) (o03 : Int) (o04 : Int) (o15 : List Int) (K : Go.Exit → PM.S → PM.R) : spec_l3DrawVals_L A c_158 (n + 1) 0 ⟨[(0, .pbox 0 0), (3, .sref 1), (4, .int .i64 i1)], [(0, .box [.arr (.ints 5 .u8 o02), .int .i64 o03, .int .i64 o04]), (1, .arr true (.ints 3 .i64 o15))]⟩ K = PM.roundF A cx (PM.runD A cx (spec_l3DrawVals_E A c_158).inl (spec_l3DrawVals_E A c_158).Γ 3) (spec_l3DrawVals_E A c_158) (spec_l3DrawVals_L A c_158 n) 0 Go.Proofs.Try.f152 ⟨[(0, .pbox 0 0), (3, .sref 1), (4, .int .i64 i1)], [(0, .box [.arr (.ints 5 .u8 o02), .int .i64 o03, .int .i64 o04]), (1, .arr true (.ints 3 .i64 o15))]⟩ K := by kernel_rfl
theorem spec_l3DrawVals_ok (A : PM.Prims) (c_158 : spec_l3Draw_T) (c_b : List Int) (c_i : Int) (c_h : Int) (k : PM.V → PM.R) : PM.pfunB A cx (spec_l3DrawVals_E A c_158) Go.Proofs.Try.f152 [.tup [.arr (.ints 5 .u8 c_b), .int .i64 c_i, .int .i64 c_h]] k = spec_l3DrawVals_f A c_158 c_b c_i c_h (fun r0 bx_b bx_i bx_h => k (.tup [.arr (.ints 3 .i64 r0), .tup [.arr (.ints 5 .u8 bx_b), .int .i64 bx_i, .int .i64 bx_h]])) := by kernel_rfl

theorem spec_l3DrawVals_fn : PM.FnIs Try.prog 152 Try.f152 := .of Try.func152 (by kernel_rfl) (by kernel_rfl)
theorem spec_l3DrawVals_g : PM.GOk Try.prog cx 152 ⟨[], fun _ _ => none, some (PM.spBox (spec_l3DrawVals_w (spec_l3DrawVals PM.std)))⟩ := by
  refine PM.GOk.ofS spec_l3DrawVals_fn.enter (PM.spBox_ok fun ds k r h => ?_)
  change spec_l3DrawVals_w (spec_l3DrawVals PM.std) ds k = some r at h
  unfold spec_l3DrawVals_w at h
  split at h
  · exact PM.pfunB_ok (E := spec_l3DrawVals_E PM.std (spec_l3Draw PM.std)) (L := fun n => spec_l3DrawVals_L PM.std (spec_l3Draw PM.std) n) (N := PM.std.fuel) cx_ok (.cons spec_l3Draw_g .nil) mixed .nil spec_l3DrawVals_fn (by kernel_rfl) ⟨rfl, fun cur σ K => by
      dsimp only [spec_l3DrawVals_L]
      split <;> rfl, fun n cur σ K r h => by
      dsimp only [spec_l3DrawVals_L] at h
      split at h
      · exact (spec_l3DrawVals_l0_ok PM.std (spec_l3Draw PM.std) n _ _ _ _ _ K).symm.trans h
      · cases h⟩
      ((spec_l3DrawVals_ok PM.std (spec_l3Draw PM.std) _ _ _ k).trans h)
  · cases h

abbrev laws_has_T := (List Int) → (Int) → ((Bool) → PM.R) → PM.R
noncomputable def laws_has_w (c : laws_has_T) (ds : List PM.V) (k : PM.V → PM.R) : PM.R :=
  match ds with
  | [.arr (.ints 3 .i64 l), .int .i64 x] => c l x (fun r0 => k (.bool r0))
  | _ => none
noncomputable def laws_has_l0 (A : PM.Prims) : Nat → (List Int) → (Int) → (Int) → ((Bool) → PM.R) → (Unit → PM.R) → PM.R
  | 0, _, _, _, _, _ => none
  | n + 1, l1, x2, i3, kret_0, kx0_0 =>
    bif (A.lt i3 (A.ilen l1)) then
      bif (A.inb i3 (A.ilen l1)) then
        bif (A.eq (A.iget l1 i3) x2) then
          kret_0 true
        else
          laws_has_l0 A n l1 x2 (A.add .i64 i3 1) kret_0 kx0_0
      else
        none
    else
      kx0_0 ()
noncomputable def laws_has_f (A : PM.Prims) (l : List Int) (x : Int) (k : (Bool) → PM.R) : PM.R :=
  laws_has_l0 A A.fuel l x 0 (fun t445 =>
    k t445) (fun _ =>
    k false)
noncomputable def laws_has (A : PM.Prims) : laws_has_T := laws_has_f A
noncomputable def laws_has_L (A : PM.Prims) (n : Nat) : PM.Lam := fun cur σ K =>
  match cur, σ, K with
  | 0, ⟨[(0, .arr (.ints 3 .i64 l1)), (1, .int .i64 x2), (5, .int .i64 i3)], []⟩, K => laws_has_l0 A n l1 x2 i3 (fun t44 => K .ret ⟨[(4, .bool t44)], []⟩) (fun _ => K (.exit 0) ⟨[], []⟩)
  | _, _, _ => none
noncomputable def laws_has_E (A : PM.Prims) : PM.Env := ⟨[], [], [(0, [0, 1, 5], [4])], [(0, [0, 1]), (1, [0, 1, 5]), (2, [0, 1, 5, 9]), (3, [0, 1, 5]), (4, [0, 1, 5, 17]), (5, [4]), (6, [4])], laws_has_L A A.fuel⟩
theorem laws_has_l0_ok (A : PM.Prims) (n : Nat) (l1 : List Int) (x2 : Int) (i3 : Int) (K : Go.Exit → PM.S → PM.R) : laws_has_L A (n + 1) 0 ⟨[(0, .arr (.ints 3 .i64 l1)), (1, .int .i64 x2), (5, .int .i64 i3)], []⟩ K = PM.roundF A cx (PM.runD A cx (laws_has_E A).inl (laws_has_E A).Γ 3) (laws_has_E A) (laws_has_L A n) 0 Go.Proofs.Try.f58 ⟨[(0, .arr (.ints 3 .i64 l1)), (1, .int .i64 x2), (5, .int .i64 i3)], []⟩ K := by kernel_rfl
theorem laws_has_ok (A : PM.Prims) (l : List Int) (x : Int) (k : PM.V → PM.R) : PM.pfun A cx [] (laws_has_E A) Go.Proofs.Try.f58 [.arr (.ints 3 .i64 l), .int .i64 x] k = laws_has_f A l x (fun r0 => k (.bool r0)) := by kernel_rfl

theorem laws_has_fn : PM.FnIs Try.prog 58 Try.f58 := .of Try.func58 (by kernel_rfl) (by kernel_rfl)
theorem laws_has_g : PM.GOk Try.prog cx 58 ⟨[], laws_has_w (laws_has PM.std), none⟩ := by
  refine ⟨laws_has_fn.enter, fun _ ds k r h => ?_, fun hm => absurd rfl hm, fun _ e => (by cases e)⟩
  change laws_has_w (laws_has PM.std) ds k = some r at h
  unfold laws_has_w at h
  split at h
  · exact PM.pfun_ok (E := laws_has_E PM.std) (L := fun n => laws_has_L PM.std n) (N := PM.std.fuel) cx_ok .nil mixed .nil laws_has_fn (by kernel_rfl) ⟨rfl, fun cur σ K => by
      dsimp only [laws_has_L]
      split <;> rfl, fun n cur σ K r h => by
      dsimp only [laws_has_L] at h
      split at h
      · exact (laws_has_l0_ok PM.std n _ _ _ K).symm.trans h
      · cases h⟩
      ((laws_has_ok PM.std _ _ k).trans h)
  · cases h

abbrev spec_DrawOverlay_T := (List Int) → ((List Int) → (List (List Int)) → PM.R) → PM.R
noncomputable def spec_DrawOverlay_w (c : spec_DrawOverlay_T) (ds : List PM.V) (k : PM.V → PM.R) : PM.R :=
  match ds with
  | [.arr (.ints 5 .u8 code)] => c code (fun r0 r1 => k (.tup [.arr (.ints 3 .i64 r0), .arr (.vecs 135 2 r1)]))
  | _ => none
noncomputable def spec_DrawOverlay_f (A : PM.Prims) (c_103 : spec_l1New_T) (c_105 : spec_l1Once_T) (c_151 : spec_l8Any_T) (c_152 : spec_l3DrawVals_T) (code : List Int) (k : (List Int) → (List (List Int)) → PM.R) : PM.R :=
  c_103 code (fun r1 r2 r3 =>
    c_152 r1 r2 r3 (fun r4 r5 r6 r7 =>
      c_105 r5 r6 r7 10 (fun r8 r9 r10 r11 =>
        bif r8 then
          bif (A.subb 0 3 (A.ilen r4)) then
            c_151 r9 r10 r11 (fun r12 r13 r14 r15 =>
              k (A.isub r4 0 3) r12)
          else
            none
        else
          c_151 r9 r10 r11 (fun r16 r17 r18 r19 =>
            k r4 r16))))
noncomputable def spec_DrawOverlay (A : PM.Prims) : spec_DrawOverlay_T := spec_DrawOverlay_f A (spec_l1New A) (spec_l1Once A) (spec_l8Any A) (spec_l3DrawVals A)
noncomputable def spec_DrawOverlay_L (A : PM.Prims) (c_103 : spec_l1New_T) (c_105 : spec_l1Once_T) (c_151 : spec_l8Any_T) (c_152 : spec_l3DrawVals_T) (n : Nat) : PM.Lam := fun cur σ K =>
  match cur, σ, K with
  | _, _, _ => none
noncomputable def spec_DrawOverlay_E (A : PM.Prims) (c_103 : spec_l1New_T) (c_105 : spec_l1Once_T) (c_151 : spec_l8Any_T) (c_152 : spec_l3DrawVals_T) : PM.Env := ⟨[(103, ⟨[], fun _ _ => none, some (PM.spNew (spec_l1New_w c_103))⟩), (105, ⟨[], fun _ _ => none, some (PM.spBox (spec_l1Once_w c_105))⟩), (151, ⟨[], fun _ _ => none, some (PM.spBox (spec_l8Any_w c_151))⟩), (152, ⟨[], fun _ _ => none, some (PM.spBox (spec_l3DrawVals_w c_152))⟩)], [], [], [(0, [0]), (1, [4]), (2, [4, 5]), (3, [4, 5, 11]), (4, [4, 5]), (5, [2, 3])], spec_DrawOverlay_L A c_103 c_105 c_151 c_152 A.fuel⟩
theorem spec_DrawOverlay_ok (A : PM.Prims) (c_103 : spec_l1New_T) (c_105 : spec_l1Once_T) (c_151 : spec_l8Any_T) (c_152 : spec_l3DrawVals_T) (code : List Int) (k : PM.V → PM.R) : PM.pfun A cx [] (spec_DrawOverlay_E A c_103 c_105 c_151 c_152) Go.Proofs.Try.f85 [.arr (.ints 5 .u8 code)] k = spec_DrawOverlay_f A c_103 c_105 c_151 c_152 code (fun r0 r1 => k (.tup [.arr (.ints 3 .i64 r0), .arr (.vecs 135 2 r1)])) := by kernel_rfl

theorem spec_DrawOverlay_fn : PM.FnIs Try.prog 85 Try.f85 := .of Try.func85 (by kernel_rfl) (by kernel_rfl)
theorem spec_DrawOverlay_g : PM.GOk Try.prog cx 85 ⟨[], spec_DrawOverlay_w (spec_DrawOverlay PM.std), none⟩ := by
  refine ⟨spec_DrawOverlay_fn.enter, fun _ ds k r h => ?_, fun hm => absurd rfl hm, fun _ e => (by cases e)⟩
  change spec_DrawOverlay_w (spec_DrawOverlay PM.std) ds k = some r at h
  unfold spec_DrawOverlay_w at h
  split at h
  · exact PM.pfun_ok (E := spec_DrawOverlay_E PM.std (spec_l1New PM.std) (spec_l1Once PM.std) (spec_l8Any PM.std) (spec_l3DrawVals PM.std)) (L := fun n => spec_DrawOverlay_L PM.std (spec_l1New PM.std) (spec_l1Once PM.std) (spec_l8Any PM.std) (spec_l3DrawVals PM.std) n) (N := PM.std.fuel) cx_ok (.cons spec_l1New_g (.cons spec_l1Once_g (.cons spec_l8Any_g (.cons spec_l3DrawVals_g .nil)))) mixed .nil spec_DrawOverlay_fn (by kernel_rfl) ⟨rfl, fun _ _ _ => rfl, fun n cur σ K r h => by cases h⟩
      ((spec_DrawOverlay_ok PM.std (spec_l1New PM.std) (spec_l1Once PM.std) (spec_l8Any PM.std) (spec_l3DrawVals PM.std) _ k).trans h)
  · cases h

abbrev laws_FnCommits_T := (List Int) → ((Bool) → PM.R) → PM.R
noncomputable def laws_FnCommits_w (c : laws_FnCommits_T) (ds : List PM.V) (k : PM.V → PM.R) : PM.R :=
  match ds with
  | [.arr (.ints 5 .u8 __)] => c __ (fun r0 => k (.bool r0))
  | _ => none
noncomputable def laws_FnCommits_l2 (A : PM.Prims) (c_35 : spec_MemOk_T) (c_82 : spec_RowsOk_T) (c_60 : spec_CommitOk_T) (c_64 : spec_CommitLeft_T) (c_65 : impl_CommitLeft_T) (c_83 : spec_Last_T) (c_69 : impl_CommitNew_T) (c_77 : impl_CommitStep_T) (c_33 : laws_big_T) (c_80 : spec_DrawCommitStep_T) (c_81 : spec_DrawCommitNew_T) : Nat → (List (List Int)) → (Int) → (Int) → (List (List Int)) → (Int) → (Int) → (Int) → (Int) → (Int) → (List (List Int)) → (List Int) → (Int) → (Int) → (Int) → (Int) → (Int) → (List (List Int)) → (List Int) → (Int) → (List (List Int)) → ((Bool) → PM.R) → ((Int) → (List (List Int)) → (Int) → (Int) → (Int) → (Int) → (Int) → (List (List Int)) → (List Int) → (Int) → (Int) → (Int) → (Int) → (Int) → (List (List Int)) → (List Int) → (Int) → (List (List Int)) → PM.R) → PM.R
  | 0, _, _, _, _, _, _, _, _, _, _, _, _, _, _, _, _, _, _, _, _, _, _ => none
  | n + 1, puts104, i105, o0106, o0107, o1108, o1109, o1110, o1111, o1112, o1113, o1114, o2115, o2116, o2117, o2118, o2119, o2120, o2121, o3122, o3123, kret_2, kx2_2 =>
    bif (A.lt i105 (A.vlen o3123)) then
      c_83 puts104 i105 (fun r124 r125 =>
        bif (A.inb i105 (A.vlen o0107)) then
          bif (A.inb i105 (A.vlen o3123)) then
            bif (A.eq o2117 6) then
              bif r125 then
                bif (A.not (A.eq (A.vget o3123 i105 0) r124)) then
                  kret_2 false
                else
                  bif (A.not (A.eq (A.vget o3123 i105 1) o2119)) then
                    kret_2 false
                  else
                    bif (A.not (A.eq (A.vget o3123 i105 2) 0)) then
                      kret_2 false
                    else
                      bif (A.not (A.eq o2117 6)) then
                        bif (A.not (A.and (A.eq (A.vget o0107 i105 0) (A.vget o3123 i105 0)) (A.and (A.eq (A.vget o0107 i105 1) (A.vget o3123 i105 1)) (A.eq (A.vget o0107 i105 2) (A.vget o3123 i105 2))))) then
                          kret_2 false
                        else
                          laws_FnCommits_l2 A c_35 c_82 c_60 c_64 c_65 c_83 c_69 c_77 c_33 c_80 c_81 n puts104 (A.add .i64 i105 1) o0106 o0107 o1108 o1109 o1110 o1111 o1112 o1113 o1114 o2115 o2116 o2117 o2118 o2119 o2120 o2121 o3122 o3123 kret_2 kx2_2
                      else
                        bif (A.not r125) then
                          bif (A.not (A.and (A.eq (A.vget o0107 i105 0) (A.vget o3123 i105 0)) (A.and (A.eq (A.vget o0107 i105 1) (A.vget o3123 i105 1)) (A.eq (A.vget o0107 i105 2) (A.vget o3123 i105 2))))) then
                            kret_2 false
                          else
                            laws_FnCommits_l2 A c_35 c_82 c_60 c_64 c_65 c_83 c_69 c_77 c_33 c_80 c_81 n puts104 (A.add .i64 i105 1) o0106 o0107 o1108 o1109 o1110 o1111 o1112 o1113 o1114 o2115 o2116 o2117 o2118 o2119 o2120 o2121 o3122 o3123 kret_2 kx2_2
                        else
                          laws_FnCommits_l2 A c_35 c_82 c_60 c_64 c_65 c_83 c_69 c_77 c_33 c_80 c_81 n puts104 (A.add .i64 i105 1) o0106 o0107 o1108 o1109 o1110 o1111 o1112 o1113 o1114 o2115 o2116 o2117 o2118 o2119 o2120 o2121 o3122 o3123 kret_2 kx2_2
              else
                bif (A.not (A.eq o2117 6)) then
                  bif (A.not (A.and (A.eq (A.vget o0107 i105 0) (A.vget o3123 i105 0)) (A.and (A.eq (A.vget o0107 i105 1) (A.vget o3123 i105 1)) (A.eq (A.vget o0107 i105 2) (A.vget o3123 i105 2))))) then
                    kret_2 false
                  else
                    laws_FnCommits_l2 A c_35 c_82 c_60 c_64 c_65 c_83 c_69 c_77 c_33 c_80 c_81 n puts104 (A.add .i64 i105 1) o0106 o0107 o1108 o1109 o1110 o1111 o1112 o1113 o1114 o2115 o2116 o2117 o2118 o2119 o2120 o2121 o3122 o3123 kret_2 kx2_2
                else
                  bif (A.not r125) then
                    bif (A.not (A.and (A.eq (A.vget o0107 i105 0) (A.vget o3123 i105 0)) (A.and (A.eq (A.vget o0107 i105 1) (A.vget o3123 i105 1)) (A.eq (A.vget o0107 i105 2) (A.vget o3123 i105 2))))) then
                      kret_2 false
                    else
                      laws_FnCommits_l2 A c_35 c_82 c_60 c_64 c_65 c_83 c_69 c_77 c_33 c_80 c_81 n puts104 (A.add .i64 i105 1) o0106 o0107 o1108 o1109 o1110 o1111 o1112 o1113 o1114 o2115 o2116 o2117 o2118 o2119 o2120 o2121 o3122 o3123 kret_2 kx2_2
                  else
                    laws_FnCommits_l2 A c_35 c_82 c_60 c_64 c_65 c_83 c_69 c_77 c_33 c_80 c_81 n puts104 (A.add .i64 i105 1) o0106 o0107 o1108 o1109 o1110 o1111 o1112 o1113 o1114 o2115 o2116 o2117 o2118 o2119 o2120 o2121 o3122 o3123 kret_2 kx2_2
            else
              bif (A.not (A.eq o2117 6)) then
                bif (A.not (A.and (A.eq (A.vget o0107 i105 0) (A.vget o3123 i105 0)) (A.and (A.eq (A.vget o0107 i105 1) (A.vget o3123 i105 1)) (A.eq (A.vget o0107 i105 2) (A.vget o3123 i105 2))))) then
                  kret_2 false
                else
                  laws_FnCommits_l2 A c_35 c_82 c_60 c_64 c_65 c_83 c_69 c_77 c_33 c_80 c_81 n puts104 (A.add .i64 i105 1) o0106 o0107 o1108 o1109 o1110 o1111 o1112 o1113 o1114 o2115 o2116 o2117 o2118 o2119 o2120 o2121 o3122 o3123 kret_2 kx2_2
              else
                bif (A.not r125) then
                  bif (A.not (A.and (A.eq (A.vget o0107 i105 0) (A.vget o3123 i105 0)) (A.and (A.eq (A.vget o0107 i105 1) (A.vget o3123 i105 1)) (A.eq (A.vget o0107 i105 2) (A.vget o3123 i105 2))))) then
                    kret_2 false
                  else
                    laws_FnCommits_l2 A c_35 c_82 c_60 c_64 c_65 c_83 c_69 c_77 c_33 c_80 c_81 n puts104 (A.add .i64 i105 1) o0106 o0107 o1108 o1109 o1110 o1111 o1112 o1113 o1114 o2115 o2116 o2117 o2118 o2119 o2120 o2121 o3122 o3123 kret_2 kx2_2
                else
                  laws_FnCommits_l2 A c_35 c_82 c_60 c_64 c_65 c_83 c_69 c_77 c_33 c_80 c_81 n puts104 (A.add .i64 i105 1) o0106 o0107 o1108 o1109 o1110 o1111 o1112 o1113 o1114 o2115 o2116 o2117 o2118 o2119 o2120 o2121 o3122 o3123 kret_2 kx2_2
          else
            none
        else
          none)
    else
      kx2_2 o0106 o0107 o1108 o1109 o1110 o1111 o1112 o1113 o1114 o2115 o2116 o2117 o2118 o2119 o2120 o2121 o3122 o3123
noncomputable def laws_FnCommits_l0 (A : PM.Prims) (c_35 : spec_MemOk_T) (c_82 : spec_RowsOk_T) (c_60 : spec_CommitOk_T) (c_64 : spec_CommitLeft_T) (c_65 : impl_CommitLeft_T) (c_83 : spec_Last_T) (c_69 : impl_CommitNew_T) (c_77 : impl_CommitStep_T) (c_33 : laws_big_T) (c_80 : spec_DrawCommitStep_T) (c_81 : spec_DrawCommitNew_T) : Nat → (List (List Int)) → (Int) → (Int) → (Int) → (List (List Int)) → (Int) → (Int) → (Int) → (Int) → (Int) → (List (List Int)) → (List Int) → (Int) → (Int) → (Int) → (Int) → (Int) → (List (List Int)) → (List Int) → (Int) → (List (List Int)) → ((Bool) → PM.R) → ((List (List Int)) → (Int) → (List (List Int)) → (Int) → (Int) → (Int) → (Int) → (Int) → (List (List Int)) → (List Int) → (Int) → (Int) → (Int) → (Int) → (Int) → (List (List Int)) → (List Int) → (Int) → (List (List Int)) → PM.R) → PM.R
  | 0, _, _, _, _, _, _, _, _, _, _, _, _, _, _, _, _, _, _, _, _, _, _, _ => none
  | n + 1, puts31, n32, i33, o034, o035, o136, o137, o138, o139, o140, o141, o142, o243, o244, o245, o246, o247, o248, o249, o350, o351, kret_0, kx0_0 =>
    bif (A.lt i33 n32) then
      c_77 o350 o351 o243 o244 o245 o246 o247 o248 o249 (fun r52 r53 r54 r55 r56 r57 r58 r59 r60 =>
        c_65 r54 r55 r56 r57 r58 r59 r60 (fun r61 =>
          c_65 o243 o244 o245 o246 o247 o248 o249 (fun r62 =>
            bif (A.le r62 r61) then
              c_65 o243 o244 o245 o246 o247 o248 o249 (fun r63 =>
                bif (A.lt 0 r63) then
                  kret_0 false
                else
                  laws_FnCommits_l0 A c_35 c_82 c_60 c_64 c_65 c_83 c_69 c_77 c_33 c_80 c_81 n puts31 n32 (A.add .i64 i33 1) o034 o035 o136 o137 o138 o139 o140 o141 o142 r54 r55 r56 r57 r58 r59 r60 r52 r53 kret_0 kx0_0)
            else
              laws_FnCommits_l0 A c_35 c_82 c_60 c_64 c_65 c_83 c_69 c_77 c_33 c_80 c_81 n puts31 n32 (A.add .i64 i33 1) o034 o035 o136 o137 o138 o139 o140 o141 o142 r54 r55 r56 r57 r58 r59 r60 r52 r53 kret_0 kx0_0)))
    else
      kx0_0 puts31 o034 o035 o136 o137 o138 o139 o140 o141 o142 o243 o244 o245 o246 o247 o248 o249 o350 o351
noncomputable def laws_FnCommits_f (A : PM.Prims) (c_35 : spec_MemOk_T) (c_82 : spec_RowsOk_T) (c_60 : spec_CommitOk_T) (c_64 : spec_CommitLeft_T) (c_65 : impl_CommitLeft_T) (c_83 : spec_Last_T) (c_69 : impl_CommitNew_T) (c_77 : impl_CommitStep_T) (c_33 : laws_big_T) (c_80 : spec_DrawCommitStep_T) (c_81 : spec_DrawCommitNew_T) (__ : List Int) (k : (Bool) → PM.R) : PM.R :=
  c_33 __ (fun r1 =>
    bif r1 then
      k true
    else
      c_80 __ (fun r2 r3 r4 r5 r6 r7 r8 r9 r10 =>
        c_81 __ (fun r11 r12 r13 r14 =>
          c_69 9 r2 r13 r14 (fun r15 r16 r17 r18 r19 r20 r21 r22 =>
            bif (A.not r22) then
              c_82 r13 (fun r23 =>
                bif (A.not r23) then
                  k true
                else
                  c_82 r14 (fun r24 =>
                    bif (A.not r24) then
                      k true
                    else
                      c_35 r2 r3 (fun r25 =>
                        k (A.not r25))))
            else
              c_35 r2 r3 (fun r26 =>
                bif (A.not r26) then
                  c_82 r13 (fun r27 =>
                    bif (A.not r27) then
                      k true
                    else
                      c_82 r14 (fun r28 =>
                        bif (A.not r28) then
                          k true
                        else
                          c_35 r2 r3 (fun r29 =>
                            k (A.not r29))))
                else
                  c_65 r15 r16 r17 r18 r19 r20 r21 (fun r30 =>
                    bif (A.lt 40 r30) then
                      k false
                    else
                      laws_FnCommits_l0 A c_35 c_82 c_60 c_64 c_65 c_83 c_69 c_77 c_33 c_80 c_81 A.fuel r13 r30 0 r2 r3 r4 r5 r6 r7 r8 r9 r10 r15 r16 r17 r18 r19 r20 r21 r2 r3 (fun t26484 =>
                        k t26484) (fun puts6585 o06686 o06787 o16888 o16989 o17090 o17191 o17292 o17393 o17494 o27595 o27696 o27797 o27898 o27999 o280100 o281101 o382102 o383103 =>
                        bif (A.not (A.eq (A.vlen o383103) (A.vlen o06787))) then
                          k false
                        else
                          laws_FnCommits_l2 A c_35 c_82 c_60 c_64 c_65 c_83 c_69 c_77 c_33 c_80 c_81 A.fuel puts6585 0 o06686 o06787 o16888 o16989 o17090 o17191 o17292 o17393 o17494 o27595 o27696 o27797 o27898 o27999 o280100 o281101 o382102 o383103 (fun t2126145 =>
                            k t2126145) (fun o0127146 o0128147 o1129148 o1130149 o1131150 o1132151 o1133152 o1134153 o1135154 o2136155 o2137156 o2138157 o2139158 o2140159 o2141160 o2142161 o3143162 o3144163 =>
                            bif (A.eq (A.vlen o3144163) 8) then
                              bif (A.eq o2138157 6) then
                                bif (A.eq o2140159 (A.add .i64 o0127146 1)) then
                                  c_60 o1129148 o1130149 o1131150 o1132151 o1133152 o1134153 o1135154 (fun r164 =>
                                    bif (A.not r164) then
                                      k true
                                    else
                                      c_65 o1129148 o1130149 o1131150 o1132151 o1133152 o1134153 o1135154 (fun r165 =>
                                        c_64 o1129148 o1130149 o1131150 o1132151 o1133152 o1134153 o1135154 (fun r166 =>
                                          k (A.eq r165 r166))))
                                else
                                  bif (A.eq o2138157 8) then
                                    c_60 o1129148 o1130149 o1131150 o1132151 o1133152 o1134153 o1135154 (fun r167 =>
                                      bif (A.not r167) then
                                        k true
                                      else
                                        c_65 o1129148 o1130149 o1131150 o1132151 o1133152 o1134153 o1135154 (fun r168 =>
                                          c_64 o1129148 o1130149 o1131150 o1132151 o1133152 o1134153 o1135154 (fun r169 =>
                                            k (A.eq r168 r169))))
                                  else
                                    k false
                              else
                                bif (A.eq o2138157 8) then
                                  c_60 o1129148 o1130149 o1131150 o1132151 o1133152 o1134153 o1135154 (fun r170 =>
                                    bif (A.not r170) then
                                      k true
                                    else
                                      c_65 o1129148 o1130149 o1131150 o1132151 o1133152 o1134153 o1135154 (fun r171 =>
                                        c_64 o1129148 o1130149 o1131150 o1132151 o1133152 o1134153 o1135154 (fun r172 =>
                                          k (A.eq r171 r172))))
                                else
                                  k false
                            else
                              k false))))))))
noncomputable def laws_FnCommits (A : PM.Prims) : laws_FnCommits_T := laws_FnCommits_f A (spec_MemOk A) (spec_RowsOk A) (spec_CommitOk A) (spec_CommitLeft A) (impl_CommitLeft A) (spec_Last A) (impl_CommitNew A) (impl_CommitStep A) (laws_big A) (spec_DrawCommitStep A) (spec_DrawCommitNew A)
noncomputable def laws_FnCommits_L (A : PM.Prims) (c_35 : spec_MemOk_T) (c_82 : spec_RowsOk_T) (c_60 : spec_CommitOk_T) (c_64 : spec_CommitLeft_T) (c_65 : impl_CommitLeft_T) (c_83 : spec_Last_T) (c_69 : impl_CommitNew_T) (c_77 : impl_CommitStep_T) (c_33 : laws_big_T) (c_80 : spec_DrawCommitStep_T) (c_81 : spec_DrawCommitNew_T) (n : Nat) : PM.Lam := fun cur σ K =>
  match cur, σ, K with
  | 0, ⟨[(3, .pbox 0 0), (4, .pbox 1 0), (7, .arr (.vecs 135 2 puts31)), (9, .pbox 2 0), (11, .pbox 3 0), (12, .int .i64 n32), (13, .int .i64 i33)], [(0, .box [.int .i64 o034, .arr (.vecs 49 3 o035)]), (1, .box [.int .i64 o136, .int .i64 o137, .int .i64 o138, .int .i64 o139, .int .i64 o140, .arr (.vecs 135 2 o141), .arr (.ints 3 .i64 o142)]), (2, .box [.int .i64 o243, .int .i64 o244, .int .i64 o245, .int .i64 o246, .int .i64 o247, .arr (.vecs 135 2 o248), .arr (.ints 3 .i64 o249)]), (3, .box [.int .i64 o350, .arr (.vecs 49 3 o351)])]⟩, K => laws_FnCommits_l0 A c_35 c_82 c_60 c_64 c_65 c_83 c_69 c_77 c_33 c_80 c_81 n puts31 n32 i33 o034 o035 o136 o137 o138 o139 o140 o141 o142 o243 o244 o245 o246 o247 o248 o249 o350 o351 (fun t264 => K .ret ⟨[(2, .bool t264)], []⟩) (fun puts65 o066 o067 o168 o169 o170 o171 o172 o173 o174 o275 o276 o277 o278 o279 o280 o281 o382 o383 => K (.exit 0) ⟨[(3, .pbox 0 0), (4, .pbox 1 0), (7, .arr (.vecs 135 2 puts65)), (9, .pbox 2 0), (11, .pbox 3 0)], [(0, .box [.int .i64 o066, .arr (.vecs 49 3 o067)]), (1, .box [.int .i64 o168, .int .i64 o169, .int .i64 o170, .int .i64 o171, .int .i64 o172, .arr (.vecs 135 2 o173), .arr (.ints 3 .i64 o174)]), (2, .box [.int .i64 o275, .int .i64 o276, .int .i64 o277, .int .i64 o278, .int .i64 o279, .arr (.vecs 135 2 o280), .arr (.ints 3 .i64 o281)]), (3, .box [.int .i64 o382, .arr (.vecs 49 3 o383)])]⟩)
  | 2, ⟨[(3, .pbox 0 0), (4, .pbox 1 0), (7, .arr (.vecs 135 2 puts104)), (9, .pbox 2 0), (11, .pbox 3 0), (16, .int .i64 i105)], [(0, .box [.int .i64 o0106, .arr (.vecs 49 3 o0107)]), (1, .box [.int .i64 o1108, .int .i64 o1109, .int .i64 o1110, .int .i64 o1111, .int .i64 o1112, .arr (.vecs 135 2 o1113), .arr (.ints 3 .i64 o1114)]), (2, .box [.int .i64 o2115, .int .i64 o2116, .int .i64 o2117, .int .i64 o2118, .int .i64 o2119, .arr (.vecs 135 2 o2120), .arr (.ints 3 .i64 o2121)]), (3, .box [.int .i64 o3122, .arr (.vecs 49 3 o3123)])]⟩, K => laws_FnCommits_l2 A c_35 c_82 c_60 c_64 c_65 c_83 c_69 c_77 c_33 c_80 c_81 n puts104 i105 o0106 o0107 o1108 o1109 o1110 o1111 o1112 o1113 o1114 o2115 o2116 o2117 o2118 o2119 o2120 o2121 o3122 o3123 (fun t2126 => K .ret ⟨[(2, .bool t2126)], []⟩) (fun o0127 o0128 o1129 o1130 o1131 o1132 o1133 o1134 o1135 o2136 o2137 o2138 o2139 o2140 o2141 o2142 o3143 o3144 => K (.exit 2) ⟨[(3, .pbox 0 0), (4, .pbox 1 0), (9, .pbox 2 0), (11, .pbox 3 0)], [(0, .box [.int .i64 o0127, .arr (.vecs 49 3 o0128)]), (1, .box [.int .i64 o1129, .int .i64 o1130, .int .i64 o1131, .int .i64 o1132, .int .i64 o1133, .arr (.vecs 135 2 o1134), .arr (.ints 3 .i64 o1135)]), (2, .box [.int .i64 o2136, .int .i64 o2137, .int .i64 o2138, .int .i64 o2139, .int .i64 o2140, .arr (.vecs 135 2 o2141), .arr (.ints 3 .i64 o2142)]), (3, .box [.int .i64 o3143, .arr (.vecs 49 3 o3144)])]⟩)
  | _, _, _ => none
noncomputable def laws_FnCommits_E (A : PM.Prims) (c_35 : spec_MemOk_T) (c_82 : spec_RowsOk_T) (c_60 : spec_CommitOk_T) (c_64 : spec_CommitLeft_T) (c_65 : impl_CommitLeft_T) (c_83 : spec_Last_T) (c_69 : impl_CommitNew_T) (c_77 : impl_CommitStep_T) (c_33 : laws_big_T) (c_80 : spec_DrawCommitStep_T) (c_81 : spec_DrawCommitNew_T) : PM.Env := ⟨[(35, ⟨[], fun _ _ => none, some (PM.spImm (spec_MemOk_w c_35))⟩), (82, ⟨[], fun _ _ => none, some (PM.spImm (spec_RowsOk_w c_82))⟩), (60, ⟨[], fun _ _ => none, some (PM.spImm (spec_CommitOk_w c_60))⟩), (64, ⟨[], fun _ _ => none, some (PM.spImm (spec_CommitLeft_w c_64))⟩), (65, ⟨[], fun _ _ => none, some (PM.spImm (impl_CommitLeft_w c_65))⟩), (83, ⟨[], fun _ _ => none, some (PM.spImm (spec_Last_w c_83))⟩), (69, ⟨[], fun _ _ => none, some (PM.spImm (impl_CommitNew_w c_69))⟩), (77, ⟨[], fun _ _ => none, some (PM.spImm (impl_CommitStep_w c_77))⟩), (33, ⟨[], fun _ _ => none, some (PM.spImm (laws_big_w c_33))⟩), (80, ⟨[], fun _ _ => none, some (PM.spImm (spec_DrawCommitStep_w c_80))⟩), (81, ⟨[], fun _ _ => none, some (PM.spImm (spec_DrawCommitNew_w c_81))⟩)], [], [(0, [3, 4, 7, 9, 11, 12, 13], [2, 3, 4, 7, 9, 11]), (2, [3, 4, 7, 9, 11, 16], [2, 3, 4, 9, 11])], [(0, [0]), (1, [0, 22]), (2, [2]), (3, [0, 3, 4]), (4, [3, 4, 7, 8]), (5, [3, 4, 7, 8, 9, 10]), (6, [3, 4, 7, 8, 9, 49]), (7, [2]), (8, [3, 4, 7, 9, 11]), (9, [3, 4, 7, 9, 11, 12]), (10, [3, 4, 7, 9, 11, 12, 67]), (11, [2]), (12, [3, 4, 7, 9, 11, 12, 13]), (13, [3, 4, 7, 9, 11, 12, 13, 70]), (14, [3, 4, 7, 9, 11, 12, 13]), (15, [3, 4, 7, 9, 11, 12, 13, 14, 15]), (16, [3, 4, 7, 9, 11, 12, 13, 14, 15, 88]), (17, [2]), (18, [3, 4, 7, 9, 11, 12, 13, 15]), (19, [3, 4, 7, 9, 11, 12, 13]), (20, [3, 4, 7, 9, 11, 97]), (21, [2]), (22, [3, 4, 7, 9, 11, 16]), (23, [3, 4, 7, 9, 11, 16, 102]), (24, [3, 4, 7, 9, 11, 16]), (25, [3, 4, 7, 9, 11, 16, 17, 18]), (26, [3, 4, 7, 9, 11, 16, 17, 18, 19]), (27, [3, 4, 7, 9, 11, 16, 17, 18, 19, 20]), (28, [3, 4, 7, 9, 11, 16, 18, 19, 20, 144]), (29, [2]), (30, [3, 4, 7, 9, 11, 16, 156]), (31, [2]), (32, [2])], laws_FnCommits_L A c_35 c_82 c_60 c_64 c_65 c_83 c_69 c_77 c_33 c_80 c_81 A.fuel⟩
theorem laws_FnCommits_l0_ok (A : PM.Prims) (c_35 : spec_MemOk_T) (c_82 : spec_RowsOk_T) (c_60 : spec_CommitOk_T) (c_64 : spec_CommitLeft_T) (c_65 : impl_CommitLeft_T) (c_83 : spec_Last_T) (c_69 : impl_CommitNew_T) (c_77 : impl_CommitStep_T) (c_33 : laws_big_T) (c_80 : spec_DrawCommitStep_T) (c_81 : spec_DrawCommitNew_T) (n : Nat) (puts31 : List (List Int)) (n32 : Int) (i33 : Int) (o034 : Int) (o035 : List (List Int)) (o136 : Int) (o137 : Int) (o138 : Int) (o139 : Int) (o140 : Int) (o141 : List (List Int)) (o142 : List Int) (o243 : Int) (o244 : Int) (o245 : Int) (o246 : Int) (o247 : Int) (o248 : List (List Int)) (o249 : List Int) (o350 : Int) (o351 : List (List Int)) (K : Go.Exit → PM.S → PM.R) : laws_FnCommits_L A c_35 c_82 c_60 c_64 c_65 c_83 c_69 c_77 c_33 c_80 c_81 (n + 1) 0 ⟨[(3, .pbox 0 0), (4, .pbox 1 0), (7, .arr (.vecs 135 2 puts31)), (9, .pbox 2 0), (11, .pbox 3 0), (12, .int .i64 n32), (13, .int .i64 i33)], [(0, .box [.int .i64 o034, .arr (.vecs 49 3 o035)]), (1, .box [.int .i64 o136, .int .i64 o137, .int .i64 o138, .int .i64 o139, .int .i64 o140, .arr (.vecs 135 2 o141), .arr (.ints 3 .i64 o142)]), (2, .box [.int .i64 o243, .int .i64 o244, .int .i64 o245, .int .i64 o246, .int .i64 o247, .arr (.vecs 135 2 o248), .arr (.ints 3 .i64 o249)]), (3, .box [.int .i64 o350, .arr (.vecs 49 3 o351)])]⟩ K = PM.roundF A cx (PM.runD A cx (laws_FnCommits_E A c_35 c_82 c_60 c_64 c_65 c_83 c_69 c_77 c_33 c_80 c_81).inl (laws_FnCommits_E A c_35 c_82 c_60 c_64 c_65 c_83 c_69 c_77 c_33 c_80 c_81).Γ 3) (laws_FnCommits_E A c_35 c_82 c_60 c_64 c_65 c_83 c_69 c_77 c_33 c_80 c_81) (laws_FnCommits_L A c_35 c_82 c_60 c_64 c_65 c_83 c_69 c_77 c_33 c_80 c_81 n) 0 Go.Proofs.Try.f19 ⟨[(3, .pbox 0 0), (4, .pbox 1 0), (7, .arr (.vecs 135 2 puts31)), (9, .pbox 2 0), (11, .pbox 3 0), (12, .int .i64 n32), (13, .int .i64 i33)], [(0, .box [.int .i64 o034, .arr (.vecs 49 3 o035)]), (1, .box [.int .i64 o136, .int .i64 o137, .int .i64 o138, .int .i64 o139, .int .i64 o140, .arr (.vecs 135 2 o141), .arr (.ints 3 .i64 o142)]), (2, .box [.int .i64 o243, .int .i64 o244, .int .i64 o245, .int .i64 o246, .int .i64 o247, .arr (.vecs 135 2 o248), .arr (.ints 3 .i64 o249)]), (3, .box [.int .i64 o350, .arr (.vecs 49 3 o351)])]⟩ K := by kernel_rfl
theorem laws_FnCommits_l2_ok (A : PM.Prims) (c_35 : spec_MemOk_T) (c_82 : spec_RowsOk_T) (c_60 : spec_CommitOk_T) (c_64 : spec_CommitLeft_T) (c_65 : impl_CommitLeft_T) (c_83 : spec_Last_T) (c_69 : impl_CommitNew_T) (c_77 : impl_CommitStep_T) (c_33 : laws_big_T) (c_80 : spec_DrawCommitStep_T) (c_81 : spec_DrawCommitNew_T) (n : Nat) (puts104 : List (List Int)) (i105 : Int) (o0106 : Int) (o0107 : List (List Int)) (o1108 : Int) (o1109 : Int) (o1110 : Int) (o1111 : Int) (o1112 : Int) (o1113 : List (List Int)) (o1114 : List Int) (o2115 : Int) (o2116 : Int) (o2117 : Int) (o2118 : Int) (o2119 : Int) (o2120 : List (List Int)) (o2121 : List Int) (o3122 : Int) (o3123 : List (List Int)) (K : Go.Exit → PM.S → PM.R) : laws_FnCommits_L A c_35 c_82 c_60 c_64 c_65 c_83 c_69 c_77 c_33 c_80 c_81 (n + 1) 2 ⟨[(3, .pbox 0 0), (4, .pbox 1 0), (7, .arr (.vecs 135 2 puts104)), (9, .pbox 2 0), (11, .pbox 3 0), (16, .int .i64 i105)], [(0, .box [.int .i64 o0106, .arr (.vecs 49 3 o0107)]), (1, .box [.int .i64 o1108, .int .i64 o1109, .int .i64 o1110, .int .i64 o1111, .int .i64 o1112, .arr (.vecs 135 2 o1113), .arr (.ints 3 .i64 o1114)]), (2, .box [.int .i64 o2115, .int .i64 o2116, .int .i64 o2117, .int .i64 o2118, .int .i64 o2119, .arr (.vecs 135 2 o2120), .arr (.ints 3 .i64 o2121)]), (3, .box [.int .i64 o3122, .arr (.vecs 49 3 o3123)])]⟩ K = PM.roundF A cx (PM.runD A cx (laws_FnCommits_E A c_35 c_82 c_60 c_64 c_65 c_83 c_69 c_77 c_33 c_80 c_81).inl (laws_FnCommits_E A c_35 c_82 c_60 c_64 c_65 c_83 c_69 c_77 c_33 c_80 c_81).Γ 3) (laws_FnCommits_E A c_35 c_82 c_60 c_64 c_65 c_83 c_69 c_77 c_33 c_80 c_81) (laws_FnCommits_L A c_35 c_82 c_60 c_64 c_65 c_83 c_69 c_77 c_33 c_80 c_81 n) 2 Go.Proofs.Try.f19 ⟨[(3, .pbox 0 0), (4, .pbox 1 0), (7, .arr (.vecs 135 2 puts104)), (9, .pbox 2 0), (11, .pbox 3 0), (16, .int .i64 i105)], [(0, .box [.int .i64 o0106, .arr (.vecs 49 3 o0107)]), (1, .box [.int .i64 o1108, .int .i64 o1109, .int .i64 o1110, .int .i64 o1111, .int .i64 o1112, .arr (.vecs 135 2 o1113), .arr (.ints 3 .i64 o1114)]), (2, .box [.int .i64 o2115, .int .i64 o2116, .int .i64 o2117, .int .i64 o2118, .int .i64 o2119, .arr (.vecs 135 2 o2120), .arr (.ints 3 .i64 o2121)]), (3, .box [.int .i64 o3122, .arr (.vecs 49 3 o3123)])]⟩ K := by kernel_rfl
theorem laws_FnCommits_ok (A : PM.Prims) (c_35 : spec_MemOk_T) (c_82 : spec_RowsOk_T) (c_60 : spec_CommitOk_T) (c_64 : spec_CommitLeft_T) (c_65 : impl_CommitLeft_T) (c_83 : spec_Last_T) (c_69 : impl_CommitNew_T) (c_77 : impl_CommitStep_T) (c_33 : laws_big_T) (c_80 : spec_DrawCommitStep_T) (c_81 : spec_DrawCommitNew_T) (__ : List Int) (k : PM.V → PM.R) : PM.pfun A cx [] (laws_FnCommits_E A c_35 c_82 c_60 c_64 c_65 c_83 c_69 c_77 c_33 c_80 c_81) Go.Proofs.Try.f19 [.arr (.ints 5 .u8 __)] k = laws_FnCommits_f A c_35 c_82 c_60 c_64 c_65 c_83 c_69 c_77 c_33 c_80 c_81 __ (fun r0 => k (.bool r0)) := by kernel_rfl

theorem laws_FnCommits_fn : PM.FnIs Try.prog 19 Try.f19 := .of Try.func19 (by kernel_rfl) (by kernel_rfl)
theorem laws_FnCommits_g : PM.GOk Try.prog cx 19 ⟨[], laws_FnCommits_w (laws_FnCommits PM.std), none⟩ := by
  refine ⟨laws_FnCommits_fn.enter, fun _ ds k r h => ?_, fun hm => absurd rfl hm, fun _ e => (by cases e)⟩
  change laws_FnCommits_w (laws_FnCommits PM.std) ds k = some r at h
  unfold laws_FnCommits_w at h
  split at h
  · exact PM.pfun_ok (E := laws_FnCommits_E PM.std (spec_MemOk PM.std) (spec_RowsOk PM.std) (spec_CommitOk PM.std) (spec_CommitLeft PM.std) (impl_CommitLeft PM.std) (spec_Last PM.std) (impl_CommitNew PM.std) (impl_CommitStep PM.std) (laws_big PM.std) (spec_DrawCommitStep PM.std) (spec_DrawCommitNew PM.std)) (L := fun n => laws_FnCommits_L PM.std (spec_MemOk PM.std) (spec_RowsOk PM.std) (spec_CommitOk PM.std) (spec_CommitLeft PM.std) (impl_CommitLeft PM.std) (spec_Last PM.std) (impl_CommitNew PM.std) (impl_CommitStep PM.std) (laws_big PM.std) (spec_DrawCommitStep PM.std) (spec_DrawCommitNew PM.std) n) (N := PM.std.fuel) cx_ok (.cons (PM.GOk.imm spec_MemOk_g) (.cons (PM.GOk.imm spec_RowsOk_g) (.cons (PM.GOk.imm spec_CommitOk_g) (.cons (PM.GOk.imm spec_CommitLeft_g) (.cons (PM.GOk.imm impl_CommitLeft_g) (.cons (PM.GOk.imm spec_Last_g) (.cons (PM.GOk.imm impl_CommitNew_g) (.cons (PM.GOk.imm impl_CommitStep_g) (.cons (PM.GOk.imm laws_big_g) (.cons (PM.GOk.imm spec_DrawCommitStep_g) (.cons (PM.GOk.imm spec_DrawCommitNew_g) .nil))))))))))) mixed .nil laws_FnCommits_fn (by kernel_rfl) ⟨rfl, fun cur σ K => by
      dsimp only [laws_FnCommits_L]
      split <;> rfl, fun n cur σ K r h => by
      dsimp only [laws_FnCommits_L] at h
      split at h
      · exact (laws_FnCommits_l0_ok PM.std (spec_MemOk PM.std) (spec_RowsOk PM.std) (spec_CommitOk PM.std) (spec_CommitLeft PM.std) (impl_CommitLeft PM.std) (spec_Last PM.std) (impl_CommitNew PM.std) (impl_CommitStep PM.std) (laws_big PM.std) (spec_DrawCommitStep PM.std) (spec_DrawCommitNew PM.std) n _ _ _ _ _ _ _ _ _ _ _ _ _ _ _ _ _ _ _ _ _ K).symm.trans h
      · exact (laws_FnCommits_l2_ok PM.std (spec_MemOk PM.std) (spec_RowsOk PM.std) (spec_CommitOk PM.std) (spec_CommitLeft PM.std) (impl_CommitLeft PM.std) (spec_Last PM.std) (impl_CommitNew PM.std) (impl_CommitStep PM.std) (laws_big PM.std) (spec_DrawCommitStep PM.std) (spec_DrawCommitNew PM.std) n _ _ _ _ _ _ _ _ _ _ _ _ _ _ _ _ _ _ _ _ K).symm.trans h
      · cases h⟩
      ((laws_FnCommits_ok PM.std (spec_MemOk PM.std) (spec_RowsOk PM.std) (spec_CommitOk PM.std) (spec_CommitLeft PM.std) (impl_CommitLeft PM.std) (spec_Last PM.std) (impl_CommitNew PM.std) (impl_CommitStep PM.std) (laws_big PM.std) (spec_DrawCommitStep PM.std) (spec_DrawCommitNew PM.std) _ k).trans h)
  · cases h

abbrev laws_FnBroken_T := (List Int) → ((Bool) → PM.R) → PM.R
noncomputable def laws_FnBroken_w (c : laws_FnBroken_T) (ds : List PM.V) (k : PM.V → PM.R) : PM.R :=
  match ds with
  | [.arr (.ints 5 .u8 __)] => c __ (fun r0 => k (.bool r0))
  | _ => none
noncomputable def laws_FnBroken_l4 (A : PM.Prims) (c_35 : spec_MemOk_T) (c_67 : spec_CommitNew_T) (c_69 : impl_CommitNew_T) (c_75 : impl_CommitBreak_T) (c_77 : impl_CommitStep_T) (c_33 : laws_big_T) (c_80 : spec_DrawCommitStep_T) (c_81 : spec_DrawCommitNew_T) (c_84 : laws_at_T) : Nat → (Int) → (Int) → (List (List Int)) → (Int) → (List (List Int)) → (Int) → (Int) → (Int) → (Int) → (Int) → (List (List Int)) → (List Int) → ((Bool) → PM.R) → ((Int) → (List (List Int)) → (Int) → (Int) → (Int) → (Int) → (Int) → (List (List Int)) → (List Int) → PM.R) → PM.R
  | 0, _, _, _, _, _, _, _, _, _, _, _, _, _, _ => none
  | n + 1, i127, o0128, o0129, o1130, o1131, o2132, o2133, o2134, o2135, o2136, o2137, o2138, kret_4, kx4_4 =>
    bif (A.lt i127 (A.vlen o1131)) then
      bif (A.inb i127 (A.vlen o1131)) then
        bif (A.inb i127 (A.vlen o0129)) then
          bif (A.not (A.and (A.eq (A.vget o1131 i127 0) (A.vget o0129 i127 0)) (A.and (A.eq (A.vget o1131 i127 1) (A.vget o0129 i127 1)) (A.eq (A.vget o1131 i127 2) (A.vget o0129 i127 2))))) then
            kret_4 false
          else
            laws_FnBroken_l4 A c_35 c_67 c_69 c_75 c_77 c_33 c_80 c_81 c_84 n (A.add .i64 i127 1) o0128 o0129 o1130 o1131 o2132 o2133 o2134 o2135 o2136 o2137 o2138 kret_4 kx4_4
        else
          none
      else
        none
    else
      kx4_4 o1130 o1131 o2132 o2133 o2134 o2135 o2136 o2137 o2138
noncomputable def laws_FnBroken_l2 (A : PM.Prims) (c_35 : spec_MemOk_T) (c_67 : spec_CommitNew_T) (c_69 : impl_CommitNew_T) (c_75 : impl_CommitBreak_T) (c_77 : impl_CommitStep_T) (c_33 : laws_big_T) (c_80 : spec_DrawCommitStep_T) (c_81 : spec_DrawCommitNew_T) (c_84 : laws_at_T) : Nat → (Int) → (Int) → (List (List Int)) → (Int) → (List (List Int)) → (Int) → (Int) → (Int) → (Int) → (Int) → (List (List Int)) → (List Int) → ((Int) → (List (List Int)) → (Int) → (List (List Int)) → (Int) → (Int) → (Int) → (Int) → (Int) → (List (List Int)) → (List Int) → PM.R) → PM.R
  | 0, _, _, _, _, _, _, _, _, _, _, _, _, _ => none
  | n + 1, i84, o085, o086, o187, o188, o289, o290, o291, o292, o293, o294, o295, kx2_2 =>
    bif (A.lt i84 9) then
      c_77 o187 o188 o289 o290 o291 o292 o293 o294 o295 (fun r96 r97 r98 r99 r100 r101 r102 r103 r104 =>
        laws_FnBroken_l2 A c_35 c_67 c_69 c_75 c_77 c_33 c_80 c_81 c_84 n (A.add .i64 i84 1) o085 o086 r96 r97 r98 r99 r100 r101 r102 r103 r104 kx2_2)
    else
      kx2_2 o085 o086 o187 o188 o289 o290 o291 o292 o293 o294 o295
noncomputable def laws_FnBroken_l0 (A : PM.Prims) (c_35 : spec_MemOk_T) (c_67 : spec_CommitNew_T) (c_69 : impl_CommitNew_T) (c_75 : impl_CommitBreak_T) (c_77 : impl_CommitStep_T) (c_33 : laws_big_T) (c_80 : spec_DrawCommitStep_T) (c_81 : spec_DrawCommitNew_T) (c_84 : laws_at_T) : Nat → (Int) → (Int) → (List (List Int)) → (Int) → (Int) → (Int) → (Int) → (Int) → (List (List Int)) → (List Int) → (Int) → (List (List Int)) → ((Int) → (List (List Int)) → (Int) → (Int) → (Int) → (Int) → (Int) → (List (List Int)) → (List Int) → (Int) → (List (List Int)) → PM.R) → PM.R
  | 0, _, _, _, _, _, _, _, _, _, _, _, _, _ => none
  | n + 1, i33, o034, o035, o136, o137, o138, o139, o140, o141, o142, o243, o244, kx0_0 =>
    bif (A.lt 0 i33) then
      c_77 o243 o244 o136 o137 o138 o139 o140 o141 o142 (fun r45 r46 r47 r48 r49 r50 r51 r52 r53 =>
        laws_FnBroken_l0 A c_35 c_67 c_69 c_75 c_77 c_33 c_80 c_81 c_84 n (A.sub .i64 i33 1) o034 o035 r47 r48 r49 r50 r51 r52 r53 r45 r46 kx0_0)
    else
      kx0_0 o034 o035 o136 o137 o138 o139 o140 o141 o142 o243 o244
noncomputable def laws_FnBroken_f (A : PM.Prims) (c_35 : spec_MemOk_T) (c_67 : spec_CommitNew_T) (c_69 : impl_CommitNew_T) (c_75 : impl_CommitBreak_T) (c_77 : impl_CommitStep_T) (c_33 : laws_big_T) (c_80 : spec_DrawCommitStep_T) (c_81 : spec_DrawCommitNew_T) (c_84 : laws_at_T) (__ : List Int) (k : (Bool) → PM.R) : PM.R :=
  c_33 __ (fun r1 =>
    bif r1 then
      k true
    else
      c_80 __ (fun r2 r3 r4 r5 r6 r7 r8 r9 r10 =>
        c_81 __ (fun r11 r12 r13 r14 =>
          c_69 9 r2 r13 r14 (fun r15 r16 r17 r18 r19 r20 r21 r22 =>
            c_67 9 r2 r13 r14 (fun r23 r24 r25 r26 r27 r28 r29 r30 =>
              bif (A.not (A.beq r22 r30)) then
                k false
              else
                bif (A.not r22) then
                  k true
                else
                  c_35 r2 r3 (fun r31 =>
                    bif (A.not r31) then
                      k true
                    else
                      c_84 __ 0 (fun r32 =>
                        bif (A.nz 9) then
                          laws_FnBroken_l0 A c_35 c_67 c_69 c_75 c_77 c_33 c_80 c_81 c_84 A.fuel (A.rem .i64 r32 9) r2 r3 r15 r16 r17 r18 r19 r20 r21 r2 r3 (fun o05465 o05566 o15667 o15768 o15869 o15970 o16071 o16172 o16273 o26374 o26475 =>
                            c_75 o15667 o15768 o15869 o15970 o16071 o16172 o16273 (fun r76 r77 r78 r79 r80 r81 r82 r83 =>
                              bif (A.not (A.beq r83 (A.le o15869 3))) then
                                k false
                              else
                                bif (A.not r83) then
                                  bif (A.eq r78 o15869) then
                                    k (A.eq r79 o15970)
                                  else
                                    k false
                                else
                                  laws_FnBroken_l2 A c_35 c_67 c_69 c_75 c_77 c_33 c_80 c_81 c_84 A.fuel 0 o05465 o05566 o26374 o26475 r76 r77 r78 r79 r80 r81 r82 (fun o0105116 o0106117 o1107118 o1108119 o2109120 o2110121 o2111122 o2112123 o2113124 o2114125 o2115126 =>
                                    bif (A.not (A.eq (A.vlen o1108119) (A.vlen o0106117))) then
                                      k false
                                    else
                                      laws_FnBroken_l4 A c_35 c_67 c_69 c_75 c_77 c_33 c_80 c_81 c_84 A.fuel 0 o0105116 o0106117 o1107118 o1108119 o2109120 o2110121 o2111122 o2112123 o2113124 o2114125 o2115126 (fun t2139149 =>
                                        k t2139149) (fun o0140150 o0141151 o1142152 o1143153 o1144154 o1145155 o1146156 o1147157 o1148158 =>
                                        bif (A.eq o1144154 8) then
                                          k (A.eq (A.vlen o0141151) 8)
                                        else
                                          k false))))
                        else
                          none)))))))
noncomputable def laws_FnBroken (A : PM.Prims) : laws_FnBroken_T := laws_FnBroken_f A (spec_MemOk A) (spec_CommitNew A) (impl_CommitNew A) (impl_CommitBreak A) (impl_CommitStep A) (laws_big A) (spec_DrawCommitStep A) (spec_DrawCommitNew A) (laws_at A)
noncomputable def laws_FnBroken_L (A : PM.Prims) (c_35 : spec_MemOk_T) (c_67 : spec_CommitNew_T) (c_69 : impl_CommitNew_T) (c_75 : impl_CommitBreak_T) (c_77 : impl_CommitStep_T) (c_33 : laws_big_T) (c_80 : spec_DrawCommitStep_T) (c_81 : spec_DrawCommitNew_T) (c_84 : laws_at_T) (n : Nat) : PM.Lam := fun cur σ K =>
  match cur, σ, K with
  | 0, ⟨[(3, .pbox 0 0), (9, .pbox 1 0), (13, .pbox 2 0), (14, .int .i64 i33)], [(0, .box [.int .i64 o034, .arr (.vecs 49 3 o035)]), (1, .box [.int .i64 o136, .int .i64 o137, .int .i64 o138, .int .i64 o139, .int .i64 o140, .arr (.vecs 135 2 o141), .arr (.ints 3 .i64 o142)]), (2, .box [.int .i64 o243, .arr (.vecs 49 3 o244)])]⟩, K => laws_FnBroken_l0 A c_35 c_67 c_69 c_75 c_77 c_33 c_80 c_81 c_84 n i33 o034 o035 o136 o137 o138 o139 o140 o141 o142 o243 o244 (fun o054 o055 o156 o157 o158 o159 o160 o161 o162 o263 o264 => K (.exit 0) ⟨[(3, .pbox 0 0), (9, .pbox 1 0), (13, .pbox 2 0)], [(0, .box [.int .i64 o054, .arr (.vecs 49 3 o055)]), (1, .box [.int .i64 o156, .int .i64 o157, .int .i64 o158, .int .i64 o159, .int .i64 o160, .arr (.vecs 135 2 o161), .arr (.ints 3 .i64 o162)]), (2, .box [.int .i64 o263, .arr (.vecs 49 3 o264)])]⟩)
  | 2, ⟨[(3, .pbox 0 0), (13, .pbox 1 0), (17, .pbox 2 0), (19, .int .i64 i84)], [(0, .box [.int .i64 o085, .arr (.vecs 49 3 o086)]), (1, .box [.int .i64 o187, .arr (.vecs 49 3 o188)]), (2, .box [.int .i64 o289, .int .i64 o290, .int .i64 o291, .int .i64 o292, .int .i64 o293, .arr (.vecs 135 2 o294), .arr (.ints 3 .i64 o295)])]⟩, K => laws_FnBroken_l2 A c_35 c_67 c_69 c_75 c_77 c_33 c_80 c_81 c_84 n i84 o085 o086 o187 o188 o289 o290 o291 o292 o293 o294 o295 (fun o0105 o0106 o1107 o1108 o2109 o2110 o2111 o2112 o2113 o2114 o2115 => K (.exit 2) ⟨[(3, .pbox 0 0), (13, .pbox 1 0), (17, .pbox 2 0)], [(0, .box [.int .i64 o0105, .arr (.vecs 49 3 o0106)]), (1, .box [.int .i64 o1107, .arr (.vecs 49 3 o1108)]), (2, .box [.int .i64 o2109, .int .i64 o2110, .int .i64 o2111, .int .i64 o2112, .int .i64 o2113, .arr (.vecs 135 2 o2114), .arr (.ints 3 .i64 o2115)])]⟩)
  | 4, ⟨[(3, .pbox 0 0), (13, .pbox 1 0), (17, .pbox 2 0), (22, .int .i64 i127)], [(0, .box [.int .i64 o0128, .arr (.vecs 49 3 o0129)]), (1, .box [.int .i64 o1130, .arr (.vecs 49 3 o1131)]), (2, .box [.int .i64 o2132, .int .i64 o2133, .int .i64 o2134, .int .i64 o2135, .int .i64 o2136, .arr (.vecs 135 2 o2137), .arr (.ints 3 .i64 o2138)])]⟩, K => laws_FnBroken_l4 A c_35 c_67 c_69 c_75 c_77 c_33 c_80 c_81 c_84 n i127 o0128 o0129 o1130 o1131 o2132 o2133 o2134 o2135 o2136 o2137 o2138 (fun t2139 => K .ret ⟨[(2, .bool t2139)], []⟩) (fun o0140 o0141 o1142 o1143 o1144 o1145 o1146 o1147 o1148 => K (.exit 4) ⟨[(13, .pbox 0 0), (17, .pbox 1 0)], [(0, .box [.int .i64 o0140, .arr (.vecs 49 3 o0141)]), (1, .box [.int .i64 o1142, .int .i64 o1143, .int .i64 o1144, .int .i64 o1145, .int .i64 o1146, .arr (.vecs 135 2 o1147), .arr (.ints 3 .i64 o1148)])]⟩)
  | _, _, _ => none
noncomputable def laws_FnBroken_E (A : PM.Prims) (c_35 : spec_MemOk_T) (c_67 : spec_CommitNew_T) (c_69 : impl_CommitNew_T) (c_75 : impl_CommitBreak_T) (c_77 : impl_CommitStep_T) (c_33 : laws_big_T) (c_80 : spec_DrawCommitStep_T) (c_81 : spec_DrawCommitNew_T) (c_84 : laws_at_T) : PM.Env := ⟨[(35, ⟨[], fun _ _ => none, some (PM.spImm (spec_MemOk_w c_35))⟩), (67, ⟨[], fun _ _ => none, some (PM.spImm (spec_CommitNew_w c_67))⟩), (69, ⟨[], fun _ _ => none, some (PM.spImm (impl_CommitNew_w c_69))⟩), (75, ⟨[], fun _ _ => none, some (PM.spImm (impl_CommitBreak_w c_75))⟩), (77, ⟨[], fun _ _ => none, some (PM.spImm (impl_CommitStep_w c_77))⟩), (33, ⟨[], fun _ _ => none, some (PM.spImm (laws_big_w c_33))⟩), (80, ⟨[], fun _ _ => none, some (PM.spImm (spec_DrawCommitStep_w c_80))⟩), (81, ⟨[], fun _ _ => none, some (PM.spImm (spec_DrawCommitNew_w c_81))⟩), (84, ⟨[], fun _ _ => none, some (PM.spImm (laws_at_w c_84))⟩)], [], [(0, [3, 9, 13, 14], [2, 3, 9, 13]), (2, [3, 13, 17, 19], [2, 3, 13, 17]), (4, [3, 13, 17, 22], [2, 13, 17])], [(0, [0]), (1, [0, 24]), (2, [2]), (3, [0, 3]), (4, [0, 3, 7, 8]), (5, [0, 3, 7, 8, 9, 10]), (6, [0, 3, 9, 10, 12]), (7, [0, 3, 9, 10, 55]), (8, [2]), (9, [0, 3, 9, 62]), (10, [2]), (11, [0, 3, 9, 13]), (12, [3, 9, 13, 14]), (13, [3, 9, 13, 14, 68]), (14, [3, 9, 13, 14]), (15, [3, 9, 13, 14, 15, 16]), (16, [3, 9, 13, 14, 16]), (17, [3, 9, 13, 14]), (18, [3, 9, 13, 17, 18]), (19, [3, 9, 13, 17, 18, 88]), (20, [2]), (21, [3, 9, 13, 17, 90]), (22, [2]), (23, [3, 13, 17, 19]), (24, [3, 13, 17, 19, 104]), (25, [3, 13, 17, 19]), (26, [3, 13, 17, 19, 20, 21]), (27, [3, 13, 17, 19, 21]), (28, [3, 13, 17, 19]), (29, [3, 13, 17, 121]), (30, [2]), (31, [3, 13, 17, 22]), (32, [3, 13, 17, 22, 126]), (33, [3, 13, 17, 22]), (34, [3, 13, 17, 22, 139]), (35, [2]), (36, [2])], laws_FnBroken_L A c_35 c_67 c_69 c_75 c_77 c_33 c_80 c_81 c_84 A.fuel⟩
theorem laws_FnBroken_l0_ok (A : PM.Prims) (c_35 : spec_MemOk_T) (c_67 : spec_CommitNew_T) (c_69 : impl_CommitNew_T) (c_75 : impl_CommitBreak_T) (c_77 : impl_CommitStep_T) (c_33 : laws_big_T) (c_80 : spec_DrawCommitStep_T) (c_81 : spec_DrawCommitNew_T) (c_84 : laws_at_T) (n : Nat) (i33 : Int) (o034 : Int) (o035 : List (List Int)) (o136 : Int) (o137 : Int) (o138 : Int) (o139 : Int) (o140 : Int) (o141 : List (List Int)) (o142 : List Int) (o243 : Int) (o244 : List (List Int)) (K : Go.Exit → PM.S → PM.R) : laws_FnBroken_L A c_35 c_67 c_69 c_75 c_77 c_33 c_80 c_81 c_84 (n + 1) 0 ⟨[(3, .pbox 0 0), (9, .pbox 1 0), (13, .pbox 2 0), (14, .int .i64 i33)], [(0, .box [.int .i64 o034, .arr (.vecs 49 3 o035)]), (1, .box [.int .i64 o136, .int .i64 o137, .int .i64 o138, .int .i64 o139, .int .i64 o140, .arr (.vecs 135 2 o141), .arr (.ints 3 .i64 o142)]), (2, .box [.int .i64 o243, .arr (.vecs 49 3 o244)])]⟩ K = PM.roundF A cx (PM.runD A cx (laws_FnBroken_E A c_35 c_67 c_69 c_75 c_77 c_33 c_80 c_81 c_84).inl (laws_FnBroken_E A c_35 c_67 c_69 c_75 c_77 c_33 c_80 c_81 c_84).Γ 3) (laws_FnBroken_E A c_35 c_67 c_69 c_75 c_77 c_33 c_80 c_81 c_84) (laws_FnBroken_L A c_35 c_67 c_69 c_75 c_77 c_33 c_80 c_81 c_84 n) 0 Go.Proofs.Try.f20 ⟨[(3, .pbox 0 0), (9, .pbox 1 0), (13, .pbox 2 0), (14, .int .i64 i33)], [(0, .box [.int .i64 o034, .arr (.vecs 49 3 o035)]), (1, .box [.int .i64 o136, .int .i64 o137, .int .i64 o138, .int .i64 o139, .int .i64 o140, .arr (.vecs 135 2 o141), .arr (.ints 3 .i64 o142)]), (2, .box [.int .i64 o243, .arr (.vecs 49 3 o244)])]⟩ K := by kernel_rfl
theorem laws_FnBroken_l2_ok (A : PM.Prims) (c_35 : spec_MemOk_T) (c_67 : spec_CommitNew_T) (c_69 : impl_CommitNew_T) (c_75 : impl_CommitBreak_T) (c_77 : impl_CommitStep_T) (c_33 : laws_big_T) (c_80 : spec_DrawCommitStep_T) (c_81 : spec_DrawCommitNew_T) (c_84 : laws_at_T) (n : Nat) (i84 : Int) (o085 : Int) (o086 : List (List Int)) (o187 : Int) (o188 : List (List Int)) (o289 : Int) (o290 : Int) (o291 : Int) (o292 : Int) (o293 : Int) (o294 : List (List Int)) (o295 : List Int) (K : Go.Exit → PM.S → PM.R) : laws_FnBroken_L A c_35 c_67 c_69 c_75 c_77 c_33 c_80 c_81 c_84 (n + 1) 2 ⟨[(3, .pbox 0 0), (13, .pbox 1 0), (17, .pbox 2 0), (19, .int .i64 i84)], [(0, .box [.int .i64 o085, .arr (.vecs 49 3 o086)]), (1, .box [.int .i64 o187, .arr (.vecs 49 3 o188)]), (2, .box [.int .i64 o289, .int .i64 o290, .int .i64 o291, .int .i64 o292, .int .i64 o293, .arr (.vecs 135 2 o294), .arr (.ints 3 .i64 o295)])]⟩ K = PM.roundF A cx (PM.runD A cx (laws_FnBroken_E A c_35 c_67 c_69 c_75 c_77 c_33 c_80 c_81 c_84).inl (laws_FnBroken_E A c_35 c_67 c_69 c_75 c_77 c_33 c_80 c_81 c_84).Γ 3) (laws_FnBroken_E A c_35 c_67 c_69 c_75 c_77 c_33 c_80 c_81 c_84) (laws_FnBroken_L A c_35 c_67 c_69 c_75 c_77 c_33 c_80 c_81 c_84 n) 2 Go.Proofs.Try.f20 ⟨[(3, .pbox 0 0), (13, .pbox 1 0), (17, .pbox 2 0), (19, .int .i64 i84)], [(0, .box [.int .i64 o085, .arr (.vecs 49 3 o086)]), (1, .box [.int .i64 o187, .arr (.vecs 49 3 o188)]), (2, .box [.int .i64 o289, .int .i64 o290, .int .i64 o291, .int .i64 o292, .int .i64 o293, .arr (.vecs 135 2 o294), .arr (.ints 3 .i64 o295)])]⟩ K := by kernel_rfl
theorem laws_FnBroken_l4_ok (A : PM.Prims) (c_35 : spec_MemOk_T) (c_67 : spec_CommitNew_T) (c_69 : impl_CommitNew_T) (c_75 : impl_CommitBreak_T) (c_77 : impl_CommitStep_T) (c_33 : laws_big_T) (c_80 : spec_DrawCommitStep_T) (c_81 : spec_DrawCommitNew_T) (c_84 : laws_at_T) (n : Nat) (i127 : Int) (o0128 : Int) (o0129 : List (List Int)) (o1130 : Int) (o1131 : List (List Int)) (o2132 : Int) (o2133 : Int) (o2134 : Int) (o2135 : Int) (o2136 : Int) (o2137 : List (List Int)) (o2138 : List Int) (K : Go.Exit → PM.S → PM.R) : laws_FnBroken_L A c_35 c_67 c_69 c_75 c_77 c_33 c_80 c_81 c_84 (n + 1) 4 ⟨[(3, .pbox 0 0), (13, .pbox 1 0), (17, .pbox 2 0), (22, .int .i64 i127)], [(0, .box [.int .i64 o0128, .arr (.vecs 49 3 o0129)]), (1, .box [.int .i64 o1130, .arr (.vecs 49 3 o1131)]), (2, .box [.int .i64 o2132, .int .i64 o2133, .int .i64 o2134, .int .i64 o2135, .int .i64 o2136, .arr (.vecs 135 2 o2137), .arr (.ints 3 .i64 o2138)])]⟩ K = PM.roundF A cx (PM.runD A cx (laws_FnBroken_E A c_35 c_67 c_69 c_75 c_77 c_33 c_80 c_81 c_84).inl (laws_FnBroken_E A c_35 c_67 c_69 c_75 c_77 c_33 c_80 c_81 c_84).Γ 3) (laws_FnBroken_E A c_35 c_67 c_69 c_75 c_77 c_33 c_80 c_81 c_84) (laws_FnBroken_L A c_35 c_67 c_69 c_75 c_77 c_33 c_80 c_81 c_84 n) 4 Go.Proofs.Try.f20 ⟨[(3, .pbox 0 0), (13, .pbox 1 0), (17, .pbox 2 0), (22, .int .i64 i127)], [(0, .box [.int .i64 o0128, .arr (.vecs 49 3 o0129)]), (1, .box [.int .i64 o1130, .arr (.vecs 49 3 o1131)]), (2, .box [.int .i64 o2132, .int .i64 o2133, .int .i64 o2134, .int .i64 o2135, .int .i64 o2136, .arr (.vecs 135 2 o2137), .arr (.ints 3 .i64 o2138)])]⟩ K := by kernel_rfl
theorem laws_FnBroken_ok (A : PM.Prims) (c_35 : spec_MemOk_T) (c_67 : spec_CommitNew_T) (c_69 : impl_CommitNew_T) (c_75 : impl_CommitBreak_T) (c_77 : impl_CommitStep_T) (c_33 : laws_big_T) (c_80 : spec_DrawCommitStep_T) (c_81 : spec_DrawCommitNew_T) (c_84 : laws_at_T) (__ : List Int) (k : PM.V → PM.R) : PM.pfun A cx [] (laws_FnBroken_E A c_35 c_67 c_69 c_75 c_77 c_33 c_80 c_81 c_84) Go.Proofs.Try.f20 [.arr (.ints 5 .u8 __)] k = laws_FnBroken_f A c_35 c_67 c_69 c_75 c_77 c_33 c_80 c_81 c_84 __ (fun r0 => k (.bool r0)) := by kernel_rfl

theorem laws_FnBroken_fn : PM.FnIs Try.prog 20 Try.f20 := .of Try.func20 (by kernel_rfl) (by kernel_rfl)
theorem laws_FnBroken_g : PM.GOk Try.prog cx 20 ⟨[], laws_FnBroken_w (laws_FnBroken PM.std), none⟩ := by
  refine ⟨laws_FnBroken_fn.enter, fun _ ds k r h => ?_, fun hm => absurd rfl hm, fun _ e => (by cases e)⟩
  change laws_FnBroken_w (laws_FnBroken PM.std) ds k = some r at h
  unfold laws_FnBroken_w at h
  split at h
  · exact PM.pfun_ok (E := laws_FnBroken_E PM.std (spec_MemOk PM.std) (spec_CommitNew PM.std) (impl_CommitNew PM.std) (impl_CommitBreak PM.std) (impl_CommitStep PM.std) (laws_big PM.std) (spec_DrawCommitStep PM.std) (spec_DrawCommitNew PM.std) (laws_at PM.std)) (L := fun n => laws_FnBroken_L PM.std (spec_MemOk PM.std) (spec_CommitNew PM.std) (impl_CommitNew PM.std) (impl_CommitBreak PM.std) (impl_CommitStep PM.std) (laws_big PM.std) (spec_DrawCommitStep PM.std) (spec_DrawCommitNew PM.std) (laws_at PM.std) n) (N := PM.std.fuel) cx_ok (.cons (PM.GOk.imm spec_MemOk_g) (.cons (PM.GOk.imm spec_CommitNew_g) (.cons (PM.GOk.imm impl_CommitNew_g) (.cons (PM.GOk.imm impl_CommitBreak_g) (.cons (PM.GOk.imm impl_CommitStep_g) (.cons (PM.GOk.imm laws_big_g) (.cons (PM.GOk.imm spec_DrawCommitStep_g) (.cons (PM.GOk.imm spec_DrawCommitNew_g) (.cons (PM.GOk.imm laws_at_g) .nil))))))))) mixed .nil laws_FnBroken_fn (by kernel_rfl) ⟨rfl, fun cur σ K => by
      dsimp only [laws_FnBroken_L]
      split <;> rfl, fun n cur σ K r h => by
      dsimp only [laws_FnBroken_L] at h
      split at h
      · exact (laws_FnBroken_l0_ok PM.std (spec_MemOk PM.std) (spec_CommitNew PM.std) (impl_CommitNew PM.std) (impl_CommitBreak PM.std) (impl_CommitStep PM.std) (laws_big PM.std) (spec_DrawCommitStep PM.std) (spec_DrawCommitNew PM.std) (laws_at PM.std) n _ _ _ _ _ _ _ _ _ _ _ _ K).symm.trans h
      · exact (laws_FnBroken_l2_ok PM.std (spec_MemOk PM.std) (spec_CommitNew PM.std) (impl_CommitNew PM.std) (impl_CommitBreak PM.std) (impl_CommitStep PM.std) (laws_big PM.std) (spec_DrawCommitStep PM.std) (spec_DrawCommitNew PM.std) (laws_at PM.std) n _ _ _ _ _ _ _ _ _ _ _ _ K).symm.trans h
      · exact (laws_FnBroken_l4_ok PM.std (spec_MemOk PM.std) (spec_CommitNew PM.std) (impl_CommitNew PM.std) (impl_CommitBreak PM.std) (impl_CommitStep PM.std) (laws_big PM.std) (spec_DrawCommitStep PM.std) (spec_DrawCommitNew PM.std) (laws_at PM.std) n _ _ _ _ _ _ _ _ _ _ _ _ K).symm.trans h
      · cases h⟩
      ((laws_FnBroken_ok PM.std (spec_MemOk PM.std) (spec_CommitNew PM.std) (impl_CommitNew PM.std) (impl_CommitBreak PM.std) (impl_CommitStep PM.std) (laws_big PM.std) (spec_DrawCommitStep PM.std) (spec_DrawCommitNew PM.std) (laws_at PM.std) _ k).trans h)
  · cases h

end X
