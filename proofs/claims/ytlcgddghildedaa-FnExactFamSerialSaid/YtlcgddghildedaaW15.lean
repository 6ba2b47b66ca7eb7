/- Models of the functions, or plain laws about them; each theorem states its own conditions. -/
import Derived.Test.YtlcgddghildedaaW14
set_option linter.unusedVariables false
set_option linter.unusedSimpArgs false
open Go Go.Proofs PM
namespace X
set_option maxRecDepth 100000
set_option maxHeartbeats 4000000
noncomputable def impl_SerialKidX : impl_SerialKid_T := impl_SerialKid_f PM.std (impl_KidOk PM.std) (impl_areValues PM.std) serialX
theorem impl_SerialKidX_g : PM.GOk Try.prog cx 188 ⟨[], impl_SerialKid_w impl_SerialKidX, none⟩ := by
  refine ⟨impl_SerialKid_fn.enter, fun _ ds k r h => ?_, fun hm => absurd rfl hm, fun _ e => (by cases e)⟩
  change impl_SerialKid_w impl_SerialKidX ds k = some r at h
  unfold impl_SerialKid_w at h
  split at h
  · exact PM.pfun_ok (E := impl_SerialKid_E PM.std (impl_KidOk PM.std) (impl_areValues PM.std) serialX) (L := fun n => impl_SerialKid_L PM.std (impl_KidOk PM.std) (impl_areValues PM.std) serialX n) (N := PM.std.fuel) cx_ok (.cons impl_KidOk_g (.cons impl_areValues_g (.cons serialX_g .nil))) mixed .nil impl_SerialKid_fn (by kernel_rfl) ⟨rfl, fun _ _ _ => rfl, fun n cur σ K r h => by cases h⟩
      ((impl_SerialKid_ok PM.std (impl_KidOk PM.std) (impl_areValues PM.std) serialX _ _ _ k).trans h)
  · cases h

noncomputable def impl_FamSerialX : impl_FamSerial_T := impl_FamSerial_f PM.std (impl_FamOk PM.std) (impl_orderOk PM.std) (impl_copyInts PM.std) (impl_Overlay PM.std) (impl_fullOrder PM.std) impl_SerialKidX
theorem impl_FamSerialX_g : PM.GOk Try.prog cx 90 ⟨[], impl_FamSerial_w impl_FamSerialX, none⟩ := by
  refine ⟨impl_FamSerial_fn.enter, fun _ ds k r h => ?_, fun hm => absurd rfl hm, fun _ e => (by cases e)⟩
  change impl_FamSerial_w impl_FamSerialX ds k = some r at h
  unfold impl_FamSerial_w at h
  split at h
  · exact PM.pfun_ok (E := impl_FamSerial_E PM.std (impl_FamOk PM.std) (impl_orderOk PM.std) (impl_copyInts PM.std) (impl_Overlay PM.std) (impl_fullOrder PM.std) impl_SerialKidX) (L := fun n => impl_FamSerial_L PM.std (impl_FamOk PM.std) (impl_orderOk PM.std) (impl_copyInts PM.std) (impl_Overlay PM.std) (impl_fullOrder PM.std) impl_SerialKidX n) (N := PM.std.fuel) cx_ok (.cons impl_FamOk_g (.cons impl_orderOk_g (.cons impl_copyInts_g (.cons impl_Overlay_g (.cons impl_fullOrder_g (.cons impl_SerialKidX_g .nil)))))) mixed .nil impl_FamSerial_fn (by kernel_rfl) ⟨rfl, fun cur σ K => by
      dsimp only [impl_FamSerial_L]
      split <;> rfl, fun n cur σ K r h => by
      dsimp only [impl_FamSerial_L] at h
      split at h
      · exact (impl_FamSerial_l0_ok PM.std (impl_FamOk PM.std) (impl_orderOk PM.std) (impl_copyInts PM.std) (impl_Overlay PM.std) (impl_fullOrder PM.std) impl_SerialKidX n _ _ _ _ _ _ _ _ _ _ K).symm.trans h
      · cases h⟩
      ((impl_FamSerial_ok PM.std (impl_FamOk PM.std) (impl_orderOk PM.std) (impl_copyInts PM.std) (impl_Overlay PM.std) (impl_fullOrder PM.std) impl_SerialKidX _ _ _ _ _ _ k).trans h)
  · cases h

noncomputable def laws_FnExactFamSerialX : laws_FnExactFamSerial_T := laws_FnExactFamSerial_f PM.std (laws_szFamScript PM.std) (laws_toIntS PM.std) (laws_toFamScript PM.std) (spec_FamSerial PM.std) impl_FamSerialX (laws_eqIntS PM.std) (laws_eqFamScript PM.std) (laws_markFamScript PM.std) (laws_markIntS PM.std) (laws_heldIntS PM.std)
theorem laws_FnExactFamSerialX_g : PM.GOk Try.prog cx 20 ⟨[], laws_FnExactFamSerial_w laws_FnExactFamSerialX, none⟩ := by
  refine ⟨laws_FnExactFamSerial_fn.enter, fun _ ds k r h => ?_, fun hm => absurd rfl hm, fun _ e => (by cases e)⟩
  change laws_FnExactFamSerial_w laws_FnExactFamSerialX ds k = some r at h
  unfold laws_FnExactFamSerial_w at h
  split at h
  · exact PM.lfunB_ok (E := laws_FnExactFamSerial_E PM.std (laws_szFamScript PM.std) (laws_toIntS PM.std) (laws_toFamScript PM.std) (spec_FamSerial PM.std) impl_FamSerialX (laws_eqIntS PM.std) (laws_eqFamScript PM.std) (laws_markFamScript PM.std) (laws_markIntS PM.std) (laws_heldIntS PM.std)) (M := [(91, laws_markFamScript_w (laws_markFamScript PM.std))]) (.cons laws_markFamScript_mk .nil) cx_ok (.cons laws_szFamScript_g (.cons laws_toIntS_g (.cons laws_toFamScript_g (.cons spec_FamSerial_g (.cons impl_FamSerialX_g (.cons laws_eqIntS_g (.cons laws_eqFamScript_g (.cons laws_markIntS_g (.cons laws_heldIntS_g .nil))))))))) mixed .nil laws_FnExactFamSerial_fn (by kernel_rfl)
      ((laws_FnExactFamSerial_ok PM.std (laws_szFamScript PM.std) (laws_toIntS PM.std) (laws_toFamScript PM.std) (spec_FamSerial PM.std) impl_FamSerialX (laws_eqIntS PM.std) (laws_eqFamScript PM.std) (laws_markFamScript PM.std) (laws_markIntS PM.std) (laws_heldIntS PM.std) _ _ _ _ _ _ k).trans h)
  · cases h

end X
