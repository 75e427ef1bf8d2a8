/- The law of DamageText, as plain Lean: it answers true. Lengths fit an int. -/
import Derived.Test.YtbdnmfiaghhhiaaDoorLn
set_option linter.unusedVariables false
set_option linter.unusedSimpArgs false
namespace Go.Proofs.YtbdnmfiaghhhiaaDoor
open Go

theorem bytes_set (t : ByteArray) (i : Nat) (hi : i < t.size) (n : Int) : bytesStr ((strBytes t).set i n) = (t.extract 0 i ++ bytesStr [n]) ++ t.extract (i + 1) t.size := by
  have hl : t.data.toList.length = t.size := Array.length_toList
  have e1 : (bytesStr ((strBytes t).set i n)).data.toList = t.data.toList.set i (UInt8.ofNat n.toNat) := by
    unfold bytesStr strBytes
    show ((List.map (fun b : UInt8 => (b.toNat : Int)) t.data.toList).set i n).map (fun n => UInt8.ofNat n.toNat) = _
    rw [List.map_set, List.map_map]
    congr 1
    have : ((fun n : Int => UInt8.ofNat n.toNat) ∘ fun b : UInt8 => (b.toNat : Int)) = id := by
      funext b
      simp
    rw [this, List.map_id]
  have e2 : ((t.extract 0 i ++ bytesStr [n]) ++ t.extract (i + 1) t.size).data.toList = t.data.toList.take i ++ [UInt8.ofNat n.toNat] ++ t.data.toList.drop (i + 1) := by
    rw [ByteArray.data_append, ByteArray.data_append, Array.toList_append, Array.toList_append, Lib.extract_from_zero, Lib.extract_to_end]
    rfl
  have e3 : (bytesStr ((strBytes t).set i n)).data.toList = ((t.extract 0 i ++ bytesStr [n]) ++ t.extract (i + 1) t.size).data.toList := by
    rw [e1, e2, List.set_eq_take_append_cons_drop, if_pos (by omega), List.append_assoc]
    rfl
  exact ByteArray.ext (Array.toList_inj.1 e3)

theorem u8_id {n : Int} (h0 : 0 ≤ n) (h1 : n ≤ 255) : IntKind.u8.wrap n = n := by
  simp [IntKind.wrap, IntKind.bits, IntKind.signed]
  omega

theorem damage_same (l : List Edit) (k n : Int) (hf : FitsE l) : ∃ o, F_spec_DamageText (l, k, n) = some o ∧ F_impl_DamageText (l, k, n) = some o := by
  cases hok : goodE l with
  | false => exact ⟨(⟨#[]⟩, false), by simp [F_spec_DamageText, joGood_is l hf, hok], by simp [F_impl_DamageText, AreEdits_is l hf, hok]⟩
  | true =>
    obtain ⟨t, t1, t2, t3⟩ := text_same l (goodE_len hok) (fun i hi => goodE_ok hok hi)
    have hw : IntKind.i64.wrap ((t.size : Int) - 1) = (t.size : Int) - 1 := wrap_id (by omega) (by omega)
    by_cases h0 : 0 ≤ k
    · by_cases h1 : k ≤ (t.size : Int) - 1
      · by_cases h2 : 0 ≤ n
        · by_cases h3 : n ≤ 255
          · obtain ⟨i, rfl⟩ : ∃ i : Nat, k = (i : Int) := ⟨k.toNat, by omega⟩
            have hi : i < t.size := by omega
            have hs : (strBytes t).length = t.size := by unfold strBytes; rw [List.length_map]; exact Array.length_toList
            have w8 := u8_id h2 h3
            have w1 : IntKind.i64.wrap ((i : Int) + 1) = ((i + 1 : Nat) : Int) := wrap_succ (by omega)
            have z1 : (bytesStr [n]).size = 1 := rfl
            have z2 : (t.extract 0 i).size = i := by rw [ByteArray.size_extract]; omega
            have z3 : (t.extract (i + 1) t.size).size = t.size - (i + 1) := by rw [ByteArray.size_extract]; omega
            have p0 : ((0 : Int)).toNat = 0 := rfl
            have d1 : decide ((0 : Int) ≤ 0) = true := rfl
            have d2 : decide ((i : Int) ≤ (t.size : Int) - 1) = true := decide_eq_true h1
            have d3 : decide ((0 : Int) ≤ n) = true := decide_eq_true h2
            have d4 : decide (n ≤ (255 : Int)) = true := decide_eq_true h3
            have d5 : decide ((i : Int) < (t.size : Int)) = true := decide_eq_true (by omega)
            have d6 : decide ((i : Int) ≤ (t.size : Int)) = true := decide_eq_true (by omega)
            have d7 : decide (((i + 1 : Nat) : Int) ≤ (t.size : Int)) = true := decide_eq_true (by omega)
            have d8 : decide ((t.size : Int) ≤ (t.size : Int)) = true := decide_eq_true (by omega)
            have d9 : decide (i + 1 ≤ 9223372036854775807) = true := decide_eq_true (by omega)
            have d10 : decide ((t.extract 0 i ++ bytesStr [n]).size + (t.size - (i + 1)) ≤ 9223372036854775807) = true := decide_eq_true (by rw [ByteArray.size_append, z1, z2]; omega)
            refine ⟨((t.extract 0 i ++ bytesStr [n]) ++ t.extract (i + 1) t.size, true), ?_, ?_⟩
            · simp only [F_spec_DamageText, joGood_is l hf, hok, t1, hw, l1In_is, nonneg, d2, d3, d4, Bool.and_self, Bool.not_true, cond_false, cond_true, d1, d6, w8, w1, d7, d8, p0, Int.toNat_natCast, z2, z1, z3, d9, d10]
            · simp only [F_impl_DamageText, AreEdits_is l hf, hok, t2, hw, within_is, nonneg, d2, d3, d4, Bool.and_self, Bool.not_true, cond_false, cond_true, w8, hs, d5, Int.toNat_natCast, bytes_set t i hi n]
          · exact ⟨(⟨#[]⟩, false), by simp [F_spec_DamageText, joGood_is l hf, hok, t1, hw, l1In_is, h0, h1, h2, h3], by simp [F_impl_DamageText, AreEdits_is l hf, hok, t2, hw, within_is, h0, h1, h2, h3]⟩
        · exact ⟨(⟨#[]⟩, false), by simp [F_spec_DamageText, joGood_is l hf, hok, t1, hw, l1In_is, h0, h1, h2], by simp [F_impl_DamageText, AreEdits_is l hf, hok, t2, hw, within_is, h0, h1, h2]⟩
      · exact ⟨(⟨#[]⟩, false), by simp [F_spec_DamageText, joGood_is l hf, hok, t1, hw, l1In_is, h0, h1], by simp [F_impl_DamageText, AreEdits_is l hf, hok, t2, hw, within_is, h0, h1]⟩
    · exact ⟨(⟨#[]⟩, false), by simp [F_spec_DamageText, joGood_is l hf, hok, t1, hw, l1In_is, h0], by simp [F_impl_DamageText, AreEdits_is l hf, hok, t2, hw, within_is, h0]⟩
theorem law_DamageText (l : List Edit) (k n : Int) (h : WfE l) : F_laws_FnExactDamageText (l, k, n) = some true := by
  obtain ⟨o, e, hq⟩ := h.cases
  rcases hq with hn | ⟨hn, hf, e1, e2⟩
  · simp [F_laws_FnExactDamageText, e, hn]
  · obtain ⟨r, s1, s2⟩ := damage_same l k n hf
    simp [F_laws_FnExactDamageText, e, hn, e1, e2, s1, s2]
end Go.Proofs.YtbdnmfiaghhhiaaDoor
