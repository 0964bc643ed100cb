/- The library's numbers to the base 16: ParseUint. -/
import Derived.Test.YtimhljcebeiofaaGreatDoorPrI
import Derived.Test.YtimhljcebeiofaaGreatDoorSrc
namespace Go.Proofs.YtimhljcebeiofaaGreatDoor
set_option linter.unusedSimpArgs false
set_option linter.unusedVariables false
open Go.RowKit

set_option maxRecDepth 4000 in
set_option maxHeartbeats 4000000 in
theorem parseUint_any (ds : List Nat) (hd : ∀ d ∈ ds, d < 16) (h1 : 1 ≤ ds.length) (h8 : ds.length ≤ 8) (hv32 : hv ds < 4294967296) (w : World) :
    Calls Tryz.prog 73 #[.string ⟨(ds.map dg).toArray⟩, .int .i64 16, .int .i64 32] w fun e w' => e = .returned (.tuple #[.int .u64 ((hv ds : Nat) : Int), .nilIface]) ∧ Below w.heap.size w w' := by

  obtain ⟨cap, W1, hcv, hbl, hcl⟩ := str_bytes (ds.map dg) w
  have hle : (ds.map dg).isEmpty = false := by cases ds with
    | nil => simp at h1
    | cons d ds => rfl
  have hll : (ds.map dg).length = ds.length := List.length_map ..
  have hl8 : (ds.map dg).length ≤ 8 := by omega
  have HCL := Lib.hid hcl
  have HLL := Lib.hid hll
  clear hcl hll
  generalize hL : ds.map dg = l at *
  go_enter Tryz.func73, Tryz.ntmps73
  go_upto_region 36 with fail
  obtain ⟨K, hK⟩ : ∃ K : Int, K = 1152921504606846976 := ⟨_, rfl⟩
  rw [← hK]
  have HKL : Hid (∀ N : Nat, N < 4294967296 → decide (K ≤ (N : Int)) = false) := Lib.hid fun N hN => by rw [hK]; exact decide_eq_false (by omega)
  clear hK
  have HV32 := Lib.hid hv32
  have hR := Lib.hid (show hv (ds.take ds.length) = hv ds by rw [List.take_of_length_le (Nat.le_refl _)])
  go_loopw [12, 13, 15, 16, 17, 101] (fun s12 s13 _ _ _ q W => ∃ j : Nat, j ≤ l.length ∧ q = .int .i64 (j : Int) ∧ s12 = .bool false ∧ s13 = .int .u64 ((hv (ds.take j) : Nat) : Int) ∧ W1 = W) (fun _ _ _ _ _ q _ => l.length - (intOf q).toNat)
  case atStart => exact ⟨0, Nat.zero_le _, rfl, rfl, rfl, rfl⟩
  case round =>
    obtain ⟨j, hj, rfl, rfl, rfl, rfl⟩ := hrel
    by_cases hlt : j < l.length
    · have cj := HCL.out j hlt
      have hjd : j < ds.length := by have := HLL.out; omega
      have hdj : ds[j]?.getD 0 < 16 := by rw [List.getElem?_eq_getElem hjd]; exact hd _ (List.getElem_mem _)
      have hlj : l[j]?.getD 0 = dg (ds[j]?.getD 0) := by rw [← hL, List.getElem?_map, List.getElem?_eq_getElem hjd]; rfl
      have HTK := Lib.hid (hv_take ds hjd)
      have hle1 := hv_le ds (j := j + 1) (by omega)
      rw [HTK.out] at hle1
      rw [hlj] at cj
      have hv1 := dg_val _ hdj
      generalize ds[j]?.getD 0 = d at *
      generalize hv (ds.take j) = N at *
      have hor : ∀ x : Nat, 97 ≤ x → x ≤ 102 → bits BinOp.or IntKind.u8 (x : Int) 32 = (x : Int) := fun x h1 h2 => by
        have : x = 97 ∨ x = 98 ∨ x = 99 ∨ x = 100 ∨ x = 101 ∨ x = 102 := by omega
        rcases this with rfl | rfl | rfl | rfl | rfl | rfl <;> decide
      generalize (dg d).toNat = c at *
      have hN : 16 * N + d < 4294967296 := by omega
      have hk := HKL.out N (by omega)
      clear hlj hle1 hv32 hd hle h1 h8
      rcases hv1 with ⟨c1, c2, c3⟩ | ⟨c1, c2, c3⟩
      · have e1 : (c : Int) - 48 = (d : Int) := by omega
        clear c3 hor
        go_wp2
        go_roundw
        case rel => exact ⟨j + 1, by omega, by go_num, rfl, by rw [HTK.out]; exact congrArg (Value.int .u64) (by omega), trivial⟩
        case measure => simp [intOf]; omega
      · have HLO := Lib.hid (fun W => lower_any c c (hor c c1 c2) W)
        have e1 : (c : Int) - 97 = ((d - 10 : Nat) : Int) := by omega
        have e2 : ((d - 10 : Nat) : Int) + 10 = (d : Int) := by omega
        have hd10 : 10 ≤ d := by omega
        clear c3 hor
        go_wp2_with (go_at_call 88; refine (HLO.out _).mono ?_; rintro e w' ⟨rfl, rfl⟩)
        go_roundw
        case rel => exact ⟨j + 1, by omega, by go_num, rfl, by rw [HTK.out]; exact congrArg (Value.int .u64) (by omega), trivial⟩
        case measure => simp [intOf]; omega
    · obtain rfl : j = l.length := by omega
      go_wp2
      go_ret2
      exact ⟨by rw [← hR.out, ← HLL.out]; rfl, hbl⟩

set_option maxHeartbeats 1000000 in
theorem parseUint0_any (ds : List Nat) (hd : ∀ d ∈ ds, d < 16) (h1 : 1 ≤ ds.length) (h8 : ds.length ≤ 8) (hv32 : hv ds < 4294967296) (w : World) :
    Calls Tryz.prog 60 #[.string ⟨(ds.map dg).toArray⟩, .int .i64 16, .int .i64 32] w fun e w' => e = .returned (.tuple #[.int .u64 ((hv ds : Nat) : Int), .nilIface]) ∧ Below w.heap.size w w' := by
  have H := Lib.hid (parseUint_any ds hd h1 h8 hv32 w)
  clear hd h1 h8
  generalize hv ds = n at *
  generalize ds.map dg = t at *
  go_enter Tryz.func60, Tryz.ntmps60
  go_wp2_with (go_at_call 73; refine H.out.mono ?_; rintro e w1 ⟨rfl, hb⟩)
  go_ret2
  exact ⟨rfl, hb⟩

set_option maxHeartbeats 1000000 in
theorem readHex_any (n : Nat) (hn : n < 4294967296) (w : World) :
    Calls Tryz.prog 39 #[.string ⟨(hex8 n).toArray⟩] w fun e w' => e = .returned (.float .f32 n) ∧ Below w.heap.size w w' := by
  have h0 := parseUint0_any (d8 n) (d8_lt n) (by rw [d8_len hn]; omega) (by rw [d8_len hn]; omega) (by rw [hv_d8]; exact hn) w
  rw [hv_d8] at h0
  have H := Lib.hid (show Calls Tryz.prog 60 #[.string ⟨(hex8 n).toArray⟩, .int .i64 16, .int .i64 32] w fun e w' => e = .returned (.tuple #[.int .u64 (n : Int), .nilIface]) ∧ Below w.heap.size w w' from h0)
  clear h0
  have hrun := run_f32from n
  generalize hex8 n = t at *
  go_enter Tryz.func39, Tryz.ntmps39
  go_wp2_with (go_at_call 60; refine H.out.mono ?_; rintro e w1 ⟨rfl, hb⟩)
  go_ret
  exact ⟨rfl, hb⟩

end Go.Proofs.YtimhljcebeiofaaGreatDoor
