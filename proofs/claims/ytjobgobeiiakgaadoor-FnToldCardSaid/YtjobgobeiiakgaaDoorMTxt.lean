/- Texts of bits: the walks of the functions that write digits. -/
import Derived.Test.YtjobgobeiiakgaaDoorMTxtP
import Derived.Test.YtjobgobeiiakgaaDoorMCod
import Derived.Laws.IdiomStrings
namespace Go.Proofs.YtjobgobeiiakgaaDoor
set_option linter.unusedSimpArgs false
set_option linter.unusedVariables false
open Go.RowKit

theorem info_u8 : (Tryd.prog.info? 5).map (fun i => (i.zero, i.size, i.bytes)) = some (some (.int .u8 0), 1, 1) := by kernel_rfl

set_option maxHeartbeats 400000 in
theorem binary_any (x d : Nat) (w : World) (hx : x ≤ 18446744073709551615) (hd : d ≤ 64) :
    Calls Tryd.prog 37 #[.int .u64 x, .int .i64 d] w fun e w' => e = .returned (.string ⟨(digs x d).toArray⟩) ∧ Below w.heap.size w w' := by
  obtain ⟨i0, hi, hz0, hz1, hz2⟩ := info_parts info_u8
  go_enter Tryd.func37, Tryd.ntmps37
  go_wp2_with (at_make; refine wpList_make_full _ rfl _ _ 22 rfl w.heap.size 5 i0 (.int .u8 0) 1 Tryd.underlying22 hi hz0 hz1 .i64 .i64 _ _ d rfl rfl rfl rfl (by rw [hz2]; omega) (by unfold maxLen; omega) (Nat.le_refl _) ?_; intro w1 hown hgr)
  have hb1 : Below w.heap.size w w1 := (Below.refl _ _).grown hgr (Nat.le_refl _) (by simp)
  rw [Nat.mul_one, show (Value.cells (.int .u8 0)) = #[.int .u8 0] from rfl, toList_madeCells_one] at hown
  go_loopw [11] (fun i wr => ∃ k : Nat, k ≤ d ∧ i = .int .i64 k ∧ wr.ownsRow w.heap.size 5 1 (.slice (some ⟨w.heap.size, 0, none⟩) d d) d (((digs x d).take k).map (fun c : UInt8 => Value.int .u8 (c.toNat : Int)) ++ List.replicate (d - k) (Value.int .u8 0)) ∧ Below w.heap.size w wr) (fun i _ => d - (intOf i).toNat)
  case atStart => exact ⟨0, Nat.zero_le _, rfl, by simpa using hown, hb1⟩
  case round =>
    clear hown hgr hb1
    obtain ⟨k, hk, rfl, hown, hb⟩ := hrel
    by_cases hlt : k < d
    · have hd1 := hown.cellAt k (by omega)
      obtain ⟨u, hu⟩ : ∃ u, (((digs x d).take k).map (fun c : UInt8 => Value.int .u8 (c.toNat : Int)) ++ List.replicate (d - k) (Value.int .u8 0))[k]? = some u := ⟨_, List.getElem?_eq_getElem (by simp [digs_length]; omega)⟩
      rw [hu] at hd1
      have hf := hown.frozenAt k
      have HSET : Hid ((((digs x d).take k).map (fun c : UInt8 => Value.int .u8 (c.toNat : Int)) ++ List.replicate (d - k) (Value.int .u8 0)).set k (Value.int .u8 ((dig x (d - 1 - k)).toNat : Int)) = ((digs x d).take (k + 1)).map (fun c : UInt8 => Value.int .u8 (c.toNat : Int)) ++ List.replicate (d - (k + 1)) (Value.int .u8 0)) := by
        have h := set_fill (digs x d) (fun c : UInt8 => Value.int .u8 (c.toNat : Int)) (Value.int .u8 0) 0 k (by rw [digs_length]; exact hlt)
        rw [digs_length, List.getD_eq_getElem?_getD, digs_get _ _ _ hlt] at h
        exact h
      have HST := Lib.hid (hown.stored k (Value.int .u8 ((dig x (d - 1 - k)).toNat : Int)))
      obtain ⟨q, hq⟩ : ∃ q : Nat, (d : Int) - 1 - k = q := ⟨d - 1 - k, by omega⟩
      have hq63 : q ≤ 63 := by omega
      have HQ : Hid (d - 1 - k = q) := by show _ = _; omega
      clear hu
      have HX := bit_u64 x q hx
      by_cases hbit : x / 2 ^ q % 2 = 1
      · have HD := Lib.hid (dig_one hbit)
        rw [hbit] at HX
        have HX1 : bits .and .u64 ((x : Int) / 2 ^ q) 1 = 1 := HX
        clear HX hbit
        go_wp2
        go_roundw
        case rel =>
          refine ⟨k + 1, by omega, by go_num, ?_, hb.setCell (Nat.le_refl _) _⟩
          have h2 := HST.out.1
          rw [HSET.out, HQ.out, HD.out] at h2
          exact h2
        case measure => simp [intOf]; omega
      · have HD := Lib.hid (dig_zero hbit)
        have HX1 : bits .and .u64 ((x : Int) / 2 ^ q) 1 = 0 := by rw [HX]; omega
        clear HX hbit
        go_wp2
        go_roundw
        case rel =>
          refine ⟨k + 1, by omega, by go_num, ?_, hb.setCell (Nat.le_refl _) _⟩
          have h2 := HST.out.1
          rw [HSET.out, HQ.out, HD.out] at h2
          exact h2
        case measure => simp [intOf]; omega
    · obtain rfl : d = k := by omega
      rw [List.take_of_length_le (by rw [digs_length]; exact Nat.le_refl _), Nat.sub_self, List.replicate_zero, List.append_nil] at hown
      have hconv : (convert 22 9 (.slice (some ⟨w.heap.size, 0, none⟩) d d)).run Tryd.prog wr = .ok (.string ⟨(digs x d).toArray⟩) wr := by
        have h := run_convert_bytes_back (P := Tryd.prog) wr 22 9 5 ⟨w.heap.size, 0, none⟩ d (digs x d) Tryd.underlying22 Tryd.underlying5 Tryd.underlying9 (fun j hj => by
          rw [digs_length] at hj
          rw [Addr.add_lit, Nat.zero_add, hown.cellAt j (by omega), List.getElem?_map, List.getElem?_eq_getElem (by rw [digs_length]; exact hj)]
          rfl)
        rw [digs_length] at h
        exact h
      have HB := Lib.hid hb
      clear hown hk hlt hb
      go_wp2
      go_ret
      exact ⟨rfl, HB.out⟩

end Go.Proofs.YtjobgobeiiakgaaDoor
