/- Turns of texts: the reference's TurnsOf. -/
import Derived.Test.YtjobgobeiiakgaaTri
namespace Go.Proofs.Ytjobgobeiiakgaa
set_option linter.unusedSimpArgs false
set_option linter.unusedVariables false
open Go.RowKit
theorem cat_at (a l : List UInt8) (r : Nat) (h : r < l.length) : ((⟨a.toArray⟩ : ByteArray) ++ (⟨l.toArray⟩ : ByteArray).extract r (r + 1)) = ⟨(a ++ [l[r]?.getD 0]).toArray⟩ := by
  have e : (l.drop r).take 1 = [l[r]?.getD 0] := by
    rw [List.drop_eq_getElem_cons h, List.getElem?_eq_getElem h]; rfl
  rw [ByteArray.extract_mk, ← e]
  apply ByteArray.ext
  simp [List.take_drop, Nat.add_comm]

set_option maxHeartbeats 1000000 in
theorem l04Turned_any (l : List UInt8) (i : Nat) (hl : l.length ≤ 64) (hi : i ≤ l.length) (w : World) :
    Calls Try.prog 80 #[.string ⟨l.toArray⟩, .int .i64 (i : Int)] w fun e w' => e = .returned (.string ⟨(rot l i).toArray⟩) ∧ Qu w w' := by
  have hcut1 := run_cut_from l i hi
  have hcut2 := run_cut_to l i hi
  have hcat : ∀ W, (Op.stringOp .add ⟨(l.drop i).toArray⟩ ⟨(l.take i).toArray⟩).run Try.prog W = .ok (.string ⟨(rot l i).toArray⟩) W := fun W => run_string_add_lists W _ _ (by simp; omega) (by simp; omega)
  generalize l.drop i = x at *
  generalize l.take i = y at *
  generalize rot l i = z at *
  go_enter Try.func80, Try.ntmps80
  go_wp2
  go_quiet (fail)
  go_wp2
  go_ret
  exact ⟨rfl, _, rfl⟩
theorem info_intt : (Try.prog.info? 3).map (fun i => (i.zero, i.size, i.bytes)) = some (some (.int .i64 0), 1, 8) := by kernel_rfl

set_option maxRecDepth 4000 in
set_option maxHeartbeats 2000000 in
theorem l04Turns_any (l : List UInt8) (n : Nat) (hn : l.length = n) (h1 : 1 ≤ n) (h64 : n ≤ 64) (w : World) :
    Calls Try.prog 36 #[.string ⟨l.toArray⟩] w fun e w' => e = .returned (.tuple #[.string ⟨(lastL l (ordT l)).toArray⟩, .int .i64 ((ordT l).idxOf 0 : Nat)]) ∧ Below w.heap.size w w' := by
  have hsz : (⟨l.toArray⟩ : ByteArray).size = n := by show l.toArray.size = n; simpa using hn
  have hT := ordT_perm l
  rw [hn] at hT
  obtain ⟨hp, hz⟩ := at_zero hT h1
  have HZ := Lib.hid hz
  have HT := Lib.hid hT
  have HN := Lib.hid hn
  obtain ⟨lt, hlt⟩ : ∃ lt, lt = ltT l := ⟨_, rfl⟩
  have HO : Hid (ordT l = ordX lt id n) := by show _ = _; rw [ordT, hn, hlt]
  have HLT : Hid (∀ x y, Op.bytesLess (rot l x) (rot l y) = lt x y) := Lib.hid fun x y => by rw [hlt]; rfl
  have HLL : Hid (∀ k, k < n → (lastL l (ordT l)).take (k + 1) = (lastL l (ordT l)).take k ++ [l[((ordT l)[k]?.getD 0 + n - 1) % n]?.getD 0]) := Lib.hid fun k hk => by
    have hk2 : k < (ordT l).length := by rw [perm_len hT]; exact hk
    rw [List.take_succ_eq_append_getElem (by simpa [lastL] using hk2)]
    simp [lastL, hn, List.getElem?_eq_getElem hk2]
  have HLN : Hid ((lastL l (ordT l)).length = n) := by show _ = _; simp [lastL, perm_len hT]
  generalize lastL l (ordT l) = R at *
  generalize hpp : (ordT l).idxOf 0 = p at *
  generalize ordT l = O at *
  clear hpp hz hT hlt
  obtain ⟨i0, hi0, hz00, hz01, hz02⟩ := info_parts info_intt
  have HTN : Hid (∀ (i : Nat) (W : World), i ≤ n → Calls Try.prog 80 #[.string ⟨l.toArray⟩, .int .i64 (i : Int)] W fun e w' => e = .returned (.string ⟨(rot l i).toArray⟩) ∧ Qu W w') := Lib.hid fun i W hi => l04Turned_any l i (by omega) (by omega) W
  clear hn
  go_enter Try.func36, Try.ntmps36
  go_wp2
  have hown0 : (w.alloc (.cells #[] 3)).ownsRow w.heap.size 3 1 (.slice (some ⟨w.heap.size, 0, none⟩) 0 0) 0 [] := World.ownsRow_made w #[] 0 (Nat.le_refl _) (Nat.zero_le _) rfl
  have hb0 : Below w.heap.size w (w.alloc (.cells #[] 3)) := by go_grown
  go_loopw [4, 5] (fun v i wr => ∃ k : Nat, k ≤ n ∧ i = .int .i64 k ∧ wr.ownsRow w.heap.size 3 1 v k (nats (ordX lt id k)) ∧ Below w.heap.size w wr) (fun _ i _ => n - (intOf i).toNat)
  case atStart => exact ⟨0, Nat.zero_le _, rfl, hown0, hb0⟩
  case round =>
    clear hown0 hb0
    obtain ⟨m, hm, rfl, hown, hb⟩ := hrel
    have hbs := hb.size
    by_cases hmn : m < n
    · have HGOAL : Hid (bub lt 0 (ordX lt id m ++ [m]) m = ordX lt id (m + 1)) := rfl
      have hlen := ordX_length lt id m
      have hmem : ∀ x ∈ ordX lt id m ++ [m], x < n := fun x hx => by
        rcases List.mem_append.1 hx with h | h
        · obtain ⟨i, hi, e⟩ := ordX_mem h
          rw [e]; exact Nat.lt_trans hi hmn
        · simp at h; omega
      obtain ⟨goal, hgoal⟩ : ∃ goal, goal = ordX lt id (m + 1) := ⟨_, rfl⟩
      rw [← hgoal] at HGOAL
      have HGL := Lib.hid hgoal
      clear hgoal
      generalize ordX lt id m = L0 at *
      go_wp2_with (at_builtin; refine wpList_append_own _ rfl _ _ 73 rfl w.heap.size 3 i0 (.int .i64 0) 1 8 Try.underlying73 hi0 hz00 hz01 hz02 rfl (by decide) u4 _ _ rfl (hown.alloc _) ⟨(World.heap wr).size, 0, none⟩ 1 1 [.int .i64 m] rfl rfl (cell_one_new _ _ _) (one_oneCell rfl) (by unfold maxLen; omega) (by omega) (by simp only [World.size_alloc]; have := hb.size; omega) ?_; intro v1 w1 hown1 hgx _; have hb1 := app_below hb (by have := hb.size; omega) _ hgx hown (by omega))
      rw [show nats L0 ++ [.int .i64 (m : Int)] = nats (L0 ++ [m]) by simp] at hown1
      obtain ⟨a1, c1, rfl⟩ := ownsRow_shape hown1
      obtain ⟨g, rfl, hgB, hgl⟩ := own_some hown1 (by omega)
      clear hown hb hbs
      go_loopw [6] (fun q wr => ∃ (j : Nat) (L : List Nat), q = .int .i64 (j : Int) ∧ j ≤ m ∧ L.length = m + 1 ∧ wr.ownsRow w.heap.size 3 1 (.slice (some ⟨g, 0, none⟩) (m + 1) c1) (m + 1) (nats L) ∧ (∀ x ∈ L, x < n) ∧ bub lt 0 L j = goal ∧ Below w.heap.size w wr) (fun q _ => (intOf q).toNat)
      case atStart => exact ⟨m, _, rfl, Nat.le_refl _, by simp [hlen], hown1, hmem, HGOAL.out, hb1⟩
      case round =>
        clear hown1 hmem hb1 hlen HGOAL
        obtain ⟨j, L, rfl, hjm, hlen, hown, hmem, hbub, hb⟩ := hrel
        by_cases haj : 0 < j
        · obtain ⟨p1, hp1⟩ : ∃ p1, j = p1 + 1 := ⟨j - 1, by omega⟩
          have k1 := hown.cellAt j (by omega)
          have k2 := hown.cellAt p1 (by omega)
          rw [nats_get L _ (by omega)] at k1 k2
          have f1 := hown.frozenAt j
          have f2 := hown.frozenAt p1
          have hx := getNat hmem j (by omega)
          have hy := getNat hmem p1 (by omega)
          have HS : Hid (nats (swp L p1) = ((nats L).set j (.int .i64 ((L[p1]?.getD 0 : Nat) : Int))).set p1 (.int .i64 ((L[j]?.getD 0 : Nat) : Int))) := by show _ = _; rw [hp1]; simp [swp, List.map_set]
          have HB1 : Hid (lt (L[j]?.getD 0) (L[p1]?.getD 0) = true → bub lt 0 (swp L p1) p1 = goal) := fun h => by rw [← hbub, hp1, bub, if_pos ⟨by omega, by rw [← hp1]; exact h⟩]
          have HB2 : Hid (lt (L[j]?.getD 0) (L[p1]?.getD 0) = false → L = goal) := fun h => by rw [← hbub, hp1, bub, if_neg (fun x => by rw [← hp1, h] at x; cases x.2)]
          have HSM := Lib.hid (swp_mem hmem (j := p1) (by omega))
          clear hbub
          have T1 : ∀ q, Calls _ _ _ (wr.drewN q) _ := fun q => HTN.out (L[j]?.getD 0) (wr.drewN q) (by omega)
          have T2 : ∀ q, Calls _ _ _ (wr.drewN q) _ := fun q => HTN.out (L[p1]?.getD 0) (wr.drewN q) (by omega)
          have hk2 := HLT.out (L[j]?.getD 0) (L[p1]?.getD 0)
          have HLEN := Lib.hid hlen
          generalize L[j]?.getD 0 = x at *
          generalize L[p1]?.getD 0 = y at *
          generalize rot l x = rx at *
          generalize rot l y = ry at *
          clear hlen
          have hg1 : decide (0 < j) = true := decide_eq_true haj
          have hj1 : (j : Int) - 1 = (p1 : Int) := by omega
          have HP := Lib.hid hp1
          have hpn : p1 < m + 1 := by omega
          have hj0 : (1 : Int) ≤ (j : Int) := by omega
          have hjm' : (j : Int) < ((m + 1 : Nat) : Int) := by omega
          clear hp1
          cases hlt2 : lt x y
          · rw [hlt2] at hk2
            have HE : Hid (L = goal) := HB2.out hlt2
            clear hlt2 f1 f2
            go_wp2
            go_quiet ((go_at_call 80; first | (with_reducible exact Calls.quiet_of (T2 _)) | (with_reducible exact Calls.quiet_of (T1 _))))
            go_wp2
            go_roundw
            case rel => exact ⟨m + 1, by omega, by go_num, by rw [← HGL.out, ← HE.out]; exact own_drewN hown _, below_drewN hb _⟩
            case measure => simp [intOf]; omega
          · rw [hlt2] at hk2
            have HE : Hid (bub lt 0 (swp L p1) p1 = goal) := HB1.out hlt2
            clear hlt2
            go_wp2
            go_quiet ((go_at_call 80; first | (with_reducible exact Calls.quiet_of (T2 _)) | (with_reducible exact Calls.quiet_of (T1 _))))
            go_wp2
            go_roundw
            case rel => exact ⟨p1, swp L p1, rfl, by omega, by rw [swp_length]; exact HLEN.out, by rw [HS.out]; exact ((own_drewN hown _).stored j _).1.stored p1 _ |>.1, HSM.out, HE.out, ((below_drewN hb _).setCell (by omega) _).setCell (by omega) _⟩
            case measure => simp [intOf]; omega
        · obtain rfl : j = 0 := by omega
          have HE : Hid (L = goal) := hbub
          clear hbub
          go_wp2
          go_quiet (fail)
          go_wp2
          go_roundw
          case rel => exact ⟨m + 1, by omega, by go_num, by rw [← HGL.out, ← HE.out]; exact own_drewN hown _, below_drewN hb _⟩
          case measure => simp [intOf]; omega
    · obtain rfl : m = n := by omega
      rw [← HO.out] at hown
      obtain ⟨a1, c1, rfl⟩ := ownsRow_shape hown
      obtain ⟨g, rfl, hgB, hgl⟩ := own_some hown (by omega)
      have hmn' : decide ((m : Int) < (m : Int)) = false := by simp
      go_wp2
      go_loopw [8, 9, 10] (fun s a q W => ∃ (k : Nat) (z : Nat), q = .int .i64 (k : Int) ∧ k ≤ m ∧ s = .string ⟨(R.take k).toArray⟩ ∧ a = .int .i64 (z : Int) ∧ (k ≤ p → z = 0) ∧ (p < k → z = p) ∧ wr = W) (fun _ _ q _ => m - (intOf q).toNat)
      case atStart => exact ⟨0, 0, rfl, Nat.zero_le _, rfl, rfl, fun _ => rfl, fun h => by omega, rfl⟩
      case round =>
        obtain ⟨k, z, rfl, hk, rfl, rfl, hz1, hz2, rfl⟩ := hrel
        by_cases hkm : k < m
        · have c1' := hown.cellAt k (by omega)
          rw [nats_get O _ (by rw [perm_len HT.out]; exact hkm)] at c1'
          have hx := getNat (perm_lt HT.out) k (by rw [perm_len HT.out]; exact hkm)
          have HZK := Lib.hid (HZ.out k hkm)
          have HLK := Lib.hid (HLL.out k hkm)
          generalize O[k]?.getD 0 = x at *
          have e1 : IntKind.i64.wrap ((x : Int) + (m : Int)) = ((x + m : Nat) : Int) := by rw [Int.natCast_add]; exact IntWalk.i64_in _ (by omega)
          have e2 : IntKind.i64.wrap (((x + m : Nat) : Int) - 1) = ((x + m - 1 : Nat) : Int) := by rw [Int.ofNat_sub (by omega)]; exact IntWalk.i64_in _ (by omega)
          have HCAT : Hid ((⟨(R.take k).toArray⟩ ++ (⟨l.toArray⟩ : ByteArray).extract ((x + m - 1) % m) ((x + m - 1) % m + 1) : ByteArray) = ⟨(R.take (k + 1)).toArray⟩) := Lib.hid (by rw [HLK.out]; exact cat_at _ _ _ (by rw [HN.out]; exact Nat.mod_lt _ (by omega)))
          have hrm : (x + m - 1) % m < m := Nat.mod_lt _ (by omega)
          have e3 : ((x : Int) + (m : Int) - 1) % (m : Int) = (((x + m - 1) % m : Nat) : Int) := by rw [Int.natCast_emod, Int.ofNat_sub (by omega), Int.natCast_add]; rfl
          have e4 : wrap64 (((x : Int) + (m : Int) - 1) % (m : Int) + 1) = (((x + m - 1) % m + 1 : Nat) : Int) := by rw [e3, Int.natCast_add]; exact IntWalk.wrap64_in _ (by omega)
          have HE4 := Lib.hid e4
          have b1 : 0 ≤ wrap64 (((x : Int) + (m : Int) - 1) % (m : Int) + 1) := by omega
          have b2 : wrap64 (((x : Int) + (m : Int) - 1) % (m : Int) + 1) ≤ (m : Int) := by omega
          have b3 : 0 ≤ ((x : Int) + (m : Int) - 1) % (m : Int) := by omega
          have b4 : ((x : Int) + (m : Int) - 1) % (m : Int) ≤ wrap64 (((x : Int) + (m : Int) - 1) % (m : Int) + 1) := by omega
          have b5 : ((x : Int) + (m : Int) - 1) % (m : Int) + 1 ≤ (m : Int) := by omega
          clear e3 e4 hrm HLK
          go_wp2
          · have hkp : k = p := HZK.out.1 (by have : ((x : Int) == 0) = true := by assumption
                                              simpa using this)
            go_roundw
            case rel => exact ⟨k + 1, k, by go_num, by omega, by rw [HCAT.out], rfl, fun h => by omega, fun _ => hkp, trivial⟩
            case measure => simp [intOf]; omega
          · have hkp : ¬ k = p := fun h => by
              have h1 : ((x : Int) == 0) = false := by assumption
              rw [HZK.out.2 h] at h1
              simp at h1
            go_roundw
            case rel => exact ⟨k + 1, z, by go_num, by omega, by rw [HCAT.out], rfl, fun h => hz1 (by omega), fun h => hz2 (by omega), trivial⟩
            case measure => simp [intOf]; omega
          all_goals (exfalso; rename_i hq; exact hq ⟨by omega, b5⟩)
        · obtain rfl : k = m := by omega
          have HR : Hid (R.take k = R) := Lib.hid (List.take_of_length_le (by rw [HLN.out]; omega))
          have hzp := hz2 hp
          subst hzp
          go_wp2
          go_ret2
          exact ⟨by rw [HR.out]; rfl, hb⟩

set_option maxHeartbeats 1000000 in
theorem spec_TurnsOf (w : World) (s : ByteArray) (_ : s.size ≤ 9223372036854775807) (hl : s.size ≤ 1048576) :
    Calls Try.prog 9 #[.string s] w fun e w' => e = .returned (.tuple #[.string (out_TurnsOf s).1, .int .i64 (out_TurnsOf s).2.1, .bool (out_TurnsOf s).2.2]) ∧ Below w.heap.size w w' := by
  obtain ⟨n, hn⟩ : ∃ n : Nat, s.size = n := ⟨_, rfl⟩
  by_cases hr : 1 ≤ n ∧ n ≤ 64
  · have ho : out_TurnsOf s = (ByteArray.mk (lastL s.data.toList (ordT s.data.toList)).toArray, (((ordT s.data.toList).idxOf 0 : Nat) : Int), true) := by
      unfold out_TurnsOf
      rw [if_pos (by omega)]
    rw [ho]
    have HC := Lib.hid (l04Turns_any s.data.toList n (by rw [ba_lt, hn]) hr.1 hr.2)
    rw [ba_et] at HC
    generalize (⟨(lastL s.data.toList (ordT s.data.toList)).toArray⟩ : ByteArray) = R at *
    generalize (ordT s.data.toList).idxOf 0 = p at *
    obtain ⟨hr1, hr2⟩ := hr
    clear ho
    go_enter Try.func9, Try.ntmps9
    go_wp2_with (go_at_call 36; refine (HC.out _).mono ?_; rintro e w1 ⟨rfl, hb⟩)
    go_ret3
    exact ⟨rfl, hb⟩
  · have ho : out_TurnsOf s = (ByteArray.mk #[], (0 : Int), false) := by
      unfold out_TurnsOf
      rw [if_neg (by omega)]
    rw [ho]
    clear ho
    by_cases h0 : n < 1
    · go_enter Try.func9, Try.ntmps9
      go_wp2
      go_ret3
      exact ⟨rfl, Below.refl _ _⟩
    · have h64 : 64 < n := by omega
      go_enter Try.func9, Try.ntmps9
      go_wp2
      go_ret3
      exact ⟨rfl, Below.refl _ _⟩

end Go.Proofs.Ytjobgobeiiakgaa
