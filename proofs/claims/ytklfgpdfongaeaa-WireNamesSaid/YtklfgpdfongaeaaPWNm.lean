/- The examples of numbers, strings and lists: the law WireNames. Plain. -/
import Derived.Test.YtklfgpdfongaeaaPSm
import Derived.Test.YtklfgpdfongaeaaPTake
namespace Go.Proofs.Ytklfgpdfongaeaa
open Go
set_option linter.unusedSimpArgs false
set_option linter.unusedVariables false
theorem wbytes_eq (s : List UInt8) (h : s.length ≤ 10000) : wire_Bytes s = some (numBytes s.length ++ s, 0) := by
  unfold wire_Bytes
  rw [if_neg (by simp; omega), wireNumber_eq]
  have e : (UInt64.ofInt (s.length : Int)).toNat = s.length := by rw [ofInt_toNat]; omega
  have := numBytes_len s.length (by omega)
  simp only [bs, e]
  rw [app_eq (by omega)]; rfl
theorem number_law (a : UInt64) (l : List UInt8) (h : numBytes a.toNat = l) : braidlaw04_number a l = some true := by
  have hn := numBytes_len a.toNat (by have := UInt64.toNat_lt a; omega)
  rw [h] at hn
  unfold braidlaw04_number
  rw [rdNum_eq l (by omega), readN_of (by have := UInt64.toNat_lt a; omega) h, wireNumber_eq, h]
  simp only [bs]
  rw [sameB_eq _ _ (by omega)]
  simp
theorem signed_law (a : Int) (l : List UInt8) (hI : inI a) (h : numBytes (zig a) = l) : braidlaw04_signed a l = some true := by
  have hz := zig_in hI
  have hn := numBytes_len (zig a) hz
  rw [h] at hn
  have hr := readN_of hz h
  unfold braidlaw04_signed
  rw [rdSgn_eq l (by omega), readS_ok (by rw [hr]), hr, signed_eq a hI, h, unzig_zig]
  simp only [bs]
  rw [sameB_eq _ _ (by omega)]
  simp
theorem refused_law (l : List UInt8) (hl : l.length ≤ 100) (h : readNum l = none) : braidlaw04_refused l = some true := by
  have hr := readN_none h
  unfold braidlaw04_refused
  rw [rdNum_eq l (by omega), rdSgn_eq l (by omega), readS_no (by rw [hr]; decide), hr]
  rfl
theorem nb0 : numBytes 0 = [0] := by simp [numBytes]
theorem nb255 : numBytes 255 = [248, 255] := by simp [numBytes, digits]
theorem nb65535 : numBytes 65535 = [249, 255, 255] := by simp [numBytes, digits]
theorem nb65536 : numBytes 65536 = [250, 1, 0, 0] := by simp [numBytes, digits]
theorem nb123 : numBytes (zig 123) = [246] := by simp [zig, numBytes]
theorem nb125 : numBytes (zig (-125)) = [248, 249] := by simp [zig, numBytes, digits]
theorem nbhi : numBytes (zig 9223372036854775807) = [255, 255, 255, 255, 255, 255, 255, 255, 254] := by simp [zig, numBytes, digits]
theorem nblo : numBytes (zig (-9223372036854775808)) = [255, 255, 255, 255, 255, 255, 255, 255, 255] := by simp [zig, numBytes, digits]
theorem nb10000 : (numBytes 10000).length = 3 := by simp [numBytes, digits]
theorem nb2 : numBytes 2 = [2] := by simp [numBytes]
theorem rn0 : readNum [] = none := by decide
theorem rn1 : readNum [248] = none := by decide
theorem rn2 : readNum [248, 0] = none := by decide
theorem rn3 : readNum [249, 1] = none := by decide
theorem rn4 : readNum [255, 1, 2, 3, 4, 5, 6, 7] = none := by decide
theorem rn5 : readNum [255, 0, 1, 1, 1, 1, 1, 1, 1] = none := by decide
theorem inIk (a : Int) (h1 : -9223372036854775808 ≤ a) (h2 : a ≤ 9223372036854775807) : inI a := ⟨h1, h2⟩
theorem alive_eq : braidlaw04_alive = some true := by
  unfold braidlaw04_alive
  rw [wbytes_eq _ (by simp), number_law 247 [247] nb247, number_law 248 [248, 248] nb248, number_law 256 [249, 1, 0] nb256, number_law 18446744073709551615 [255, 255, 255, 255, 255, 255, 255, 255, 255] nbmax, signed_law _ _ (inIk _ (by decide) (by decide)) nb1, signed_law _ _ (inIk _ (by decide) (by decide)) nb124, refused_law _ (by simp) rn_248_247, refused_law _ (by simp) rn_249_0]
  simp only [bs, if_true]
  have e : numBytes ([97, 98] : List UInt8).length ++ ([97, 98] : List UInt8) = [2, 97, 98] := by
    rw [show ([97, 98] : List UInt8).length = 2 from rfl, nb2]; rfl
  rw [e, sameB_eq _ _ (by simp)]; rfl
def z32 : Vector UInt8 32 := Vector.replicate 32 0
def i1 : Vector UInt8 32 := vset z32 ((0 : Nat) : Int) 1
def i11 : Vector UInt8 32 := vset i1 ((1 : Nat) : Int) 1
def i2 : Vector UInt8 32 := vset z32 ((0 : Nat) : Int) 2
def two : List UInt8 := 2 :: (i1.toList ++ i11.toList)
theorem two_len : two.length = 65 := by decide +kernel
theorem p1 : partL [] (-1) 1 = ([], 0, 2) := by decide +kernel
theorem p2 : partL [2, 1] 9 1 = ([], 0, 12) := by decide +kernel
theorem p3 : partL [2, 1, 1] 1 1 = ([], 0, 12) := by decide +kernel
theorem p4 : partL [2, 1, 1, 1] 2 1 = ([1, 1], 3, 0) := by decide +kernel
theorem p5 : partL [0] 0 1 = ([], 1, 0) := by decide +kernel
theorem q1 : (rdIDs two (-1)).2.2 = 2 := by decide +kernel
theorem q2 : (rdIDs two 1).2.2 = 12 := by decide +kernel
theorem q3 : (rdIDs (two.take 64) 9).2.2 = 12 := by decide +kernel
theorem q4 : rdIDs two 2 = ([i1, i11], 65, 0) := by decide +kernel
theorem q5 : (rdIDs ((two.set 1 9).set 33 8) 2).2.2 = 12 := by decide +kernel
theorem in0 : incr [z32, z32] = false := by decide +kernel
theorem in1 : incr [i2, i1] = false := by decide +kernel
theorem in2 : incr [i1, i11] = true := by decide +kernel
theorem ids_many (l : List (Vector UInt8 32)) (h : 60 < l.length) : wire_IDs l = some ([], 4) := by
  unfold wire_IDs
  rw [if_pos (by simp; omega)]
theorem ids_bad (l : List (Vector UInt8 32)) (h : l.length ≤ 60) (hi : incr l = false) : wire_IDs l = some ([], 32) := by
  unfold wire_IDs
  rw [if_neg (by simp; omega), wrising_eq l (by omega), hi]; rfl
theorem names4 : braidlaw04_WireNames = some true := by
  unfold braidlaw04_WireNames
  rw [number_law 0 [0] nb0, number_law 255 [248, 255] nb255, number_law 65535 [249, 255, 255] nb65535, number_law 65536 [250, 1, 0, 0] nb65536, signed_law _ _ (inIk _ (by decide) (by decide)) (show numBytes (zig 0) = [0] from nb0), signed_law _ _ (inIk _ (by decide) (by decide)) nb123, signed_law _ _ (inIk _ (by decide) (by decide)) nb125, signed_law _ _ (inIk _ (by decide) (by decide)) nbhi, signed_law _ _ (inIk _ (by decide) (by decide)) nblo,
    refused_law _ (by simp) rn0, refused_law _ (by simp) rn1, refused_law _ (by simp) rn2, refused_law _ (by simp) rn3, refused_law _ (by simp) rn4, refused_law _ (by simp) rn5]
  have m1 : mkn 1 (0 : UInt8) 10001 = some (List.replicate 10001 0) := mkn_eq (n := 10001) (by omega) (by omega)
  have m2 : mkn 1 (0 : UInt8) 10000 = some (List.replicate 10000 0) := mkn_eq (n := 10000) (by omega) (by omega)
  have m3 : mkn 32 (Vector.replicate 32 (0 : UInt8)) 61 = some (List.replicate 61 z32) := mkn_eq (n := 61) (by omega) (by omega)
  have m4 : mkn 32 (Vector.replicate 32 (0 : UInt8)) 2 = some (List.replicate 2 z32) := mkn_eq (n := 2) (by omega) (by omega)
  rw [m1, m2, m3, m4]
  simp only [bs, if_true]
  have w1 : wire_Bytes (List.replicate 10001 0) = some ([], 4) := by
    unfold wire_Bytes
    rw [if_pos (by rw [decide_eq_true_eq, List.length_replicate]; omega)]
  have w2 : wire_Bytes (List.replicate 10000 0) = some (numBytes 10000 ++ List.replicate 10000 0, 0) := by
    have := wbytes_eq (List.replicate 10000 0) (by rw [List.length_replicate]; omega)
    rw [List.length_replicate] at this; exact this
  rw [w1, w2, rdBytes_eq _ (by simp) _ (by decide), rdBytes_eq _ (by simp) _ (by decide), rdBytes_eq _ (by simp) _ (by decide), rdBytes_eq _ (by simp) _ (by decide), rdBytes_eq _ (by simp) _ (by decide), p1, p2, p3, p4, p5]
  have v1 : wire_IDs (List.replicate 61 z32) = some ([], 4) := ids_many _ (by simp)
  have v2 : wire_IDs (List.replicate 2 z32) = some ([], 32) := ids_bad [z32, z32] (by simp) in0
  have v3 : wire_IDs [vset (Vector.replicate 32 0) ((0 : Nat) : Int) 2, vset (Vector.replicate 32 0) ((0 : Nat) : Int) 1] = some ([], 32) := ids_bad [i2, i1] (by simp) in1
  have v4 : wire_IDs [vset (Vector.replicate 32 0) ((0 : Nat) : Int) 1, vset (vset (Vector.replicate 32 0) ((0 : Nat) : Int) 1) ((1 : Nat) : Int) 1] = some (two, 0) := by
    have := ids_eq7 [i1, i11] (by simp) in2
    rw [show ([i1, i11] : List (Vector UInt8 32)).length = 2 from rfl, nb2] at this
    have e : ([2] : List UInt8) ++ idsL [i1, i11] = two := by simp [idsL, two]
    rw [e] at this
    exact this
  have v5 : wire_IDs [] = some ([0], 0) := by
    have := ids_eq7 [] (by simp) rfl
    rw [show ([] : List (Vector UInt8 32)).length = 0 from rfl, nb0] at this
    exact this
  rw [v1, v2, v3, v4, v5]
  have hl : ((numBytes 10000 ++ List.replicate 10000 (0 : UInt8)).length : Int) = 10003 := by
    rw [List.length_append, nb10000, List.length_replicate]; rfl
  have h65 : ((two.length : Int) != 65) = false := by rw [two_len]; rfl
  simp only [bs, hl, h65, Bool.false_eq_true, if_false, bne_self_eq_false]
  have c1 : cut two 0 64 = some (two.take 64) := by
    have := cut_eq (b := two) (i := 0) (j := 64) (by omega) (by rw [two_len]; omega)
    rw [show ((0 : Nat) : Int) = 0 from rfl, show ((64 : Nat) : Int) = 64 from rfl] at this
    rw [this]; simp
  have c2 : ∃ y, idx two 1 = some y := ⟨_, idx_nat (l := two) (i := 1) (by rw [two_len]; omega)⟩
  have c3 : ∃ y, idx (two.set (1 : Int).toNat 9) 33 = some y := ⟨_, idx_nat (l := two.set (1 : Int).toNat 9) (i := 33) (by rw [List.length_set, two_len]; omega)⟩
  obtain ⟨y2, c2⟩ := c2
  obtain ⟨y3, c3⟩ := c3
  rw [c1, c2, c3]
  simp only [bs]
  rw [rdIDs_eq two (by rw [two_len]; omega) (-1) (by decide), rdIDs_eq two (by rw [two_len]; omega) 1 (by decide), rdIDs_eq (two.take 64) (by rw [List.length_take, two_len]; omega) 9 (by decide), rdIDs_eq two (by rw [two_len]; omega) 2 (by decide), rdIDs_eq ((two.set (1 : Int).toNat 9).set (33 : Int).toNat 8) (by rw [List.length_set, List.length_set, two_len]; omega) 2 (by decide)]
  have q5' : (rdIDs ((two.set (1 : Int).toNat 9).set (33 : Int).toNat 8) 2).2.2 = 12 := q5
  have sm : braidref04_SameIDs [i1, i11] [vset (Vector.replicate 32 0) ((0 : Nat) : Int) 1, vset (vset (Vector.replicate 32 0) ((0 : Nat) : Int) 1) ((1 : Nat) : Int) 1] = some true := (sameIDs_eq [i1, i11] [i1, i11] (by simp)).trans (by simp)
  simp only [bs, q1, q2, q3, q4, q5', sm, alive_eq]
  rfl
end Go.Proofs.Ytklfgpdfongaeaa
