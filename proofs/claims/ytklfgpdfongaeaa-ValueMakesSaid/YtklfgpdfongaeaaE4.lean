/- Functions and what the code of each does. -/
import Derived.Test.YtklfgpdfongaeaaKQ
import Derived.Test.YtklfgpdfongaeaaKB
namespace Go.Proofs.Ytklfgpdfongaeaa
open Go Go.RowKit
set_option linter.unusedSimpArgs false
set_option linter.unusedVariables false

def value_Text_1 (a0 : Int) : Option (Bool) :=
  if decide (a0 < 32) then
    some true
  else
    some (decide (126 < a0)) >>= fun y2 =>
    some y2
set_option maxRecDepth 100000 in
theorem value_Text_1_ok (a0 : Int) : Spec Try.prog 102 [.rd i32R a0] [] (value_Text_1 a0) (fun r nv => ⟨[.rd boolR r], []⟩) := by
  refine spec 9 Try.func102 rfl rfl rfl fun H w => ?_
  refine gSeq <| gReg <| R rfl (asg rfl) <| gNil <| eThen <| gSeq <| gReg <| R rfl (mv rfl) <| R rfl (J.lss rfl rfl) <| R rfl (mv rfl) <| lSplit 5 rfl (fun h1 => ?_) (fun h1 => ?_)
  · skip
    refine lKn 4 rfl h1 <| lSkip (gd rfl rfl rfl rfl) rfl rfl <| lSkip (gd rfl rfl rfl rfl) rfl rfl <| R rfl (pkT rfl rfl) <| R rfl (asg rfl) <| gNil <| eThen <| gRet <| eRet [] [] rfl (eE rfl <| eN) (rN)
  · skip
    refine lKn 4 rfl h1 <| lRun (gd rfl rfl rfl rfl) rfl rfl (mv rfl) <| lRun (gd rfl rfl rfl rfl) rfl rfl (J.gtr rfl rfl) <| R rfl (pkF rfl rfl) <| R rfl (asg rfl) <| lName 2 rfl fun y2 => gNil <| eThen <| gRet <| eRet [] [] rfl (eE rfl <| eN) (rN)

def strings_indexFunc_value_Text_1_L0 (a0 : List UInt8) (a2 : Bool) (s3 : Nat) : Option (Sum (Sum Int Unit) Nat) :=
  if s3 < (a0).length then
    some ((runeAt a0 s3).1 : Int) >>= fun y5 =>
    value_Text_1 y5 >>= fun r6 =>
    if r6 == a2 then
      some (.inl (.inl (s3 : Int)))
    else
      some (.inr (s3 + (runeAt a0 s3).2))
  else
    some (.inl (.inr ()))
def strings_indexFunc_value_Text_1 (a0 : List UInt8) (a2 : Bool) : Option (Int) :=
  orRet (iter (strings_indexFunc_value_Text_1_L0 a0 a2) 0) fun s1 =>
  some (-1)
set_option maxRecDepth 100000 in
theorem strings_indexFunc_value_Text_1_ok (a0 : List UInt8) (a2 : Bool) : Spec Try.prog 130 [.rd strR a0, .val (.func (.func 102) #[] #[]), .rd boolR a2] [] (strings_indexFunc_value_Text_1 a0 a2) (fun r nv => ⟨[.rd i64R r], []⟩) := by
  refine spec 21 Try.func130 rfl rfl rfl fun H w => ?_
  refine gSeq <| gReg <| R rfl (asg rfl) <| gNil <| eThen <| gMidR (fun (s1 : Unit) aa ww => Sta (ctx 21 H [] w) [] [] aa ww) ?_ (fun s1 => ?_)
  · skip
    refine gSeq <| gReg <| R rfl (mv rfl) <| Ef rfl (rng 1 rfl Try.underlying9) fun v2 => gNil <| eThen <| gLoop (fun (s3 : Nat) aa ww => Sta (ctx 21 H [] w) [(1, .val (.func (.func 102) #[] #[])), (2, .rd boolR a2), (10, .val v2)] [(1, some (v2, .iter a0 s3))] aa ww) (fun aa ww h => h.sub [1] (sS rfl <| sS rfl <| sS rfl <| sN) (rR rfl rfl <| rN)) (fun s3 => ?_)
    refine gSeq <| gReg <| lNext 1 rfl rfl rfl (fun h4 => ?_) (fun h4 => ?_)
    · skip
      refine R rfl (ext rfl rfl) <| gNil <| eThen <| gSeq <| gTrue rfl <| gSkip <| eThen <| gBlk <| gSeq <| gReg <| R rfl (ext rfl rfl) <| R rfl (ext rfl rfl) <| R rfl (asg rfl) <| R rfl (asg rfl) <| lName 8 rfl fun y5 => gNil <| eThen <| gSeq <| gReg <| R rfl (mv rfl) <| R rfl (mv rfl) <| callv [] [] (gd0 rfl) rfl rfl Try.func102 rfl rfl (value_Text_1_ok _) (aQ rfl <| aN) (cN) rN fun r6 n7 => R rfl (mv rfl) <| R rfl (eqB Try.underlying4 rfl rfl) <| gNil <| eThen <| gIf rfl rfl (fun h8 => ?_) (fun h8 => ?_)
      · skip
        refine gSeq <| gReg <| R rfl (mv rfl) <| R rfl (asg rfl) <| gNil <| eThen <| gRet <| eBret <| eLret <| eMret <| eRet [] [] rfl (eE rfl <| eN) (rN)
      · skip
        refine gSkip <| eBlk <| eNext (fun aa ww h => h.sub [1] (sS rfl <| sS rfl <| sS rfl <| sN) (rR rfl rfl <| rN))
    · skip
      refine R rfl (ext rfl rfl) <| gNil <| eThen <| gSeq <| gFalse rfl <| gExit <| eTexit <| eLeave <| eMidR (fun aa ww h => h.sub [] (sN) (rN))
  · skip
    refine gSeq <| gReg <| R rfl (asg rfl) <| gNil <| eThen <| gRet <| eRet [] [] rfl (eE rfl <| eN) (rN)


def strings_IndexFunc_value_Text_1 (a0 : List UInt8) : Option (Int) :=
  strings_indexFunc_value_Text_1 a0 true >>= fun r1 =>
  some r1
set_option maxRecDepth 100000 in
theorem strings_IndexFunc_value_Text_1_ok (a0 : List UInt8) : Spec Try.prog 101 [.rd strR a0, .val (.func (.func 102) #[] #[])] [] (strings_IndexFunc_value_Text_1 a0) (fun r nv => ⟨[.rd i64R r], []⟩) := by
  refine spec 8 Try.func101 rfl rfl rfl fun H w => ?_
  refine gSeq <| gReg <| R rfl (asg rfl) <| gNil <| eThen <| gSeq <| gReg <| R rfl (mv rfl) <| R rfl (mv rfl) <| call [] [] rfl Try.func130 rfl rfl (strings_indexFunc_value_Text_1_ok _ _) (aQ rfl <| aQ rfl <| aQ rfl <| aN) rN fun r1 n2 => R rfl (asg rfl) <| gNil <| eThen <| gRet <| eRet [] [] rfl (eE rfl <| eN) (rN)


def value_Text (a0 : List UInt8) : Option (api_Value × Int) :=
  if decide (30 < (a0.length : Int)) then
    some ((⟨0, 0, 0, []⟩ : api_Value), 4)
  else
    strings_IndexFunc_value_Text_1 a0 >>= fun r3 =>
    if decide (0 ≤ r3) then
      some ((⟨0, 0, 0, []⟩ : api_Value), 8)
    else
      some ((⟨3, 0, 0, a0⟩ : api_Value), 0)
set_option maxRecDepth 100000 in
theorem value_Text_ok (a0 : List UInt8) : Spec Try.prog 37 [.rd strR a0] [] (value_Text a0) (fun r nv => ⟨[.rd R_api_Value r.1, .rd i64R r.2], []⟩) := by
  refine spec 14 Try.func37 rfl rfl rfl fun H w => ?_
  refine gSeq <| gReg <| Eb rfl (allc 1 ti48 (.zr zr48)) fun v1 => R rfl (asg rfl) <| gNil <| eThen <| gSeq <| gSeq <| gReg <| R rfl (mv rfl) <| R rfl (lenT rfl rfl Try.underlying9) <| R rfl (I.gtr rfl rfl) <| gNil <| eThen <| gIf rfl rfl (fun h2 => ?_) (fun h2 => ?_)
  · skip
    refine gSeq <| gReg <| R rfl (bld (x' := (⟨0, 0, 0, []⟩ : api_Value)) [(0, 1), (1, 1), (2, 1), (3, 1)] Try.underlying48 ti48 rfl zr48 rfl (Bld.done rfl)) <| Es (sto 1 rfl rfl Foc.here rfl ti48) <| R rfl (asg rfl) <| gNil <| eThen <| gRet <| eTret <| eRet [] [] rfl (eC 1 rfl rfl ty48 <| eE rfl <| eN) (rN)
  · skip
    refine gSkip <| eThen <| gSeq <| gSeq <| gReg <| R rfl (mv rfl) <| call [] [] rfl Try.func101 rfl rfl (strings_IndexFunc_value_Text_1_ok _) (aQ rfl <| aQ rfl <| aN) rN fun r3 n4 => R rfl (I.geq rfl rfl) <| gNil <| eThen <| gIf rfl rfl (fun h5 => ?_) (fun h5 => ?_)
    · skip
      refine gSeq <| gReg <| R rfl (bld (x' := (⟨0, 0, 0, []⟩ : api_Value)) [(0, 1), (1, 1), (2, 1), (3, 1)] Try.underlying48 ti48 rfl zr48 rfl (Bld.done rfl)) <| Es (sto 1 rfl rfl Foc.here rfl ti48) <| R rfl (asg rfl) <| gNil <| eThen <| gRet <| eTret <| eRet [] [] rfl (eC 1 rfl rfl ty48 <| eE rfl <| eN) (rN)
    · skip
      refine gSkip <| eThen <| gSeq <| gReg <| R rfl (mv rfl) <| R rfl (bld (x' := (⟨3, 0, 0, a0⟩ : api_Value)) [(0, 1), (1, 1), (2, 1), (3, 1)] Try.underlying48 ti48 rfl zr48 rfl (Bld.cons (pt_api_Value_Kind _) rfl rfl <| Bld.cons (pt_api_Value_Text _) rfl rfl <| Bld.done rfl)) <| Es (sto 1 rfl rfl Foc.here rfl ti48) <| R rfl (asg rfl) <| gNil <| eThen <| gRet <| eRet [] [] rfl (eC 1 rfl rfl ty48 <| eE rfl <| eN) (rN)

def braidref05_Printable_L0 (a0 : List UInt8) (s2 : Int) : Option (Sum (Sum Bool Unit) Int) :=
  if decide (s2 < (a0.length : Int)) then
    idx a0 s2 >>= fun x4 =>
    if decide (x4 < 32) then
      some (.inl (.inl false))
    else
      idx a0 s2 >>= fun x7 =>
      if decide (126 < x7) then
        some (.inl (.inl false))
      else
        some (.inr (w64 (s2 + 1)))
  else
    some (.inl (.inr ()))
def braidref05_Printable (a0 : List UInt8) : Option (Bool) :=
  orRet (iter (braidref05_Printable_L0 a0) 0) fun s1 =>
  some true
set_option maxRecDepth 100000 in
theorem braidref05_Printable_ok (a0 : List UInt8) : Spec Try.prog 103 [.rd strR a0] [] (braidref05_Printable a0) (fun r nv => ⟨[.rd boolR r], []⟩) := by
  refine spec 20 Try.func103 rfl rfl rfl fun H w => ?_
  refine gSeq <| gReg <| R rfl (asg rfl) <| gNil <| eThen <| gMidR (fun (s1 : Unit) aa ww => Sta (ctx 20 H [] w) [] [] aa ww) ?_ (fun s1 => ?_)
  · skip
    refine gSeq <| gReg <| R rfl (asg rfl) <| gNil <| eThen <| gLoop (fun (s2 : Int) aa ww => Sta (ctx 20 H [] w) [(0, .rd strR a0), (3, .rd i64R s2)] [] aa ww) (fun aa ww h => h.sub [] (sS rfl <| sS rfl <| sN) (rN)) (fun s2 => ?_)
    refine gSeq <| gSeq <| gReg <| R rfl (mv rfl) <| R rfl (mv rfl) <| R rfl (lenT rfl rfl Try.underlying9) <| R rfl (I.lss rfl rfl) <| gNil <| eThen <| gIf rfl rfl (fun h3 => ?_) (fun h3 => ?_)
    · skip
      refine gSkip <| eThen <| gSeq <| gBlk <| gSeq <| gReg <| R rfl (mv rfl) <| R rfl (mv rfl) <| lBind fun x4 h5 => R rfl (idxT rfl rfl Try.underlying9 (idx_some h5).1 (idx_some h5).2.1) <| R rfl (B.lss rfl rfl) <| R rfl (mv rfl) <| lSplit 14 rfl (fun h6 => ?_) (fun h6 => ?_)
      · skip
        refine lKn 13 rfl h6 <| lSkip (gd rfl rfl rfl rfl) rfl rfl <| lSkip (gd rfl rfl rfl rfl) rfl rfl <| lSkip (gd rfl rfl rfl rfl) rfl rfl <| lSkip (gd rfl rfl rfl rfl) rfl rfl <| R rfl (pkT rfl rfl) <| gNil <| eThen <| gTrue rfl <| gSeq <| gReg <| R rfl (asg rfl) <| gNil <| eThen <| gRet <| eBret <| eTret <| eLret <| eMret <| eRet [] [] rfl (eE rfl <| eN) (rN)
      · skip
        refine lKn 13 rfl h6 <| lRun (gd rfl rfl rfl rfl) rfl rfl (mv rfl) <| lRun (gd rfl rfl rfl rfl) rfl rfl (mv rfl) <| lBind fun x7 h8 => lRun (gd rfl rfl rfl rfl) rfl rfl (idxT rfl rfl Try.underlying9 (idx_some h8).1 (idx_some h8).2.1) <| lRun (gd rfl rfl rfl rfl) rfl rfl (B.gtr rfl rfl) <| R rfl (pkF rfl rfl) <| gNil <| eThen <| gIf rfl rfl (fun h9 => ?_) (fun h9 => ?_)
        · skip
          refine gKn 18 rfl h9 <| gSeq <| gReg <| R rfl (asg rfl) <| gNil <| eThen <| gRet <| eBret <| eTret <| eLret <| eMret <| eRet [] [] rfl (eE rfl <| eN) (rN)
        · skip
          refine gKn 18 rfl h9 <| gSkip <| eBlk <| eThen <| gReg <| R rfl (mv rfl) <| R rfl (I.add rfl rfl) <| R rfl (asg rfl) <| gNil <| eNext (fun aa ww h => h.sub [] (sS rfl <| sS rfl <| sN) (rN))
    · skip
      refine gExit <| eTexit <| eLeave <| eMidR (fun aa ww h => h.sub [] (sN) (rN))
  · skip
    refine gSeq <| gReg <| R rfl (asg rfl) <| gNil <| eThen <| gRet <| eRet [] [] rfl (eE rfl <| eN) (rN)


def braidref05_Text (a0 : List UInt8) : Option (api_Value × Int) :=
  if decide (30 < (a0.length : Int)) then
    some ((⟨0, 0, 0, []⟩ : api_Value), 4)
  else
    braidref05_Printable a0 >>= fun r3 =>
    if !r3 then
      some ((⟨0, 0, 0, []⟩ : api_Value), 8)
    else
      some ((⟨3, 0, 0, a0⟩ : api_Value), 0)
set_option maxRecDepth 100000 in
theorem braidref05_Text_ok (a0 : List UInt8) : Spec Try.prog 38 [.rd strR a0] [] (braidref05_Text a0) (fun r nv => ⟨[.rd R_api_Value r.1, .rd i64R r.2], []⟩) := by
  refine spec 14 Try.func38 rfl rfl rfl fun H w => ?_
  refine gSeq <| gReg <| Eb rfl (allc 1 ti48 (.zr zr48)) fun v1 => R rfl (asg rfl) <| gNil <| eThen <| gSeq <| gSeq <| gReg <| R rfl (mv rfl) <| R rfl (lenT rfl rfl Try.underlying9) <| R rfl (I.gtr rfl rfl) <| gNil <| eThen <| gIf rfl rfl (fun h2 => ?_) (fun h2 => ?_)
  · skip
    refine gSeq <| gReg <| R rfl (bld (x' := (⟨0, 0, 0, []⟩ : api_Value)) [(0, 1), (1, 1), (2, 1), (3, 1)] Try.underlying48 ti48 rfl zr48 rfl (Bld.done rfl)) <| Es (sto 1 rfl rfl Foc.here rfl ti48) <| R rfl (asg rfl) <| gNil <| eThen <| gRet <| eTret <| eRet [] [] rfl (eC 1 rfl rfl ty48 <| eE rfl <| eN) (rN)
  · skip
    refine gSkip <| eThen <| gSeq <| gSeq <| gReg <| R rfl (mv rfl) <| call [] [] rfl Try.func103 rfl rfl (braidref05_Printable_ok _) (aQ rfl <| aN) rN fun r3 n4 => R rfl (not' rfl) <| gNil <| eThen <| gIf rfl rfl (fun h5 => ?_) (fun h5 => ?_)
    · skip
      refine gSeq <| gReg <| R rfl (bld (x' := (⟨0, 0, 0, []⟩ : api_Value)) [(0, 1), (1, 1), (2, 1), (3, 1)] Try.underlying48 ti48 rfl zr48 rfl (Bld.done rfl)) <| Es (sto 1 rfl rfl Foc.here rfl ti48) <| R rfl (asg rfl) <| gNil <| eThen <| gRet <| eTret <| eRet [] [] rfl (eC 1 rfl rfl ty48 <| eE rfl <| eN) (rN)
    · skip
      refine gSkip <| eThen <| gSeq <| gReg <| R rfl (mv rfl) <| R rfl (bld (x' := (⟨3, 0, 0, a0⟩ : api_Value)) [(0, 1), (1, 1), (2, 1), (3, 1)] Try.underlying48 ti48 rfl zr48 rfl (Bld.cons (pt_api_Value_Kind _) rfl rfl <| Bld.cons (pt_api_Value_Text _) rfl rfl <| Bld.done rfl)) <| Es (sto 1 rfl rfl Foc.here rfl ti48) <| R rfl (asg rfl) <| gNil <| eThen <| gRet <| eRet [] [] rfl (eC 1 rfl rfl ty48 <| eE rfl <| eN) (rN)


def value_Number (a0 : Int) : Option (api_Value) :=
  some (⟨1, a0, 0, []⟩ : api_Value)
set_option maxRecDepth 100000 in
theorem value_Number_ok (a0 : Int) : Spec Try.prog 45 [.rd i64R a0] [] (value_Number a0) (fun r nv => ⟨[.rd R_api_Value r], []⟩) := by
  refine spec 5 Try.func45 rfl rfl rfl fun H w => ?_
  refine gSeq <| gReg <| Eb rfl (allc 1 ti48 (.zr zr48)) fun v1 => gNil <| eThen <| gSeq <| gReg <| R rfl (mv rfl) <| R rfl (bld (x' := (⟨1, a0, 0, []⟩ : api_Value)) [(0, 1), (1, 1), (2, 1), (3, 1)] Try.underlying48 ti48 rfl zr48 rfl (Bld.cons (pt_api_Value_Kind _) rfl rfl <| Bld.cons (pt_api_Value_Num _) rfl rfl <| Bld.done rfl)) <| Es (sto 1 rfl rfl Foc.here rfl ti48) <| gNil <| eThen <| gRet <| eRet [] [] rfl (eC 1 rfl rfl ty48 <| eN) (rN)


def value_split (a0 : UInt64) : Option (Int × UInt64) :=
  some (andI (w64 ((shr64 a0 52).toNat : Int)) 2047) >>= fun y1 =>
  some (a0 &&& 4503599627370495) >>= fun y2 =>
  some (y1, y2)
set_option maxRecDepth 100000 in
theorem value_split_ok (a0 : UInt64) : Spec Try.prog 104 [.rd u64R a0] [] (value_split a0) (fun r nv => ⟨[.rd i64R r.1, .rd u64R r.2], []⟩) := by
  refine spec 10 Try.func104 rfl rfl rfl fun H w => ?_
  refine gSeq <| gReg <| R rfl (asg rfl) <| R rfl (asg rfl) <| gNil <| eThen <| gSeq <| gReg <| R rfl (mv rfl) <| R rfl (U.shr rfl rfl (Int.natCast_nonneg _)) <| R rfl (U.toI rfl Try.underlying31 Try.underlying3) <| R rfl (I.and rfl rfl) <| R rfl (mv rfl) <| R rfl (U.and rfl rfl) <| R rfl (asg rfl) <| lName 2 rfl fun y1 => R rfl (asg rfl) <| lName 3 rfl fun y2 => gNil <| eThen <| gRet <| eRet [] [] rfl (eE rfl <| eE rfl <| eN) (rN)


def value_Class (a0 : UInt64) : Option (UInt8) :=
  value_split a0 >>= fun r1 =>
  (if r1.1 == 2047 then
    some (r1.2 != 0)
  else
    some false) >>= fun s3 =>
  if s3 then
    some 5
  else
    if r1.1 == 2047 then
      some 4
    else
      if r1.1 != 0 then
        some 3
      else
        if r1.2 != 0 then
          some 2
        else
          some 1
set_option maxRecDepth 100000 in
theorem value_Class_ok (a0 : UInt64) : Spec Try.prog 41 [.rd u64R a0] [] (value_Class a0) (fun r nv => ⟨[.rd u8R r], []⟩) := by
  refine spec 26 Try.func41 rfl rfl rfl fun H w => ?_
  refine gSeq <| gReg <| R rfl (asg rfl) <| gNil <| eThen <| gSeq <| gReg <| R rfl (mv rfl) <| call [] [] rfl Try.func104 rfl rfl (value_split_ok _) (aQ rfl <| aN) rN fun r1 n2 => R rfl (mv rfl) <| R rfl (ext rfl rfl) <| R rfl (ext rfl rfl) <| R rfl (asg rfl) <| R rfl (asg rfl) <| gNil <| eThen <| gSeq <| gBlk <| gMid (fun (s3 : Bool) aa ww => Sta (ctx 26 H [] w) [(3, .rd i64R r1.1), (4, .rd u64R r1.2), (10, .rd boolR s3)] [] aa ww) ?_ (fun s3 => ?_)
  · skip
    refine gReg <| R rfl (mv rfl) <| R rfl (I.eql rfl rfl) <| R rfl (mv rfl) <| lSplit 13 rfl (fun h4 => ?_) (fun h4 => ?_)
    · skip
      refine lKn 12 rfl h4 <| lRun (gd rfl rfl rfl rfl) rfl rfl (mv rfl) <| lRun (gd rfl rfl rfl rfl) rfl rfl (U.neq rfl rfl) <| R rfl (pkT rfl rfl) <| R rfl (asg rfl) <| gNil <| eMid (fun aa ww h => h.sub [] (sS rfl <| sS rfl <| sS rfl <| sN) (rN))
    · skip
      refine lKn 12 rfl h4 <| lSkip (gd rfl rfl rfl rfl) rfl rfl <| lSkip (gd rfl rfl rfl rfl) rfl rfl <| R rfl (pkF rfl rfl) <| R rfl (asg rfl) <| gNil <| eMid (fun aa ww h => h.sub [] (sS rfl <| sS rfl <| sS rfl <| sN) (rN))
  · skip
    refine gIf rfl rfl (fun h5 => ?_) (fun h5 => ?_)
    · skip
      refine gSeq <| gReg <| R rfl (asg rfl) <| gNil <| eThen <| gRet <| eBret <| eTret <| eRet [] [] rfl (eE rfl <| eN) (rN)
    · skip
      refine gSeq <| gReg <| R rfl (mv rfl) <| R rfl (I.eql rfl rfl) <| R rfl (asg rfl) <| gNil <| eThen <| gIf rfl rfl (fun h6 => ?_) (fun h6 => ?_)
      · skip
        refine gKn 19 rfl h6 <| gSeq <| gReg <| R rfl (asg rfl) <| gNil <| eThen <| gRet <| eBret <| eTret <| eRet [] [] rfl (eE rfl <| eN) (rN)
      · skip
        refine gKn 19 rfl h6 <| gSeq <| gReg <| R rfl (mv rfl) <| R rfl (I.neq rfl rfl) <| R rfl (asg rfl) <| gNil <| eThen <| gIf rfl rfl (fun h7 => ?_) (fun h7 => ?_)
        · skip
          refine gKn 22 rfl h7 <| gSeq <| gReg <| R rfl (asg rfl) <| gNil <| eThen <| gRet <| eBret <| eTret <| eRet [] [] rfl (eE rfl <| eN) (rN)
        · skip
          refine gKn 22 rfl h7 <| gSeq <| gReg <| R rfl (mv rfl) <| R rfl (U.neq rfl rfl) <| R rfl (asg rfl) <| gNil <| eThen <| gIf rfl rfl (fun h8 => ?_) (fun h8 => ?_)
          · skip
            refine gKn 25 rfl h8 <| gSeq <| gReg <| R rfl (asg rfl) <| gNil <| eThen <| gRet <| eBret <| eTret <| eRet [] [] rfl (eE rfl <| eN) (rN)
          · skip
            refine gKn 25 rfl h8 <| gSkip <| eBlk <| eThen <| gSeq <| gReg <| R rfl (asg rfl) <| gNil <| eThen <| gRet <| eRet [] [] rfl (eE rfl <| eN) (rN)


def value_Canon (a0 : UInt64) : Option (UInt64) :=
  value_Class a0 >>= fun r1 =>
  if r1 == 5 then
    some 9221120237041090560
  else
    some a0
set_option maxRecDepth 100000 in
theorem value_Canon_ok (a0 : UInt64) : Spec Try.prog 43 [.rd u64R a0] [] (value_Canon a0) (fun r nv => ⟨[.rd u64R r], []⟩) := by
  refine spec 7 Try.func43 rfl rfl rfl fun H w => ?_
  refine gSeq <| gReg <| R rfl (asg rfl) <| gNil <| eThen <| gSeq <| gSeq <| gReg <| R rfl (mv rfl) <| call [] [] rfl Try.func41 rfl rfl (value_Class_ok _) (aQ rfl <| aN) rN fun r1 n2 => R rfl (B.eql rfl rfl) <| gNil <| eThen <| gIf rfl rfl (fun h3 => ?_) (fun h3 => ?_)
  · skip
    refine gSeq <| gReg <| R rfl (asg rfl) <| gNil <| eThen <| gRet <| eTret <| eRet [] [] rfl (eE rfl <| eN) (rN)
  · skip
    refine gSkip <| eThen <| gSeq <| gReg <| R rfl (mv rfl) <| R rfl (asg rfl) <| gNil <| eThen <| gRet <| eRet [] [] rfl (eE rfl <| eN) (rN)


def value_Float (a0 : UInt64) : Option (api_Value) :=
  value_Canon a0 >>= fun r2 =>
  some (⟨2, 0, r2, []⟩ : api_Value)
set_option maxRecDepth 100000 in
theorem value_Float_ok (a0 : UInt64) : Spec Try.prog 46 [.rd u64R a0] [] (value_Float a0) (fun r nv => ⟨[.rd R_api_Value r], []⟩) := by
  refine spec 6 Try.func46 rfl rfl rfl fun H w => ?_
  refine gSeq <| gReg <| Eb rfl (allc 1 ti48 (.zr zr48)) fun v1 => gNil <| eThen <| gSeq <| gReg <| R rfl (mv rfl) <| call [] [] rfl Try.func43 rfl rfl (value_Canon_ok _) (aQ rfl <| aN) rN fun r2 n3 => R rfl (bld (x' := (⟨2, 0, r2, []⟩ : api_Value)) [(0, 1), (1, 1), (2, 1), (3, 1)] Try.underlying48 ti48 rfl zr48 rfl (Bld.cons (pt_api_Value_Kind _) rfl rfl <| Bld.cons (pt_api_Value_Bits _) rfl rfl <| Bld.done rfl)) <| Es (sto 1 rfl rfl Foc.here rfl ti48) <| gNil <| eThen <| gRet <| eRet [] [] rfl (eC 1 rfl rfl ty48 <| eN) (rN)


def value_Check (a0 : api_Value) : Option (Int) :=
  (if a0.Kind == 1 then
    value_Number a0.Num >>= fun r5 =>
    some r5
  else
    if a0.Kind == 2 then
      value_Float a0.Bits >>= fun r8 =>
      some r8
    else
      if a0.Kind == 3 then
        value_Text a0.Text >>= fun r11 =>
        some r11.1
      else
        some (⟨0, 0, 0, []⟩ : api_Value)) >>= fun s3 =>
  if !decide (a0 = s3) then
    some 8
  else
    if a0.Kind == 0 then
      some 8
    else
      some 0
set_option maxRecDepth 100000 in
theorem value_Check_ok (a0 : api_Value) : Spec Try.prog 39 [.rd R_api_Value a0] [] (value_Check a0) (fun r nv => ⟨[.rd i64R r], []⟩) := by
  refine spec 32 Try.func39 rfl rfl rfl fun H w => ?_
  refine gSeq <| gReg <| Eb rfl (bx 1 rfl) fun v1 => R rfl (asg rfl) <| gNil <| eThen <| gSeq <| gReg <| Eb rfl (allc 2 ti48 (.zr zr48)) fun v2 => gNil <| eThen <| gMid (fun (s3 : api_Value) aa ww => Sta (ctx 32 H [] w) [(1, .val (ptrTo v1 0)), (3, .val (ptrTo v2 0))] [(1, some (v1, .box 48 [.rd R_api_Value a0])), (2, some (v2, .box 48 [.rd R_api_Value s3]))] aa ww) ?_ (fun s3 => ?_)
  · skip
    refine gSeq <| gReg <| R rfl (faB 1 rfl rfl Try.underlying48 rfl (by exact ti5)) <| R rfl (ld 1 rfl rfl ((Foc.here).part (pt_api_Value_Kind _)) ty5 rfl) <| gNil <| eThen <| gBlk <| gSeq <| gReg <| R rfl (B.eql rfl rfl) <| R rfl (asg rfl) <| gNil <| eThen <| gIf rfl rfl (fun h4 => ?_) (fun h4 => ?_)
    · skip
      refine gKn 7 rfl h4 <| gReg <| R rfl (faB 1 rfl rfl Try.underlying48 rfl (by exact ti2)) <| R rfl (ld 1 rfl rfl ((Foc.here).part (pt_api_Value_Num _)) ty2 rfl) <| call [] [] rfl Try.func45 rfl rfl (value_Number_ok _) (aQ rfl <| aN) rN fun r5 n6 => Es (sto 2 rfl rfl Foc.here rfl ti48) <| gNil <| eBlk <| eMid (fun aa ww h => h.sub [1, 2] (sS rfl <| sS rfl <| sN) (rR rfl rfl <| rR rfl rfl <| rN))
    · skip
      refine gKn 7 rfl h4 <| gSeq <| gReg <| R rfl (B.eql rfl rfl) <| R rfl (asg rfl) <| gNil <| eThen <| gIf rfl rfl (fun h7 => ?_) (fun h7 => ?_)
      · skip
        refine gKn 12 rfl h7 <| gReg <| R rfl (faB 1 rfl rfl Try.underlying48 rfl (by exact ti31)) <| R rfl (ld 1 rfl rfl ((Foc.here).part (pt_api_Value_Bits _)) ty31 rfl) <| call [] [] rfl Try.func46 rfl rfl (value_Float_ok _) (aQ rfl <| aN) rN fun r8 n9 => Es (sto 2 rfl rfl Foc.here rfl ti48) <| gNil <| eBlk <| eMid (fun aa ww h => h.sub [1, 2] (sS rfl <| sS rfl <| sN) (rR rfl rfl <| rR rfl rfl <| rN))
      · skip
        refine gKn 12 rfl h7 <| gSeq <| gReg <| R rfl (B.eql rfl rfl) <| R rfl (asg rfl) <| gNil <| eThen <| gIf rfl rfl (fun h10 => ?_) (fun h10 => ?_)
        · skip
          refine gKn 17 rfl h10 <| gReg <| R rfl (faB 1 rfl rfl Try.underlying48 rfl (by exact ti9)) <| R rfl (ld 1 rfl rfl ((Foc.here).part (pt_api_Value_Text _)) ty9 rfl) <| call [] [] rfl Try.func37 rfl rfl (value_Text_ok _) (aQ rfl <| aN) rN fun r11 n12 => R rfl (mv rfl) <| R rfl (ext rfl rfl) <| R rfl (ext rfl rfl) <| Es (sto 2 rfl rfl Foc.here rfl ti48) <| gNil <| eBlk <| eMid (fun aa ww h => h.sub [1, 2] (sS rfl <| sS rfl <| sN) (rR rfl rfl <| rR rfl rfl <| rN))
        · skip
          refine gKn 17 rfl h10 <| gSkip <| eBlk <| eMid (fun aa ww h => h.sub [1, 2] (sS rfl <| sS rfl <| sN) (rR rfl rfl <| rR rfl rfl <| rN))
  · skip
    refine gSeq <| gSeq <| gReg <| R rfl (ld 1 rfl rfl Foc.here ty48 rfl) <| R rfl (ld 2 rfl rfl Foc.here ty48 rfl) <| R rfl (neA rfl rfl eq48 rfl rfl gq48) <| R rfl (mv rfl) <| lSplit 27 rfl (fun h13 => ?_) (fun h13 => ?_)
    · skip
      refine lKn 26 rfl h13 <| lSkip (gd rfl rfl rfl rfl) rfl rfl <| lSkip (gd rfl rfl rfl rfl) rfl rfl <| lSkip (gd rfl rfl rfl rfl) rfl rfl <| R rfl (pkT rfl rfl) <| gNil <| eThen <| gTrue rfl <| gSeq <| gReg <| R rfl (asg rfl) <| gNil <| eThen <| gRet <| eTret <| eRet [] [] rfl (eE rfl <| eN) (rN)
    · skip
      refine lKn 26 rfl h13 <| lRun (gd rfl rfl rfl rfl) rfl rfl (faB 1 rfl rfl Try.underlying48 rfl (by exact ti5)) <| lRun (gd rfl rfl rfl rfl) rfl rfl (ld 1 rfl rfl ((Foc.here).part (pt_api_Value_Kind _)) ty5 rfl) <| lRun (gd rfl rfl rfl rfl) rfl rfl (B.eql rfl rfl) <| R rfl (pkF rfl rfl) <| gNil <| eThen <| gIf rfl rfl (fun h14 => ?_) (fun h14 => ?_)
      · skip
        refine gKn 30 rfl h14 <| gSeq <| gReg <| R rfl (asg rfl) <| gNil <| eThen <| gRet <| eTret <| eRet [] [] rfl (eE rfl <| eN) (rN)
      · skip
        refine gKn 30 rfl h14 <| gSkip <| eThen <| gSeq <| gReg <| R rfl (asg rfl) <| gNil <| eThen <| gRet <| eRet [] [] rfl (eE rfl <| eN) (rN)


def braidref05_Exponent (a0 : UInt64) : Option (Int) :=
  some (w64 (((a0 % 9223372036854775808) / 4503599627370496).toNat : Int)) >>= fun y1 =>
  some y1
set_option maxRecDepth 100000 in
theorem braidref05_Exponent_ok (a0 : UInt64) : Spec Try.prog 105 [.rd u64R a0] [] (braidref05_Exponent a0) (fun r nv => ⟨[.rd i64R r], []⟩) := by
  refine spec 7 Try.func105 rfl rfl rfl fun H w => ?_
  refine gSeq <| gReg <| R rfl (asg rfl) <| gNil <| eThen <| gSeq <| gReg <| R rfl (mv rfl) <| R rfl (U.rem rfl rfl (by decide)) <| R rfl (U.quo rfl rfl (by decide)) <| R rfl (U.toI rfl Try.underlying31 Try.underlying3) <| R rfl (asg rfl) <| lName 2 rfl fun y1 => gNil <| eThen <| gRet <| eRet [] [] rfl (eE rfl <| eN) (rN)


def braidref05_Fraction (a0 : UInt64) : Option (UInt64) :=
  some (a0 % 4503599627370496) >>= fun y1 =>
  some y1
set_option maxRecDepth 100000 in
theorem braidref05_Fraction_ok (a0 : UInt64) : Spec Try.prog 106 [.rd u64R a0] [] (braidref05_Fraction a0) (fun r nv => ⟨[.rd u64R r], []⟩) := by
  refine spec 5 Try.func106 rfl rfl rfl fun H w => ?_
  refine gSeq <| gReg <| R rfl (asg rfl) <| gNil <| eThen <| gSeq <| gReg <| R rfl (mv rfl) <| R rfl (U.rem rfl rfl (by decide)) <| R rfl (asg rfl) <| lName 2 rfl fun y1 => gNil <| eThen <| gRet <| eRet [] [] rfl (eE rfl <| eN) (rN)


def braidref05_Class (a0 : UInt64) : Option (UInt8) :=
  braidref05_Exponent a0 >>= fun r1 =>
  braidref05_Fraction a0 >>= fun r3 =>
  orRet (if r1 == 0 then
    if r3 == 0 then
      some (.inl 1)
    else
      some (.inr ())
  else
    some (.inr ())) fun s5 =>
  if r1 == 0 then
    some 2
  else
    if decide (r1 < 2047) then
      some 3
    else
      if r3 == 0 then
        some 4
      else
        some 5
set_option maxRecDepth 100000 in
theorem braidref05_Class_ok (a0 : UInt64) : Spec Try.prog 42 [.rd u64R a0] [] (braidref05_Class a0) (fun r nv => ⟨[.rd u8R r], []⟩) := by
  refine spec 21 Try.func42 rfl rfl rfl fun H w => ?_
  refine gSeq <| gReg <| R rfl (asg rfl) <| gNil <| eThen <| gSeq <| gReg <| R rfl (mv rfl) <| call [] [] rfl Try.func105 rfl rfl (braidref05_Exponent_ok _) (aQ rfl <| aN) rN fun r1 n2 => R rfl (mv rfl) <| call [] [] rfl Try.func106 rfl rfl (braidref05_Fraction_ok _) (aQ rfl <| aN) rN fun r3 n4 => R rfl (asg rfl) <| R rfl (asg rfl) <| gNil <| eThen <| gMidR (fun (s5 : Unit) aa ww => Sta (ctx 21 H [] w) [(3, .rd i64R r1), (4, .rd u64R r3)] [] aa ww) ?_ (fun s5 => ?_)
  · skip
    refine gSeq <| gReg <| R rfl (mv rfl) <| R rfl (I.eql rfl rfl) <| R rfl (mv rfl) <| lSplit 11 rfl (fun h6 => ?_) (fun h6 => ?_)
    · skip
      refine lKn 10 rfl h6 <| lRun (gd rfl rfl rfl rfl) rfl rfl (mv rfl) <| lRun (gd rfl rfl rfl rfl) rfl rfl (U.eql rfl rfl) <| R rfl (pkT rfl rfl) <| gNil <| eThen <| gIf rfl rfl (fun h7 => ?_) (fun h7 => ?_)
      · skip
        refine gKn 13 rfl h7 <| gSeq <| gReg <| R rfl (asg rfl) <| gNil <| eThen <| gRet <| eMret <| eRet [] [] rfl (eE rfl <| eN) (rN)
      · skip
        refine gKn 13 rfl h7 <| gSkip <| eMidR (fun aa ww h => h.sub [] (sS rfl <| sS rfl <| sN) (rN))
    · skip
      refine lKn 10 rfl h6 <| lSkip (gd rfl rfl rfl rfl) rfl rfl <| lSkip (gd rfl rfl rfl rfl) rfl rfl <| R rfl (pkF rfl rfl) <| gNil <| eThen <| gFalse rfl <| gSkip <| eMidR (fun aa ww h => h.sub [] (sS rfl <| sS rfl <| sN) (rN))
  · skip
    refine gSeq <| gSeq <| gReg <| R rfl (mv rfl) <| R rfl (I.eql rfl rfl) <| gNil <| eThen <| gIf rfl rfl (fun h8 => ?_) (fun h8 => ?_)
    · skip
      refine gSeq <| gReg <| R rfl (asg rfl) <| gNil <| eThen <| gRet <| eTret <| eRet [] [] rfl (eE rfl <| eN) (rN)
    · skip
      refine gSkip <| eThen <| gSeq <| gSeq <| gReg <| R rfl (mv rfl) <| R rfl (I.lss rfl rfl) <| gNil <| eThen <| gIf rfl rfl (fun h9 => ?_) (fun h9 => ?_)
      · skip
        refine gSeq <| gReg <| R rfl (asg rfl) <| gNil <| eThen <| gRet <| eTret <| eRet [] [] rfl (eE rfl <| eN) (rN)
      · skip
        refine gSkip <| eThen <| gSeq <| gSeq <| gReg <| R rfl (mv rfl) <| R rfl (U.eql rfl rfl) <| gNil <| eThen <| gIf rfl rfl (fun h10 => ?_) (fun h10 => ?_)
        · skip
          refine gSeq <| gReg <| R rfl (asg rfl) <| gNil <| eThen <| gRet <| eTret <| eRet [] [] rfl (eE rfl <| eN) (rN)
        · skip
          refine gSkip <| eThen <| gSeq <| gReg <| R rfl (asg rfl) <| gNil <| eThen <| gRet <| eRet [] [] rfl (eE rfl <| eN) (rN)


def braidref05_Canon (a0 : UInt64) : Option (UInt64) :=
  braidref05_Class a0 >>= fun r1 =>
  if r1 == 5 then
    some 9221120237041090560
  else
    some a0
set_option maxRecDepth 100000 in
theorem braidref05_Canon_ok (a0 : UInt64) : Spec Try.prog 44 [.rd u64R a0] [] (braidref05_Canon a0) (fun r nv => ⟨[.rd u64R r], []⟩) := by
  refine spec 7 Try.func44 rfl rfl rfl fun H w => ?_
  refine gSeq <| gReg <| R rfl (asg rfl) <| gNil <| eThen <| gSeq <| gSeq <| gReg <| R rfl (mv rfl) <| call [] [] rfl Try.func42 rfl rfl (braidref05_Class_ok _) (aQ rfl <| aN) rN fun r1 n2 => R rfl (B.eql rfl rfl) <| gNil <| eThen <| gIf rfl rfl (fun h3 => ?_) (fun h3 => ?_)
  · skip
    refine gSeq <| gReg <| R rfl (asg rfl) <| gNil <| eThen <| gRet <| eTret <| eRet [] [] rfl (eE rfl <| eN) (rN)
  · skip
    refine gSkip <| eThen <| gSeq <| gReg <| R rfl (mv rfl) <| R rfl (asg rfl) <| gNil <| eThen <| gRet <| eRet [] [] rfl (eE rfl <| eN) (rN)


def braidref05_Check (a0 : api_Value) : Option (Int) :=
  if a0.Kind == 1 then
    if a0.Bits == 0 then
      if a0.Text == [] then
        some 0
      else
        some 8
    else
      some 8
  else
    if a0.Kind == 2 then
      (if a0.Num == 0 then
        if a0.Text == [] then
          braidref05_Canon a0.Bits >>= fun r9 =>
          some (r9 == a0.Bits)
        else
          some false
      else
        some false) >>= fun s6 =>
      if s6 then
        some 0
      else
        some 8
    else
      if a0.Kind == 3 then
        (if a0.Num == 0 then
          if a0.Bits == 0 then
            if decide ((a0.Text.length : Int) ≤ 30) then
              braidref05_Printable a0.Text >>= fun r17 =>
              some r17
            else
              some false
          else
            some false
        else
          some false) >>= fun s13 =>
        if s13 then
          some 0
        else
          some 8
      else
        some 8
set_option maxRecDepth 100000 in
theorem braidref05_Check_ok (a0 : api_Value) : Spec Try.prog 40 [.rd R_api_Value a0] [] (braidref05_Check a0) (fun r nv => ⟨[.rd i64R r], []⟩) := by
  refine spec 54 Try.func40 rfl rfl rfl fun H w => ?_
  refine gSeq <| gReg <| Eb rfl (bx 1 rfl) fun v1 => R rfl (asg rfl) <| gNil <| eThen <| gSeq <| gSeq <| gReg <| R rfl (faB 1 rfl rfl Try.underlying48 rfl (by exact ti5)) <| R rfl (ld 1 rfl rfl ((Foc.here).part (pt_api_Value_Kind _)) ty5 rfl) <| gNil <| eThen <| gBlk <| gSeq <| gReg <| R rfl (B.eql rfl rfl) <| R rfl (asg rfl) <| gNil <| eThen <| gIf rfl rfl (fun h2 => ?_) (fun h2 => ?_)
  · skip
    refine gKn 6 rfl h2 <| gSeq <| gReg <| R rfl (faB 1 rfl rfl Try.underlying48 rfl (by exact ti31)) <| R rfl (ld 1 rfl rfl ((Foc.here).part (pt_api_Value_Bits _)) ty31 rfl) <| R rfl (U.eql rfl rfl) <| R rfl (mv rfl) <| lSplit 10 rfl (fun h3 => ?_) (fun h3 => ?_)
    · skip
      refine lKn 9 rfl h3 <| lRun (gd rfl rfl rfl rfl) rfl rfl (faB 1 rfl rfl Try.underlying48 rfl (by exact ti9)) <| lRun (gd rfl rfl rfl rfl) rfl rfl (ld 1 rfl rfl ((Foc.here).part (pt_api_Value_Text _)) ty9 rfl) <| lRun (gd rfl rfl rfl rfl) rfl rfl (eqS rfl rfl) <| R rfl (pkT rfl rfl) <| gNil <| eThen <| gIf rfl rfl (fun h4 => ?_) (fun h4 => ?_)
      · skip
        refine gKn 13 rfl h4 <| gSeq <| gReg <| R rfl (asg rfl) <| gNil <| eThen <| gRet <| eBret <| eTret <| eRet [] [] rfl (eE rfl <| eN) (rN)
      · skip
        refine gKn 13 rfl h4 <| gSkip <| eBlk <| eThen <| gSeq <| gReg <| R rfl (asg rfl) <| gNil <| eThen <| gRet <| eRet [] [] rfl (eE rfl <| eN) (rN)
    · skip
      refine lKn 9 rfl h3 <| lSkip (gd rfl rfl rfl rfl) rfl rfl <| lSkip (gd rfl rfl rfl rfl) rfl rfl <| lSkip (gd rfl rfl rfl rfl) rfl rfl <| R rfl (pkF rfl rfl) <| gNil <| eThen <| gFalse rfl <| gSkip <| eBlk <| eThen <| gSeq <| gReg <| R rfl (asg rfl) <| gNil <| eThen <| gRet <| eRet [] [] rfl (eE rfl <| eN) (rN)
  · skip
    refine gKn 6 rfl h2 <| gSeq <| gReg <| R rfl (B.eql rfl rfl) <| R rfl (asg rfl) <| gNil <| eThen <| gIf rfl rfl (fun h5 => ?_) (fun h5 => ?_)
    · skip
      refine gKn 16 rfl h5 <| gMid (fun (s6 : Bool) aa ww => Sta (ctx 54 H [] w) [(32, .rd boolR s6)] [] aa ww) ?_ (fun s6 => ?_)
      · skip
        refine gRegH [] mixed rfl rfl <| hTake 0 rfl (by kernel_rfl) (by kernel_rfl) (by kernel_rfl) (gd0 rfl) rfl rfl (faB 1 rfl rfl Try.underlying48 rfl (by exact ti2)) <| hTake 1 rfl (by kernel_rfl) (by kernel_rfl) (by kernel_rfl) (gd0 rfl) rfl rfl (ld 1 rfl rfl ((Foc.here).part (pt_api_Value_Num _)) ty2 rfl) <| hTake 2 rfl (by kernel_rfl) (by kernel_rfl) (by kernel_rfl) (gd0 rfl) rfl rfl (I.eql rfl rfl) <| hTake 3 rfl (by kernel_rfl) (by kernel_rfl) (by kernel_rfl) (gd0 rfl) rfl rfl (mv rfl) <| hIf 20 rfl rfl (fun h7 => ?_) (fun h7 => ?_)
        · skip
          refine hKn 19 rfl rfl h7 <| hTake 4 rfl (by kernel_rfl) (by kernel_rfl) (by kernel_rfl) (gd rfl rfl rfl rfl) rfl rfl (faB 1 rfl rfl Try.underlying48 rfl (by exact ti9)) <| hTake 5 rfl (by kernel_rfl) (by kernel_rfl) (by kernel_rfl) (gd rfl rfl rfl rfl) rfl rfl (ld 1 rfl rfl ((Foc.here).part (pt_api_Value_Text _)) ty9 rfl) <| hTake 6 rfl (by kernel_rfl) (by kernel_rfl) (by kernel_rfl) (gd rfl rfl rfl rfl) rfl rfl (eqS rfl rfl) <| hTake 7 rfl (by kernel_rfl) (by kernel_rfl) (by kernel_rfl) (gd0 rfl) rfl rfl (pkT rfl rfl) <| hTake 8 rfl (by kernel_rfl) (by kernel_rfl) (by kernel_rfl) (gd0 rfl) rfl rfl (mv rfl) <| hIf 25 rfl rfl (fun h8 => ?_) (fun h8 => ?_)
          · skip
            refine hKn 23 rfl rfl h8 <| hKn 24 rfl rfl h8 <| hTake 9 rfl (by kernel_rfl) (by kernel_rfl) (by kernel_rfl) (gd rfl rfl rfl rfl) rfl rfl (faB 1 rfl rfl Try.underlying48 rfl (by exact ti31)) <| hTake 10 rfl (by kernel_rfl) (by kernel_rfl) (by kernel_rfl) (gd rfl rfl rfl rfl) rfl rfl (ld 1 rfl rfl ((Foc.here).part (pt_api_Value_Bits _)) ty31 rfl) <| hTake 12 rfl (by kernel_rfl) (by kernel_rfl) (by kernel_rfl) (gd rfl rfl rfl rfl) rfl rfl (faB 1 rfl rfl Try.underlying48 rfl (by exact ti31)) <| hTake 13 rfl (by kernel_rfl) (by kernel_rfl) (by kernel_rfl) (gd rfl rfl rfl rfl) rfl rfl (ld 1 rfl rfl ((Foc.here).part (pt_api_Value_Bits _)) ty31 rfl) <| hCallF 11 [] [] rfl (by kernel_rfl) rfl (gd rfl rfl rfl rfl) rfl Try.func44 rfl rfl (braidref05_Canon_ok _) (aQ rfl <| aN) rN rfl (fun _ _ => flat_num) fun r9 n10 => hTake 14 rfl (by kernel_rfl) (by kernel_rfl) (by kernel_rfl) (gd rfl rfl rfl rfl) rfl rfl (U.eql rfl rfl) <| hTake 15 rfl (by kernel_rfl) (by kernel_rfl) (by kernel_rfl) (gd0 rfl) rfl rfl (pkT rfl rfl) <| hDone (by kernel_rfl) <| eMid (fun aa ww h => h.sub [] (sS rfl <| sN) (rN))
          · skip
            refine hKn 23 rfl rfl h8 <| hKn 24 rfl rfl h8 <| hSkip 9 rfl (by kernel_rfl) (by kernel_rfl) (by kernel_rfl) (gd rfl rfl rfl rfl) rfl rfl <| hSkip 10 rfl (by kernel_rfl) (by kernel_rfl) (by kernel_rfl) (gd rfl rfl rfl rfl) rfl rfl <| hSkip 11 rfl (by kernel_rfl) (by kernel_rfl) (by kernel_rfl) (gd rfl rfl rfl rfl) rfl rfl <| hSkip 12 rfl (by kernel_rfl) (by kernel_rfl) (by kernel_rfl) (gd rfl rfl rfl rfl) rfl rfl <| hSkip 13 rfl (by kernel_rfl) (by kernel_rfl) (by kernel_rfl) (gd rfl rfl rfl rfl) rfl rfl <| hSkip 14 rfl (by kernel_rfl) (by kernel_rfl) (by kernel_rfl) (gd rfl rfl rfl rfl) rfl rfl <| hTake 15 rfl (by kernel_rfl) (by kernel_rfl) (by kernel_rfl) (gd0 rfl) rfl rfl (pkF rfl rfl) <| hDone (by kernel_rfl) <| eMid (fun aa ww h => h.sub [] (sS rfl <| sN) (rN))
        · skip
          refine hKn 19 rfl rfl h7 <| hSkip 4 rfl (by kernel_rfl) (by kernel_rfl) (by kernel_rfl) (gd rfl rfl rfl rfl) rfl rfl <| hSkip 5 rfl (by kernel_rfl) (by kernel_rfl) (by kernel_rfl) (gd rfl rfl rfl rfl) rfl rfl <| hSkip 6 rfl (by kernel_rfl) (by kernel_rfl) (by kernel_rfl) (gd rfl rfl rfl rfl) rfl rfl <| hTake 7 rfl (by kernel_rfl) (by kernel_rfl) (by kernel_rfl) (gd0 rfl) rfl rfl (pkF rfl rfl) <| hTake 8 rfl (by kernel_rfl) (by kernel_rfl) (by kernel_rfl) (gd0 rfl) rfl rfl (mv rfl) <| hSkip 9 rfl (by kernel_rfl) (by kernel_rfl) (by kernel_rfl) (gd rfl rfl rfl rfl) rfl rfl <| hSkip 10 rfl (by kernel_rfl) (by kernel_rfl) (by kernel_rfl) (gd rfl rfl rfl rfl) rfl rfl <| hSkip 11 rfl (by kernel_rfl) (by kernel_rfl) (by kernel_rfl) (gd rfl rfl rfl rfl) rfl rfl <| hSkip 12 rfl (by kernel_rfl) (by kernel_rfl) (by kernel_rfl) (gd rfl rfl rfl rfl) rfl rfl <| hSkip 13 rfl (by kernel_rfl) (by kernel_rfl) (by kernel_rfl) (gd rfl rfl rfl rfl) rfl rfl <| hSkip 14 rfl (by kernel_rfl) (by kernel_rfl) (by kernel_rfl) (gd rfl rfl rfl rfl) rfl rfl <| hTake 15 rfl (by kernel_rfl) (by kernel_rfl) (by kernel_rfl) (gd0 rfl) rfl rfl (pkF rfl rfl) <| hDone (by kernel_rfl) <| eMid (fun aa ww h => h.sub [] (sS rfl <| sN) (rN))
      · skip
        refine gIf rfl rfl (fun h11 => ?_) (fun h11 => ?_)
        · skip
          refine gSeq <| gReg <| R rfl (asg rfl) <| gNil <| eThen <| gRet <| eBret <| eTret <| eRet [] [] rfl (eE rfl <| eN) (rN)
        · skip
          refine gSkip <| eBlk <| eThen <| gSeq <| gReg <| R rfl (asg rfl) <| gNil <| eThen <| gRet <| eRet [] [] rfl (eE rfl <| eN) (rN)
    · skip
      refine gKn 16 rfl h5 <| gSeq <| gReg <| R rfl (B.eql rfl rfl) <| R rfl (asg rfl) <| gNil <| eThen <| gIf rfl rfl (fun h12 => ?_) (fun h12 => ?_)
      · skip
        refine gKn 34 rfl h12 <| gMid (fun (s13 : Bool) aa ww => Sta (ctx 54 H [] w) [(53, .rd boolR s13)] [] aa ww) ?_ (fun s13 => ?_)
        · skip
          refine gReg <| R rfl (faB 1 rfl rfl Try.underlying48 rfl (by exact ti2)) <| R rfl (ld 1 rfl rfl ((Foc.here).part (pt_api_Value_Num _)) ty2 rfl) <| R rfl (I.eql rfl rfl) <| R rfl (mv rfl) <| lSplit 38 rfl (fun h14 => ?_) (fun h14 => ?_)
          · skip
            refine lKn 37 rfl h14 <| lRun (gd rfl rfl rfl rfl) rfl rfl (faB 1 rfl rfl Try.underlying48 rfl (by exact ti31)) <| lRun (gd rfl rfl rfl rfl) rfl rfl (ld 1 rfl rfl ((Foc.here).part (pt_api_Value_Bits _)) ty31 rfl) <| lRun (gd rfl rfl rfl rfl) rfl rfl (U.eql rfl rfl) <| R rfl (pkT rfl rfl) <| R rfl (mv rfl) <| lSplit 43 rfl (fun h15 => ?_) (fun h15 => ?_)
            · skip
              refine lKn 41 rfl h15 <| lKn 42 rfl h15 <| lRun (gd rfl rfl rfl rfl) rfl rfl (faB 1 rfl rfl Try.underlying48 rfl (by exact ti9)) <| lRun (gd rfl rfl rfl rfl) rfl rfl (ld 1 rfl rfl ((Foc.here).part (pt_api_Value_Text _)) ty9 rfl) <| lRun (gd rfl rfl rfl rfl) rfl rfl (lenT rfl rfl Try.underlying9) <| lRun (gd rfl rfl rfl rfl) rfl rfl (I.leq rfl rfl) <| R rfl (pkT rfl rfl) <| R rfl (mv rfl) <| lSplit 49 rfl (fun h16 => ?_) (fun h16 => ?_)
              · skip
                refine lKn 47 rfl h16 <| lKn 48 rfl h16 <| lRun (gd rfl rfl rfl rfl) rfl rfl (faB 1 rfl rfl Try.underlying48 rfl (by exact ti9)) <| lRun (gd rfl rfl rfl rfl) rfl rfl (ld 1 rfl rfl ((Foc.here).part (pt_api_Value_Text _)) ty9 rfl) <| callg [] [] (gd rfl rfl rfl rfl) rfl Try.func103 rfl rfl (braidref05_Printable_ok _) (aQ rfl <| aN) rN fun r17 n18 => R rfl (pkT rfl rfl) <| gNil <| eMid (fun aa ww h => h.sub [] (sS rfl <| sN) (rN))
              · skip
                refine lKn 47 rfl h16 <| lKn 48 rfl h16 <| lSkip (gd rfl rfl rfl rfl) rfl rfl <| lSkip (gd rfl rfl rfl rfl) rfl rfl <| lSkip (gd rfl rfl rfl rfl) rfl rfl <| R rfl (pkF rfl rfl) <| gNil <| eMid (fun aa ww h => h.sub [] (sS rfl <| sN) (rN))
            · skip
              refine lKn 41 rfl h15 <| lKn 42 rfl h15 <| lSkip (gd rfl rfl rfl rfl) rfl rfl <| lSkip (gd rfl rfl rfl rfl) rfl rfl <| lSkip (gd rfl rfl rfl rfl) rfl rfl <| lSkip (gd rfl rfl rfl rfl) rfl rfl <| R rfl (pkF rfl rfl) <| R rfl (mv rfl) <| lSkip (gd rfl rfl rfl rfl) rfl rfl <| lSkip (gd rfl rfl rfl rfl) rfl rfl <| lSkip (gd rfl rfl rfl rfl) rfl rfl <| R rfl (pkF rfl rfl) <| gNil <| eMid (fun aa ww h => h.sub [] (sS rfl <| sN) (rN))
          · skip
            refine lKn 37 rfl h14 <| lSkip (gd rfl rfl rfl rfl) rfl rfl <| lSkip (gd rfl rfl rfl rfl) rfl rfl <| lSkip (gd rfl rfl rfl rfl) rfl rfl <| R rfl (pkF rfl rfl) <| R rfl (mv rfl) <| lSkip (gd rfl rfl rfl rfl) rfl rfl <| lSkip (gd rfl rfl rfl rfl) rfl rfl <| lSkip (gd rfl rfl rfl rfl) rfl rfl <| lSkip (gd rfl rfl rfl rfl) rfl rfl <| R rfl (pkF rfl rfl) <| R rfl (mv rfl) <| lSkip (gd rfl rfl rfl rfl) rfl rfl <| lSkip (gd rfl rfl rfl rfl) rfl rfl <| lSkip (gd rfl rfl rfl rfl) rfl rfl <| R rfl (pkF rfl rfl) <| gNil <| eMid (fun aa ww h => h.sub [] (sS rfl <| sN) (rN))
        · skip
          refine gIf rfl rfl (fun h19 => ?_) (fun h19 => ?_)
          · skip
            refine gSeq <| gReg <| R rfl (asg rfl) <| gNil <| eThen <| gRet <| eBret <| eTret <| eRet [] [] rfl (eE rfl <| eN) (rN)
          · skip
            refine gSkip <| eBlk <| eThen <| gSeq <| gReg <| R rfl (asg rfl) <| gNil <| eThen <| gRet <| eRet [] [] rfl (eE rfl <| eN) (rN)
      · skip
        refine gKn 34 rfl h12 <| gSkip <| eBlk <| eThen <| gSeq <| gReg <| R rfl (asg rfl) <| gNil <| eThen <| gRet <| eRet [] [] rfl (eE rfl <| eN) (rN)


def braidlaw05_ValueMakes (a0 : api_Value) (a1 : UInt64) (a2 : Int) (a3 : List UInt8) : Option (Bool) :=
  if decide (100 < (a0.Text.length : Int)) then
    some true
  else
    if decide (100 < (a3.length : Int)) then
      some true
    else
      value_Text a3 >>= fun r4 =>
      braidref05_Text a3 >>= fun r7 =>
      value_Check a0 >>= fun r10 =>
      braidref05_Check a0 >>= fun r12 =>
      if r10 == r12 then
        value_Class a1 >>= fun r15 =>
        braidref05_Class a1 >>= fun r17 =>
        if r15 == r17 then
          value_Canon a1 >>= fun r20 =>
          braidref05_Canon a1 >>= fun r22 =>
          if r20 == r22 then
            value_Number a2 >>= fun r25 =>
            if decide (r25 = (⟨1, a2, 0, []⟩ : api_Value)) then
              value_Float a1 >>= fun r28 =>
              braidref05_Canon a1 >>= fun r30 =>
              if decide (r28 = (⟨2, 0, r30, []⟩ : api_Value)) then
                if decide (r4.1 = r7.1) then
                  some (r4.2 == r7.2)
                else
                  some false
              else
                some false
            else
              some false
          else
            some false
        else
          some false
      else
        some false
set_option maxRecDepth 100000 in
theorem braidlaw05_ValueMakes_ok (a0 : api_Value) (a1 : UInt64) (a2 : Int) (a3 : List UInt8) : Spec Try.prog 6 [.rd R_api_Value a0, .rd u64R a1, .rd i64R a2, .rd strR a3] [] (braidlaw05_ValueMakes a0 a1 a2 a3) (fun r nv => ⟨[.rd boolR r], []⟩) := by
  refine spec 76 Try.func6 rfl rfl rfl fun H w => ?_
  refine gSeq <| gReg <| Eb rfl (bx 1 rfl) fun v1 => R rfl (asg rfl) <| gNil <| eThen <| gSeq <| gSeq <| gReg <| R rfl (faB 1 rfl rfl Try.underlying48 rfl (by exact ti9)) <| R rfl (ld 1 rfl rfl ((Foc.here).part (pt_api_Value_Text _)) ty9 rfl) <| R rfl (lenT rfl rfl Try.underlying9) <| R rfl (I.gtr rfl rfl) <| R rfl (mv rfl) <| lSplit 17 rfl (fun h2 => ?_) (fun h2 => ?_)
  · skip
    refine lKn 16 rfl h2 <| lSkip (gd rfl rfl rfl rfl) rfl rfl <| lSkip (gd rfl rfl rfl rfl) rfl rfl <| lSkip (gd rfl rfl rfl rfl) rfl rfl <| R rfl (pkT rfl rfl) <| gNil <| eThen <| gTrue rfl <| gSeq <| gReg <| R rfl (asg rfl) <| gNil <| eThen <| gRet <| eTret <| eRet [] [] rfl (eE rfl <| eN) (rN)
  · skip
    refine lKn 16 rfl h2 <| lRun (gd rfl rfl rfl rfl) rfl rfl (mv rfl) <| lRun (gd rfl rfl rfl rfl) rfl rfl (lenT rfl rfl Try.underlying9) <| lRun (gd rfl rfl rfl rfl) rfl rfl (I.gtr rfl rfl) <| R rfl (pkF rfl rfl) <| gNil <| eThen <| gIf rfl rfl (fun h3 => ?_) (fun h3 => ?_)
    · skip
      refine gKn 20 rfl h3 <| gSeq <| gReg <| R rfl (asg rfl) <| gNil <| eThen <| gRet <| eTret <| eRet [] [] rfl (eE rfl <| eN) (rN)
    · skip
      refine gKn 20 rfl h3 <| gSkip <| eThen <| gSeq <| gReg <| R rfl (mv rfl) <| call [] [] rfl Try.func37 rfl rfl (value_Text_ok _) (aQ rfl <| aN) rN fun r4 n5 => R rfl (mv rfl) <| R rfl (ext rfl rfl) <| R rfl (ext rfl rfl) <| Eb rfl (allc 2 ti48 (.zr zr48)) fun v6 => Es (sto 2 rfl rfl Foc.here rfl ti48) <| R rfl (asg rfl) <| gNil <| eThen <| gSeq <| gReg <| R rfl (mv rfl) <| call [] [] rfl Try.func38 rfl rfl (braidref05_Text_ok _) (aQ rfl <| aN) rN fun r7 n8 => R rfl (mv rfl) <| R rfl (ext rfl rfl) <| R rfl (ext rfl rfl) <| Eb rfl (allc 3 ti48 (.zr zr48)) fun v9 => Es (sto 3 rfl rfl Foc.here rfl ti48) <| R rfl (asg rfl) <| gNil <| eThen <| gSeq <| gRegH [] mixed rfl rfl <| hTake 0 rfl (by kernel_rfl) (by kernel_rfl) (by kernel_rfl) (gd0 rfl) rfl rfl (ld 1 rfl rfl Foc.here ty48 rfl) <| hTake 2 rfl (by kernel_rfl) (by kernel_rfl) (by kernel_rfl) (gd0 rfl) rfl rfl (ld 1 rfl rfl Foc.here ty48 rfl) <| hCallF 1 [] [] rfl (by kernel_rfl) rfl (gd0 rfl) rfl Try.func39 rfl rfl (value_Check_ok _) (aQ rfl <| aN) rN rfl (fun _ _ => flat_num) fun r10 n11 => hCallF 3 [] [] rfl (by kernel_rfl) rfl (gd0 rfl) rfl Try.func40 rfl rfl (braidref05_Check_ok _) (aQ rfl <| aN) rN rfl (fun _ _ => flat_num) fun r12 n13 => hTake 4 rfl (by kernel_rfl) (by kernel_rfl) (by kernel_rfl) (gd0 rfl) rfl rfl (I.eql rfl rfl) <| hTake 5 rfl (by kernel_rfl) (by kernel_rfl) (by kernel_rfl) (gd0 rfl) rfl rfl (mv rfl) <| hIf 37 rfl rfl (fun h14 => ?_) (fun h14 => ?_)
      · skip
        refine hKn 36 rfl rfl h14 <| hTake 6 rfl (by kernel_rfl) (by kernel_rfl) (by kernel_rfl) (gd rfl rfl rfl rfl) rfl rfl (mv rfl) <| hTake 8 rfl (by kernel_rfl) (by kernel_rfl) (by kernel_rfl) (gd rfl rfl rfl rfl) rfl rfl (mv rfl) <| hCallF 7 [] [] rfl (by kernel_rfl) rfl (gd rfl rfl rfl rfl) rfl Try.func41 rfl rfl (value_Class_ok _) (aQ rfl <| aN) rN rfl (fun _ _ => flat_num) fun r15 n16 => hCallF 9 [] [] rfl (by kernel_rfl) rfl (gd rfl rfl rfl rfl) rfl Try.func42 rfl rfl (braidref05_Class_ok _) (aQ rfl <| aN) rN rfl (fun _ _ => flat_num) fun r17 n18 => hTake 10 rfl (by kernel_rfl) (by kernel_rfl) (by kernel_rfl) (gd rfl rfl rfl rfl) rfl rfl (B.eql rfl rfl) <| hTake 11 rfl (by kernel_rfl) (by kernel_rfl) (by kernel_rfl) (gd0 rfl) rfl rfl (pkT rfl rfl) <| hTake 12 rfl (by kernel_rfl) (by kernel_rfl) (by kernel_rfl) (gd0 rfl) rfl rfl (mv rfl) <| hIf 44 rfl rfl (fun h19 => ?_) (fun h19 => ?_)
        · skip
          refine hKn 42 rfl rfl h19 <| hKn 43 rfl rfl h19 <| hTake 13 rfl (by kernel_rfl) (by kernel_rfl) (by kernel_rfl) (gd rfl rfl rfl rfl) rfl rfl (mv rfl) <| hTake 15 rfl (by kernel_rfl) (by kernel_rfl) (by kernel_rfl) (gd rfl rfl rfl rfl) rfl rfl (mv rfl) <| hCallF 14 [] [] rfl (by kernel_rfl) rfl (gd rfl rfl rfl rfl) rfl Try.func43 rfl rfl (value_Canon_ok _) (aQ rfl <| aN) rN rfl (fun _ _ => flat_num) fun r20 n21 => hCallF 16 [] [] rfl (by kernel_rfl) rfl (gd rfl rfl rfl rfl) rfl Try.func44 rfl rfl (braidref05_Canon_ok _) (aQ rfl <| aN) rN rfl (fun _ _ => flat_num) fun r22 n23 => hTake 17 rfl (by kernel_rfl) (by kernel_rfl) (by kernel_rfl) (gd rfl rfl rfl rfl) rfl rfl (U.eql rfl rfl) <| hTake 18 rfl (by kernel_rfl) (by kernel_rfl) (by kernel_rfl) (gd0 rfl) rfl rfl (pkT rfl rfl) <| hTake 19 rfl (by kernel_rfl) (by kernel_rfl) (by kernel_rfl) (gd0 rfl) rfl rfl (mv rfl) <| hIf 51 rfl rfl (fun h24 => ?_) (fun h24 => ?_)
          · skip
            refine hKn 49 rfl rfl h24 <| hKn 50 rfl rfl h24 <| hTake 20 rfl (by kernel_rfl) (by kernel_rfl) (by kernel_rfl) (gd rfl rfl rfl rfl) rfl rfl (mv rfl) <| hTake 22 rfl (by kernel_rfl) (by kernel_rfl) (by kernel_rfl) (gd rfl rfl rfl rfl) rfl rfl (mv rfl) <| hTake 23 rfl (by kernel_rfl) (by kernel_rfl) (by kernel_rfl) (gd rfl rfl rfl rfl) rfl rfl (bld (x' := (⟨1, a2, 0, []⟩ : api_Value)) [(0, 1), (1, 1), (2, 1), (3, 1)] Try.underlying48 ti48 rfl zr48 rfl (Bld.cons (pt_api_Value_Kind _) rfl rfl <| Bld.cons (pt_api_Value_Num _) rfl rfl <| Bld.done rfl)) <| hCallJ 21 [] [] rfl (by kernel_rfl) rfl (gd rfl rfl rfl rfl) rfl Try.func45 rfl rfl (value_Number_ok _) (aQ rfl <| aN) rN rfl fun r25 n26 => hTakeF 24 rfl (by kernel_rfl) (by kernel_rfl) (by kernel_rfl) (gd rfl rfl rfl rfl) rfl rfl flat_bool (eqA rfl rfl eq48 rfl rfl gq48) <| hTake 25 rfl (by kernel_rfl) (by kernel_rfl) (by kernel_rfl) (gd0 rfl) rfl rfl (pkT rfl rfl) <| hTake 26 rfl (by kernel_rfl) (by kernel_rfl) (by kernel_rfl) (gd0 rfl) rfl rfl (mv rfl) <| hIf 58 rfl rfl (fun h27 => ?_) (fun h27 => ?_)
            · skip
              refine hKn 56 rfl rfl h27 <| hKn 57 rfl rfl h27 <| hTake 27 rfl (by kernel_rfl) (by kernel_rfl) (by kernel_rfl) (gd rfl rfl rfl rfl) rfl rfl (mv rfl) <| hTake 29 rfl (by kernel_rfl) (by kernel_rfl) (by kernel_rfl) (gd rfl rfl rfl rfl) rfl rfl (mv rfl) <| hCallJ 28 [] [] rfl (by kernel_rfl) rfl (gd rfl rfl rfl rfl) rfl Try.func46 rfl rfl (value_Float_ok _) (aQ rfl <| aN) rN rfl fun r28 n29 => hCallF 30 [] [] rfl (by kernel_rfl) rfl (gd rfl rfl rfl rfl) rfl Try.func44 rfl rfl (braidref05_Canon_ok _) (aQ rfl <| aN) rN rfl (fun _ _ => flat_num) fun r30 n31 => hTake 31 rfl (by kernel_rfl) (by kernel_rfl) (by kernel_rfl) (gd rfl rfl rfl rfl) rfl rfl (bld (x' := (⟨2, 0, r30, []⟩ : api_Value)) [(0, 1), (1, 1), (2, 1), (3, 1)] Try.underlying48 ti48 rfl zr48 rfl (Bld.cons (pt_api_Value_Kind _) rfl rfl <| Bld.cons (pt_api_Value_Bits _) rfl rfl <| Bld.done rfl)) <| hTakeF 32 rfl (by kernel_rfl) (by kernel_rfl) (by kernel_rfl) (gd rfl rfl rfl rfl) rfl rfl flat_bool (eqA rfl rfl eq48 rfl rfl gq48) <| hTake 33 rfl (by kernel_rfl) (by kernel_rfl) (by kernel_rfl) (gd0 rfl) rfl rfl (pkT rfl rfl) <| hTake 34 rfl (by kernel_rfl) (by kernel_rfl) (by kernel_rfl) (gd0 rfl) rfl rfl (mv rfl) <| hIf 66 rfl rfl (fun h32 => ?_) (fun h32 => ?_)
              · skip
                refine hKn 64 rfl rfl h32 <| hKn 65 rfl rfl h32 <| hTake 35 rfl (by kernel_rfl) (by kernel_rfl) (by kernel_rfl) (gd rfl rfl rfl rfl) rfl rfl (ld 2 rfl rfl Foc.here ty48 rfl) <| hTake 36 rfl (by kernel_rfl) (by kernel_rfl) (by kernel_rfl) (gd rfl rfl rfl rfl) rfl rfl (ld 3 rfl rfl Foc.here ty48 rfl) <| hTake 37 rfl (by kernel_rfl) (by kernel_rfl) (by kernel_rfl) (gd rfl rfl rfl rfl) rfl rfl (eqA rfl rfl eq48 rfl rfl gq48) <| hTake 38 rfl (by kernel_rfl) (by kernel_rfl) (by kernel_rfl) (gd0 rfl) rfl rfl (pkT rfl rfl) <| hTake 39 rfl (by kernel_rfl) (by kernel_rfl) (by kernel_rfl) (gd0 rfl) rfl rfl (mv rfl) <| hIf 71 rfl rfl (fun h33 => ?_) (fun h33 => ?_)
                · skip
                  refine hKn 69 rfl rfl h33 <| hKn 70 rfl rfl h33 <| hTake 40 rfl (by kernel_rfl) (by kernel_rfl) (by kernel_rfl) (gd rfl rfl rfl rfl) rfl rfl (mv rfl) <| hTake 41 rfl (by kernel_rfl) (by kernel_rfl) (by kernel_rfl) (gd rfl rfl rfl rfl) rfl rfl (mv rfl) <| hTake 42 rfl (by kernel_rfl) (by kernel_rfl) (by kernel_rfl) (gd rfl rfl rfl rfl) rfl rfl (I.eql rfl rfl) <| hTake 43 rfl (by kernel_rfl) (by kernel_rfl) (by kernel_rfl) (gd0 rfl) rfl rfl (pkT rfl rfl) <| hTake 44 rfl (by kernel_rfl) (by kernel_rfl) (by kernel_rfl) (gd0 rfl) rfl rfl (asg rfl) <| hDone (by kernel_rfl) <| eThen <| gRet <| eRet [] [] rfl (eE rfl <| eN) (rN)
                · skip
                  refine hKn 69 rfl rfl h33 <| hKn 70 rfl rfl h33 <| hSkip 40 rfl (by kernel_rfl) (by kernel_rfl) (by kernel_rfl) (gd rfl rfl rfl rfl) rfl rfl <| hSkip 41 rfl (by kernel_rfl) (by kernel_rfl) (by kernel_rfl) (gd rfl rfl rfl rfl) rfl rfl <| hSkip 42 rfl (by kernel_rfl) (by kernel_rfl) (by kernel_rfl) (gd rfl rfl rfl rfl) rfl rfl <| hTake 43 rfl (by kernel_rfl) (by kernel_rfl) (by kernel_rfl) (gd0 rfl) rfl rfl (pkF rfl rfl) <| hTake 44 rfl (by kernel_rfl) (by kernel_rfl) (by kernel_rfl) (gd0 rfl) rfl rfl (asg rfl) <| hDone (by kernel_rfl) <| eThen <| gRet <| eRet [] [] rfl (eE rfl <| eN) (rN)
              · skip
                refine hKn 64 rfl rfl h32 <| hKn 65 rfl rfl h32 <| hSkip 35 rfl (by kernel_rfl) (by kernel_rfl) (by kernel_rfl) (gd rfl rfl rfl rfl) rfl rfl <| hSkip 36 rfl (by kernel_rfl) (by kernel_rfl) (by kernel_rfl) (gd rfl rfl rfl rfl) rfl rfl <| hSkip 37 rfl (by kernel_rfl) (by kernel_rfl) (by kernel_rfl) (gd rfl rfl rfl rfl) rfl rfl <| hTake 38 rfl (by kernel_rfl) (by kernel_rfl) (by kernel_rfl) (gd0 rfl) rfl rfl (pkF rfl rfl) <| hTake 39 rfl (by kernel_rfl) (by kernel_rfl) (by kernel_rfl) (gd0 rfl) rfl rfl (mv rfl) <| hSkip 40 rfl (by kernel_rfl) (by kernel_rfl) (by kernel_rfl) (gd rfl rfl rfl rfl) rfl rfl <| hSkip 41 rfl (by kernel_rfl) (by kernel_rfl) (by kernel_rfl) (gd rfl rfl rfl rfl) rfl rfl <| hSkip 42 rfl (by kernel_rfl) (by kernel_rfl) (by kernel_rfl) (gd rfl rfl rfl rfl) rfl rfl <| hTake 43 rfl (by kernel_rfl) (by kernel_rfl) (by kernel_rfl) (gd0 rfl) rfl rfl (pkF rfl rfl) <| hTake 44 rfl (by kernel_rfl) (by kernel_rfl) (by kernel_rfl) (gd0 rfl) rfl rfl (asg rfl) <| hDone (by kernel_rfl) <| eThen <| gRet <| eRet [] [] rfl (eE rfl <| eN) (rN)
            · skip
              refine hKn 56 rfl rfl h27 <| hKn 57 rfl rfl h27 <| hSkip 27 rfl (by kernel_rfl) (by kernel_rfl) (by kernel_rfl) (gd rfl rfl rfl rfl) rfl rfl <| hSkip 28 rfl (by kernel_rfl) (by kernel_rfl) (by kernel_rfl) (gd rfl rfl rfl rfl) rfl rfl <| hSkip 29 rfl (by kernel_rfl) (by kernel_rfl) (by kernel_rfl) (gd rfl rfl rfl rfl) rfl rfl <| hSkip 30 rfl (by kernel_rfl) (by kernel_rfl) (by kernel_rfl) (gd rfl rfl rfl rfl) rfl rfl <| hSkip 31 rfl (by kernel_rfl) (by kernel_rfl) (by kernel_rfl) (gd rfl rfl rfl rfl) rfl rfl <| hSkip 32 rfl (by kernel_rfl) (by kernel_rfl) (by kernel_rfl) (gd rfl rfl rfl rfl) rfl rfl <| hTake 33 rfl (by kernel_rfl) (by kernel_rfl) (by kernel_rfl) (gd0 rfl) rfl rfl (pkF rfl rfl) <| hTake 34 rfl (by kernel_rfl) (by kernel_rfl) (by kernel_rfl) (gd0 rfl) rfl rfl (mv rfl) <| hSkip 35 rfl (by kernel_rfl) (by kernel_rfl) (by kernel_rfl) (gd rfl rfl rfl rfl) rfl rfl <| hSkip 36 rfl (by kernel_rfl) (by kernel_rfl) (by kernel_rfl) (gd rfl rfl rfl rfl) rfl rfl <| hSkip 37 rfl (by kernel_rfl) (by kernel_rfl) (by kernel_rfl) (gd rfl rfl rfl rfl) rfl rfl <| hTake 38 rfl (by kernel_rfl) (by kernel_rfl) (by kernel_rfl) (gd0 rfl) rfl rfl (pkF rfl rfl) <| hTake 39 rfl (by kernel_rfl) (by kernel_rfl) (by kernel_rfl) (gd0 rfl) rfl rfl (mv rfl) <| hSkip 40 rfl (by kernel_rfl) (by kernel_rfl) (by kernel_rfl) (gd rfl rfl rfl rfl) rfl rfl <| hSkip 41 rfl (by kernel_rfl) (by kernel_rfl) (by kernel_rfl) (gd rfl rfl rfl rfl) rfl rfl <| hSkip 42 rfl (by kernel_rfl) (by kernel_rfl) (by kernel_rfl) (gd rfl rfl rfl rfl) rfl rfl <| hTake 43 rfl (by kernel_rfl) (by kernel_rfl) (by kernel_rfl) (gd0 rfl) rfl rfl (pkF rfl rfl) <| hTake 44 rfl (by kernel_rfl) (by kernel_rfl) (by kernel_rfl) (gd0 rfl) rfl rfl (asg rfl) <| hDone (by kernel_rfl) <| eThen <| gRet <| eRet [] [] rfl (eE rfl <| eN) (rN)
          · skip
            refine hKn 49 rfl rfl h24 <| hKn 50 rfl rfl h24 <| hSkip 20 rfl (by kernel_rfl) (by kernel_rfl) (by kernel_rfl) (gd rfl rfl rfl rfl) rfl rfl <| hSkip 21 rfl (by kernel_rfl) (by kernel_rfl) (by kernel_rfl) (gd rfl rfl rfl rfl) rfl rfl <| hSkip 22 rfl (by kernel_rfl) (by kernel_rfl) (by kernel_rfl) (gd rfl rfl rfl rfl) rfl rfl <| hSkip 23 rfl (by kernel_rfl) (by kernel_rfl) (by kernel_rfl) (gd rfl rfl rfl rfl) rfl rfl <| hSkip 24 rfl (by kernel_rfl) (by kernel_rfl) (by kernel_rfl) (gd rfl rfl rfl rfl) rfl rfl <| hTake 25 rfl (by kernel_rfl) (by kernel_rfl) (by kernel_rfl) (gd0 rfl) rfl rfl (pkF rfl rfl) <| hTake 26 rfl (by kernel_rfl) (by kernel_rfl) (by kernel_rfl) (gd0 rfl) rfl rfl (mv rfl) <| hSkip 27 rfl (by kernel_rfl) (by kernel_rfl) (by kernel_rfl) (gd rfl rfl rfl rfl) rfl rfl <| hSkip 28 rfl (by kernel_rfl) (by kernel_rfl) (by kernel_rfl) (gd rfl rfl rfl rfl) rfl rfl <| hSkip 29 rfl (by kernel_rfl) (by kernel_rfl) (by kernel_rfl) (gd rfl rfl rfl rfl) rfl rfl <| hSkip 30 rfl (by kernel_rfl) (by kernel_rfl) (by kernel_rfl) (gd rfl rfl rfl rfl) rfl rfl <| hSkip 31 rfl (by kernel_rfl) (by kernel_rfl) (by kernel_rfl) (gd rfl rfl rfl rfl) rfl rfl <| hSkip 32 rfl (by kernel_rfl) (by kernel_rfl) (by kernel_rfl) (gd rfl rfl rfl rfl) rfl rfl <| hTake 33 rfl (by kernel_rfl) (by kernel_rfl) (by kernel_rfl) (gd0 rfl) rfl rfl (pkF rfl rfl) <| hTake 34 rfl (by kernel_rfl) (by kernel_rfl) (by kernel_rfl) (gd0 rfl) rfl rfl (mv rfl) <| hSkip 35 rfl (by kernel_rfl) (by kernel_rfl) (by kernel_rfl) (gd rfl rfl rfl rfl) rfl rfl <| hSkip 36 rfl (by kernel_rfl) (by kernel_rfl) (by kernel_rfl) (gd rfl rfl rfl rfl) rfl rfl <| hSkip 37 rfl (by kernel_rfl) (by kernel_rfl) (by kernel_rfl) (gd rfl rfl rfl rfl) rfl rfl <| hTake 38 rfl (by kernel_rfl) (by kernel_rfl) (by kernel_rfl) (gd0 rfl) rfl rfl (pkF rfl rfl) <| hTake 39 rfl (by kernel_rfl) (by kernel_rfl) (by kernel_rfl) (gd0 rfl) rfl rfl (mv rfl) <| hSkip 40 rfl (by kernel_rfl) (by kernel_rfl) (by kernel_rfl) (gd rfl rfl rfl rfl) rfl rfl <| hSkip 41 rfl (by kernel_rfl) (by kernel_rfl) (by kernel_rfl) (gd rfl rfl rfl rfl) rfl rfl <| hSkip 42 rfl (by kernel_rfl) (by kernel_rfl) (by kernel_rfl) (gd rfl rfl rfl rfl) rfl rfl <| hTake 43 rfl (by kernel_rfl) (by kernel_rfl) (by kernel_rfl) (gd0 rfl) rfl rfl (pkF rfl rfl) <| hTake 44 rfl (by kernel_rfl) (by kernel_rfl) (by kernel_rfl) (gd0 rfl) rfl rfl (asg rfl) <| hDone (by kernel_rfl) <| eThen <| gRet <| eRet [] [] rfl (eE rfl <| eN) (rN)
        · skip
          refine hKn 42 rfl rfl h19 <| hKn 43 rfl rfl h19 <| hSkip 13 rfl (by kernel_rfl) (by kernel_rfl) (by kernel_rfl) (gd rfl rfl rfl rfl) rfl rfl <| hSkip 14 rfl (by kernel_rfl) (by kernel_rfl) (by kernel_rfl) (gd rfl rfl rfl rfl) rfl rfl <| hSkip 15 rfl (by kernel_rfl) (by kernel_rfl) (by kernel_rfl) (gd rfl rfl rfl rfl) rfl rfl <| hSkip 16 rfl (by kernel_rfl) (by kernel_rfl) (by kernel_rfl) (gd rfl rfl rfl rfl) rfl rfl <| hSkip 17 rfl (by kernel_rfl) (by kernel_rfl) (by kernel_rfl) (gd rfl rfl rfl rfl) rfl rfl <| hTake 18 rfl (by kernel_rfl) (by kernel_rfl) (by kernel_rfl) (gd0 rfl) rfl rfl (pkF rfl rfl) <| hTake 19 rfl (by kernel_rfl) (by kernel_rfl) (by kernel_rfl) (gd0 rfl) rfl rfl (mv rfl) <| hSkip 20 rfl (by kernel_rfl) (by kernel_rfl) (by kernel_rfl) (gd rfl rfl rfl rfl) rfl rfl <| hSkip 21 rfl (by kernel_rfl) (by kernel_rfl) (by kernel_rfl) (gd rfl rfl rfl rfl) rfl rfl <| hSkip 22 rfl (by kernel_rfl) (by kernel_rfl) (by kernel_rfl) (gd rfl rfl rfl rfl) rfl rfl <| hSkip 23 rfl (by kernel_rfl) (by kernel_rfl) (by kernel_rfl) (gd rfl rfl rfl rfl) rfl rfl <| hSkip 24 rfl (by kernel_rfl) (by kernel_rfl) (by kernel_rfl) (gd rfl rfl rfl rfl) rfl rfl <| hTake 25 rfl (by kernel_rfl) (by kernel_rfl) (by kernel_rfl) (gd0 rfl) rfl rfl (pkF rfl rfl) <| hTake 26 rfl (by kernel_rfl) (by kernel_rfl) (by kernel_rfl) (gd0 rfl) rfl rfl (mv rfl) <| hSkip 27 rfl (by kernel_rfl) (by kernel_rfl) (by kernel_rfl) (gd rfl rfl rfl rfl) rfl rfl <| hSkip 28 rfl (by kernel_rfl) (by kernel_rfl) (by kernel_rfl) (gd rfl rfl rfl rfl) rfl rfl <| hSkip 29 rfl (by kernel_rfl) (by kernel_rfl) (by kernel_rfl) (gd rfl rfl rfl rfl) rfl rfl <| hSkip 30 rfl (by kernel_rfl) (by kernel_rfl) (by kernel_rfl) (gd rfl rfl rfl rfl) rfl rfl <| hSkip 31 rfl (by kernel_rfl) (by kernel_rfl) (by kernel_rfl) (gd rfl rfl rfl rfl) rfl rfl <| hSkip 32 rfl (by kernel_rfl) (by kernel_rfl) (by kernel_rfl) (gd rfl rfl rfl rfl) rfl rfl <| hTake 33 rfl (by kernel_rfl) (by kernel_rfl) (by kernel_rfl) (gd0 rfl) rfl rfl (pkF rfl rfl) <| hTake 34 rfl (by kernel_rfl) (by kernel_rfl) (by kernel_rfl) (gd0 rfl) rfl rfl (mv rfl) <| hSkip 35 rfl (by kernel_rfl) (by kernel_rfl) (by kernel_rfl) (gd rfl rfl rfl rfl) rfl rfl <| hSkip 36 rfl (by kernel_rfl) (by kernel_rfl) (by kernel_rfl) (gd rfl rfl rfl rfl) rfl rfl <| hSkip 37 rfl (by kernel_rfl) (by kernel_rfl) (by kernel_rfl) (gd rfl rfl rfl rfl) rfl rfl <| hTake 38 rfl (by kernel_rfl) (by kernel_rfl) (by kernel_rfl) (gd0 rfl) rfl rfl (pkF rfl rfl) <| hTake 39 rfl (by kernel_rfl) (by kernel_rfl) (by kernel_rfl) (gd0 rfl) rfl rfl (mv rfl) <| hSkip 40 rfl (by kernel_rfl) (by kernel_rfl) (by kernel_rfl) (gd rfl rfl rfl rfl) rfl rfl <| hSkip 41 rfl (by kernel_rfl) (by kernel_rfl) (by kernel_rfl) (gd rfl rfl rfl rfl) rfl rfl <| hSkip 42 rfl (by kernel_rfl) (by kernel_rfl) (by kernel_rfl) (gd rfl rfl rfl rfl) rfl rfl <| hTake 43 rfl (by kernel_rfl) (by kernel_rfl) (by kernel_rfl) (gd0 rfl) rfl rfl (pkF rfl rfl) <| hTake 44 rfl (by kernel_rfl) (by kernel_rfl) (by kernel_rfl) (gd0 rfl) rfl rfl (asg rfl) <| hDone (by kernel_rfl) <| eThen <| gRet <| eRet [] [] rfl (eE rfl <| eN) (rN)
      · skip
        refine hKn 36 rfl rfl h14 <| hSkip 6 rfl (by kernel_rfl) (by kernel_rfl) (by kernel_rfl) (gd rfl rfl rfl rfl) rfl rfl <| hSkip 7 rfl (by kernel_rfl) (by kernel_rfl) (by kernel_rfl) (gd rfl rfl rfl rfl) rfl rfl <| hSkip 8 rfl (by kernel_rfl) (by kernel_rfl) (by kernel_rfl) (gd rfl rfl rfl rfl) rfl rfl <| hSkip 9 rfl (by kernel_rfl) (by kernel_rfl) (by kernel_rfl) (gd rfl rfl rfl rfl) rfl rfl <| hSkip 10 rfl (by kernel_rfl) (by kernel_rfl) (by kernel_rfl) (gd rfl rfl rfl rfl) rfl rfl <| hTake 11 rfl (by kernel_rfl) (by kernel_rfl) (by kernel_rfl) (gd0 rfl) rfl rfl (pkF rfl rfl) <| hTake 12 rfl (by kernel_rfl) (by kernel_rfl) (by kernel_rfl) (gd0 rfl) rfl rfl (mv rfl) <| hSkip 13 rfl (by kernel_rfl) (by kernel_rfl) (by kernel_rfl) (gd rfl rfl rfl rfl) rfl rfl <| hSkip 14 rfl (by kernel_rfl) (by kernel_rfl) (by kernel_rfl) (gd rfl rfl rfl rfl) rfl rfl <| hSkip 15 rfl (by kernel_rfl) (by kernel_rfl) (by kernel_rfl) (gd rfl rfl rfl rfl) rfl rfl <| hSkip 16 rfl (by kernel_rfl) (by kernel_rfl) (by kernel_rfl) (gd rfl rfl rfl rfl) rfl rfl <| hSkip 17 rfl (by kernel_rfl) (by kernel_rfl) (by kernel_rfl) (gd rfl rfl rfl rfl) rfl rfl <| hTake 18 rfl (by kernel_rfl) (by kernel_rfl) (by kernel_rfl) (gd0 rfl) rfl rfl (pkF rfl rfl) <| hTake 19 rfl (by kernel_rfl) (by kernel_rfl) (by kernel_rfl) (gd0 rfl) rfl rfl (mv rfl) <| hSkip 20 rfl (by kernel_rfl) (by kernel_rfl) (by kernel_rfl) (gd rfl rfl rfl rfl) rfl rfl <| hSkip 21 rfl (by kernel_rfl) (by kernel_rfl) (by kernel_rfl) (gd rfl rfl rfl rfl) rfl rfl <| hSkip 22 rfl (by kernel_rfl) (by kernel_rfl) (by kernel_rfl) (gd rfl rfl rfl rfl) rfl rfl <| hSkip 23 rfl (by kernel_rfl) (by kernel_rfl) (by kernel_rfl) (gd rfl rfl rfl rfl) rfl rfl <| hSkip 24 rfl (by kernel_rfl) (by kernel_rfl) (by kernel_rfl) (gd rfl rfl rfl rfl) rfl rfl <| hTake 25 rfl (by kernel_rfl) (by kernel_rfl) (by kernel_rfl) (gd0 rfl) rfl rfl (pkF rfl rfl) <| hTake 26 rfl (by kernel_rfl) (by kernel_rfl) (by kernel_rfl) (gd0 rfl) rfl rfl (mv rfl) <| hSkip 27 rfl (by kernel_rfl) (by kernel_rfl) (by kernel_rfl) (gd rfl rfl rfl rfl) rfl rfl <| hSkip 28 rfl (by kernel_rfl) (by kernel_rfl) (by kernel_rfl) (gd rfl rfl rfl rfl) rfl rfl <| hSkip 29 rfl (by kernel_rfl) (by kernel_rfl) (by kernel_rfl) (gd rfl rfl rfl rfl) rfl rfl <| hSkip 30 rfl (by kernel_rfl) (by kernel_rfl) (by kernel_rfl) (gd rfl rfl rfl rfl) rfl rfl <| hSkip 31 rfl (by kernel_rfl) (by kernel_rfl) (by kernel_rfl) (gd rfl rfl rfl rfl) rfl rfl <| hSkip 32 rfl (by kernel_rfl) (by kernel_rfl) (by kernel_rfl) (gd rfl rfl rfl rfl) rfl rfl <| hTake 33 rfl (by kernel_rfl) (by kernel_rfl) (by kernel_rfl) (gd0 rfl) rfl rfl (pkF rfl rfl) <| hTake 34 rfl (by kernel_rfl) (by kernel_rfl) (by kernel_rfl) (gd0 rfl) rfl rfl (mv rfl) <| hSkip 35 rfl (by kernel_rfl) (by kernel_rfl) (by kernel_rfl) (gd rfl rfl rfl rfl) rfl rfl <| hSkip 36 rfl (by kernel_rfl) (by kernel_rfl) (by kernel_rfl) (gd rfl rfl rfl rfl) rfl rfl <| hSkip 37 rfl (by kernel_rfl) (by kernel_rfl) (by kernel_rfl) (gd rfl rfl rfl rfl) rfl rfl <| hTake 38 rfl (by kernel_rfl) (by kernel_rfl) (by kernel_rfl) (gd0 rfl) rfl rfl (pkF rfl rfl) <| hTake 39 rfl (by kernel_rfl) (by kernel_rfl) (by kernel_rfl) (gd0 rfl) rfl rfl (mv rfl) <| hSkip 40 rfl (by kernel_rfl) (by kernel_rfl) (by kernel_rfl) (gd rfl rfl rfl rfl) rfl rfl <| hSkip 41 rfl (by kernel_rfl) (by kernel_rfl) (by kernel_rfl) (gd rfl rfl rfl rfl) rfl rfl <| hSkip 42 rfl (by kernel_rfl) (by kernel_rfl) (by kernel_rfl) (gd rfl rfl rfl rfl) rfl rfl <| hTake 43 rfl (by kernel_rfl) (by kernel_rfl) (by kernel_rfl) (gd0 rfl) rfl rfl (pkF rfl rfl) <| hTake 44 rfl (by kernel_rfl) (by kernel_rfl) (by kernel_rfl) (gd0 rfl) rfl rfl (asg rfl) <| hDone (by kernel_rfl) <| eThen <| gRet <| eRet [] [] rfl (eE rfl <| eN) (rN)

end Go.Proofs.Ytklfgpdfongaeaa
