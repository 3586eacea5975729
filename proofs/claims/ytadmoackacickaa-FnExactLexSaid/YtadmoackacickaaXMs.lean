import Derived.Test.YtadmoackacickaaXCore
namespace Go.Proofs.Ytadmoackacickaa
open Go Go.AH
def M3 : Masks := ⟨[(7, [0, 3, 4, 5, 6]), (18, [6, 9])], []⟩
def M14 : Masks := ⟨[(9, [0, 5, 6, 7]), (10, [0, 5, 6]), (12, [0, 5, 6])], [(5, [0, 5, 6]), (10, [0, 5, 6])]⟩
def M15 : Masks := ⟨[(7, [0, 5, 6]), (14, [0, 5, 6, 7])], [(5, [0, 5, 6])]⟩
def M16 : Masks := ⟨[], [(4, [0, 1, 5])]⟩
def M17 : Masks := ⟨[], [(2, [0, 1, 5])]⟩
def M18 : Masks := ⟨[], [(2, [0, 1, 5])]⟩
def M50 : Masks := ⟨[(12, [4, 7, 8]), (18, [0, 1, 4, 7, 8]), (31, [0, 1, 4, 7, 8]), (40, [1, 4, 8, 10, 11, 12])], [(4, [0, 1, 4, 7, 8]), (14, [0, 1, 4, 7, 8]), (21, [0, 4, 7, 8, 9]), (27, [0, 1, 4, 7, 8]), (36, [0, 1, 4, 8, 10, 11])]⟩
def M51 : Masks := ⟨[], [(1, [0, 1, 2])]⟩
def M52 : Masks := ⟨[], []⟩
def M53 : Masks := ⟨[(8, [4, 8]), (16, [0, 1, 4, 11]), (25, [0, 1, 4, 7]), (44, [4])], []⟩
def M54 : Masks := ⟨[], []⟩
def M55 : Masks := ⟨[], [(4, [0, 3])]⟩
def M87 : Masks := ⟨[], []⟩
def M88 : Masks := ⟨[], []⟩
def M89 : Masks := ⟨[], []⟩
def M90 : Masks := ⟨[], []⟩
def M91 : Masks := ⟨[], []⟩
def M92 : Masks := ⟨[], []⟩
def M93 : Masks := ⟨[], []⟩
def M94 : Masks := ⟨[], []⟩
def M95 : Masks := ⟨[(5, [0, 1, 4, 6, 7])], [(6, [0, 4, 6, 7, 8])]⟩
def M96 : Masks := ⟨[], []⟩
def M118 : Masks := ⟨[], [(2, [0, 1, 5])]⟩
def M143 : Masks := ⟨[], []⟩
theorem hk0_app {R : Type} (i : Nat) (t : Tm) (h : AHeap) (x : Nx R) : hk0 i t h x = x t h := rfl
def Ms (k : Nat) : Masks :=
  (bif Nat.blt k 87 then (bif Nat.blt k 50 then (bif Nat.blt k 16 then (bif Nat.blt k 14 then (bif Nat.beq k 3 then M3 else ⟨[], []⟩) else (bif Nat.blt k 15 then (bif Nat.beq k 14 then M14 else ⟨[], []⟩) else (bif Nat.beq k 15 then M15 else ⟨[], []⟩))) else (bif Nat.blt k 17 then (bif Nat.beq k 16 then M16 else ⟨[], []⟩) else (bif Nat.blt k 18 then (bif Nat.beq k 17 then M17 else ⟨[], []⟩) else (bif Nat.beq k 18 then M18 else ⟨[], []⟩)))) else (bif Nat.blt k 53 then (bif Nat.blt k 51 then (bif Nat.beq k 50 then M50 else ⟨[], []⟩) else (bif Nat.blt k 52 then (bif Nat.beq k 51 then M51 else ⟨[], []⟩) else (bif Nat.beq k 52 then M52 else ⟨[], []⟩))) else (bif Nat.blt k 54 then (bif Nat.beq k 53 then M53 else ⟨[], []⟩) else (bif Nat.blt k 55 then (bif Nat.beq k 54 then M54 else ⟨[], []⟩) else (bif Nat.beq k 55 then M55 else ⟨[], []⟩))))) else (bif Nat.blt k 93 then (bif Nat.blt k 90 then (bif Nat.blt k 88 then (bif Nat.beq k 87 then M87 else ⟨[], []⟩) else (bif Nat.blt k 89 then (bif Nat.beq k 88 then M88 else ⟨[], []⟩) else (bif Nat.beq k 89 then M89 else ⟨[], []⟩))) else (bif Nat.blt k 91 then (bif Nat.beq k 90 then M90 else ⟨[], []⟩) else (bif Nat.blt k 92 then (bif Nat.beq k 91 then M91 else ⟨[], []⟩) else (bif Nat.beq k 92 then M92 else ⟨[], []⟩)))) else (bif Nat.blt k 96 then (bif Nat.blt k 94 then (bif Nat.beq k 93 then M93 else ⟨[], []⟩) else (bif Nat.blt k 95 then (bif Nat.beq k 94 then M94 else ⟨[], []⟩) else (bif Nat.beq k 95 then M95 else ⟨[], []⟩))) else (bif Nat.blt k 118 then (bif Nat.beq k 96 then M96 else ⟨[], []⟩) else (bif Nat.blt k 143 then (bif Nat.beq k 118 then M118 else ⟨[], []⟩) else (bif Nat.beq k 143 then M143 else ⟨[], []⟩))))))
end Go.Proofs.Ytadmoackacickaa
