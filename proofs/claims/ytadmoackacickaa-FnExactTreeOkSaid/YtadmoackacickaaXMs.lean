import Derived.Test.YtadmoackacickaaXCore
namespace Go.Proofs.Ytadmoackacickaa
open Go Go.AH
def M3 : Masks := ⟨[(7, [0, 3, 4, 5, 6]), (18, [6, 9])], []⟩
def M4 : Masks := ⟨[], []⟩
def M14 : Masks := ⟨[(9, [0, 5, 6, 7]), (10, [0, 5, 6]), (12, [0, 5, 6])], [(5, [0, 5, 6]), (10, [0, 5, 6])]⟩
def M15 : Masks := ⟨[(7, [0, 5, 6]), (14, [0, 5, 6, 7])], [(5, [0, 5, 6])]⟩
def M16 : Masks := ⟨[], [(4, [0, 1, 5])]⟩
def M17 : Masks := ⟨[], [(2, [0, 1, 5])]⟩
def M18 : Masks := ⟨[], [(2, [0, 1, 5])]⟩
def M19 : Masks := ⟨[], []⟩
def M20 : Masks := ⟨[], []⟩
def M21 : Masks := ⟨[], []⟩
def M22 : Masks := ⟨[(4, [1, 3]), (100003, [1, 3, 31])], [(5, [1, 3, 34, 35])]⟩
def M23 : Masks := ⟨[], []⟩
def M32 : Masks := ⟨[], [(4, [0, 1, 5])]⟩
def M50 : Masks := ⟨[(12, [4, 7, 8]), (18, [0, 1, 4, 7, 8]), (31, [0, 1, 4, 7, 8]), (40, [1, 4, 8, 10, 11, 12])], [(4, [0, 1, 4, 7, 8]), (14, [0, 1, 4, 7, 8]), (21, [0, 4, 7, 8, 9]), (27, [0, 1, 4, 7, 8]), (36, [0, 1, 4, 8, 10, 11])]⟩
def M51 : Masks := ⟨[], [(1, [0, 1, 2])]⟩
def M52 : Masks := ⟨[], []⟩
def M53 : Masks := ⟨[(8, [4, 8]), (16, [0, 1, 4, 11]), (25, [0, 1, 4, 7]), (44, [4])], []⟩
def M54 : Masks := ⟨[], []⟩
def M55 : Masks := ⟨[], [(4, [0, 3])]⟩
def M56 : Masks := ⟨[], [(5, [0, 1, 5])]⟩
def M57 : Masks := ⟨[(3, [1, 2, 3, 4, 5]), (6, [1, 2, 3, 4, 5, 12, 13]), (8, [1, 3, 4, 5, 12, 13]), (11, [1, 3, 4, 5, 12, 14]), (100002, [1, 2, 3, 4, 5, 31]), (100010, [1, 3, 4, 5, 12, 14, 69])], [(12, [1, 3, 4, 5, 12, 14, 16])]⟩
def M58 : Masks := ⟨[], [(3, [0, 3, 4])]⟩
def M59 : Masks := ⟨[], [(3, [0, 1, 5, 16, 17, 18])]⟩
def M60 : Masks := ⟨[], [(2, [0, 1, 2, 16, 17, 18])]⟩
def M61 : Masks := ⟨[], [(4, [0, 1, 5])]⟩
def M87 : Masks := ⟨[], []⟩
def M88 : Masks := ⟨[], []⟩
def M89 : Masks := ⟨[], []⟩
def M90 : Masks := ⟨[], []⟩
def M91 : Masks := ⟨[], []⟩
def M92 : Masks := ⟨[], []⟩
def M93 : Masks := ⟨[], []⟩
def M94 : Masks := ⟨[], []⟩
def M95 : Masks := ⟨[(5, [0, 1, 4, 6, 7])], [(6, [0, 4, 6, 7, 8])]⟩
def M96 : Masks := ⟨[], []⟩
def M97 : Masks := ⟨[], []⟩
def M98 : Masks := ⟨[], []⟩
def M99 : Masks := ⟨[(100002, [0, 3]), (100004, [0, 10]), (100010, [23])], []⟩
def M100 : Masks := ⟨[(39, [4, 5, 6]), (42, [4, 5, 6, 7]), (100016, [4, 5, 6, 13, 29]), (100026, [4, 5, 6, 13, 46])], [(6, [4, 5, 6]), (19, [4, 5, 6]), (40, [4, 5, 6, 7])]⟩
def M101 : Masks := ⟨[(14, [1]), (100006, [1, 5, 6])], [(9, [1, 3])]⟩
def M102 : Masks := ⟨[], []⟩
def M103 : Masks := ⟨[], []⟩
def M104 : Masks := ⟨[(17, [1]), (100006, [1, 4, 5])], []⟩
def M105 : Masks := ⟨[(100009, [0, 3, 5, 9, 10]), (100020, [0, 3, 5, 9, 59]), (100028, [0, 3, 5, 9, 81])], []⟩
def M106 : Masks := ⟨[], []⟩
def M118 : Masks := ⟨[], [(2, [0, 1, 5])]⟩
def M143 : Masks := ⟨[], []⟩
def M144 : Masks := ⟨[], []⟩
def M145 : Masks := ⟨[(3, [0]), (100002, [0, 11])], [(4, [0, 3])]⟩
def M146 : Masks := ⟨[], [(3, [0, 3, 4])]⟩
def M147 : Masks := ⟨[], []⟩
def M148 : Masks := ⟨[], []⟩
def M149 : Masks := ⟨[], []⟩
def M150 : Masks := ⟨[], []⟩
def M151 : Masks := ⟨[], [(4, [0, 4, 15, 16, 17])]⟩
def M152 : Masks := ⟨[], []⟩
def M153 : Masks := ⟨[], []⟩
def M185 : Masks := ⟨[], []⟩
def M186 : Masks := ⟨[], []⟩
def M187 : Masks := ⟨[], []⟩
def M202 : Masks := ⟨[], [(2, [0, 1, 7, 8])]⟩
theorem hk0_app {R : Type} (i : Nat) (t : Tm) (h : AHeap) (x : Nx R) : hk0 i t h x = x t h := rfl
def Ms (k : Nat) : Masks :=
  (bif Nat.blt k 92 then (bif Nat.blt k 52 then (bif Nat.blt k 19 then (bif Nat.blt k 15 then (bif Nat.blt k 4 then (bif Nat.beq k 3 then M3 else ⟨[], []⟩) else (bif Nat.blt k 14 then (bif Nat.beq k 4 then M4 else ⟨[], []⟩) else (bif Nat.beq k 14 then M14 else ⟨[], []⟩))) else (bif Nat.blt k 17 then (bif Nat.blt k 16 then (bif Nat.beq k 15 then M15 else ⟨[], []⟩) else (bif Nat.beq k 16 then M16 else ⟨[], []⟩)) else (bif Nat.blt k 18 then (bif Nat.beq k 17 then M17 else ⟨[], []⟩) else (bif Nat.beq k 18 then M18 else ⟨[], []⟩)))) else (bif Nat.blt k 23 then (bif Nat.blt k 21 then (bif Nat.blt k 20 then (bif Nat.beq k 19 then M19 else ⟨[], []⟩) else (bif Nat.beq k 20 then M20 else ⟨[], []⟩)) else (bif Nat.blt k 22 then (bif Nat.beq k 21 then M21 else ⟨[], []⟩) else (bif Nat.beq k 22 then M22 else ⟨[], []⟩))) else (bif Nat.blt k 50 then (bif Nat.blt k 32 then (bif Nat.beq k 23 then M23 else ⟨[], []⟩) else (bif Nat.beq k 32 then M32 else ⟨[], []⟩)) else (bif Nat.blt k 51 then (bif Nat.beq k 50 then M50 else ⟨[], []⟩) else (bif Nat.beq k 51 then M51 else ⟨[], []⟩))))) else (bif Nat.blt k 59 then (bif Nat.blt k 55 then (bif Nat.blt k 53 then (bif Nat.beq k 52 then M52 else ⟨[], []⟩) else (bif Nat.blt k 54 then (bif Nat.beq k 53 then M53 else ⟨[], []⟩) else (bif Nat.beq k 54 then M54 else ⟨[], []⟩))) else (bif Nat.blt k 57 then (bif Nat.blt k 56 then (bif Nat.beq k 55 then M55 else ⟨[], []⟩) else (bif Nat.beq k 56 then M56 else ⟨[], []⟩)) else (bif Nat.blt k 58 then (bif Nat.beq k 57 then M57 else ⟨[], []⟩) else (bif Nat.beq k 58 then M58 else ⟨[], []⟩)))) else (bif Nat.blt k 88 then (bif Nat.blt k 61 then (bif Nat.blt k 60 then (bif Nat.beq k 59 then M59 else ⟨[], []⟩) else (bif Nat.beq k 60 then M60 else ⟨[], []⟩)) else (bif Nat.blt k 87 then (bif Nat.beq k 61 then M61 else ⟨[], []⟩) else (bif Nat.beq k 87 then M87 else ⟨[], []⟩))) else (bif Nat.blt k 90 then (bif Nat.blt k 89 then (bif Nat.beq k 88 then M88 else ⟨[], []⟩) else (bif Nat.beq k 89 then M89 else ⟨[], []⟩)) else (bif Nat.blt k 91 then (bif Nat.beq k 90 then M90 else ⟨[], []⟩) else (bif Nat.beq k 91 then M91 else ⟨[], []⟩)))))) else (bif Nat.blt k 118 then (bif Nat.blt k 99 then (bif Nat.blt k 95 then (bif Nat.blt k 93 then (bif Nat.beq k 92 then M92 else ⟨[], []⟩) else (bif Nat.blt k 94 then (bif Nat.beq k 93 then M93 else ⟨[], []⟩) else (bif Nat.beq k 94 then M94 else ⟨[], []⟩))) else (bif Nat.blt k 97 then (bif Nat.blt k 96 then (bif Nat.beq k 95 then M95 else ⟨[], []⟩) else (bif Nat.beq k 96 then M96 else ⟨[], []⟩)) else (bif Nat.blt k 98 then (bif Nat.beq k 97 then M97 else ⟨[], []⟩) else (bif Nat.beq k 98 then M98 else ⟨[], []⟩)))) else (bif Nat.blt k 103 then (bif Nat.blt k 101 then (bif Nat.blt k 100 then (bif Nat.beq k 99 then M99 else ⟨[], []⟩) else (bif Nat.beq k 100 then M100 else ⟨[], []⟩)) else (bif Nat.blt k 102 then (bif Nat.beq k 101 then M101 else ⟨[], []⟩) else (bif Nat.beq k 102 then M102 else ⟨[], []⟩))) else (bif Nat.blt k 105 then (bif Nat.blt k 104 then (bif Nat.beq k 103 then M103 else ⟨[], []⟩) else (bif Nat.beq k 104 then M104 else ⟨[], []⟩)) else (bif Nat.blt k 106 then (bif Nat.beq k 105 then M105 else ⟨[], []⟩) else (bif Nat.beq k 106 then M106 else ⟨[], []⟩))))) else (bif Nat.blt k 150 then (bif Nat.blt k 146 then (bif Nat.blt k 144 then (bif Nat.blt k 143 then (bif Nat.beq k 118 then M118 else ⟨[], []⟩) else (bif Nat.beq k 143 then M143 else ⟨[], []⟩)) else (bif Nat.blt k 145 then (bif Nat.beq k 144 then M144 else ⟨[], []⟩) else (bif Nat.beq k 145 then M145 else ⟨[], []⟩))) else (bif Nat.blt k 148 then (bif Nat.blt k 147 then (bif Nat.beq k 146 then M146 else ⟨[], []⟩) else (bif Nat.beq k 147 then M147 else ⟨[], []⟩)) else (bif Nat.blt k 149 then (bif Nat.beq k 148 then M148 else ⟨[], []⟩) else (bif Nat.beq k 149 then M149 else ⟨[], []⟩)))) else (bif Nat.blt k 185 then (bif Nat.blt k 152 then (bif Nat.blt k 151 then (bif Nat.beq k 150 then M150 else ⟨[], []⟩) else (bif Nat.beq k 151 then M151 else ⟨[], []⟩)) else (bif Nat.blt k 153 then (bif Nat.beq k 152 then M152 else ⟨[], []⟩) else (bif Nat.beq k 153 then M153 else ⟨[], []⟩))) else (bif Nat.blt k 187 then (bif Nat.blt k 186 then (bif Nat.beq k 185 then M185 else ⟨[], []⟩) else (bif Nat.beq k 186 then M186 else ⟨[], []⟩)) else (bif Nat.blt k 202 then (bif Nat.beq k 187 then M187 else ⟨[], []⟩) else (bif Nat.beq k 202 then M202 else ⟨[], []⟩)))))))
end Go.Proofs.Ytadmoackacickaa
