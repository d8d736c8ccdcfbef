/-
  What the run stands on: the program, the cells of the package-level variables that it reads, the functions that are known.
-/
import Derived.Test.YtjhaaapgkaknoaaGreatDoorEvZ
import Derived.Test.YtjhaaapgkaknoaaGreatDoorChecked

set_option maxRecDepth 100000
namespace Go.Proofs.YtjhaaapgkaknoaaGreatDoor
open Go Go.Ev Go.RowKit
noncomputable section

/- ### What the run stands on -/
noncomputable def extF (f : FuncId) : Option Ext := bif Nat.beq f 239 then some .same else bif Nat.beq f 364 then some .indexByte else bif Nat.beq f 310 then some .count else bif Nat.beq f 175 then some .clone else none
noncomputable def tab0 : List AV := [.iface 489 (.gptr 100 0)]
noncomputable def tab2 : List AV := [.int .u32 (.ofNat 1779033703), .int .u32 (.ofNat 3144134277), .int .u32 (.ofNat 1013904242), .int .u32 (.ofNat 2773480762), .int .u32 (.ofNat 1359893119), .int .u32 (.ofNat 2600822924), .int .u32 (.ofNat 528734635), .int .u32 (.ofNat 1541459225)]
noncomputable def tab3 : List AV := [.int .u64 (.ofNat 1), .int .u64 (.ofNat 10), .int .u64 (.ofNat 100), .int .u64 (.ofNat 1000), .int .u64 (.ofNat 10000), .int .u64 (.ofNat 100000), .int .u64 (.ofNat 1000000), .int .u64 (.ofNat 10000000), .int .u64 (.ofNat 100000000), .int .u64 (.ofNat 1000000000), .int .u64 (.ofNat 10000000000), .int .u64 (.ofNat 100000000000), .int .u64 (.ofNat 1000000000000), .int .u64 (.ofNat 10000000000000), .int .u64 (.ofNat 100000000000000), .int .u64 (.ofNat 1000000000000000), .int .u64 (.ofNat 10000000000000000), .int .u64 (.ofNat 100000000000000000), .int .u64 (.ofNat 1000000000000000000), .int .u64 (.ofNat 10000000000000000000)]
noncomputable def tab4 : List AV := [.int .u32 (.ofNat 1116352408), .int .u32 (.ofNat 1899447441), .int .u32 (.ofNat 3049323471), .int .u32 (.ofNat 3921009573), .int .u32 (.ofNat 961987163), .int .u32 (.ofNat 1508970993), .int .u32 (.ofNat 2453635748), .int .u32 (.ofNat 2870763221), .int .u32 (.ofNat 3624381080), .int .u32 (.ofNat 310598401), .int .u32 (.ofNat 607225278), .int .u32 (.ofNat 1426881987), .int .u32 (.ofNat 1925078388), .int .u32 (.ofNat 2162078206), .int .u32 (.ofNat 2614888103), .int .u32 (.ofNat 3248222580), .int .u32 (.ofNat 3835390401), .int .u32 (.ofNat 4022224774), .int .u32 (.ofNat 264347078), .int .u32 (.ofNat 604807628), .int .u32 (.ofNat 770255983), .int .u32 (.ofNat 1249150122), .int .u32 (.ofNat 1555081692), .int .u32 (.ofNat 1996064986), .int .u32 (.ofNat 2554220882), .int .u32 (.ofNat 2821834349), .int .u32 (.ofNat 2952996808), .int .u32 (.ofNat 3210313671), .int .u32 (.ofNat 3336571891), .int .u32 (.ofNat 3584528711), .int .u32 (.ofNat 113926993), .int .u32 (.ofNat 338241895), .int .u32 (.ofNat 666307205), .int .u32 (.ofNat 773529912), .int .u32 (.ofNat 1294757372), .int .u32 (.ofNat 1396182291), .int .u32 (.ofNat 1695183700), .int .u32 (.ofNat 1986661051), .int .u32 (.ofNat 2177026350), .int .u32 (.ofNat 2456956037), .int .u32 (.ofNat 2730485921), .int .u32 (.ofNat 2820302411), .int .u32 (.ofNat 3259730800), .int .u32 (.ofNat 3345764771), .int .u32 (.ofNat 3516065817), .int .u32 (.ofNat 3600352804), .int .u32 (.ofNat 4094571909), .int .u32 (.ofNat 275423344), .int .u32 (.ofNat 430227734), .int .u32 (.ofNat 506948616), .int .u32 (.ofNat 659060556), .int .u32 (.ofNat 883997877), .int .u32 (.ofNat 958139571), .int .u32 (.ofNat 1322822218), .int .u32 (.ofNat 1537002063), .int .u32 (.ofNat 1747873779), .int .u32 (.ofNat 1955562222), .int .u32 (.ofNat 2024104815), .int .u32 (.ofNat 2227730452), .int .u32 (.ofNat 2361852424), .int .u32 (.ofNat 2428436474), .int .u32 (.ofNat 2756734187), .int .u32 (.ofNat 3204031479), .int .u32 (.ofNat 3329325298)]
noncomputable def tab5 : List AV := [.str 4 1819047278, .str 5 435728179558, .str 4 1702195828]
noncomputable def tab6 : List AV := [.int .u32 (.ofNat 0), .int .u32 (.ofNat 498536548), .int .u32 (.ofNat 997073096), .int .u32 (.ofNat 651767980), .int .u32 (.ofNat 1994146192), .int .u32 (.ofNat 1802195444), .int .u32 (.ofNat 1303535960), .int .u32 (.ofNat 1342533948), .int .u32 (.ofNat 3988292384), .int .u32 (.ofNat 4027552580), .int .u32 (.ofNat 3604390888), .int .u32 (.ofNat 3412177804), .int .u32 (.ofNat 2607071920), .int .u32 (.ofNat 2262029012), .int .u32 (.ofNat 2685067896), .int .u32 (.ofNat 3183342108)]
noncomputable def gcF (g off : Nat) : Option AV := bif Nat.beq g 0 then nth tab0 off else bif Nat.beq g 2 then nth tab2 off else bif Nat.beq g 3 then nth tab3 off else bif Nat.beq g 4 then nth tab4 off else bif Nat.beq g 5 then nth tab5 off else bif Nat.beq g 6 then nth tab6 off else none
noncomputable def hintF (f id : Nat) : Nat := bif Nat.beq f 72 then (bif Nat.beq id 9 then 4096 else 0) else bif Nat.beq f 6 then (bif Nat.beq id 4 then 32 else 0) else bif Nat.beq f 13 then (bif Nat.beq id 2 then 2 else 0) else bif Nat.beq f 117 then (bif Nat.beq id 1 then 512 else 0) else bif Nat.beq f 58 then (bif Nat.beq id 1 then 64 else 0) else bif Nat.beq f 29 then (bif Nat.beq id 5 then 4 else 0) else bif Nat.beq f 20 then (bif Nat.beq id 4 then 1024 else 0) else bif Nat.beq f 286 then (bif Nat.beq id 13 then 1152 else 0) else bif Nat.beq f 285 then (bif Nat.beq id 0 then 1152 else 0) else 0
noncomputable def cx : Cx := ⟨Tryz.prog, 100, gcF, extF, hintF⟩

/- ### Known functions -/
noncomputable def srtF (f : FuncId) : Option (FuncId → Option TypeId) := bif Nat.beq f 86 then some (fun g => bif Nat.beq g 160 then some 9 else bif Nat.beq g 350 then some 9 else none) else none
/-- errors.Is of one sentinel and the same. -/
noncomputable def isF (l : List AV) : Option AV :=
  match l with
  | [.iface t (.gptr a x), .iface s (.gptr b y)] => bif Nat.beq t 489 then (bif Nat.beq s 489 then (bif Nat.beq a b then (bif Nat.beq x 0 then (bif Nat.beq y 0 then some (.bool true) else none) else none) else none) else none) else none
  | [.nilI, .iface s (.gptr b y)] => bif Nat.beq s 489 then (bif Nat.beq y 0 then some (.bool false) else none) else none
  | _ => none
noncomputable def purF (f : FuncId) : Option (List AV → Option AV) := bif Nat.beq f 39 then some isF else none
noncomputable def lenV : AV → Option Nat
  | .nilS => some 0
  | .sl _ _ n _ => some n
  | .slu _ _ n _ => some n
  | _ => none
/-- Cells that are few and short. -/
noncomputable def fitL : List (AV × AV × Nat) → Bool
  | [] => true
  | (k, v, _) :: l => match k with
    | .str n _ => bif Nat.blt n 512 then (match lenV v with
      | some m => bif Nat.blt m 512 then fitL l else false
      | none => false) else false
    | _ => false
noncomputable def fitF (es : List (AV × AV × Nat)) : Option AV := bif fitL es then (bif Nat.ble es.length 100 then some (.bool true) else none) else none
noncomputable def ofmF (f : FuncId) : Option (List (AV × AV × Nat) → Option AV) := bif Nat.beq f 52 then some fitF else none
noncomputable def kn : Kn := ⟨srtF, purF, ofmF⟩
end
end Go.Proofs.YtjhaaapgkaknoaaGreatDoor
