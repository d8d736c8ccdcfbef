/-
  A part of the evaluator for closed runs: proved once over any program.
-/
import Derived.Test.YtdjaccnocaffjaaGreatDoorLR0
import Derived.Test.YtdjaccnocaffjaaGreatDoorLR2
import Derived.Test.YtdjaccnocaffjaaGreatDoorLR4
import Derived.Test.YtdjaccnocaffjaaGreatDoorLR6
import Derived.Test.YtdjaccnocaffjaaGreatDoorLR8
import Derived.Test.YtdjaccnocaffjaaGreatDoorLR10
set_option maxRecDepth 100000
namespace Go.Proofs.YtdjaccnocaffjaaGreatDoor.L
open Go Go.Ev
noncomputable section
theorem ok0 {G : Nat → Nat} {w : World} (h : cx.Fine G w) (kh : KnOK G w cx.P kn) : EntOK G w cx.P e0 := ent_ok h kh (tab := []) .nil run0
theorem ok1 {G : Nat → Nat} {w : World} (h : cx.Fine G w) (kh : KnOK G w cx.P kn) : EntOK G w cx.P e1 := ent_ok h kh (tab := [e0]) (.cons (ok0 h kh) .nil) run1
theorem ok2 {G : Nat → Nat} {w : World} (h : cx.Fine G w) (kh : KnOK G w cx.P kn) : EntOK G w cx.P e2 := ent_ok h kh (tab := []) .nil run2
theorem ok3 {G : Nat → Nat} {w : World} (h : cx.Fine G w) (kh : KnOK G w cx.P kn) : EntOK G w cx.P e3 := ent_ok h kh (tab := []) .nil run3
theorem ok4 {G : Nat → Nat} {w : World} (h : cx.Fine G w) (kh : KnOK G w cx.P kn) : EntOK G w cx.P e4 := ent_ok h kh (tab := []) .nil run4
theorem ok5 {G : Nat → Nat} {w : World} (h : cx.Fine G w) (kh : KnOK G w cx.P kn) : EntOK G w cx.P e5 := ent_ok h kh (tab := [e3, e4]) (.cons (ok3 h kh) (.cons (ok4 h kh) .nil)) run5
theorem ok6 {G : Nat → Nat} {w : World} (h : cx.Fine G w) (kh : KnOK G w cx.P kn) : EntOK G w cx.P e6 := ent_ok h kh (tab := []) .nil run6
theorem ok7 {G : Nat → Nat} {w : World} (h : cx.Fine G w) (kh : KnOK G w cx.P kn) : EntOK G w cx.P e7 := ent_ok h kh (tab := []) .nil run7
theorem ok8 {G : Nat → Nat} {w : World} (h : cx.Fine G w) (kh : KnOK G w cx.P kn) : EntOK G w cx.P e8 := ent_ok h kh (tab := []) .nil run8
theorem ok9 {G : Nat → Nat} {w : World} (h : cx.Fine G w) (kh : KnOK G w cx.P kn) : EntOK G w cx.P e9 := ent_ok h kh (tab := []) .nil run9
theorem ok10 {G : Nat → Nat} {w : World} (h : cx.Fine G w) (kh : KnOK G w cx.P kn) : EntOK G w cx.P e10 := ent_ok h kh (tab := [e6, e7, e8, e9]) (.cons (ok6 h kh) (.cons (ok7 h kh) (.cons (ok8 h kh) (.cons (ok9 h kh) .nil)))) run10
theorem ok11 {G : Nat → Nat} {w : World} (h : cx.Fine G w) (kh : KnOK G w cx.P kn) : EntOK G w cx.P e11 := ent_ok h kh (tab := [e2, e5, e10]) (.cons (ok2 h kh) (.cons (ok5 h kh) (.cons (ok10 h kh) .nil))) run11
theorem ok12 {G : Nat → Nat} {w : World} (h : cx.Fine G w) (kh : KnOK G w cx.P kn) : EntOK G w cx.P e12 := ent_ok h kh (tab := []) .nil run12
theorem ok13 {G : Nat → Nat} {w : World} (h : cx.Fine G w) (kh : KnOK G w cx.P kn) : EntOK G w cx.P e13 := ent_ok h kh (tab := []) .nil run13
theorem ok14 {G : Nat → Nat} {w : World} (h : cx.Fine G w) (kh : KnOK G w cx.P kn) : EntOK G w cx.P e14 := ent_ok h kh (tab := [e12, e13]) (.cons (ok12 h kh) (.cons (ok13 h kh) .nil)) run14
theorem ok15 {G : Nat → Nat} {w : World} (h : cx.Fine G w) (kh : KnOK G w cx.P kn) : EntOK G w cx.P e15 := ent_ok h kh (tab := [e14]) (.cons (ok14 h kh) .nil) run15
theorem ok16 {G : Nat → Nat} {w : World} (h : cx.Fine G w) (kh : KnOK G w cx.P kn) : EntOK G w cx.P e16 := ent_ok h kh (tab := []) .nil run16
theorem ok17 {G : Nat → Nat} {w : World} (h : cx.Fine G w) (kh : KnOK G w cx.P kn) : EntOK G w cx.P e17 := ent_ok h kh (tab := []) .nil run17
theorem ok18 {G : Nat → Nat} {w : World} (h : cx.Fine G w) (kh : KnOK G w cx.P kn) : EntOK G w cx.P e18 := ent_ok h kh (tab := [e16, e17]) (.cons (ok16 h kh) (.cons (ok17 h kh) .nil)) run18
theorem ok19 {G : Nat → Nat} {w : World} (h : cx.Fine G w) (kh : KnOK G w cx.P kn) : EntOK G w cx.P e19 := ent_ok h kh (tab := [e18]) (.cons (ok18 h kh) .nil) run19
theorem ok20 {G : Nat → Nat} {w : World} (h : cx.Fine G w) (kh : KnOK G w cx.P kn) : EntOK G w cx.P e20 := ent_ok h kh (tab := [e11, e15, e19]) (.cons (ok11 h kh) (.cons (ok15 h kh) (.cons (ok19 h kh) .nil))) run20
theorem ok21 {G : Nat → Nat} {w : World} (h : cx.Fine G w) (kh : KnOK G w cx.P kn) : EntOK G w cx.P e21 := ent_ok h kh (tab := []) .nil run21
theorem ok22 {G : Nat → Nat} {w : World} (h : cx.Fine G w) (kh : KnOK G w cx.P kn) : EntOK G w cx.P e22 := ent_ok h kh (tab := []) .nil run22
theorem ok23 {G : Nat → Nat} {w : World} (h : cx.Fine G w) (kh : KnOK G w cx.P kn) : EntOK G w cx.P e23 := ent_ok h kh (tab := [e22]) (.cons (ok22 h kh) .nil) run23
theorem ok24 {G : Nat → Nat} {w : World} (h : cx.Fine G w) (kh : KnOK G w cx.P kn) : EntOK G w cx.P e24 := ent_ok h kh (tab := []) .nil run24
theorem ok25 {G : Nat → Nat} {w : World} (h : cx.Fine G w) (kh : KnOK G w cx.P kn) : EntOK G w cx.P e25 := ent_ok h kh (tab := []) .nil run25
theorem ok26 {G : Nat → Nat} {w : World} (h : cx.Fine G w) (kh : KnOK G w cx.P kn) : EntOK G w cx.P e26 := ent_ok h kh (tab := [e25]) (.cons (ok25 h kh) .nil) run26
theorem ok27 {G : Nat → Nat} {w : World} (h : cx.Fine G w) (kh : KnOK G w cx.P kn) : EntOK G w cx.P e27 := ent_ok h kh (tab := []) .nil run27
theorem ok28 {G : Nat → Nat} {w : World} (h : cx.Fine G w) (kh : KnOK G w cx.P kn) : EntOK G w cx.P e28 := ent_ok h kh (tab := [e24, e26, e27]) (.cons (ok24 h kh) (.cons (ok26 h kh) (.cons (ok27 h kh) .nil))) run28
theorem ok29 {G : Nat → Nat} {w : World} (h : cx.Fine G w) (kh : KnOK G w cx.P kn) : EntOK G w cx.P e29 := ent_ok h kh (tab := []) .nil run29
theorem ok30 {G : Nat → Nat} {w : World} (h : cx.Fine G w) (kh : KnOK G w cx.P kn) : EntOK G w cx.P e30 := ent_ok h kh (tab := []) .nil run30
theorem ok31 {G : Nat → Nat} {w : World} (h : cx.Fine G w) (kh : KnOK G w cx.P kn) : EntOK G w cx.P e31 := ent_ok h kh (tab := []) .nil run31
theorem ok32 {G : Nat → Nat} {w : World} (h : cx.Fine G w) (kh : KnOK G w cx.P kn) : EntOK G w cx.P e32 := ent_ok h kh (tab := [e31]) (.cons (ok31 h kh) .nil) run32
theorem ok33 {G : Nat → Nat} {w : World} (h : cx.Fine G w) (kh : KnOK G w cx.P kn) : EntOK G w cx.P e33 := ent_ok h kh (tab := []) .nil run33
theorem ok34 {G : Nat → Nat} {w : World} (h : cx.Fine G w) (kh : KnOK G w cx.P kn) : EntOK G w cx.P e34 := ent_ok h kh (tab := []) .nil run34
theorem ok35 {G : Nat → Nat} {w : World} (h : cx.Fine G w) (kh : KnOK G w cx.P kn) : EntOK G w cx.P e35 := ent_ok h kh (tab := []) .nil run35
theorem ok36 {G : Nat → Nat} {w : World} (h : cx.Fine G w) (kh : KnOK G w cx.P kn) : EntOK G w cx.P e36 := ent_ok h kh (tab := []) .nil run36
theorem ok37 {G : Nat → Nat} {w : World} (h : cx.Fine G w) (kh : KnOK G w cx.P kn) : EntOK G w cx.P e37 := ent_ok h kh (tab := []) .nil run37
theorem ok38 {G : Nat → Nat} {w : World} (h : cx.Fine G w) (kh : KnOK G w cx.P kn) : EntOK G w cx.P e38 := ent_ok h kh (tab := [e35, e36, e37]) (.cons (ok35 h kh) (.cons (ok36 h kh) (.cons (ok37 h kh) .nil))) run38
theorem ok39 {G : Nat → Nat} {w : World} (h : cx.Fine G w) (kh : KnOK G w cx.P kn) : EntOK G w cx.P e39 := ent_ok h kh (tab := []) .nil run39
theorem ok40 {G : Nat → Nat} {w : World} (h : cx.Fine G w) (kh : KnOK G w cx.P kn) : EntOK G w cx.P e40 := ent_ok h kh (tab := [e32, e33, e34, e38, e39]) (.cons (ok32 h kh) (.cons (ok33 h kh) (.cons (ok34 h kh) (.cons (ok38 h kh) (.cons (ok39 h kh) .nil))))) run40
theorem ok41 {G : Nat → Nat} {w : World} (h : cx.Fine G w) (kh : KnOK G w cx.P kn) : EntOK G w cx.P e41 := ent_ok h kh (tab := []) .nil run41
theorem ok42 {G : Nat → Nat} {w : World} (h : cx.Fine G w) (kh : KnOK G w cx.P kn) : EntOK G w cx.P e42 := ent_ok h kh (tab := []) .nil run42
theorem ok43 {G : Nat → Nat} {w : World} (h : cx.Fine G w) (kh : KnOK G w cx.P kn) : EntOK G w cx.P e43 := ent_ok h kh (tab := [e42]) (.cons (ok42 h kh) .nil) run43
theorem ok44 {G : Nat → Nat} {w : World} (h : cx.Fine G w) (kh : KnOK G w cx.P kn) : EntOK G w cx.P e44 := ent_ok h kh (tab := []) .nil run44
theorem ok45 {G : Nat → Nat} {w : World} (h : cx.Fine G w) (kh : KnOK G w cx.P kn) : EntOK G w cx.P e45 := ent_ok h kh (tab := []) .nil run45
theorem ok46 {G : Nat → Nat} {w : World} (h : cx.Fine G w) (kh : KnOK G w cx.P kn) : EntOK G w cx.P e46 := ent_ok h kh (tab := [e45]) (.cons (ok45 h kh) .nil) run46
theorem ok47 {G : Nat → Nat} {w : World} (h : cx.Fine G w) (kh : KnOK G w cx.P kn) : EntOK G w cx.P e47 := ent_ok h kh (tab := []) .nil run47
theorem ok48 {G : Nat → Nat} {w : World} (h : cx.Fine G w) (kh : KnOK G w cx.P kn) : EntOK G w cx.P e48 := ent_ok h kh (tab := []) .nil run48
theorem ok49 {G : Nat → Nat} {w : World} (h : cx.Fine G w) (kh : KnOK G w cx.P kn) : EntOK G w cx.P e49 := ent_ok h kh (tab := []) .nil run49
theorem ok50 {G : Nat → Nat} {w : World} (h : cx.Fine G w) (kh : KnOK G w cx.P kn) : EntOK G w cx.P e50 := ent_ok h kh (tab := []) .nil run50
theorem ok51 {G : Nat → Nat} {w : World} (h : cx.Fine G w) (kh : KnOK G w cx.P kn) : EntOK G w cx.P e51 := ent_ok h kh (tab := []) .nil run51
theorem ok52 {G : Nat → Nat} {w : World} (h : cx.Fine G w) (kh : KnOK G w cx.P kn) : EntOK G w cx.P e52 := ent_ok h kh (tab := [e51]) (.cons (ok51 h kh) .nil) run52
theorem ok53 {G : Nat → Nat} {w : World} (h : cx.Fine G w) (kh : KnOK G w cx.P kn) : EntOK G w cx.P e53 := ent_ok h kh (tab := []) .nil run53
theorem ok54 {G : Nat → Nat} {w : World} (h : cx.Fine G w) (kh : KnOK G w cx.P kn) : EntOK G w cx.P e54 := ent_ok h kh (tab := []) .nil run54
theorem ok55 {G : Nat → Nat} {w : World} (h : cx.Fine G w) (kh : KnOK G w cx.P kn) : EntOK G w cx.P e55 := ent_ok h kh (tab := [e54]) (.cons (ok54 h kh) .nil) run55
theorem ok56 {G : Nat → Nat} {w : World} (h : cx.Fine G w) (kh : KnOK G w cx.P kn) : EntOK G w cx.P e56 := ent_ok h kh (tab := [e49, e50, e52, e53, e55]) (.cons (ok49 h kh) (.cons (ok50 h kh) (.cons (ok52 h kh) (.cons (ok53 h kh) (.cons (ok55 h kh) .nil))))) run56
theorem ok57 {G : Nat → Nat} {w : World} (h : cx.Fine G w) (kh : KnOK G w cx.P kn) : EntOK G w cx.P e57 := ent_ok h kh (tab := [e46, e47, e48, e56]) (.cons (ok46 h kh) (.cons (ok47 h kh) (.cons (ok48 h kh) (.cons (ok56 h kh) .nil)))) run57
theorem ok58 {G : Nat → Nat} {w : World} (h : cx.Fine G w) (kh : KnOK G w cx.P kn) : EntOK G w cx.P e58 := ent_ok h kh (tab := []) .nil run58
theorem ok59 {G : Nat → Nat} {w : World} (h : cx.Fine G w) (kh : KnOK G w cx.P kn) : EntOK G w cx.P e59 := ent_ok h kh (tab := [e58]) (.cons (ok58 h kh) .nil) run59
theorem ok60 {G : Nat → Nat} {w : World} (h : cx.Fine G w) (kh : KnOK G w cx.P kn) : EntOK G w cx.P e60 := ent_ok h kh (tab := [e44, e57, e59]) (.cons (ok44 h kh) (.cons (ok57 h kh) (.cons (ok59 h kh) .nil))) run60
theorem ok61 {G : Nat → Nat} {w : World} (h : cx.Fine G w) (kh : KnOK G w cx.P kn) : EntOK G w cx.P e61 := ent_ok h kh (tab := []) .nil run61
theorem ok62 {G : Nat → Nat} {w : World} (h : cx.Fine G w) (kh : KnOK G w cx.P kn) : EntOK G w cx.P e62 := ent_ok h kh (tab := [e61]) (.cons (ok61 h kh) .nil) run62
theorem ok63 {G : Nat → Nat} {w : World} (h : cx.Fine G w) (kh : KnOK G w cx.P kn) : EntOK G w cx.P e63 := ent_ok h kh (tab := [e62]) (.cons (ok62 h kh) .nil) run63
theorem ok64 {G : Nat → Nat} {w : World} (h : cx.Fine G w) (kh : KnOK G w cx.P kn) : EntOK G w cx.P e64 := ent_ok h kh (tab := []) .nil run64
theorem ok65 {G : Nat → Nat} {w : World} (h : cx.Fine G w) (kh : KnOK G w cx.P kn) : EntOK G w cx.P e65 := ent_ok h kh (tab := [e64]) (.cons (ok64 h kh) .nil) run65
theorem ok66 {G : Nat → Nat} {w : World} (h : cx.Fine G w) (kh : KnOK G w cx.P kn) : EntOK G w cx.P e66 := ent_ok h kh (tab := [e65]) (.cons (ok65 h kh) .nil) run66
theorem ok67 {G : Nat → Nat} {w : World} (h : cx.Fine G w) (kh : KnOK G w cx.P kn) : EntOK G w cx.P e67 := ent_ok h kh (tab := [e43, e60, e63, e66]) (.cons (ok43 h kh) (.cons (ok60 h kh) (.cons (ok63 h kh) (.cons (ok66 h kh) .nil)))) run67
theorem ok68 {G : Nat → Nat} {w : World} (h : cx.Fine G w) (kh : KnOK G w cx.P kn) : EntOK G w cx.P e68 := ent_ok h kh (tab := []) .nil run68
theorem ok69 {G : Nat → Nat} {w : World} (h : cx.Fine G w) (kh : KnOK G w cx.P kn) : EntOK G w cx.P e69 := ent_ok h kh (tab := []) .nil run69
theorem ok70 {G : Nat → Nat} {w : World} (h : cx.Fine G w) (kh : KnOK G w cx.P kn) : EntOK G w cx.P e70 := ent_ok h kh (tab := []) .nil run70
theorem ok71 {G : Nat → Nat} {w : World} (h : cx.Fine G w) (kh : KnOK G w cx.P kn) : EntOK G w cx.P e71 := ent_ok h kh (tab := []) .nil run71
theorem ok72 {G : Nat → Nat} {w : World} (h : cx.Fine G w) (kh : KnOK G w cx.P kn) : EntOK G w cx.P e72 := ent_ok h kh (tab := []) .nil run72
theorem ok73 {G : Nat → Nat} {w : World} (h : cx.Fine G w) (kh : KnOK G w cx.P kn) : EntOK G w cx.P e73 := ent_ok h kh (tab := []) .nil run73
theorem ok74 {G : Nat → Nat} {w : World} (h : cx.Fine G w) (kh : KnOK G w cx.P kn) : EntOK G w cx.P e74 := ent_ok h kh (tab := []) .nil run74
theorem ok75 {G : Nat → Nat} {w : World} (h : cx.Fine G w) (kh : KnOK G w cx.P kn) : EntOK G w cx.P e75 := ent_ok h kh (tab := []) .nil run75
theorem ok76 {G : Nat → Nat} {w : World} (h : cx.Fine G w) (kh : KnOK G w cx.P kn) : EntOK G w cx.P e76 := ent_ok h kh (tab := []) .nil run76
theorem ok77 {G : Nat → Nat} {w : World} (h : cx.Fine G w) (kh : KnOK G w cx.P kn) : EntOK G w cx.P e77 := ent_ok h kh (tab := []) .nil run77
theorem ok78 {G : Nat → Nat} {w : World} (h : cx.Fine G w) (kh : KnOK G w cx.P kn) : EntOK G w cx.P e78 := ent_ok h kh (tab := []) .nil run78
theorem ok79 {G : Nat → Nat} {w : World} (h : cx.Fine G w) (kh : KnOK G w cx.P kn) : EntOK G w cx.P e79 := ent_ok h kh (tab := []) .nil run79
theorem ok80 {G : Nat → Nat} {w : World} (h : cx.Fine G w) (kh : KnOK G w cx.P kn) : EntOK G w cx.P e80 := ent_ok h kh (tab := []) .nil run80
theorem ok81 {G : Nat → Nat} {w : World} (h : cx.Fine G w) (kh : KnOK G w cx.P kn) : EntOK G w cx.P e81 := ent_ok h kh (tab := []) .nil run81
theorem ok82 {G : Nat → Nat} {w : World} (h : cx.Fine G w) (kh : KnOK G w cx.P kn) : EntOK G w cx.P e82 := ent_ok h kh (tab := []) .nil run82
theorem ok83 {G : Nat → Nat} {w : World} (h : cx.Fine G w) (kh : KnOK G w cx.P kn) : EntOK G w cx.P e83 := ent_ok h kh (tab := []) .nil run83
theorem ok84 {G : Nat → Nat} {w : World} (h : cx.Fine G w) (kh : KnOK G w cx.P kn) : EntOK G w cx.P e84 := ent_ok h kh (tab := []) .nil run84
theorem ok85 {G : Nat → Nat} {w : World} (h : cx.Fine G w) (kh : KnOK G w cx.P kn) : EntOK G w cx.P e85 := ent_ok h kh (tab := []) .nil run85
theorem ok86 {G : Nat → Nat} {w : World} (h : cx.Fine G w) (kh : KnOK G w cx.P kn) : EntOK G w cx.P e86 := ent_ok h kh (tab := []) .nil run86
theorem ok87 {G : Nat → Nat} {w : World} (h : cx.Fine G w) (kh : KnOK G w cx.P kn) : EntOK G w cx.P e87 := ent_ok h kh (tab := []) .nil run87
theorem ok88 {G : Nat → Nat} {w : World} (h : cx.Fine G w) (kh : KnOK G w cx.P kn) : EntOK G w cx.P e88 := ent_ok h kh (tab := []) .nil run88
theorem ok89 {G : Nat → Nat} {w : World} (h : cx.Fine G w) (kh : KnOK G w cx.P kn) : EntOK G w cx.P e89 := ent_ok h kh (tab := [e71, e72, e73, e74, e75, e76, e77, e78, e79, e80, e81, e82, e83, e84, e85, e86, e87, e88]) (.cons (ok71 h kh) (.cons (ok72 h kh) (.cons (ok73 h kh) (.cons (ok74 h kh) (.cons (ok75 h kh) (.cons (ok76 h kh) (.cons (ok77 h kh) (.cons (ok78 h kh) (.cons (ok79 h kh) (.cons (ok80 h kh) (.cons (ok81 h kh) (.cons (ok82 h kh) (.cons (ok83 h kh) (.cons (ok84 h kh) (.cons (ok85 h kh) (.cons (ok86 h kh) (.cons (ok87 h kh) (.cons (ok88 h kh) .nil)))))))))))))))))) run89
theorem ok90 {G : Nat → Nat} {w : World} (h : cx.Fine G w) (kh : KnOK G w cx.P kn) : EntOK G w cx.P e90 := ent_ok h kh (tab := []) .nil run90
theorem ok91 {G : Nat → Nat} {w : World} (h : cx.Fine G w) (kh : KnOK G w cx.P kn) : EntOK G w cx.P e91 := ent_ok h kh (tab := []) .nil run91
theorem ok92 {G : Nat → Nat} {w : World} (h : cx.Fine G w) (kh : KnOK G w cx.P kn) : EntOK G w cx.P e92 := ent_ok h kh (tab := []) .nil run92
theorem ok93 {G : Nat → Nat} {w : World} (h : cx.Fine G w) (kh : KnOK G w cx.P kn) : EntOK G w cx.P e93 := ent_ok h kh (tab := [e92]) (.cons (ok92 h kh) .nil) run93
theorem ok94 {G : Nat → Nat} {w : World} (h : cx.Fine G w) (kh : KnOK G w cx.P kn) : EntOK G w cx.P e94 := ent_ok h kh (tab := []) .nil run94
theorem ok95 {G : Nat → Nat} {w : World} (h : cx.Fine G w) (kh : KnOK G w cx.P kn) : EntOK G w cx.P e95 := ent_ok h kh (tab := []) .nil run95
theorem ok96 {G : Nat → Nat} {w : World} (h : cx.Fine G w) (kh : KnOK G w cx.P kn) : EntOK G w cx.P e96 := ent_ok h kh (tab := [e95]) (.cons (ok95 h kh) .nil) run96
theorem ok97 {G : Nat → Nat} {w : World} (h : cx.Fine G w) (kh : KnOK G w cx.P kn) : EntOK G w cx.P e97 := ent_ok h kh (tab := [e90, e91, e93, e94, e96]) (.cons (ok90 h kh) (.cons (ok91 h kh) (.cons (ok93 h kh) (.cons (ok94 h kh) (.cons (ok96 h kh) .nil))))) run97
theorem ok98 {G : Nat → Nat} {w : World} (h : cx.Fine G w) (kh : KnOK G w cx.P kn) : EntOK G w cx.P e98 := ent_ok h kh (tab := []) .nil run98
theorem ok99 {G : Nat → Nat} {w : World} (h : cx.Fine G w) (kh : KnOK G w cx.P kn) : EntOK G w cx.P e99 := ent_ok h kh (tab := []) .nil run99
theorem ok100 {G : Nat → Nat} {w : World} (h : cx.Fine G w) (kh : KnOK G w cx.P kn) : EntOK G w cx.P e100 := ent_ok h kh (tab := []) .nil run100
theorem ok101 {G : Nat → Nat} {w : World} (h : cx.Fine G w) (kh : KnOK G w cx.P kn) : EntOK G w cx.P e101 := ent_ok h kh (tab := []) .nil run101
theorem ok102 {G : Nat → Nat} {w : World} (h : cx.Fine G w) (kh : KnOK G w cx.P kn) : EntOK G w cx.P e102 := ent_ok h kh (tab := []) .nil run102
theorem ok103 {G : Nat → Nat} {w : World} (h : cx.Fine G w) (kh : KnOK G w cx.P kn) : EntOK G w cx.P e103 := ent_ok h kh (tab := []) .nil run103
theorem ok104 {G : Nat → Nat} {w : World} (h : cx.Fine G w) (kh : KnOK G w cx.P kn) : EntOK G w cx.P e104 := ent_ok h kh (tab := []) .nil run104
theorem ok105 {G : Nat → Nat} {w : World} (h : cx.Fine G w) (kh : KnOK G w cx.P kn) : EntOK G w cx.P e105 := ent_ok h kh (tab := []) .nil run105
theorem ok106 {G : Nat → Nat} {w : World} (h : cx.Fine G w) (kh : KnOK G w cx.P kn) : EntOK G w cx.P e106 := ent_ok h kh (tab := []) .nil run106
theorem ok107 {G : Nat → Nat} {w : World} (h : cx.Fine G w) (kh : KnOK G w cx.P kn) : EntOK G w cx.P e107 := ent_ok h kh (tab := []) .nil run107
theorem ok108 {G : Nat → Nat} {w : World} (h : cx.Fine G w) (kh : KnOK G w cx.P kn) : EntOK G w cx.P e108 := ent_ok h kh (tab := []) .nil run108
theorem ok109 {G : Nat → Nat} {w : World} (h : cx.Fine G w) (kh : KnOK G w cx.P kn) : EntOK G w cx.P e109 := ent_ok h kh (tab := []) .nil run109
theorem ok110 {G : Nat → Nat} {w : World} (h : cx.Fine G w) (kh : KnOK G w cx.P kn) : EntOK G w cx.P e110 := ent_ok h kh (tab := []) .nil run110
theorem ok111 {G : Nat → Nat} {w : World} (h : cx.Fine G w) (kh : KnOK G w cx.P kn) : EntOK G w cx.P e111 := ent_ok h kh (tab := []) .nil run111
theorem ok112 {G : Nat → Nat} {w : World} (h : cx.Fine G w) (kh : KnOK G w cx.P kn) : EntOK G w cx.P e112 := ent_ok h kh (tab := []) .nil run112
theorem ok113 {G : Nat → Nat} {w : World} (h : cx.Fine G w) (kh : KnOK G w cx.P kn) : EntOK G w cx.P e113 := ent_ok h kh (tab := []) .nil run113
theorem ok114 {G : Nat → Nat} {w : World} (h : cx.Fine G w) (kh : KnOK G w cx.P kn) : EntOK G w cx.P e114 := ent_ok h kh (tab := []) .nil run114
theorem ok115 {G : Nat → Nat} {w : World} (h : cx.Fine G w) (kh : KnOK G w cx.P kn) : EntOK G w cx.P e115 := ent_ok h kh (tab := []) .nil run115
theorem ok116 {G : Nat → Nat} {w : World} (h : cx.Fine G w) (kh : KnOK G w cx.P kn) : EntOK G w cx.P e116 := ent_ok h kh (tab := []) .nil run116
theorem ok117 {G : Nat → Nat} {w : World} (h : cx.Fine G w) (kh : KnOK G w cx.P kn) : EntOK G w cx.P e117 := ent_ok h kh (tab := []) .nil run117
theorem ok118 {G : Nat → Nat} {w : World} (h : cx.Fine G w) (kh : KnOK G w cx.P kn) : EntOK G w cx.P e118 := ent_ok h kh (tab := []) .nil run118
theorem ok119 {G : Nat → Nat} {w : World} (h : cx.Fine G w) (kh : KnOK G w cx.P kn) : EntOK G w cx.P e119 := ent_ok h kh (tab := []) .nil run119
theorem ok120 {G : Nat → Nat} {w : World} (h : cx.Fine G w) (kh : KnOK G w cx.P kn) : EntOK G w cx.P e120 := ent_ok h kh (tab := []) .nil run120
theorem ok121 {G : Nat → Nat} {w : World} (h : cx.Fine G w) (kh : KnOK G w cx.P kn) : EntOK G w cx.P e121 := ent_ok h kh (tab := []) .nil run121
theorem ok122 {G : Nat → Nat} {w : World} (h : cx.Fine G w) (kh : KnOK G w cx.P kn) : EntOK G w cx.P e122 := ent_ok h kh (tab := []) .nil run122
theorem ok123 {G : Nat → Nat} {w : World} (h : cx.Fine G w) (kh : KnOK G w cx.P kn) : EntOK G w cx.P e123 := ent_ok h kh (tab := []) .nil run123
theorem ok124 {G : Nat → Nat} {w : World} (h : cx.Fine G w) (kh : KnOK G w cx.P kn) : EntOK G w cx.P e124 := ent_ok h kh (tab := []) .nil run124
theorem ok125 {G : Nat → Nat} {w : World} (h : cx.Fine G w) (kh : KnOK G w cx.P kn) : EntOK G w cx.P e125 := ent_ok h kh (tab := []) .nil run125
theorem ok126 {G : Nat → Nat} {w : World} (h : cx.Fine G w) (kh : KnOK G w cx.P kn) : EntOK G w cx.P e126 := ent_ok h kh (tab := []) .nil run126
theorem ok127 {G : Nat → Nat} {w : World} (h : cx.Fine G w) (kh : KnOK G w cx.P kn) : EntOK G w cx.P e127 := ent_ok h kh (tab := []) .nil run127
theorem ok128 {G : Nat → Nat} {w : World} (h : cx.Fine G w) (kh : KnOK G w cx.P kn) : EntOK G w cx.P e128 := ent_ok h kh (tab := []) .nil run128
theorem ok129 {G : Nat → Nat} {w : World} (h : cx.Fine G w) (kh : KnOK G w cx.P kn) : EntOK G w cx.P e129 := ent_ok h kh (tab := []) .nil run129
theorem ok130 {G : Nat → Nat} {w : World} (h : cx.Fine G w) (kh : KnOK G w cx.P kn) : EntOK G w cx.P e130 := ent_ok h kh (tab := []) .nil run130
theorem ok131 {G : Nat → Nat} {w : World} (h : cx.Fine G w) (kh : KnOK G w cx.P kn) : EntOK G w cx.P e131 := ent_ok h kh (tab := []) .nil run131
theorem ok132 {G : Nat → Nat} {w : World} (h : cx.Fine G w) (kh : KnOK G w cx.P kn) : EntOK G w cx.P e132 := ent_ok h kh (tab := []) .nil run132
theorem ok133 {G : Nat → Nat} {w : World} (h : cx.Fine G w) (kh : KnOK G w cx.P kn) : EntOK G w cx.P e133 := ent_ok h kh (tab := []) .nil run133
theorem ok134 {G : Nat → Nat} {w : World} (h : cx.Fine G w) (kh : KnOK G w cx.P kn) : EntOK G w cx.P e134 := ent_ok h kh (tab := []) .nil run134
theorem ok135 {G : Nat → Nat} {w : World} (h : cx.Fine G w) (kh : KnOK G w cx.P kn) : EntOK G w cx.P e135 := ent_ok h kh (tab := []) .nil run135
theorem ok136 {G : Nat → Nat} {w : World} (h : cx.Fine G w) (kh : KnOK G w cx.P kn) : EntOK G w cx.P e136 := ent_ok h kh (tab := []) .nil run136
theorem ok137 {G : Nat → Nat} {w : World} (h : cx.Fine G w) (kh : KnOK G w cx.P kn) : EntOK G w cx.P e137 := ent_ok h kh (tab := []) .nil run137
theorem ok138 {G : Nat → Nat} {w : World} (h : cx.Fine G w) (kh : KnOK G w cx.P kn) : EntOK G w cx.P e138 := ent_ok h kh (tab := []) .nil run138
theorem ok139 {G : Nat → Nat} {w : World} (h : cx.Fine G w) (kh : KnOK G w cx.P kn) : EntOK G w cx.P e139 := ent_ok h kh (tab := []) .nil run139
theorem ok140 {G : Nat → Nat} {w : World} (h : cx.Fine G w) (kh : KnOK G w cx.P kn) : EntOK G w cx.P e140 := ent_ok h kh (tab := []) .nil run140
theorem ok141 {G : Nat → Nat} {w : World} (h : cx.Fine G w) (kh : KnOK G w cx.P kn) : EntOK G w cx.P e141 := ent_ok h kh (tab := []) .nil run141
theorem ok142 {G : Nat → Nat} {w : World} (h : cx.Fine G w) (kh : KnOK G w cx.P kn) : EntOK G w cx.P e142 := ent_ok h kh (tab := []) .nil run142
theorem ok143 {G : Nat → Nat} {w : World} (h : cx.Fine G w) (kh : KnOK G w cx.P kn) : EntOK G w cx.P e143 := ent_ok h kh (tab := []) .nil run143
theorem ok144 {G : Nat → Nat} {w : World} (h : cx.Fine G w) (kh : KnOK G w cx.P kn) : EntOK G w cx.P e144 := ent_ok h kh (tab := []) .nil run144
theorem ok145 {G : Nat → Nat} {w : World} (h : cx.Fine G w) (kh : KnOK G w cx.P kn) : EntOK G w cx.P e145 := ent_ok h kh (tab := []) .nil run145
theorem ok146 {G : Nat → Nat} {w : World} (h : cx.Fine G w) (kh : KnOK G w cx.P kn) : EntOK G w cx.P e146 := ent_ok h kh (tab := []) .nil run146
theorem ok147 {G : Nat → Nat} {w : World} (h : cx.Fine G w) (kh : KnOK G w cx.P kn) : EntOK G w cx.P e147 := ent_ok h kh (tab := []) .nil run147
theorem ok148 {G : Nat → Nat} {w : World} (h : cx.Fine G w) (kh : KnOK G w cx.P kn) : EntOK G w cx.P e148 := ent_ok h kh (tab := []) .nil run148
theorem ok149 {G : Nat → Nat} {w : World} (h : cx.Fine G w) (kh : KnOK G w cx.P kn) : EntOK G w cx.P e149 := ent_ok h kh (tab := []) .nil run149
theorem ok150 {G : Nat → Nat} {w : World} (h : cx.Fine G w) (kh : KnOK G w cx.P kn) : EntOK G w cx.P e150 := ent_ok h kh (tab := []) .nil run150
theorem ok151 {G : Nat → Nat} {w : World} (h : cx.Fine G w) (kh : KnOK G w cx.P kn) : EntOK G w cx.P e151 := ent_ok h kh (tab := []) .nil run151
theorem ok152 {G : Nat → Nat} {w : World} (h : cx.Fine G w) (kh : KnOK G w cx.P kn) : EntOK G w cx.P e152 := ent_ok h kh (tab := []) .nil run152
theorem ok153 {G : Nat → Nat} {w : World} (h : cx.Fine G w) (kh : KnOK G w cx.P kn) : EntOK G w cx.P e153 := ent_ok h kh (tab := []) .nil run153
theorem ok154 {G : Nat → Nat} {w : World} (h : cx.Fine G w) (kh : KnOK G w cx.P kn) : EntOK G w cx.P e154 := ent_ok h kh (tab := []) .nil run154
theorem ok155 {G : Nat → Nat} {w : World} (h : cx.Fine G w) (kh : KnOK G w cx.P kn) : EntOK G w cx.P e155 := ent_ok h kh (tab := []) .nil run155
theorem ok156 {G : Nat → Nat} {w : World} (h : cx.Fine G w) (kh : KnOK G w cx.P kn) : EntOK G w cx.P e156 := ent_ok h kh (tab := []) .nil run156
theorem ok157 {G : Nat → Nat} {w : World} (h : cx.Fine G w) (kh : KnOK G w cx.P kn) : EntOK G w cx.P e157 := ent_ok h kh (tab := []) .nil run157
theorem ok158 {G : Nat → Nat} {w : World} (h : cx.Fine G w) (kh : KnOK G w cx.P kn) : EntOK G w cx.P e158 := ent_ok h kh (tab := []) .nil run158
theorem ok159 {G : Nat → Nat} {w : World} (h : cx.Fine G w) (kh : KnOK G w cx.P kn) : EntOK G w cx.P e159 := ent_ok h kh (tab := []) .nil run159
theorem ok160 {G : Nat → Nat} {w : World} (h : cx.Fine G w) (kh : KnOK G w cx.P kn) : EntOK G w cx.P e160 := ent_ok h kh (tab := []) .nil run160
theorem ok161 {G : Nat → Nat} {w : World} (h : cx.Fine G w) (kh : KnOK G w cx.P kn) : EntOK G w cx.P e161 := ent_ok h kh (tab := []) .nil run161
theorem ok162 {G : Nat → Nat} {w : World} (h : cx.Fine G w) (kh : KnOK G w cx.P kn) : EntOK G w cx.P e162 := ent_ok h kh (tab := []) .nil run162
theorem ok163 {G : Nat → Nat} {w : World} (h : cx.Fine G w) (kh : KnOK G w cx.P kn) : EntOK G w cx.P e163 := ent_ok h kh (tab := []) .nil run163
theorem ok164 {G : Nat → Nat} {w : World} (h : cx.Fine G w) (kh : KnOK G w cx.P kn) : EntOK G w cx.P e164 := ent_ok h kh (tab := []) .nil run164
theorem ok165 {G : Nat → Nat} {w : World} (h : cx.Fine G w) (kh : KnOK G w cx.P kn) : EntOK G w cx.P e165 := ent_ok h kh (tab := []) .nil run165
theorem ok166 {G : Nat → Nat} {w : World} (h : cx.Fine G w) (kh : KnOK G w cx.P kn) : EntOK G w cx.P e166 := ent_ok h kh (tab := []) .nil run166
theorem ok167 {G : Nat → Nat} {w : World} (h : cx.Fine G w) (kh : KnOK G w cx.P kn) : EntOK G w cx.P e167 := ent_ok h kh (tab := []) .nil run167
theorem ok168 {G : Nat → Nat} {w : World} (h : cx.Fine G w) (kh : KnOK G w cx.P kn) : EntOK G w cx.P e168 := ent_ok h kh (tab := []) .nil run168
theorem ok169 {G : Nat → Nat} {w : World} (h : cx.Fine G w) (kh : KnOK G w cx.P kn) : EntOK G w cx.P e169 := ent_ok h kh (tab := []) .nil run169
theorem ok170 {G : Nat → Nat} {w : World} (h : cx.Fine G w) (kh : KnOK G w cx.P kn) : EntOK G w cx.P e170 := ent_ok h kh (tab := []) .nil run170
theorem ok171 {G : Nat → Nat} {w : World} (h : cx.Fine G w) (kh : KnOK G w cx.P kn) : EntOK G w cx.P e171 := ent_ok h kh (tab := [e98, e99, e100, e101, e102, e103, e104, e105, e106, e107, e108, e109, e110, e111, e112, e113, e114, e115, e116, e117, e118, e119, e120, e121, e122, e123, e124, e125, e126, e127, e128, e129, e130, e131, e132, e133, e134, e135, e136, e137, e138, e139, e140, e141, e142, e143, e144, e145, e146, e147, e148, e149, e150, e151, e152, e153, e154, e155, e156, e157, e158, e159, e160, e161, e162, e163, e164, e165, e166, e167, e168, e169, e170]) (.cons (ok98 h kh) (.cons (ok99 h kh) (.cons (ok100 h kh) (.cons (ok101 h kh) (.cons (ok102 h kh) (.cons (ok103 h kh) (.cons (ok104 h kh) (.cons (ok105 h kh) (.cons (ok106 h kh) (.cons (ok107 h kh) (.cons (ok108 h kh) (.cons (ok109 h kh) (.cons (ok110 h kh) (.cons (ok111 h kh) (.cons (ok112 h kh) (.cons (ok113 h kh) (.cons (ok114 h kh) (.cons (ok115 h kh) (.cons (ok116 h kh) (.cons (ok117 h kh) (.cons (ok118 h kh) (.cons (ok119 h kh) (.cons (ok120 h kh) (.cons (ok121 h kh) (.cons (ok122 h kh) (.cons (ok123 h kh) (.cons (ok124 h kh) (.cons (ok125 h kh) (.cons (ok126 h kh) (.cons (ok127 h kh) (.cons (ok128 h kh) (.cons (ok129 h kh) (.cons (ok130 h kh) (.cons (ok131 h kh) (.cons (ok132 h kh) (.cons (ok133 h kh) (.cons (ok134 h kh) (.cons (ok135 h kh) (.cons (ok136 h kh) (.cons (ok137 h kh) (.cons (ok138 h kh) (.cons (ok139 h kh) (.cons (ok140 h kh) (.cons (ok141 h kh) (.cons (ok142 h kh) (.cons (ok143 h kh) (.cons (ok144 h kh) (.cons (ok145 h kh) (.cons (ok146 h kh) (.cons (ok147 h kh) (.cons (ok148 h kh) (.cons (ok149 h kh) (.cons (ok150 h kh) (.cons (ok151 h kh) (.cons (ok152 h kh) (.cons (ok153 h kh) (.cons (ok154 h kh) (.cons (ok155 h kh) (.cons (ok156 h kh) (.cons (ok157 h kh) (.cons (ok158 h kh) (.cons (ok159 h kh) (.cons (ok160 h kh) (.cons (ok161 h kh) (.cons (ok162 h kh) (.cons (ok163 h kh) (.cons (ok164 h kh) (.cons (ok165 h kh) (.cons (ok166 h kh) (.cons (ok167 h kh) (.cons (ok168 h kh) (.cons (ok169 h kh) (.cons (ok170 h kh) .nil))))))))))))))))))))))))))))))))))))))))))))))))))))))))))))))))))))))))) run171
theorem ok172 {G : Nat → Nat} {w : World} (h : cx.Fine G w) (kh : KnOK G w cx.P kn) : EntOK G w cx.P e172 := ent_ok h kh (tab := []) .nil run172
theorem ok173 {G : Nat → Nat} {w : World} (h : cx.Fine G w) (kh : KnOK G w cx.P kn) : EntOK G w cx.P e173 := ent_ok h kh (tab := [e171, e172]) (.cons (ok171 h kh) (.cons (ok172 h kh) .nil)) run173
theorem ok174 {G : Nat → Nat} {w : World} (h : cx.Fine G w) (kh : KnOK G w cx.P kn) : EntOK G w cx.P e174 := ent_ok h kh (tab := [e89, e97, e173]) (.cons (ok89 h kh) (.cons (ok97 h kh) (.cons (ok173 h kh) .nil))) run174
theorem ok175 {G : Nat → Nat} {w : World} (h : cx.Fine G w) (kh : KnOK G w cx.P kn) : EntOK G w cx.P e175 := ent_ok h kh (tab := [e174]) (.cons (ok174 h kh) .nil) run175
theorem ok176 {G : Nat → Nat} {w : World} (h : cx.Fine G w) (kh : KnOK G w cx.P kn) : EntOK G w cx.P e176 := ent_ok h kh (tab := []) .nil run176
theorem ok177 {G : Nat → Nat} {w : World} (h : cx.Fine G w) (kh : KnOK G w cx.P kn) : EntOK G w cx.P e177 := ent_ok h kh (tab := []) .nil run177
theorem ok178 {G : Nat → Nat} {w : World} (h : cx.Fine G w) (kh : KnOK G w cx.P kn) : EntOK G w cx.P e178 := ent_ok h kh (tab := [e176, e177]) (.cons (ok176 h kh) (.cons (ok177 h kh) .nil)) run178
theorem ok179 {G : Nat → Nat} {w : World} (h : cx.Fine G w) (kh : KnOK G w cx.P kn) : EntOK G w cx.P e179 := ent_ok h kh (tab := [e69, e70, e175, e178]) (.cons (ok69 h kh) (.cons (ok70 h kh) (.cons (ok175 h kh) (.cons (ok178 h kh) .nil)))) run179
theorem ok180 {G : Nat → Nat} {w : World} (h : cx.Fine G w) (kh : KnOK G w cx.P kn) : EntOK G w cx.P e180 := ent_ok h kh (tab := []) .nil run180
theorem ok181 {G : Nat → Nat} {w : World} (h : cx.Fine G w) (kh : KnOK G w cx.P kn) : EntOK G w cx.P e181 := ent_ok h kh (tab := [e180]) (.cons (ok180 h kh) .nil) run181
theorem ok182 {G : Nat → Nat} {w : World} (h : cx.Fine G w) (kh : KnOK G w cx.P kn) : EntOK G w cx.P e182 := ent_ok h kh (tab := [e181]) (.cons (ok181 h kh) .nil) run182
theorem ok183 {G : Nat → Nat} {w : World} (h : cx.Fine G w) (kh : KnOK G w cx.P kn) : EntOK G w cx.P e183 := ent_ok h kh (tab := [e68, e179, e182]) (.cons (ok68 h kh) (.cons (ok179 h kh) (.cons (ok182 h kh) .nil))) run183
/-- 5621 operations -/
theorem top : isTrue ((evCall cx kn [e1, e20, e21, e23, e28, e29, e30, e40, e41, e67, e183] 1000000 80).fn 7 [] ⟨.leaf, .h⟩) = true := by decide +kernel
theorem holds {G : Nat → Nat} {w : World} (h : cx.Fine G w) (kh : KnOK G w cx.P kn) : Calls cx.P 7 #[] w fun e w' => e = .returned (.bool true) ∧ Go.RowKit.Below w.heap.size w w' := closed_run h kh (tab := [e1, e20, e21, e23, e28, e29, e30, e40, e41, e67, e183]) (.cons (ok1 h kh) (.cons (ok20 h kh) (.cons (ok21 h kh) (.cons (ok23 h kh) (.cons (ok28 h kh) (.cons (ok29 h kh) (.cons (ok30 h kh) (.cons (ok40 h kh) (.cons (ok41 h kh) (.cons (ok67 h kh) (.cons (ok183 h kh) .nil))))))))))) top
end
end Go.Proofs.YtdjaccnocaffjaaGreatDoor.L
