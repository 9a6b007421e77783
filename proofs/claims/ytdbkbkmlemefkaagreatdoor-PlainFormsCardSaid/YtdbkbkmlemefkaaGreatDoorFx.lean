/- A part of the proof (own lemmas, no condition beyond those that each theorem states): facts on the functions that the statements of this seat reach. -/
import Derived.Test.YtdbkbkmlemefkaaGreatDoorTy
import Derived.Test.YtdbkbkmlemefkaaGreatDoorLiftXD
/- The functions of this seat that are run at given values. Printed by fx.py. -/
set_option maxRecDepth 1000000
set_option linter.unusedVariables false
namespace Go.Proofs.YtdbkbkmlemefkaaGreatDoor
open Go Go.Lift
noncomputable def fx8 : FX := { fn := Tryz.f8, body := bodyOf Tryz.f8, esc := fun s => false, sig := fun i => .nil }
theorem fxok8 : FXOK Tryz.prog 8 fx8 := ⟨Tryz.func8, by kernel_rfl, by kernel_rfl, Nat.le_of_ble_eq_true (by kernel_rfl), by kernel_rfl⟩
noncomputable def fx10 : FX := { fn := Tryz.f10, body := bodyOf Tryz.f10, esc := fun s => false, sig := fun i => .nil }
theorem fxok10 : FXOK Tryz.prog 10 fx10 := ⟨Tryz.func10, by kernel_rfl, by kernel_rfl, Nat.le_of_ble_eq_true (by kernel_rfl), by kernel_rfl⟩
noncomputable def fx13 : FX := { fn := Tryz.f13, body := bodyOf Tryz.f13, esc := fun s => false, sig := fun i => .nil }
theorem fxok13 : FXOK Tryz.prog 13 fx13 := ⟨Tryz.func13, by kernel_rfl, by kernel_rfl, Nat.le_of_ble_eq_true (by kernel_rfl), by kernel_rfl⟩
noncomputable def fx15 : FX := { fn := Tryz.f15, body := bodyOf Tryz.f15, esc := fun s => false, sig := fun i => .nil }
theorem fxok15 : FXOK Tryz.prog 15 fx15 := ⟨Tryz.func15, by kernel_rfl, by kernel_rfl, Nat.le_of_ble_eq_true (by kernel_rfl), by kernel_rfl⟩
noncomputable def fx16 : FX := { fn := Tryz.f16, body := bodyOf Tryz.f16, esc := fun s => false, sig := fun i => .nil }
theorem fxok16 : FXOK Tryz.prog 16 fx16 := ⟨Tryz.func16, by kernel_rfl, by kernel_rfl, Nat.le_of_ble_eq_true (by kernel_rfl), by kernel_rfl⟩
noncomputable def fx18 : FX := { fn := Tryz.f18, body := bodyOf Tryz.f18, esc := fun s => Nat.beq s 3 || Nat.beq s 4 || Nat.beq s 6, sig := fun i => .nil }
theorem fxok18 : FXOK Tryz.prog 18 fx18 := ⟨Tryz.func18, by kernel_rfl, by kernel_rfl, Nat.le_of_ble_eq_true (by kernel_rfl), by kernel_rfl⟩
noncomputable def fx20 : FX := { fn := Tryz.f20, body := bodyOf Tryz.f20, esc := fun s => Nat.beq s 22, sig := fun i => bif Nat.beq i 4 then .one (some true) 0 (.one (some false) 1 (.one (some true) 2 (.one (some false) 3 (.one (some true) 4 (.nil))))) else bif Nat.beq i 5 then .one (some true) 0 (.one (some true) 1 (.one (some true) 2 (.one (some true) 3 (.alt 4 (.one (some true) 5 (.one (some false) 6 (.one (some false) 7 (.nil)))) (.alt 6 (.one (some false) 4 (.one (some true) 5 (.one (some false) 7 (.nil)))) (.stop)))))) else .nil }
theorem fxok20 : FXOK Tryz.prog 20 fx20 := ⟨Tryz.func20, by kernel_rfl, by kernel_rfl, Nat.le_of_ble_eq_true (by kernel_rfl), by kernel_rfl⟩
noncomputable def fx24 : FX := { fn := Tryz.f24, body := bodyOf Tryz.f24, esc := fun s => false, sig := fun i => .nil }
theorem fxok24 : FXOK Tryz.prog 24 fx24 := ⟨Tryz.func24, by kernel_rfl, by kernel_rfl, Nat.le_of_ble_eq_true (by kernel_rfl), by kernel_rfl⟩
noncomputable def fx25 : FX := { fn := Tryz.f25, body := bodyOf Tryz.f25, esc := fun s => false, sig := fun i => .nil }
theorem fxok25 : FXOK Tryz.prog 25 fx25 := ⟨Tryz.func25, by kernel_rfl, by kernel_rfl, Nat.le_of_ble_eq_true (by kernel_rfl), by kernel_rfl⟩
noncomputable def fx26 : FX := { fn := Tryz.f26, body := bodyOf Tryz.f26, esc := fun s => Nat.beq s 3, sig := fun i => .nil }
theorem fxok26 : FXOK Tryz.prog 26 fx26 := ⟨Tryz.func26, by kernel_rfl, by kernel_rfl, Nat.le_of_ble_eq_true (by kernel_rfl), by kernel_rfl⟩
noncomputable def fx27 : FX := { fn := Tryz.f27, body := bodyOf Tryz.f27, esc := fun s => false, sig := fun i => .nil }
theorem fxok27 : FXOK Tryz.prog 27 fx27 := ⟨Tryz.func27, by kernel_rfl, by kernel_rfl, Nat.le_of_ble_eq_true (by kernel_rfl), by kernel_rfl⟩
noncomputable def fx28 : FX := { fn := Tryz.f28, body := bodyOf Tryz.f28, esc := fun s => false, sig := fun i => .nil }
theorem fxok28 : FXOK Tryz.prog 28 fx28 := ⟨Tryz.func28, by kernel_rfl, by kernel_rfl, Nat.le_of_ble_eq_true (by kernel_rfl), by kernel_rfl⟩
noncomputable def fx29 : FX := { fn := Tryz.f29, body := bodyOf Tryz.f29, esc := fun s => false, sig := fun i => bif Nat.beq i 3 then .one (none) 0 (.one (some true) 1 (.alt 2 (.one (some true) 3 (.one (some false) 4 (.one (some true) 5 (.one (some false) 6 (.nil))))) (.alt 4 (.one (some true) 5 (.one (some false) 2 (.one (some true) 3 (.one (some false) 6 (.nil))))) (.stop)))) else .nil }
theorem fxok29 : FXOK Tryz.prog 29 fx29 := ⟨Tryz.func29, by kernel_rfl, by kernel_rfl, Nat.le_of_ble_eq_true (by kernel_rfl), by kernel_rfl⟩
noncomputable def fx30 : FX := { fn := Tryz.f30, body := bodyOf Tryz.f30, esc := fun s => false, sig := fun i => .nil }
theorem fxok30 : FXOK Tryz.prog 30 fx30 := ⟨Tryz.func30, by kernel_rfl, by kernel_rfl, Nat.le_of_ble_eq_true (by kernel_rfl), by kernel_rfl⟩
noncomputable def fx31 : FX := { fn := Tryz.f31, body := bodyOf Tryz.f31, esc := fun s => Nat.beq s 3, sig := fun i => .nil }
theorem fxok31 : FXOK Tryz.prog 31 fx31 := ⟨Tryz.func31, by kernel_rfl, by kernel_rfl, Nat.le_of_ble_eq_true (by kernel_rfl), by kernel_rfl⟩
noncomputable def fx32 : FX := { fn := Tryz.f32, body := bodyOf Tryz.f32, esc := fun s => Nat.beq s 3, sig := fun i => .nil }
theorem fxok32 : FXOK Tryz.prog 32 fx32 := ⟨Tryz.func32, by kernel_rfl, by kernel_rfl, Nat.le_of_ble_eq_true (by kernel_rfl), by kernel_rfl⟩
noncomputable def fx34 : FX := { fn := Tryz.f34, body := bodyOf Tryz.f34, esc := fun s => false, sig := fun i => .nil }
theorem fxok34 : FXOK Tryz.prog 34 fx34 := ⟨Tryz.func34, by kernel_rfl, by kernel_rfl, Nat.le_of_ble_eq_true (by kernel_rfl), by kernel_rfl⟩
noncomputable def fx35 : FX := { fn := Tryz.f35, body := bodyOf Tryz.f35, esc := fun s => false, sig := fun i => .nil }
theorem fxok35 : FXOK Tryz.prog 35 fx35 := ⟨Tryz.func35, by kernel_rfl, by kernel_rfl, Nat.le_of_ble_eq_true (by kernel_rfl), by kernel_rfl⟩
noncomputable def fx36 : FX := { fn := Tryz.f36, body := bodyOf Tryz.f36, esc := fun s => false, sig := fun i => bif Nat.beq i 7 then .one (some true) 0 (.one (some true) 1 (.one (some true) 2 (.one (none) 3 (.one (some true) 4 (.one (some true) 5 (.one (some false) 6 (.one (some true) 7 (.one (some true) 8 (.one (some true) 9 (.one (some true) 10 (.one (some true) 11 (.nil)))))))))))) else .nil }
theorem fxok36 : FXOK Tryz.prog 36 fx36 := ⟨Tryz.func36, by kernel_rfl, by kernel_rfl, Nat.le_of_ble_eq_true (by kernel_rfl), by kernel_rfl⟩
noncomputable def fx46 : FX := { fn := Tryz.f46, body := bodyOf Tryz.f46, esc := fun s => false, sig := fun i => .nil }
theorem fxok46 : FXOK Tryz.prog 46 fx46 := ⟨Tryz.func46, by kernel_rfl, by kernel_rfl, Nat.le_of_ble_eq_true (by kernel_rfl), by kernel_rfl⟩
noncomputable def fx47 : FX := { fn := Tryz.f47, body := bodyOf Tryz.f47, esc := fun s => false, sig := fun i => .nil }
theorem fxok47 : FXOK Tryz.prog 47 fx47 := ⟨Tryz.func47, by kernel_rfl, by kernel_rfl, Nat.le_of_ble_eq_true (by kernel_rfl), by kernel_rfl⟩
noncomputable def fx48 : FX := { fn := Tryz.f48, body := bodyOf Tryz.f48, esc := fun s => false, sig := fun i => .nil }
theorem fxok48 : FXOK Tryz.prog 48 fx48 := ⟨Tryz.func48, by kernel_rfl, by kernel_rfl, Nat.le_of_ble_eq_true (by kernel_rfl), by kernel_rfl⟩
noncomputable def fx49 : FX := { fn := Tryz.f49, body := bodyOf Tryz.f49, esc := fun s => false, sig := fun i => .nil }
theorem fxok49 : FXOK Tryz.prog 49 fx49 := ⟨Tryz.func49, by kernel_rfl, by kernel_rfl, Nat.le_of_ble_eq_true (by kernel_rfl), by kernel_rfl⟩
noncomputable def fx50 : FX := { fn := Tryz.f50, body := bodyOf Tryz.f50, esc := fun s => false, sig := fun i => .nil }
theorem fxok50 : FXOK Tryz.prog 50 fx50 := ⟨Tryz.func50, by kernel_rfl, by kernel_rfl, Nat.le_of_ble_eq_true (by kernel_rfl), by kernel_rfl⟩
noncomputable def fx51 : FX := { fn := Tryz.f51, body := bodyOf Tryz.f51, esc := fun s => false, sig := fun i => .nil }
theorem fxok51 : FXOK Tryz.prog 51 fx51 := ⟨Tryz.func51, by kernel_rfl, by kernel_rfl, Nat.le_of_ble_eq_true (by kernel_rfl), by kernel_rfl⟩
noncomputable def fx52 : FX := { fn := Tryz.f52, body := bodyOf Tryz.f52, esc := fun s => false, sig := fun i => .nil }
theorem fxok52 : FXOK Tryz.prog 52 fx52 := ⟨Tryz.func52, by kernel_rfl, by kernel_rfl, Nat.le_of_ble_eq_true (by kernel_rfl), by kernel_rfl⟩
noncomputable def fx53 : FX := { fn := Tryz.f53, body := bodyOf Tryz.f53, esc := fun s => Nat.beq s 3, sig := fun i => .nil }
theorem fxok53 : FXOK Tryz.prog 53 fx53 := ⟨Tryz.func53, by kernel_rfl, by kernel_rfl, Nat.le_of_ble_eq_true (by kernel_rfl), by kernel_rfl⟩
noncomputable def fx54 : FX := { fn := Tryz.f54, body := bodyOf Tryz.f54, esc := fun s => false, sig := fun i => .nil }
theorem fxok54 : FXOK Tryz.prog 54 fx54 := ⟨Tryz.func54, by kernel_rfl, by kernel_rfl, Nat.le_of_ble_eq_true (by kernel_rfl), by kernel_rfl⟩
noncomputable def fx55 : FX := { fn := Tryz.f55, body := bodyOf Tryz.f55, esc := fun s => false, sig := fun i => .nil }
theorem fxok55 : FXOK Tryz.prog 55 fx55 := ⟨Tryz.func55, by kernel_rfl, by kernel_rfl, Nat.le_of_ble_eq_true (by kernel_rfl), by kernel_rfl⟩
noncomputable def fx56 : FX := { fn := Tryz.f56, body := bodyOf Tryz.f56, esc := fun s => Nat.beq s 3, sig := fun i => .nil }
theorem fxok56 : FXOK Tryz.prog 56 fx56 := ⟨Tryz.func56, by kernel_rfl, by kernel_rfl, Nat.le_of_ble_eq_true (by kernel_rfl), by kernel_rfl⟩
noncomputable def fx57 : FX := { fn := Tryz.f57, body := bodyOf Tryz.f57, esc := fun s => false, sig := fun i => .nil }
theorem fxok57 : FXOK Tryz.prog 57 fx57 := ⟨Tryz.func57, by kernel_rfl, by kernel_rfl, Nat.le_of_ble_eq_true (by kernel_rfl), by kernel_rfl⟩
noncomputable def fx58 : FX := { fn := Tryz.f58, body := bodyOf Tryz.f58, esc := fun s => false, sig := fun i => .nil }
theorem fxok58 : FXOK Tryz.prog 58 fx58 := ⟨Tryz.func58, by kernel_rfl, by kernel_rfl, Nat.le_of_ble_eq_true (by kernel_rfl), by kernel_rfl⟩
noncomputable def fx59 : FX := { fn := Tryz.f59, body := bodyOf Tryz.f59, esc := fun s => false, sig := fun i => .nil }
theorem fxok59 : FXOK Tryz.prog 59 fx59 := ⟨Tryz.func59, by kernel_rfl, by kernel_rfl, Nat.le_of_ble_eq_true (by kernel_rfl), by kernel_rfl⟩
noncomputable def fx60 : FX := { fn := Tryz.f60, body := bodyOf Tryz.f60, esc := fun s => false, sig := fun i => .nil }
theorem fxok60 : FXOK Tryz.prog 60 fx60 := ⟨Tryz.func60, by kernel_rfl, by kernel_rfl, Nat.le_of_ble_eq_true (by kernel_rfl), by kernel_rfl⟩
noncomputable def fx61 : FX := { fn := Tryz.f61, body := bodyOf Tryz.f61, esc := fun s => false, sig := fun i => .nil }
theorem fxok61 : FXOK Tryz.prog 61 fx61 := ⟨Tryz.func61, by kernel_rfl, by kernel_rfl, Nat.le_of_ble_eq_true (by kernel_rfl), by kernel_rfl⟩
noncomputable def fx62 : FX := { fn := Tryz.f62, body := bodyOf Tryz.f62, esc := fun s => false, sig := fun i => .nil }
theorem fxok62 : FXOK Tryz.prog 62 fx62 := ⟨Tryz.func62, by kernel_rfl, by kernel_rfl, Nat.le_of_ble_eq_true (by kernel_rfl), by kernel_rfl⟩
noncomputable def fx63 : FX := { fn := Tryz.f63, body := bodyOf Tryz.f63, esc := fun s => false, sig := fun i => .nil }
theorem fxok63 : FXOK Tryz.prog 63 fx63 := ⟨Tryz.func63, by kernel_rfl, by kernel_rfl, Nat.le_of_ble_eq_true (by kernel_rfl), by kernel_rfl⟩
noncomputable def fx64 : FX := { fn := Tryz.f64, body := bodyOf Tryz.f64, esc := fun s => false, sig := fun i => bif Nat.beq i 3 then .one (some true) 0 (.one (some true) 1 (.one (some true) 2 (.one (some true) 3 (.one (some true) 4 (.one (some false) 5 (.one (some false) 6 (.one (some true) 7 (.nil)))))))) else .nil }
theorem fxok64 : FXOK Tryz.prog 64 fx64 := ⟨Tryz.func64, by kernel_rfl, by kernel_rfl, Nat.le_of_ble_eq_true (by kernel_rfl), by kernel_rfl⟩
noncomputable def fx65 : FX := { fn := Tryz.f65, body := bodyOf Tryz.f65, esc := fun s => false, sig := fun i => bif Nat.beq i 1 then .one (some true) 0 (.one (some true) 1 (.one (some true) 2 (.one (some true) 3 (.one (some false) 4 (.one (some false) 5 (.one (some true) 6 (.nil))))))) else .nil }
theorem fxok65 : FXOK Tryz.prog 65 fx65 := ⟨Tryz.func65, by kernel_rfl, by kernel_rfl, Nat.le_of_ble_eq_true (by kernel_rfl), by kernel_rfl⟩
noncomputable def fx66 : FX := { fn := Tryz.f66, body := bodyOf Tryz.f66, esc := fun s => false, sig := fun i => bif Nat.beq i 4 then .one (some true) 0 (.one (some true) 1 (.one (some true) 2 (.one (some true) 3 (.one (some true) 4 (.one (some true) 5 (.one (some false) 6 (.one (some false) 7 (.one (some true) 8 (.nil))))))))) else .nil }
theorem fxok66 : FXOK Tryz.prog 66 fx66 := ⟨Tryz.func66, by kernel_rfl, by kernel_rfl, Nat.le_of_ble_eq_true (by kernel_rfl), by kernel_rfl⟩
noncomputable def fx67 : FX := { fn := Tryz.f67, body := bodyOf Tryz.f67, esc := fun s => false, sig := fun i => bif Nat.beq i 4 then .one (some true) 0 (.one (some true) 1 (.one (some true) 2 (.one (some true) 3 (.one (some true) 4 (.one (some false) 5 (.one (some false) 6 (.one (some true) 7 (.nil)))))))) else .nil }
theorem fxok67 : FXOK Tryz.prog 67 fx67 := ⟨Tryz.func67, by kernel_rfl, by kernel_rfl, Nat.le_of_ble_eq_true (by kernel_rfl), by kernel_rfl⟩
noncomputable def fx68 : FX := { fn := Tryz.f68, body := bodyOf Tryz.f68, esc := fun s => false, sig := fun i => bif Nat.beq i 4 then .one (some true) 0 (.one (some true) 1 (.one (some true) 2 (.one (some true) 3 (.one (some true) 4 (.one (some false) 5 (.one (some true) 6 (.one (some true) 7 (.one (some false) 8 (.one (some false) 9 (.one (some true) 10 (.nil))))))))))) else .nil }
theorem fxok68 : FXOK Tryz.prog 68 fx68 := ⟨Tryz.func68, by kernel_rfl, by kernel_rfl, Nat.le_of_ble_eq_true (by kernel_rfl), by kernel_rfl⟩
noncomputable def fx69 : FX := { fn := Tryz.f69, body := bodyOf Tryz.f69, esc := fun s => false, sig := fun i => bif Nat.beq i 7 then .one (some true) 0 (.one (some true) 1 (.one (some true) 2 (.one (some true) 3 (.one (some true) 4 (.one (some true) 5 (.one (some false) 6 (.one (some true) 7 (.one (some true) 8 (.one (some true) 9 (.one (some false) 10 (.one (some false) 11 (.one (some true) 12 (.nil))))))))))))) else .nil }
theorem fxok69 : FXOK Tryz.prog 69 fx69 := ⟨Tryz.func69, by kernel_rfl, by kernel_rfl, Nat.le_of_ble_eq_true (by kernel_rfl), by kernel_rfl⟩
noncomputable def fx70 : FX := { fn := Tryz.f70, body := bodyOf Tryz.f70, esc := fun s => false, sig := fun i => bif Nat.beq i 3 then .one (some true) 0 (.one (some true) 1 (.one (some true) 2 (.one (some true) 3 (.one (some true) 4 (.one (some true) 5 (.one (some false) 6 (.one (some false) 7 (.one (some false) 8 (.one (some true) 9 (.nil)))))))))) else .nil }
theorem fxok70 : FXOK Tryz.prog 70 fx70 := ⟨Tryz.func70, by kernel_rfl, by kernel_rfl, Nat.le_of_ble_eq_true (by kernel_rfl), by kernel_rfl⟩
noncomputable def fx71 : FX := { fn := Tryz.f71, body := bodyOf Tryz.f71, esc := fun s => false, sig := fun i => bif Nat.beq i 3 then .one (some true) 0 (.one (some true) 1 (.one (some true) 2 (.one (some true) 3 (.one (some true) 4 (.one (some true) 5 (.one (some false) 6 (.one (some false) 7 (.one (some false) 8 (.one (some true) 9 (.nil)))))))))) else .nil }
theorem fxok71 : FXOK Tryz.prog 71 fx71 := ⟨Tryz.func71, by kernel_rfl, by kernel_rfl, Nat.le_of_ble_eq_true (by kernel_rfl), by kernel_rfl⟩
noncomputable def fx72 : FX := { fn := Tryz.f72, body := bodyOf Tryz.f72, esc := fun s => false, sig := fun i => bif Nat.beq i 1 then .one (some true) 0 (.one (some true) 1 (.one (some true) 2 (.one (some true) 3 (.one (some true) 4 (.one (some true) 5 (.one (some false) 6 (.one (some false) 7 (.one (some false) 8 (.one (some true) 9 (.nil)))))))))) else .nil }
theorem fxok72 : FXOK Tryz.prog 72 fx72 := ⟨Tryz.func72, by kernel_rfl, by kernel_rfl, Nat.le_of_ble_eq_true (by kernel_rfl), by kernel_rfl⟩
noncomputable def fx73 : FX := { fn := Tryz.f73, body := bodyOf Tryz.f73, esc := fun s => false, sig := fun i => .nil }
theorem fxok73 : FXOK Tryz.prog 73 fx73 := ⟨Tryz.func73, by kernel_rfl, by kernel_rfl, Nat.le_of_ble_eq_true (by kernel_rfl), by kernel_rfl⟩
noncomputable def fx74 : FX := { fn := Tryz.f74, body := bodyOf Tryz.f74, esc := fun s => false, sig := fun i => bif Nat.beq i 6 then .one (some true) 0 (.one (some true) 1 (.one (some true) 2 (.one (some true) 3 (.one (some true) 4 (.one (some true) 5 (.one (some true) 6 (.one (some true) 7 (.one (some true) 8 (.nil))))))))) else .nil }
theorem fxok74 : FXOK Tryz.prog 74 fx74 := ⟨Tryz.func74, by kernel_rfl, by kernel_rfl, Nat.le_of_ble_eq_true (by kernel_rfl), by kernel_rfl⟩
noncomputable def fx86 : FX := { fn := Tryz.f86, body := bodyOf Tryz.f86, esc := fun s => false, sig := fun i => .nil }
theorem fxok86 : FXOK Tryz.prog 86 fx86 := ⟨Tryz.func86, by kernel_rfl, by kernel_rfl, Nat.le_of_ble_eq_true (by kernel_rfl), by kernel_rfl⟩
noncomputable def fx87 : FX := { fn := Tryz.f87, body := bodyOf Tryz.f87, esc := fun s => false, sig := fun i => .nil }
theorem fxok87 : FXOK Tryz.prog 87 fx87 := ⟨Tryz.func87, by kernel_rfl, by kernel_rfl, Nat.le_of_ble_eq_true (by kernel_rfl), by kernel_rfl⟩
noncomputable def fx88 : FX := { fn := Tryz.f88, body := bodyOf Tryz.f88, esc := fun s => false, sig := fun i => .nil }
theorem fxok88 : FXOK Tryz.prog 88 fx88 := ⟨Tryz.func88, by kernel_rfl, by kernel_rfl, Nat.le_of_ble_eq_true (by kernel_rfl), by kernel_rfl⟩
noncomputable def fx89 : FX := { fn := Tryz.f89, body := bodyOf Tryz.f89, esc := fun s => Nat.beq s 5, sig := fun i => bif Nat.beq i 4 then .one (some true) 0 (.one (some true) 1 (.one (some true) 2 (.one (some true) 4 (.one (some true) 5 (.one (some false) 3 (.one (some false) 6 (.one (some true) 7 (.nil)))))))) else .nil }
theorem fxok89 : FXOK Tryz.prog 89 fx89 := ⟨Tryz.func89, by kernel_rfl, by kernel_rfl, Nat.le_of_ble_eq_true (by kernel_rfl), by kernel_rfl⟩
noncomputable def fx90 : FX := { fn := Tryz.f90, body := bodyOf Tryz.f90, esc := fun s => false, sig := fun i => .nil }
theorem fxok90 : FXOK Tryz.prog 90 fx90 := ⟨Tryz.func90, by kernel_rfl, by kernel_rfl, Nat.le_of_ble_eq_true (by kernel_rfl), by kernel_rfl⟩
noncomputable def fx91 : FX := { fn := Tryz.f91, body := bodyOf Tryz.f91, esc := fun s => false, sig := fun i => .nil }
theorem fxok91 : FXOK Tryz.prog 91 fx91 := ⟨Tryz.func91, by kernel_rfl, by kernel_rfl, Nat.le_of_ble_eq_true (by kernel_rfl), by kernel_rfl⟩
noncomputable def fx92 : FX := { fn := Tryz.f92, body := bodyOf Tryz.f92, esc := fun s => Nat.beq s 3, sig := fun i => .nil }
theorem fxok92 : FXOK Tryz.prog 92 fx92 := ⟨Tryz.func92, by kernel_rfl, by kernel_rfl, Nat.le_of_ble_eq_true (by kernel_rfl), by kernel_rfl⟩
noncomputable def fx93 : FX := { fn := Tryz.f93, body := bodyOf Tryz.f93, esc := fun s => false, sig := fun i => .nil }
theorem fxok93 : FXOK Tryz.prog 93 fx93 := ⟨Tryz.func93, by kernel_rfl, by kernel_rfl, Nat.le_of_ble_eq_true (by kernel_rfl), by kernel_rfl⟩
noncomputable def fx94 : FX := { fn := Tryz.f94, body := bodyOf Tryz.f94, esc := fun s => false, sig := fun i => .nil }
theorem fxok94 : FXOK Tryz.prog 94 fx94 := ⟨Tryz.func94, by kernel_rfl, by kernel_rfl, Nat.le_of_ble_eq_true (by kernel_rfl), by kernel_rfl⟩
noncomputable def fx95 : FX := { fn := Tryz.f95, body := bodyOf Tryz.f95, esc := fun s => Nat.beq s 2 || Nat.beq s 3 || Nat.beq s 24, sig := fun i => .nil }
theorem fxok95 : FXOK Tryz.prog 95 fx95 := ⟨Tryz.func95, by kernel_rfl, by kernel_rfl, Nat.le_of_ble_eq_true (by kernel_rfl), by kernel_rfl⟩
noncomputable def fx96 : FX := { fn := Tryz.f96, body := bodyOf Tryz.f96, esc := fun s => false, sig := fun i => .nil }
theorem fxok96 : FXOK Tryz.prog 96 fx96 := ⟨Tryz.func96, by kernel_rfl, by kernel_rfl, Nat.le_of_ble_eq_true (by kernel_rfl), by kernel_rfl⟩
noncomputable def fx97 : FX := { fn := Tryz.f97, body := bodyOf Tryz.f97, esc := fun s => false, sig := fun i => .nil }
theorem fxok97 : FXOK Tryz.prog 97 fx97 := ⟨Tryz.func97, by kernel_rfl, by kernel_rfl, Nat.le_of_ble_eq_true (by kernel_rfl), by kernel_rfl⟩
noncomputable def fx98 : FX := { fn := Tryz.f98, body := bodyOf Tryz.f98, esc := fun s => false, sig := fun i => .nil }
theorem fxok98 : FXOK Tryz.prog 98 fx98 := ⟨Tryz.func98, by kernel_rfl, by kernel_rfl, Nat.le_of_ble_eq_true (by kernel_rfl), by kernel_rfl⟩
noncomputable def fx99 : FX := { fn := Tryz.f99, body := bodyOf Tryz.f99, esc := fun s => false, sig := fun i => .nil }
theorem fxok99 : FXOK Tryz.prog 99 fx99 := ⟨Tryz.func99, by kernel_rfl, by kernel_rfl, Nat.le_of_ble_eq_true (by kernel_rfl), by kernel_rfl⟩
noncomputable def fx100 : FX := { fn := Tryz.f100, body := bodyOf Tryz.f100, esc := fun s => false, sig := fun i => .nil }
theorem fxok100 : FXOK Tryz.prog 100 fx100 := ⟨Tryz.func100, by kernel_rfl, by kernel_rfl, Nat.le_of_ble_eq_true (by kernel_rfl), by kernel_rfl⟩
noncomputable def fx101 : FX := { fn := Tryz.f101, body := bodyOf Tryz.f101, esc := fun s => false, sig := fun i => .nil }
theorem fxok101 : FXOK Tryz.prog 101 fx101 := ⟨Tryz.func101, by kernel_rfl, by kernel_rfl, Nat.le_of_ble_eq_true (by kernel_rfl), by kernel_rfl⟩
noncomputable def fx102 : FX := { fn := Tryz.f102, body := bodyOf Tryz.f102, esc := fun s => false, sig := fun i => .nil }
theorem fxok102 : FXOK Tryz.prog 102 fx102 := ⟨Tryz.func102, by kernel_rfl, by kernel_rfl, Nat.le_of_ble_eq_true (by kernel_rfl), by kernel_rfl⟩
noncomputable def fx103 : FX := { fn := Tryz.f103, body := bodyOf Tryz.f103, esc := fun s => false, sig := fun i => .nil }
theorem fxok103 : FXOK Tryz.prog 103 fx103 := ⟨Tryz.func103, by kernel_rfl, by kernel_rfl, Nat.le_of_ble_eq_true (by kernel_rfl), by kernel_rfl⟩
noncomputable def fx104 : FX := { fn := Tryz.f104, body := bodyOf Tryz.f104, esc := fun s => false, sig := fun i => .nil }
theorem fxok104 : FXOK Tryz.prog 104 fx104 := ⟨Tryz.func104, by kernel_rfl, by kernel_rfl, Nat.le_of_ble_eq_true (by kernel_rfl), by kernel_rfl⟩
noncomputable def fx111 : FX := { fn := Tryz.f111, body := bodyOf Tryz.f111, esc := fun s => false, sig := fun i => .nil }
theorem fxok111 : FXOK Tryz.prog 111 fx111 := ⟨Tryz.func111, by kernel_rfl, by kernel_rfl, Nat.le_of_ble_eq_true (by kernel_rfl), by kernel_rfl⟩
noncomputable def fx112 : FX := { fn := Tryz.f112, body := bodyOf Tryz.f112, esc := fun s => false, sig := fun i => .nil }
theorem fxok112 : FXOK Tryz.prog 112 fx112 := ⟨Tryz.func112, by kernel_rfl, by kernel_rfl, Nat.le_of_ble_eq_true (by kernel_rfl), by kernel_rfl⟩
noncomputable def fx113 : FX := { fn := Tryz.f113, body := bodyOf Tryz.f113, esc := fun s => false, sig := fun i => .nil }
theorem fxok113 : FXOK Tryz.prog 113 fx113 := ⟨Tryz.func113, by kernel_rfl, by kernel_rfl, Nat.le_of_ble_eq_true (by kernel_rfl), by kernel_rfl⟩
noncomputable def fx114 : FX := { fn := Tryz.f114, body := bodyOf Tryz.f114, esc := fun s => false, sig := fun i => .nil }
theorem fxok114 : FXOK Tryz.prog 114 fx114 := ⟨Tryz.func114, by kernel_rfl, by kernel_rfl, Nat.le_of_ble_eq_true (by kernel_rfl), by kernel_rfl⟩
noncomputable def fx115 : FX := { fn := Tryz.f115, body := bodyOf Tryz.f115, esc := fun s => false, sig := fun i => .nil }
theorem fxok115 : FXOK Tryz.prog 115 fx115 := ⟨Tryz.func115, by kernel_rfl, by kernel_rfl, Nat.le_of_ble_eq_true (by kernel_rfl), by kernel_rfl⟩
noncomputable def fx116 : FX := { fn := Tryz.f116, body := bodyOf Tryz.f116, esc := fun s => false, sig := fun i => .nil }
theorem fxok116 : FXOK Tryz.prog 116 fx116 := ⟨Tryz.func116, by kernel_rfl, by kernel_rfl, Nat.le_of_ble_eq_true (by kernel_rfl), by kernel_rfl⟩
noncomputable def fx117 : FX := { fn := Tryz.f117, body := bodyOf Tryz.f117, esc := fun s => false, sig := fun i => .nil }
theorem fxok117 : FXOK Tryz.prog 117 fx117 := ⟨Tryz.func117, by kernel_rfl, by kernel_rfl, Nat.le_of_ble_eq_true (by kernel_rfl), by kernel_rfl⟩
noncomputable def fx118 : FX := { fn := Tryz.f118, body := bodyOf Tryz.f118, esc := fun s => false, sig := fun i => .nil }
theorem fxok118 : FXOK Tryz.prog 118 fx118 := ⟨Tryz.func118, by kernel_rfl, by kernel_rfl, Nat.le_of_ble_eq_true (by kernel_rfl), by kernel_rfl⟩
noncomputable def fx119 : FX := { fn := Tryz.f119, body := bodyOf Tryz.f119, esc := fun s => false, sig := fun i => .nil }
theorem fxok119 : FXOK Tryz.prog 119 fx119 := ⟨Tryz.func119, by kernel_rfl, by kernel_rfl, Nat.le_of_ble_eq_true (by kernel_rfl), by kernel_rfl⟩
noncomputable def fx120 : FX := { fn := Tryz.f120, body := bodyOf Tryz.f120, esc := fun s => false, sig := fun i => .nil }
theorem fxok120 : FXOK Tryz.prog 120 fx120 := ⟨Tryz.func120, by kernel_rfl, by kernel_rfl, Nat.le_of_ble_eq_true (by kernel_rfl), by kernel_rfl⟩
noncomputable def fx121 : FX := { fn := Tryz.f121, body := bodyOf Tryz.f121, esc := fun s => false, sig := fun i => .nil }
theorem fxok121 : FXOK Tryz.prog 121 fx121 := ⟨Tryz.func121, by kernel_rfl, by kernel_rfl, Nat.le_of_ble_eq_true (by kernel_rfl), by kernel_rfl⟩
noncomputable def fx122 : FX := { fn := Tryz.f122, body := bodyOf Tryz.f122, esc := fun s => false, sig := fun i => .nil }
theorem fxok122 : FXOK Tryz.prog 122 fx122 := ⟨Tryz.func122, by kernel_rfl, by kernel_rfl, Nat.le_of_ble_eq_true (by kernel_rfl), by kernel_rfl⟩
noncomputable def fx123 : FX := { fn := Tryz.f123, body := bodyOf Tryz.f123, esc := fun s => false, sig := fun i => .nil }
theorem fxok123 : FXOK Tryz.prog 123 fx123 := ⟨Tryz.func123, by kernel_rfl, by kernel_rfl, Nat.le_of_ble_eq_true (by kernel_rfl), by kernel_rfl⟩
noncomputable def fx124 : FX := { fn := Tryz.f124, body := bodyOf Tryz.f124, esc := fun s => false, sig := fun i => .nil }
theorem fxok124 : FXOK Tryz.prog 124 fx124 := ⟨Tryz.func124, by kernel_rfl, by kernel_rfl, Nat.le_of_ble_eq_true (by kernel_rfl), by kernel_rfl⟩
noncomputable def fx125 : FX := { fn := Tryz.f125, body := bodyOf Tryz.f125, esc := fun s => false, sig := fun i => .nil }
theorem fxok125 : FXOK Tryz.prog 125 fx125 := ⟨Tryz.func125, by kernel_rfl, by kernel_rfl, Nat.le_of_ble_eq_true (by kernel_rfl), by kernel_rfl⟩
noncomputable def fx126 : FX := { fn := Tryz.f126, body := bodyOf Tryz.f126, esc := fun s => false, sig := fun i => .nil }
theorem fxok126 : FXOK Tryz.prog 126 fx126 := ⟨Tryz.func126, by kernel_rfl, by kernel_rfl, Nat.le_of_ble_eq_true (by kernel_rfl), by kernel_rfl⟩
noncomputable def fx127 : FX := { fn := Tryz.f127, body := bodyOf Tryz.f127, esc := fun s => false, sig := fun i => .nil }
theorem fxok127 : FXOK Tryz.prog 127 fx127 := ⟨Tryz.func127, by kernel_rfl, by kernel_rfl, Nat.le_of_ble_eq_true (by kernel_rfl), by kernel_rfl⟩
noncomputable def fx128 : FX := { fn := Tryz.f128, body := bodyOf Tryz.f128, esc := fun s => false, sig := fun i => .nil }
theorem fxok128 : FXOK Tryz.prog 128 fx128 := ⟨Tryz.func128, by kernel_rfl, by kernel_rfl, Nat.le_of_ble_eq_true (by kernel_rfl), by kernel_rfl⟩
noncomputable def fx129 : FX := { fn := Tryz.f129, body := bodyOf Tryz.f129, esc := fun s => false, sig := fun i => .nil }
theorem fxok129 : FXOK Tryz.prog 129 fx129 := ⟨Tryz.func129, by kernel_rfl, by kernel_rfl, Nat.le_of_ble_eq_true (by kernel_rfl), by kernel_rfl⟩
noncomputable def fx130 : FX := { fn := Tryz.f130, body := bodyOf Tryz.f130, esc := fun s => Nat.beq s 7, sig := fun i => .nil }
theorem fxok130 : FXOK Tryz.prog 130 fx130 := ⟨Tryz.func130, by kernel_rfl, by kernel_rfl, Nat.le_of_ble_eq_true (by kernel_rfl), by kernel_rfl⟩
noncomputable def fx136 : FX := { fn := Tryz.f136, body := bodyOf Tryz.f136, esc := fun s => false, sig := fun i => .nil }
theorem fxok136 : FXOK Tryz.prog 136 fx136 := ⟨Tryz.func136, by kernel_rfl, by kernel_rfl, Nat.le_of_ble_eq_true (by kernel_rfl), by kernel_rfl⟩
noncomputable def fx137 : FX := { fn := Tryz.f137, body := bodyOf Tryz.f137, esc := fun s => false, sig := fun i => .nil }
theorem fxok137 : FXOK Tryz.prog 137 fx137 := ⟨Tryz.func137, by kernel_rfl, by kernel_rfl, Nat.le_of_ble_eq_true (by kernel_rfl), by kernel_rfl⟩
noncomputable def fx138 : FX := { fn := Tryz.f138, body := bodyOf Tryz.f138, esc := fun s => false, sig := fun i => .nil }
theorem fxok138 : FXOK Tryz.prog 138 fx138 := ⟨Tryz.func138, by kernel_rfl, by kernel_rfl, Nat.le_of_ble_eq_true (by kernel_rfl), by kernel_rfl⟩
noncomputable def fx139 : FX := { fn := Tryz.f139, body := bodyOf Tryz.f139, esc := fun s => false, sig := fun i => .nil }
theorem fxok139 : FXOK Tryz.prog 139 fx139 := ⟨Tryz.func139, by kernel_rfl, by kernel_rfl, Nat.le_of_ble_eq_true (by kernel_rfl), by kernel_rfl⟩
noncomputable def fxl : List (Nat × FX) := [(8, fx8), (10, fx10), (13, fx13), (15, fx15), (16, fx16), (18, fx18), (20, fx20), (24, fx24), (25, fx25), (26, fx26), (27, fx27), (28, fx28), (29, fx29), (30, fx30), (31, fx31), (32, fx32), (34, fx34), (35, fx35), (36, fx36), (46, fx46), (47, fx47), (48, fx48), (49, fx49), (50, fx50), (51, fx51), (52, fx52), (53, fx53), (54, fx54), (55, fx55), (56, fx56), (57, fx57), (58, fx58), (59, fx59), (60, fx60), (61, fx61), (62, fx62), (63, fx63), (64, fx64), (65, fx65), (66, fx66), (67, fx67), (68, fx68), (69, fx69), (70, fx70), (71, fx71), (72, fx72), (73, fx73), (74, fx74), (86, fx86), (87, fx87), (88, fx88), (89, fx89), (90, fx90), (91, fx91), (92, fx92), (93, fx93), (94, fx94), (95, fx95), (96, fx96), (97, fx97), (98, fx98), (99, fx99), (100, fx100), (101, fx101), (102, fx102), (103, fx103), (104, fx104), (111, fx111), (112, fx112), (113, fx113), (114, fx114), (115, fx115), (116, fx116), (117, fx117), (118, fx118), (119, fx119), (120, fx120), (121, fx121), (122, fx122), (123, fx123), (124, fx124), (125, fx125), (126, fx126), (127, fx127), (128, fx128), (129, fx129), (130, fx130), (136, fx136), (137, fx137), (138, fx138), (139, fx139)]
theorem fxall : FxAll Tryz.prog fxl := ⟨fxok8, fxok10, fxok13, fxok15, fxok16, fxok18, fxok20, fxok24, fxok25, fxok26, fxok27, fxok28, fxok29, fxok30, fxok31, fxok32, fxok34, fxok35, fxok36, fxok46, fxok47, fxok48, fxok49, fxok50, fxok51, fxok52, fxok53, fxok54, fxok55, fxok56, fxok57, fxok58, fxok59, fxok60, fxok61, fxok62, fxok63, fxok64, fxok65, fxok66, fxok67, fxok68, fxok69, fxok70, fxok71, fxok72, fxok73, fxok74, fxok86, fxok87, fxok88, fxok89, fxok90, fxok91, fxok92, fxok93, fxok94, fxok95, fxok96, fxok97, fxok98, fxok99, fxok100, fxok101, fxok102, fxok103, fxok104, fxok111, fxok112, fxok113, fxok114, fxok115, fxok116, fxok117, fxok118, fxok119, fxok120, fxok121, fxok122, fxok123, fxok124, fxok125, fxok126, fxok127, fxok128, fxok129, fxok130, fxok136, fxok137, fxok138, fxok139, trivial⟩
end Go.Proofs.YtdbkbkmlemefkaaGreatDoor
