import Derived.Test.YtgckodpnpidodaaGreatPaSh
set_option linter.all false
set_option linter.all false
set_option maxRecDepth 100000
namespace Go.Ez
open Go.Proofs
def ann_F_parcloselaw20_PartModes : Ann := [(7, ⟨[], [], [1, 2, 5]⟩), (250, ⟨[6, 7], [(vI 0), (vI 0)], [1, 2, 5]⟩), (64074, ⟨[45], [(.bool false)], [1, 2, 5, 6, 7, 8, 44]⟩), (8009, ⟨[6], [(vI 0)], [1, 2, 5, 7, 8]⟩), (256299, ⟨[54], [(.bool false)], [1, 2, 5, 6, 7, 8, 44]⟩), (1025199, ⟨[60], [(.bool false)], [1, 2, 5, 6, 7, 8, 44]⟩), (256314, ⟨[10], [(vI 0)], [1, 2, 5, 6, 7, 8, 9]⟩), (64079, ⟨[], [], [1, 2, 5, 6, 7, 9]⟩)]
def vc_F_parcloselaw20_PartModes (C : WT) (sl0 : Option Addr) (sl0n sl0c : Nat) (sl1 : Option Addr) (sl1n sl1c : Nat) (sl2 : Option Addr) (sl2n sl2c : Nat) (n3 : Int) (n4 : Int) (n5 : Int) (sl6 : Option Addr) (sl6n sl6c : Nat) (H : AH) (Q : Value → AH → Prop) : Prop :=
    nw H (.cells [(.slice sl0 sl0n sl0c), (.slice sl1 sl1n sl1c), (.slice sl2 sl2n sl2c), (.int .u8 n3), (.int .u8 n4), (.int .u8 n5)] false 0) fun b7 H8 =>
    ld_Alllccc H8 (some ⟨b7, 0, none⟩) fun sl9 sl9n sl9c sl10 sl10n sl10c sl11 sl11n sl11c n12 n13 n14 =>
    C F_parcloselaw03_Part [(.agg #[(.slice sl9 sl9n sl9c), (.slice sl10 sl10n sl10c), (.slice sl11 sl11n sl11c), (.int .u8 n12), (.int .u8 n13), (.int .u8 n14)])] H8 (fun r16 H15 =>
    r_Alllccc r16 <| fun sl17 sl17n sl17c sl18 sl18n sl18c sl19 sl19n sl19c n20 n21 n22 =>
    C F_part_New [(.agg #[(.slice sl17 sl17n sl17c), (.slice sl18 sl18n sl18c), (.slice sl19 sl19n sl19c), (.int .u8 n20), (.int .u8 n21), (.int .u8 n22)]), (vI 0)] H15 (fun r24 H23 =>
    r_p r24 <| fun p25 =>
    ∀ X26 : List Value → AH → Prop, (∀ H54 : AH, (∀ F55 : TF, ∀ X56 : List Value → AH → Prop, (∀ n57 : Int, ∀ n58 : Int, ∀ H59 : AH, (∀ F60 : TF, bcase (decide (n58 < (↑(sl6n : Nat) : Int))) (ix sl6 sl6n n58 fun b61 o62 =>
    ld_Aiiiiiiil H59 (some ⟨b61, o62 + Int.toNat n58 * 8, none⟩) fun n63 n64 n65 n66 n67 n68 n69 sl70 sl70n sl70c =>
    nw H59 (.cells [(vI 0), (vI 0), (vI 0), (vI 0), (vI 0), (vI 0), (vI 0), (.slice none 0 0)] false 0) fun b71 H72 =>
    st H72 8 (some ⟨b71, 0, none⟩) (.agg #[(vI n63), (vI n64), (vI n65), (vI n66), (vI n67), (vI n68), (vI n69), (.slice sl70 sl70n sl70c)]) fun H73 =>
    ∀ X74 : List Value → AH → Prop, (∀ n123 : Int, ∀ H124 : AH, (∀ F125 : TF, C F_part_Part_Jobs [(.pointer p25)] H124 (fun r127 H126 =>
    r_l r127 <| fun sl128 sl128n sl128c =>
    ∀ X129 : List Value → AH → Prop, (∀ n130 : Int, ∀ H131 : AH, (∀ F132 : TF, bcase (decide (n130 < (↑(sl128n : Nat) : Int))) (C F_part_Part_High [(.pointer p25)] H131 (fun r134 H133 =>
    r_b r134 <| fun b135 =>
    bcase b135 (ld_l H133 (some ⟨b7, 0 + 0, none⟩) fun sl136 sl136n sl136c =>
    ix sl128 sl128n n130 fun b137 o138 =>
    ld_i H133 (some ⟨b137, o138 + Int.toNat n130 * 5 + 0, none⟩) fun n139 =>
    ix sl136 sl136n n139 fun b140 o141 =>
    ld_b H133 (some ⟨b140, o141 + Int.toNat n139 * 6 + 0, none⟩) fun b142 =>
    bcase (!b142) (Q (.bool false) H133) (kp [(.slice sl6 sl6n sl6c), (.pointer (some ⟨b7, 0, none⟩)), (.pointer p25), (vI n123), (vI n58), (.pointer (some ⟨b71, 0, none⟩)), (.slice sl128 sl128n sl128c)] (X129 [(vI (IntKind.wrap .i64 (n130 + 1)))] H133))) (kp [(.slice sl6 sl6n sl6c), (.pointer (some ⟨b7, 0, none⟩)), (.pointer p25), (vI n123), (vI n58), (.pointer (some ⟨b71, 0, none⟩)), (.slice sl128 sl128n sl128c)] (X129 [(vI (IntKind.wrap .i64 (n130 + 1)))] H133)))) (∀ X143 : List Value → AH → Prop, (∀ H162 : AH, (∀ F163 : TF, C F_part_Part_High [(.pointer p25)] H162 (fun r165 H164 =>
    r_b r165 <| fun b166 =>
    bcase b166 (bcase ((↑(sl128n : Nat) : Int) == 0) (Q (.bool false) H164) (kp [(.slice sl6 sl6n sl6c), (.pointer (some ⟨b7, 0, none⟩)), (.pointer p25)] (X56 [(vI n123), (vI (IntKind.wrap .i64 (n58 + 1)))] H164))) (kp [(.slice sl6 sl6n sl6c), (.pointer (some ⟨b7, 0, none⟩)), (.pointer p25)] (X56 [(vI n123), (vI (IntKind.wrap .i64 (n58 + 1)))] H164)))) → X143 [] H162) → C F_part_Part_Pick [(.pointer p25)] H131 (fun r145 H144 =>
    r_T_Abi_b r145 <| fun b146 n147 b148 =>
    nw H144 (.cells [(.bool false), (vI 0)] false 0) fun b149 H150 =>
    st H150 2 (some ⟨b149, 0, none⟩) (.agg #[(.bool b146), (vI n147)]) fun H151 =>
    C F_part_Part_Up [(.pointer p25)] H151 (fun r153 H152 =>
    r_b r153 <| fun b154 =>
    bcase (!b154) (bcase b148 (Q (.bool false) H152) (bcase (decide (0 < (↑(sl128n : Nat) : Int))) (Q (.bool false) H152) (C F_part_Part_High [(.pointer p25)] H152 (fun r156 H155 =>
    r_b r156 <| fun b157 =>
    bcase b157 (Q (.bool false) H155) (ld_i H155 (some ⟨b71, 0 + 1, none⟩) fun n158 =>
    C F_part_Part_Queue [(.pointer p25), (vI n158)] H155 (fun r160 H159 =>
    r_i r160 <| fun n161 =>
    bcase (decide (0 < n161)) (Q (.bool false) H159) (kp [(.slice sl6 sl6n sl6c), (.pointer (some ⟨b7, 0, none⟩)), (.pointer p25), (vI n123), (vI n58), (.slice sl128 sl128n sl128c)] (X143 [] H159)))))))) (kp [(.slice sl6 sl6n sl6c), (.pointer (some ⟨b7, 0, none⟩)), (.pointer p25), (vI n123), (vI n58), (.slice sl128 sl128n sl128c)] (X143 [] H152)))))) → X129 [(vI n130)] H131) → X129 [(vI 0)] H126)) → X74 [(vI n123)] H124) → ld_i H73 (some ⟨b71, 0 + 0, none⟩) fun n75 =>
    ∀ X76 : List Value → AH → Prop, (∀ b77 : Bool, ∀ H78 : AH, (∀ F79 : TF, bcase b77 (C F_part_Part_Begin [(.pointer p25), (vI (IntKind.wrap .i64 (n57 + 1)))] H78 (fun r81 H80 =>
    r_l r81 <| fun sl82 sl82n sl82c =>
    kp [(.slice sl6 sl6n sl6c), (.pointer (some ⟨b7, 0, none⟩)), (.pointer p25), (vI n58), (.pointer (some ⟨b71, 0, none⟩))] (X74 [(vI (IntKind.wrap .i64 (n57 + 1)))] H80))) (∀ X83 : List Value → AH → Prop, (∀ b84 : Bool, ∀ H85 : AH, (∀ F86 : TF, bcase b84 (C F_part_Part_Run [(.pointer p25)] H85 (fun r88 H87 =>
    r_T_Abi_Aiii_l r88 <| fun b89 n90 n91 n92 n93 sl94 sl94n sl94c =>
    kp [(.slice sl6 sl6n sl6c), (.pointer (some ⟨b7, 0, none⟩)), (.pointer p25), (vI n58), (.pointer (some ⟨b71, 0, none⟩))] (X74 [(vI n57)] H87))) (∀ X95 : List Value → AH → Prop, (∀ b96 : Bool, ∀ H97 : AH, (∀ F98 : TF, bcase b96 (ld_Aiiiil H97 (some ⟨b71, 0 + 3, none⟩) fun n99 n100 n101 n102 sl103 sl103n sl103c =>
    C F_parcloselaw19_Job [(.agg #[(vI n99), (vI n100), (vI n101), (vI n102), (.slice sl103 sl103n sl103c)])] H97 (fun r105 H104 =>
    r_Aiiiil r105 <| fun n106 n107 n108 n109 sl110 sl110n sl110c =>
    C F_part_Part_Arrive [(.pointer p25), (vI n57), (.agg #[(vI n106), (vI n107), (vI n108), (vI n109), (.slice sl110 sl110n sl110c)])] H104 (fun r112 H111 =>
    r_i r112 <| fun n113 =>
    kp [(.slice sl6 sl6n sl6c), (.pointer (some ⟨b7, 0, none⟩)), (.pointer p25), (vI n58), (.pointer (some ⟨b71, 0, none⟩))] (X74 [(vI n57)] H111)))) (bcase (n75 == 8) (ld_i H97 (some ⟨b71, 0 + 1, none⟩) fun n114 =>
    ld_i H97 (some ⟨b71, 0 + 2, none⟩) fun n115 =>
    C F_part_Part_Request [(.pointer p25), (vI n114), (vI n115)] H97 (fun r117 H116 =>
    r_i r117 <| fun n118 =>
    kp [(.slice sl6 sl6n sl6c), (.pointer (some ⟨b7, 0, none⟩)), (.pointer p25), (vI n58), (.pointer (some ⟨b71, 0, none⟩))] (X74 [(vI n57)] H116))) (bcase (n75 == 9) (C F_part_Part_Stop [(.pointer p25)] H97 (fun r120 H119 =>
    r_T r120 <| kp [(.slice sl6 sl6n sl6c), (.pointer (some ⟨b7, 0, none⟩)), (.pointer p25), (vI n58), (.pointer (some ⟨b71, 0, none⟩))] (X74 [(vI n57)] H119))) (bcase (n75 == 10) (C F_part_Part_Restart [(.pointer p25)] H97 (fun r122 H121 =>
    r_T r122 <| kp [(.slice sl6 sl6n sl6c), (.pointer (some ⟨b7, 0, none⟩)), (.pointer p25), (vI n58), (.pointer (some ⟨b71, 0, none⟩))] (X74 [(vI n57)] H121))) (kp [(.slice sl6 sl6n sl6c), (.pointer (some ⟨b7, 0, none⟩)), (.pointer p25), (vI n58), (.pointer (some ⟨b71, 0, none⟩))] (X74 [(vI n57)] H97)))))) → X95 [(.bool b96)] H97) → bcase (n75 == 6) (kp [(.slice sl6 sl6n sl6c), (.pointer (some ⟨b7, 0, none⟩)), (.pointer p25), (vI n57), (vI n58), (.pointer (some ⟨b71, 0, none⟩)), (vI n75)] (X95 [(.bool true)] H85)) (kp [(.slice sl6 sl6n sl6c), (.pointer (some ⟨b7, 0, none⟩)), (.pointer p25), (vI n57), (vI n58), (.pointer (some ⟨b71, 0, none⟩)), (vI n75)] (X95 [(.bool (n75 == 7))] H85)))) → X83 [(.bool b84)] H85) → bcase (n75 == 3) (kp [(.slice sl6 sl6n sl6c), (.pointer (some ⟨b7, 0, none⟩)), (.pointer p25), (vI n57), (vI n58), (.pointer (some ⟨b71, 0, none⟩)), (vI n75)] (X83 [(.bool true)] H78)) (bcase (n75 == 4) (kp [(.slice sl6 sl6n sl6c), (.pointer (some ⟨b7, 0, none⟩)), (.pointer p25), (vI n57), (vI n58), (.pointer (some ⟨b71, 0, none⟩)), (vI n75)] (X83 [(.bool true)] H78)) (kp [(.slice sl6 sl6n sl6c), (.pointer (some ⟨b7, 0, none⟩)), (.pointer p25), (vI n57), (vI n58), (.pointer (some ⟨b71, 0, none⟩)), (vI n75)] (X83 [(.bool (n75 == 5))] H78))))) → X76 [(.bool b77)] H78) → bcase (n75 == 0) (kp [(.slice sl6 sl6n sl6c), (.pointer (some ⟨b7, 0, none⟩)), (.pointer p25), (vI n57), (vI n58), (.pointer (some ⟨b71, 0, none⟩)), (vI n75)] (X76 [(.bool true)] H73)) (bcase (n75 == 1) (kp [(.slice sl6 sl6n sl6c), (.pointer (some ⟨b7, 0, none⟩)), (.pointer p25), (vI n57), (vI n58), (.pointer (some ⟨b71, 0, none⟩)), (vI n75)] (X76 [(.bool true)] H73)) (kp [(.slice sl6 sl6n sl6c), (.pointer (some ⟨b7, 0, none⟩)), (.pointer p25), (vI n57), (vI n58), (.pointer (some ⟨b71, 0, none⟩)), (vI n75)] (X76 [(.bool (n75 == 2))] H73)))) (Q (.bool true) H59)) → X56 [(vI n57), (vI n58)] H59) → X56 [(vI 0), (vI 0)] H54) → X26 [] H54) → ld_Alllccc H23 (some ⟨b7, 0, none⟩) fun sl27 sl27n sl27c sl28 sl28n sl28c sl29 sl29n sl29c n30 n31 n32 =>
    C F_parcloselaw20_few [(.agg #[(.slice sl27 sl27n sl27c), (.slice sl28 sl28n sl28c), (.slice sl29 sl29n sl29c), (.int .u8 n30), (.int .u8 n31), (.int .u8 n32)])] H23 (fun r34 H33 =>
    r_b r34 <| fun b35 =>
    bcase (!b35) (C F_parcloselaw20_knows [] H33 (fun r37 H36 =>
    r_b r37 <| fun b38 =>
    Q (.bool b38) H36)) (C F_parcloselaw20_light [(.slice sl6 sl6n sl6c)] H33 (fun r40 H39 =>
    r_b r40 <| fun b41 =>
    bcase (!b41) (C F_parcloselaw20_knows [] H39 (fun r43 H42 =>
    r_b r43 <| fun b44 =>
    Q (.bool b44) H42)) (bcase (Option.isNone p25) (C F_parcloselaw20_knows [] H39 (fun r46 H45 =>
    r_b r46 <| fun b47 =>
    Q (.bool b47) H45)) (C F_parcloselaw20_knows [] H39 (fun r49 H48 =>
    r_b r49 <| fun b50 =>
    bcase (!b50) (C F_parcloselaw20_knows [] H48 (fun r52 H51 =>
    r_b r52 <| fun b53 =>
    Q (.bool b53) H51)) (kp [(.slice sl6 sl6n sl6c), (.pointer (some ⟨b7, 0, none⟩)), (.pointer p25)] (X26 [] H48))))))))))
theorem nf_F_parcloselaw20_PartModes (C : WT) (sl0 : Option Addr) (sl0n sl0c : Nat) (sl1 : Option Addr) (sl1n sl1c : Nat) (sl2 : Option Addr) (sl2n sl2c : Nat) (n3 : Int) (n4 : Int) (n5 : Int) (sl6 : Option Addr) (sl6n sl6c : Nat) (H : AH) (Q : Value → AH → Prop) : wpF Tryz.prog C ann_F_parcloselaw20_PartModes F_parcloselaw20_PartModes [(.agg #[(.slice sl0 sl0n sl0c), (.slice sl1 sl1n sl1c), (.slice sl2 sl2n sl2c), (.int .u8 n3), (.int .u8 n4), (.int .u8 n5)]), (.slice sl6 sl6n sl6c)] H Q = vc_F_parcloselaw20_PartModes C sl0 sl0n sl0c sl1 sl1n sl1c sl2 sl2n sl2c n3 n4 n5 sl6 sl6n sl6c H Q := by kernel_rfl
def ann_F_parcloselaw20_PartNil : Ann := [(122, ⟨[3, 4], [(.pointer none), (vI 0)], [1]⟩)]
def vc_F_parcloselaw20_PartNil (C : WT) (n0 : Int) (n1 : Int) (n2 : Int) (n3 : Int) (n4 : Int) (n5 : Int) (n6 : Int) (sl7 : Option Addr) (sl7n sl7c : Nat) (H : AH) (Q : Value → AH → Prop) : Prop :=
    nw H (.cells [(vI n0), (vI n1), (vI n2), (vI n3), (vI n4), (vI n5), (vI n6), (.slice sl7 sl7n sl7c)] false 0) fun b8 H9 =>
    ld_Aiiiiiiil H9 (some ⟨b8, 0, none⟩) fun n10 n11 n12 n13 n14 n15 n16 sl17 sl17n sl17c =>
    nw H9 (.cells [(vI n10), (vI n11), (vI n12), (vI n13), (vI n14), (vI n15), (vI n16), (.slice sl17 sl17n sl17c)] false 0) fun b18 H19 =>
    C F_parcloselaw20_light [(.slice (some ⟨b18, 0, none⟩) 1 1)] H19 (fun r21 H20 =>
    r_b r21 <| fun b22 =>
    bcase (!b22) (C F_parcloselaw20_knows [] H20 (fun r24 H23 =>
    r_b r24 <| fun b25 =>
    Q (.bool b25) H23)) (∀ X26 : List Value → AH → Prop, (∀ p27 : Option Addr, ∀ n28 : Int, ∀ H29 : AH, (∀ F30 : TF, bcase (decide (n28 < 2)) (C F_part_Part_Stop [(.pointer p27)] H29 (fun r32 H31 =>
    r_T r32 <| C F_part_Part_Restart [(.pointer p27)] H31 (fun r34 H33 =>
    r_T r34 <| C F_part_Part_Pick [(.pointer p27)] H33 (fun r36 H35 =>
    r_T_Abi_b r36 <| fun b37 n38 b39 =>
    nw H35 (.cells [(.bool false), (vI 0)] false 0) fun b40 H41 =>
    st H41 2 (some ⟨b40, 0, none⟩) (.agg #[(.bool b37), (vI n38)]) fun H42 =>
    C F_part_Part_Run [(.pointer p27)] H42 (fun r44 H43 =>
    r_T_Abi_Aiii_l r44 <| fun b45 n46 n47 n48 n49 sl50 sl50n sl50c =>
    nw H43 (.cells [(.bool false), (vI 0)] false 0) fun b51 H52 =>
    nw H52 (.cells [(vI 0), (vI 0), (vI 0)] false 0) fun b53 H54 =>
    st H54 2 (some ⟨b51, 0, none⟩) (.agg #[(.bool b45), (vI n46)]) fun H55 =>
    st H55 3 (some ⟨b53, 0, none⟩) (.agg #[(vI n47), (vI n48), (vI n49)]) fun H56 =>
    ld_Aiiiil H56 (some ⟨b8, 0 + 3, none⟩) fun n57 n58 n59 n60 sl61 sl61n sl61c =>
    C F_parcloselaw19_Job [(.agg #[(vI n57), (vI n58), (vI n59), (vI n60), (.slice sl61 sl61n sl61c)])] H56 (fun r63 H62 =>
    r_Aiiiil r63 <| fun n64 n65 n66 n67 sl68 sl68n sl68c =>
    C F_part_Part_Arrive [(.pointer p27), (vI 5), (.agg #[(vI n64), (vI n65), (vI n66), (vI n67), (.slice sl68 sl68n sl68c)])] H62 (fun r70 H69 =>
    r_i r70 <| fun n71 =>
    C F_parcloselaw20_num [(vI n71)] H69 (fun r73 H72 =>
    r_i r73 <| fun n74 =>
    bcase (n74 != 1) (Q (.bool false) H72) (ld_i H72 (some ⟨b8, 0 + 1, none⟩) fun n75 =>
    ld_i H72 (some ⟨b8, 0 + 2, none⟩) fun n76 =>
    C F_part_Part_Request [(.pointer p27), (vI n75), (vI n76)] H72 (fun r78 H77 =>
    r_i r78 <| fun n79 =>
    C F_parcloselaw20_num [(vI n79)] H77 (fun r81 H80 =>
    r_i r81 <| fun n82 =>
    bcase (n82 != 1) (Q (.bool false) H80) (C F_part_Part_Begin [(.pointer p27), (vI 5)] H80 (fun r84 H83 =>
    r_l r84 <| fun sl85 sl85n sl85c =>
    C F_part_Part_Jobs [(.pointer p27)] H83 (fun r87 H86 =>
    r_l r87 <| fun sl88 sl88n sl88c =>
    ld_i H86 (some ⟨b8, 0 + 1, none⟩) fun n89 =>
    Again H83 (.ld1 (.pointer (some ⟨b8, 0 + 1, none⟩))) (vI n89) ∧ Again H80 (.ld1 (.pointer (some ⟨b8, 0 + 1, none⟩))) (vI n89) ∧ C F_part_Part_Queue [(.pointer p27), (vI n89)] H86 (fun r91 H90 =>
    r_i r91 <| fun n92 =>
    bcase ((IntKind.wrap .i64 ((IntKind.wrap .i64 ((IntKind.wrap .i64 ((↑(sl85n : Nat) : Int) + (↑(sl50n : Nat) : Int))) + (↑(sl88n : Nat) : Int))) + n92)) != 0) (Q (.bool false) H90) (bcase b39 (Q (.bool false) H90) (ld_Abi H90 (some ⟨b40, 0, none⟩) fun b93 n94 =>
    ld_Abi H90 (some ⟨b51, 0, none⟩) fun b95 n96 =>
    eqK Tryz.prog .neq T_part_What (.agg #[(.bool b93), (vI n94)]) (.agg #[(.bool b95), (vI n96)]) fun b97 =>
    bcase b97 (Q (.bool false) H90) (ld_Aiii H90 (some ⟨b53, 0, none⟩) fun n98 n99 n100 =>
    eqK Tryz.prog .neq T_tasks_Op (.agg #[(vI n98), (vI n99), (vI n100)]) (.agg #[(vI 0), (vI 0), (vI 0)]) fun b101 =>
    bcase b101 (Q (.bool false) H90) (C F_part_Part_Up [(.pointer p27)] H90 (fun r103 H102 =>
    r_b r103 <| fun b104 =>
    bcase b104 (Q (.bool false) H102) (C F_part_Part_High [(.pointer p27)] H102 (fun r106 H105 =>
    r_b r106 <| fun b107 =>
    bcase b107 (Q (.bool false) H105) (nw H105 (.cells [(.pointer none), (.pointer none), (.slice none 0 0), (.bool false)] false 0) fun b108 H109 =>
    kp [(.pointer (some ⟨b8, 0, none⟩))] (X26 [(.pointer (some ⟨b108, 0, none⟩)), (vI (IntKind.wrap .i64 (n28 + 1)))] H109)))))))))))))))))))))))) (C F_parcloselaw20_knows [] H29 (fun r111 H110 =>
    r_b r111 <| fun b112 =>
    Q (.bool b112) H110))) → X26 [(.pointer p27), (vI n28)] H29) → X26 [(.pointer none), (vI 0)] H20))
theorem nf_F_parcloselaw20_PartNil (C : WT) (n0 : Int) (n1 : Int) (n2 : Int) (n3 : Int) (n4 : Int) (n5 : Int) (n6 : Int) (sl7 : Option Addr) (sl7n sl7c : Nat) (H : AH) (Q : Value → AH → Prop) : wpF Tryz.prog C ann_F_parcloselaw20_PartNil F_parcloselaw20_PartNil [(.agg #[(vI n0), (vI n1), (vI n2), (vI n3), (vI n4), (vI n5), (vI n6), (.slice sl7 sl7n sl7c)])] H Q = vc_F_parcloselaw20_PartNil C n0 n1 n2 n3 n4 n5 n6 sl7 sl7n sl7c H Q := by kernel_rfl
def ann_F_part_New : Ann := [(3, ⟨[], [], [1, 2]⟩)]
def vc_F_part_New (C : WT) (sl0 : Option Addr) (sl0n sl0c : Nat) (sl1 : Option Addr) (sl1n sl1c : Nat) (sl2 : Option Addr) (sl2n sl2c : Nat) (n3 : Int) (n4 : Int) (n5 : Int) (n6 : Int) (H : AH) (Q : Value → AH → Prop) : Prop :=
    nw H (.cells [(.slice sl0 sl0n sl0c), (.slice sl1 sl1n sl1c), (.slice sl2 sl2n sl2c), (.int .u8 n3), (.int .u8 n4), (.int .u8 n5)] false 0) fun b7 H8 =>
    ∀ X9 : List Value → AH → Prop, (∀ H19 : AH, (∀ F20 : TF, ld_l H19 (some ⟨b7, 0 + 0, none⟩) fun sl21 sl21n sl21c =>
    C F_tasks_New [(.slice sl21 sl21n sl21c)] H19 (fun r23 H22 =>
    r_p r23 <| fun p24 =>
    ld_l H22 (some ⟨b7, 0 + 0, none⟩) fun sl25 sl25n sl25c =>
    Again H19 (.ld1 (.pointer (some ⟨b7, 0 + 0, none⟩))) (.slice sl25 sl25n sl25c) ∧ C F_police_New [(.slice sl25 sl25n sl25c)] H22 (fun r27 H26 =>
    r_p r27 <| fun p28 =>
    ld_l H26 (some ⟨b7, 0 + 1, none⟩) fun sl29 sl29n sl29c =>
    Again H22 (.ld1 (.pointer (some ⟨b7, 0 + 1, none⟩))) (.slice sl29 sl29n sl29c) ∧ Again H19 (.ld1 (.pointer (some ⟨b7, 0 + 1, none⟩))) (.slice sl29 sl29n sl29c) ∧ C F_part_rows [(vI n6), (.slice sl29 sl29n sl29c)] H26 (fun r31 H30 =>
    r_l r31 <| fun sl32 sl32n sl32c =>
    nw H30 (.cells [(.pointer p24), (.pointer p28), (.slice sl32 sl32n sl32c), (.bool true)] false 0) fun b33 H34 =>
    Q (.pointer (some ⟨b33, 0, none⟩)) H34)))) → X9 [] H19) → ld_Alllccc H8 (some ⟨b7, 0, none⟩) fun sl10 sl10n sl10c sl11 sl11n sl11c sl12 sl12n sl12c n13 n14 n15 =>
    C F_conf_Part_Rights [(.agg #[(.slice sl10 sl10n sl10c), (.slice sl11 sl11n sl11c), (.slice sl12 sl12n sl12c), (.int .u8 n13), (.int .u8 n14), (.int .u8 n15)])] H8 (fun r17 H16 =>
    r_i r17 <| fun n18 =>
    bcase (n18 != 0) (Q (.pointer none) H16) (bcase (decide (n6 < 0)) (Q (.pointer none) H16) (bcase (decide (4611686018427387904 < n6)) (Q (.pointer none) H16) (kp [(vI n6), (.pointer (some ⟨b7, 0, none⟩))] (X9 [] H16)))))
theorem nf_F_part_New (C : WT) (sl0 : Option Addr) (sl0n sl0c : Nat) (sl1 : Option Addr) (sl1n sl1c : Nat) (sl2 : Option Addr) (sl2n sl2c : Nat) (n3 : Int) (n4 : Int) (n5 : Int) (n6 : Int) (H : AH) (Q : Value → AH → Prop) : wpF Tryz.prog C ann_F_part_New F_part_New [(.agg #[(.slice sl0 sl0n sl0c), (.slice sl1 sl1n sl1c), (.slice sl2 sl2n sl2c), (.int .u8 n3), (.int .u8 n4), (.int .u8 n5)]), (vI n6)] H Q = vc_F_part_New C sl0 sl0n sl0c sl1 sl1n sl1c sl2 sl2n sl2c n3 n4 n5 n6 H Q := by kernel_rfl
def ann_F_parcloselaw03_Part : Ann := [(58, ⟨[4], [(vI 0)], [1, 2, 3]⟩), (122, ⟨[5], [(vI 0)], [1, 2, 3]⟩)]
def vc_F_parcloselaw03_Part (C : WT) (sl0 : Option Addr) (sl0n sl0c : Nat) (sl1 : Option Addr) (sl1n sl1c : Nat) (sl2 : Option Addr) (sl2n sl2c : Nat) (n3 : Int) (n4 : Int) (n5 : Int) (H : AH) (Q : Value → AH → Prop) : Prop :=
    nw H (.cells [(.slice sl0 sl0n sl0c), (.slice sl1 sl1n sl1c), (.slice sl2 sl2n sl2c), (.int .u8 n3), (.int .u8 n4), (.int .u8 n5)] false 0) fun b6 H7 =>
    nw H7 (.cells [(.slice none 0 0), (.slice none 0 0), (.slice none 0 0), (.int .u8 0), (.int .u8 0), (.int .u8 0)] false 0) fun b8 H9 =>
    nw H9 (.cells [] false 0) fun b10 H11 =>
    ld_l H11 (some ⟨b6, 0 + 2, none⟩) fun sl12 sl12n sl12c =>
    Again H9 (.ld1 (.pointer (some ⟨b6, 0 + 2, none⟩))) (.slice sl12 sl12n sl12c) ∧ apK H11 1 8 (.slice (some ⟨b10, 0, none⟩) 0 0) (.slice sl12 sl12n sl12c) fun sl13 sl13n sl13c H14 =>
    ld_Accc H14 (some ⟨b6, 0 + 3, none⟩) fun n15 n16 n17 =>
    Again H9 (.ldN 3 (.pointer (some ⟨b6, 0 + 3, none⟩))) (.agg #[(.int .u8 n15), (.int .u8 n16), (.int .u8 n17)]) ∧ nw H14 (.cells [(.slice none 0 0), (.slice none 0 0), (.slice none 0 0), (.int .u8 0), (.int .u8 0), (.int .u8 0)] false 0) fun b18 H19 =>
    st H19 6 (some ⟨b18, 0, none⟩) (.agg #[(.slice none 0 0), (.slice none 0 0), (.slice sl13 sl13n sl13c), (.int .u8 n15), (.int .u8 n16), (.int .u8 n17)]) fun H20 =>
    ∀ X21 : List Value → AH → Prop, (∀ n22 : Int, ∀ H23 : AH, (∀ F24 : TF, ld_l H23 (some ⟨b6, 0 + 0, none⟩) fun sl25 sl25n sl25c =>
    bcase (decide (n22 < (↑(sl25n : Nat) : Int))) (ld_l H23 (some ⟨b18, 0 + 0, none⟩) fun sl26 sl26n sl26c =>
    ld_l H23 (some ⟨b6, 0 + 0, none⟩) fun sl27 sl27n sl27c =>
    ix sl27 sl27n n22 fun b28 o29 =>
    ld_Abiiiii H23 (some ⟨b28, o29 + Int.toNat n22 * 6, none⟩) fun b30 n31 n32 n33 n34 n35 =>
    nw H23 (.cells [(.bool b30), (vI n31), (vI n32), (vI n33), (vI n34), (vI n35)] false 0) fun b36 H37 =>
    apK H37 6 48 (.slice sl26 sl26n sl26c) (.slice (some ⟨b36, 0, none⟩) 1 1) fun sl38 sl38n sl38c H39 =>
    st H39 1 (some ⟨b18, 0 + 0, none⟩) (.slice sl38 sl38n sl38c) fun H40 =>
    kp [(.pointer (some ⟨b6, 0, none⟩)), (.pointer (some ⟨b8, 0, none⟩)), (.pointer (some ⟨b18, 0, none⟩))] (X21 [(vI (IntKind.wrap .i64 (n22 + 1)))] H40)) (∀ X41 : List Value → AH → Prop, (∀ n42 : Int, ∀ H43 : AH, (∀ F44 : TF, ld_l H43 (some ⟨b6, 0 + 1, none⟩) fun sl45 sl45n sl45c =>
    bcase (decide (n42 < (↑(sl45n : Nat) : Int))) (ld_l H43 (some ⟨b18, 0 + 1, none⟩) fun sl46 sl46n sl46c =>
    ld_l H43 (some ⟨b6, 0 + 1, none⟩) fun sl47 sl47n sl47c =>
    ix sl47 sl47n n42 fun b48 o49 =>
    ld_Abii H43 (some ⟨b48, o49 + Int.toNat n42 * 3, none⟩) fun b50 n51 n52 =>
    nw H43 (.cells [(.bool b50), (vI n51), (vI n52)] false 0) fun b53 H54 =>
    apK H54 3 24 (.slice sl46 sl46n sl46c) (.slice (some ⟨b53, 0, none⟩) 1 1) fun sl55 sl55n sl55c H56 =>
    st H56 1 (some ⟨b18, 0 + 1, none⟩) (.slice sl55 sl55n sl55c) fun H57 =>
    kp [(.pointer (some ⟨b6, 0, none⟩)), (.pointer (some ⟨b8, 0, none⟩)), (.pointer (some ⟨b18, 0, none⟩))] (X41 [(vI (IntKind.wrap .i64 (n42 + 1)))] H57)) (ld_Alllccc H43 (some ⟨b18, 0, none⟩) fun sl58 sl58n sl58c sl59 sl59n sl59c sl60 sl60n sl60c n61 n62 n63 =>
    st H43 6 (some ⟨b8, 0, none⟩) (.agg #[(.slice sl58 sl58n sl58c), (.slice sl59 sl59n sl59c), (.slice sl60 sl60n sl60c), (.int .u8 n61), (.int .u8 n62), (.int .u8 n63)]) fun H64 =>
    ld_Alllccc H64 (some ⟨b8, 0, none⟩) fun sl65 sl65n sl65c sl66 sl66n sl66c sl67 sl67n sl67c n68 n69 n70 =>
    Q (.agg #[(.slice sl65 sl65n sl65c), (.slice sl66 sl66n sl66c), (.slice sl67 sl67n sl67c), (.int .u8 n68), (.int .u8 n69), (.int .u8 n70)]) H64)) → X41 [(vI n42)] H43) → X41 [(vI 0)] H23)) → X21 [(vI n22)] H23) → X21 [(vI 0)] H20
theorem nf_F_parcloselaw03_Part (C : WT) (sl0 : Option Addr) (sl0n sl0c : Nat) (sl1 : Option Addr) (sl1n sl1c : Nat) (sl2 : Option Addr) (sl2n sl2c : Nat) (n3 : Int) (n4 : Int) (n5 : Int) (H : AH) (Q : Value → AH → Prop) : wpF Tryz.prog C ann_F_parcloselaw03_Part F_parcloselaw03_Part [(.agg #[(.slice sl0 sl0n sl0c), (.slice sl1 sl1n sl1c), (.slice sl2 sl2n sl2c), (.int .u8 n3), (.int .u8 n4), (.int .u8 n5)])] H Q = vc_F_parcloselaw03_Part C sl0 sl0n sl0c sl1 sl1n sl1c sl2 sl2n sl2c n3 n4 n5 H Q := by kernel_rfl
def ann_F_parcloselaw20_few : Ann := []
def vc_F_parcloselaw20_few (C : WT) (sl0 : Option Addr) (sl0n sl0c : Nat) (sl1 : Option Addr) (sl1n sl1c : Nat) (sl2 : Option Addr) (sl2n sl2c : Nat) (n3 : Int) (n4 : Int) (n5 : Int) (H : AH) (Q : Value → AH → Prop) : Prop :=
    nw H (.cells [(.slice sl0 sl0n sl0c), (.slice sl1 sl1n sl1c), (.slice sl2 sl2n sl2c), (.int .u8 n3), (.int .u8 n4), (.int .u8 n5)] false 0) fun b6 H7 =>
    ld_l H7 (some ⟨b6, 0 + 0, none⟩) fun sl8 sl8n sl8c =>
    bcase (decide ((↑(sl8n : Nat) : Int) ≤ 20)) (ld_l H7 (some ⟨b6, 0 + 1, none⟩) fun sl9 sl9n sl9c =>
    bcase (decide ((↑(sl9n : Nat) : Int) ≤ 20)) (ld_l H7 (some ⟨b6, 0 + 2, none⟩) fun sl10 sl10n sl10c =>
    Q (.bool (decide ((↑(sl10n : Nat) : Int) ≤ 20))) H7) (Q (.bool false) H7)) (Q (.bool false) H7)
theorem nf_F_parcloselaw20_few (C : WT) (sl0 : Option Addr) (sl0n sl0c : Nat) (sl1 : Option Addr) (sl1n sl1c : Nat) (sl2 : Option Addr) (sl2n sl2c : Nat) (n3 : Int) (n4 : Int) (n5 : Int) (H : AH) (Q : Value → AH → Prop) : wpF Tryz.prog C ann_F_parcloselaw20_few F_parcloselaw20_few [(.agg #[(.slice sl0 sl0n sl0c), (.slice sl1 sl1n sl1c), (.slice sl2 sl2n sl2c), (.int .u8 n3), (.int .u8 n4), (.int .u8 n5)])] H Q = vc_F_parcloselaw20_few C sl0 sl0n sl0c sl1 sl1n sl1c sl2 sl2n sl2c n3 n4 n5 H Q := by kernel_rfl
def ann_F_parcloselaw20_light : Ann := [(26, ⟨[3], [(vI 0)], [0]⟩), (52, ⟨[], [], [0, 3]⟩), (3, ⟨[], [], [0]⟩)]
def vc_F_parcloselaw20_light (C : WT) (sl0 : Option Addr) (sl0n sl0c : Nat) (H : AH) (Q : Value → AH → Prop) : Prop :=
    ∀ X1 : List Value → AH → Prop, (∀ H12 : AH, (∀ F13 : TF, Q (.bool (decide ((↑(sl0n : Nat) : Int) ≤ 150))) H12) → X1 [] H12) → ∀ X2 : List Value → AH → Prop, (∀ n3 : Int, ∀ H4 : AH, (∀ F5 : TF, ∀ X6 : List Value → AH → Prop, (∀ H7 : AH, (∀ F8 : TF, ix sl0 sl0n n3 fun b9 o10 =>
    ld_l H7 (some ⟨b9, o10 + Int.toNat n3 * 8 + 3 + 4, none⟩) fun sl11 sl11n sl11c =>
    bcase (decide (70 < (↑(sl11n : Nat) : Int))) (Q (.bool false) H7) (kp [(.slice sl0 sl0n sl0c)] (X2 [(vI (IntKind.wrap .i64 (n3 + 1)))] H7))) → X6 [] H7) → bcase (decide (n3 < (↑(sl0n : Nat) : Int))) (bcase (decide (n3 < 150)) (kp [(.slice sl0 sl0n sl0c), (vI n3)] (X6 [] H4)) (kp [(.slice sl0 sl0n sl0c)] (X1 [] H4))) (kp [(.slice sl0 sl0n sl0c)] (X1 [] H4))) → X2 [(vI n3)] H4) → X2 [(vI 0)] H
theorem nf_F_parcloselaw20_light (C : WT) (sl0 : Option Addr) (sl0n sl0c : Nat) (H : AH) (Q : Value → AH → Prop) : wpF Tryz.prog C ann_F_parcloselaw20_light F_parcloselaw20_light [(.slice sl0 sl0n sl0c)] H Q = vc_F_parcloselaw20_light C sl0 sl0n sl0c H Q := by kernel_rfl
def ann_F_parcloselaw20_knows : Ann := []
def vc_F_parcloselaw20_knows (C : WT) (H : AH) (Q : Value → AH → Prop) : Prop :=
    nw H (.cells [(.bool false), (vI 9), (vI 9), (vI 9), (vI 2), (vI 2)] false 0) fun b0 H1 =>
    C F_part_New [(.agg #[(.slice (some ⟨b0, 0, none⟩) 1 1), (.slice none 0 0), (.slice none 0 0), (.int .u8 0), (.int .u8 0), (.int .u8 0)]), (vI 0)] H1 (fun r3 H2 =>
    r_p r3 <| fun p4 =>
    C F_part_Part_Arrive [(.pointer p4), (vI 0), (.agg #[(vI 0), (vI 0), (vI 2), (vI 0), (.slice none 0 0)])] H2 (fun r6 H5 =>
    r_i r6 <| fun n7 =>
    C F_part_Part_Begin [(.pointer p4), (vI 0)] H5 (fun r9 H8 =>
    r_l r9 <| fun sl10 sl10n sl10c =>
    C F_part_Part_Pick [(.pointer p4)] H8 (fun r12 H11 =>
    r_T_Abi_b r12 <| fun b13 n14 b15 =>
    nw H11 (.cells [(.bool false), (vI 0)] false 0) fun b16 H17 =>
    st H17 2 (some ⟨b16, 0, none⟩) (.agg #[(.bool b13), (vI n14)]) fun H18 =>
    C F_part_Part_Run [(.pointer p4)] H18 (fun r20 H19 =>
    r_T_Abi_Aiii_l r20 <| fun b21 n22 n23 n24 n25 sl26 sl26n sl26c =>
    C F_part_Part_Run [(.pointer p4)] H19 (fun r28 H27 =>
    r_T_Abi_Aiii_l r28 <| fun b29 n30 n31 n32 n33 sl34 sl34n sl34c =>
    nw H27 (.cells [(.bool false), (vI 0)] false 0) fun b35 H36 =>
    nw H36 (.cells [(vI 0), (vI 0), (vI 0)] false 0) fun b37 H38 =>
    st H38 2 (some ⟨b35, 0, none⟩) (.agg #[(.bool b29), (vI n30)]) fun H39 =>
    st H39 3 (some ⟨b37, 0, none⟩) (.agg #[(vI n31), (vI n32), (vI n33)]) fun H40 =>
    C F_parcloselaw20_num [(vI n7)] H40 (fun r42 H41 =>
    r_i r42 <| fun n43 =>
    bcase (n43 == 0) (bcase ((↑(sl10n : Nat) : Int) == 0) (bcase b15 (ld_b H41 (some ⟨b16, 0 + 0, none⟩) fun b44 =>
    bcase (!b44) (bcase ((↑(sl34n : Nat) : Int) == 1) (ix sl34 sl34n 0 fun b45 o46 =>
    ld_Aiii H41 (some ⟨b45, o46 + Int.toNat 0 * 3, none⟩) fun n47 n48 n49 =>
    eqK Tryz.prog .eql T_part_Event (.agg #[(vI n47), (vI n48), (vI n49)]) (.agg #[(vI 0), (vI 0), (vI 0)]) fun b50 =>
    bcase b50 (C F_part_Part_Up [(.pointer p4)] H41 (fun r52 H51 =>
    r_b r52 <| fun b53 =>
    bcase b53 (C F_part_Part_High [(.pointer p4)] H51 (fun r55 H54 =>
    r_b r55 <| fun b56 =>
    Q (.bool (!b56)) H54)) (Q (.bool false) H51))) (Q (.bool false) H41)) (Q (.bool false) H41)) (Q (.bool false) H41)) (Q (.bool false) H41)) (Q (.bool false) H41)) (Q (.bool false) H41))))))))
theorem nf_F_parcloselaw20_knows (C : WT) (H : AH) (Q : Value → AH → Prop) : wpF Tryz.prog C ann_F_parcloselaw20_knows F_parcloselaw20_knows [] H Q = vc_F_parcloselaw20_knows C  H Q := by kernel_rfl
def ann_F_part_Part_Begin : Ann := [(122, ⟨[27], [(vI 0)], [1, 5, 25, 26]⟩)]
def vc_F_part_Part_Begin (C : WT) (p0 : Option Addr) (n1 : Int) (H : AH) (Q : Value → AH → Prop) : Prop :=
    C F_part_Part_Up [(.pointer p0)] H (fun r3 H2 =>
    r_b r3 <| fun b4 =>
    bcase (!b4) (Q (.slice none 0 0) H2) (dr p0 fun b5 o6 =>
    ld_p H2 (some ⟨b5, o6 + 0, none⟩) fun p7 =>
    C F_tasks_Table_Missed [(.pointer p7), (vI n1)] H2 (fun r9 H8 =>
    r_l r9 <| fun sl10 sl10n sl10c =>
    C F_part_of [(vI 2), (.slice sl10 sl10n sl10c)] H8 (fun r12 H11 =>
    r_l r12 <| fun sl13 sl13n sl13c =>
    C F_part_Part_settle [(.pointer p0)] H11 (fun r15 H14 =>
    r_l r15 <| fun sl16 sl16n sl16c =>
    nw H14 (.cells [(.slice sl13 sl13n sl13c), (.slice sl16 sl16n sl16c)] false 0) fun b17 H18 =>
    C F_slices_Concat__part_Eventpart_Event [(.slice (some ⟨b17, 0, none⟩) 2 2)] H18 (fun r20 H19 =>
    r_l r20 <| fun sl21 sl21n sl21c =>
    dr p0 fun b22 o23 =>
    ld_l H19 (some ⟨b22, o23 + 2, none⟩) fun sl24 sl24n sl24c =>
    ∀ X25 : List Value → AH → Prop, (∀ n26 : Int, ∀ H27 : AH, (∀ F28 : TF, bcase (decide (n26 < (↑(sl24n : Nat) : Int))) (ix sl24 sl24n n26 fun b29 o30 =>
    ld_p H27 (some ⟨b29, o30 + Int.toNat n26 * 1, none⟩) fun p31 =>
    dr p31 fun b32 o33 =>
    ld_v H27 (some ⟨b32, o33 + 0, none⟩) fun v34 =>
    dr p31 fun b35 o36 =>
    ld_p H27 (some ⟨b35, o36 + 1, none⟩) fun p37 =>
    C F_ring_Ring_int_Len [(.pointer p37)] H27 (fun r39 H38 =>
    r_i r39 <| fun n40 =>
    Again H38 (.ld1 (.pointer (some ⟨b32, o33 + 0, none⟩))) v34 ∧ nilK v34 fun v41 =>
    ∃ (g42 : Nat) (x43 : Value), invA Tryz.prog H38 v34 "Go" = some (g42, x43) ∧ C g42 [x43, (vI n1), (.bool (decide (0 < n40)))] H38 (fun r45 H44 =>
    r_T r45 <| kp [(vI n1), (.slice sl21 sl21n sl21c), (.slice sl24 sl24n sl24c), (vI (↑(sl24n : Nat) : Int))] (X25 [(vI (IntKind.wrap .i64 (n26 + 1)))] H44)))) (Q (.slice sl21 sl21n sl21c) H27)) → X25 [(vI n26)] H27) → X25 [(vI 0)] H19))))))
theorem nf_F_part_Part_Begin (C : WT) (p0 : Option Addr) (n1 : Int) (H : AH) (Q : Value → AH → Prop) : wpF Tryz.prog C ann_F_part_Part_Begin F_part_Part_Begin [(.pointer p0), (vI n1)] H Q = vc_F_part_Part_Begin C p0 n1 H Q := by kernel_rfl
def ann_F_part_Part_Run : Ann := []
def vc_F_part_Part_Run (C : WT) (p0 : Option Addr) (H : AH) (Q : Value → AH → Prop) : Prop :=
    nw H (.cells [(.bool false), (vI 0)] false 0) fun b1 H2 =>
    nw H2 (.cells [(vI 0), (vI 0), (vI 0)] false 0) fun b3 H4 =>
    C F_part_Part_Pick [(.pointer p0)] H4 (fun r6 H5 =>
    r_T_Abi_b r6 <| fun b7 n8 b9 =>
    nw H5 (.cells [(.bool false), (vI 0)] false 0) fun b10 H11 =>
    st H11 2 (some ⟨b10, 0, none⟩) (.agg #[(.bool b7), (vI n8)]) fun H12 =>
    bcase (!b9) (st H12 2 (some ⟨b1, 0, none⟩) (.agg #[(.bool false), (vI 0)]) fun H13 =>
    st H13 3 (some ⟨b3, 0, none⟩) (.agg #[(vI 0), (vI 0), (vI 0)]) fun H14 =>
    ld_Abi H14 (some ⟨b1, 0, none⟩) fun b15 n16 =>
    ld_Aiii H14 (some ⟨b3, 0, none⟩) fun n17 n18 n19 =>
    Q (.tuple #[(.agg #[(.bool b15), (vI n16)]), (.agg #[(vI n17), (vI n18), (vI n19)]), (.slice none 0 0)]) H14) (ld_b H12 (some ⟨b10, 0 + 0, none⟩) fun b20 =>
    bcase (!b20) (ld_i H12 (some ⟨b10, 0 + 1, none⟩) fun n21 =>
    C F_part_Part_work [(.pointer p0), (vI n21)] H12 (fun r23 H22 =>
    r_T_Aiii_l r23 <| fun n24 n25 n26 sl27 sl27n sl27c =>
    nw H22 (.cells [(vI 0), (vI 0), (vI 0)] false 0) fun b28 H29 =>
    st H29 3 (some ⟨b28, 0, none⟩) (.agg #[(vI n24), (vI n25), (vI n26)]) fun H30 =>
    ld_Abi H30 (some ⟨b10, 0, none⟩) fun b31 n32 =>
    ld_Aiii H30 (some ⟨b28, 0, none⟩) fun n33 n34 n35 =>
    st H30 2 (some ⟨b1, 0, none⟩) (.agg #[(.bool b31), (vI n32)]) fun H36 =>
    Again H36 (.ldN 3 (.pointer (some ⟨b28, 0, none⟩))) (.agg #[(vI n33), (vI n34), (vI n35)]) ∧ st H36 3 (some ⟨b3, 0, none⟩) (.agg #[(vI n33), (vI n34), (vI n35)]) fun H37 =>
    ld_Abi H37 (some ⟨b1, 0, none⟩) fun b38 n39 =>
    ld_Aiii H37 (some ⟨b3, 0, none⟩) fun n40 n41 n42 =>
    Q (.tuple #[(.agg #[(.bool b38), (vI n39)]), (.agg #[(vI n40), (vI n41), (vI n42)]), (.slice sl27 sl27n sl27c)]) H37)) (dr p0 fun b43 o44 =>
    ld_l H12 (some ⟨b43, o44 + 2, none⟩) fun sl45 sl45n sl45c =>
    ld_i H12 (some ⟨b10, 0 + 1, none⟩) fun n46 =>
    ix sl45 sl45n n46 fun b47 o48 =>
    ld_p H12 (some ⟨b47, o48 + Int.toNat n46 * 1, none⟩) fun p49 =>
    C F_part_row_serve [(.pointer p49)] H12 (fun r51 H50 =>
    r_i r51 <| fun n52 =>
    bcase (n52 == 0) (ld_Abi H50 (some ⟨b10, 0, none⟩) fun b53 n54 =>
    st H50 2 (some ⟨b1, 0, none⟩) (.agg #[(.bool b53), (vI n54)]) fun H55 =>
    st H55 3 (some ⟨b3, 0, none⟩) (.agg #[(vI 0), (vI 0), (vI 0)]) fun H56 =>
    ld_Abi H56 (some ⟨b1, 0, none⟩) fun b57 n58 =>
    ld_Aiii H56 (some ⟨b3, 0, none⟩) fun n59 n60 n61 =>
    Q (.tuple #[(.agg #[(.bool b57), (vI n58)]), (.agg #[(vI n59), (vI n60), (vI n61)]), (.slice none 0 0)]) H56) (ld_Abi H50 (some ⟨b10, 0, none⟩) fun b62 n63 =>
    ld_i H50 (some ⟨b10, 0 + 1, none⟩) fun n64 =>
    nw H50 (.cells [(vI 6), (vI n64), (vI n52)] false 0) fun b65 H66 =>
    st H66 2 (some ⟨b1, 0, none⟩) (.agg #[(.bool b62), (vI n63)]) fun H67 =>
    Again H67 (.ld1 (.pointer (some ⟨b10, 0 + 1, none⟩))) (vI n64) ∧ st H67 3 (some ⟨b3, 0, none⟩) (.agg #[(vI 0), (vI 0), (vI 0)]) fun H68 =>
    Again H68 (.ld1 (.pointer (some ⟨b10, 0 + 1, none⟩))) (vI n64) ∧ ld_Abi H68 (some ⟨b1, 0, none⟩) fun b69 n70 =>
    ld_Aiii H68 (some ⟨b3, 0, none⟩) fun n71 n72 n73 =>
    Q (.tuple #[(.agg #[(.bool b69), (vI n70)]), (.agg #[(vI n71), (vI n72), (vI n73)]), (.slice (some ⟨b65, 0, none⟩) 1 1)]) H68)))))
theorem nf_F_part_Part_Run (C : WT) (p0 : Option Addr) (H : AH) (Q : Value → AH → Prop) : wpF Tryz.prog C ann_F_part_Part_Run F_part_Part_Run [(.pointer p0)] H Q = vc_F_part_Part_Run C p0 H Q := by kernel_rfl
def ann_F_part_Part_Arrive : Ann := []
def vc_F_part_Part_Arrive (C : WT) (p0 : Option Addr) (n1 : Int) (n2 : Int) (n3 : Int) (n4 : Int) (n5 : Int) (sl6 : Option Addr) (sl6n sl6c : Nat) (H : AH) (Q : Value → AH → Prop) : Prop :=
    nw H (.cells [(vI n2), (vI n3), (vI n4), (vI n5), (.slice sl6 sl6n sl6c)] false 0) fun b7 H8 =>
    C F_part_Part_none [(.pointer p0)] H8 (fun r10 H9 =>
    r_b r10 <| fun b11 =>
    bcase b11 (Q (vI 1) H9) (dr p0 fun b12 o13 =>
    ld_b H9 (some ⟨b12, o13 + 3, none⟩) fun b14 =>
    bcase (!b14) (Q (vI 41) H9) (dr p0 fun b15 o16 =>
    ld_p H9 (some ⟨b15, o16 + 1, none⟩) fun p17 =>
    ld_i H9 (some ⟨b7, 0 + 0, none⟩) fun n18 =>
    C F_police_Police_May [(.pointer p17), (vI n18), (vI n1)] H9 (fun r20 H19 =>
    r_i r20 <| fun n21 =>
    bcase (n21 != 0) (Q (vI n21) H19) (st H19 1 (some ⟨b7, 0 + 1, none⟩) (vI n1) fun H22 =>
    dr p0 fun b23 o24 =>
    ld_p H22 (some ⟨b23, o24 + 0, none⟩) fun p25 =>
    ld_Aiiiil H22 (some ⟨b7, 0, none⟩) fun n26 n27 n28 n29 sl30 sl30n sl30c =>
    C F_tasks_Table_Put [(.pointer p25), (.agg #[(vI n26), (vI n27), (vI n28), (vI n29), (.slice sl30 sl30n sl30c)])] H22 (fun r32 H31 =>
    r_i r32 <| fun n33 =>
    bcase (n33 != 0) (Q (vI n33) H31) (dr p0 fun b34 o35 =>
    ld_p H31 (some ⟨b34, o35 + 1, none⟩) fun p36 =>
    ld_i H31 (some ⟨b7, 0 + 0, none⟩) fun n37 =>
    C F_police_Police_Take [(.pointer p36), (vI n37), (vI n1)] H31 (fun r39 H38 =>
    r_i r39 <| fun n40 =>
    Q (vI n40) H38))))))))
theorem nf_F_part_Part_Arrive (C : WT) (p0 : Option Addr) (n1 : Int) (n2 : Int) (n3 : Int) (n4 : Int) (n5 : Int) (sl6 : Option Addr) (sl6n sl6c : Nat) (H : AH) (Q : Value → AH → Prop) : wpF Tryz.prog C ann_F_part_Part_Arrive F_part_Part_Arrive [(.pointer p0), (vI n1), (.agg #[(vI n2), (vI n3), (vI n4), (vI n5), (.slice sl6 sl6n sl6c)])] H Q = vc_F_part_Part_Arrive C p0 n1 n2 n3 n4 n5 sl6 sl6n sl6c H Q := by kernel_rfl
def ann_F_parcloselaw19_Job : Ann := [(58, ⟨[4], [(vI 0)], [1, 2, 3]⟩)]
def vc_F_parcloselaw19_Job (C : WT) (n0 : Int) (n1 : Int) (n2 : Int) (n3 : Int) (sl4 : Option Addr) (sl4n sl4c : Nat) (H : AH) (Q : Value → AH → Prop) : Prop :=
    nw H (.cells [(vI n0), (vI n1), (vI n2), (vI n3), (.slice sl4 sl4n sl4c)] false 0) fun b5 H6 =>
    nw H6 (.cells [(vI 0), (vI 0), (vI 0), (vI 0), (.slice none 0 0)] false 0) fun b7 H8 =>
    ld_i H8 (some ⟨b5, 0 + 0, none⟩) fun n9 =>
    ld_i H8 (some ⟨b5, 0 + 1, none⟩) fun n10 =>
    ld_i H8 (some ⟨b5, 0 + 2, none⟩) fun n11 =>
    ld_i H8 (some ⟨b5, 0 + 3, none⟩) fun n12 =>
    nw H8 (.cells [(vI 0), (vI 0), (vI 0), (vI 0), (.slice none 0 0)] false 0) fun b13 H14 =>
    st H14 5 (some ⟨b13, 0, none⟩) (.agg #[(vI n9), (vI n10), (vI n11), (vI n12), (.slice none 0 0)]) fun H15 =>
    ∀ X16 : List Value → AH → Prop, (∀ n17 : Int, ∀ H18 : AH, (∀ F19 : TF, ld_l H18 (some ⟨b5, 0 + 4, none⟩) fun sl20 sl20n sl20c =>
    bcase (decide (n17 < (↑(sl20n : Nat) : Int))) (ld_l H18 (some ⟨b13, 0 + 4, none⟩) fun sl21 sl21n sl21c =>
    ld_l H18 (some ⟨b5, 0 + 4, none⟩) fun sl22 sl22n sl22c =>
    ix sl22 sl22n n17 fun b23 o24 =>
    ld_Aiii H18 (some ⟨b23, o24 + Int.toNat n17 * 3, none⟩) fun n25 n26 n27 =>
    nw H18 (.cells [(vI n25), (vI n26), (vI n27)] false 0) fun b28 H29 =>
    apK H29 3 24 (.slice sl21 sl21n sl21c) (.slice (some ⟨b28, 0, none⟩) 1 1) fun sl30 sl30n sl30c H31 =>
    st H31 1 (some ⟨b13, 0 + 4, none⟩) (.slice sl30 sl30n sl30c) fun H32 =>
    kp [(.pointer (some ⟨b5, 0, none⟩)), (.pointer (some ⟨b7, 0, none⟩)), (.pointer (some ⟨b13, 0, none⟩))] (X16 [(vI (IntKind.wrap .i64 (n17 + 1)))] H32)) (ld_Aiiiil H18 (some ⟨b13, 0, none⟩) fun n33 n34 n35 n36 sl37 sl37n sl37c =>
    st H18 5 (some ⟨b7, 0, none⟩) (.agg #[(vI n33), (vI n34), (vI n35), (vI n36), (.slice sl37 sl37n sl37c)]) fun H38 =>
    ld_Aiiiil H38 (some ⟨b7, 0, none⟩) fun n39 n40 n41 n42 sl43 sl43n sl43c =>
    Q (.agg #[(vI n39), (vI n40), (vI n41), (vI n42), (.slice sl43 sl43n sl43c)]) H38)) → X16 [(vI n17)] H18) → X16 [(vI 0)] H15
theorem nf_F_parcloselaw19_Job (C : WT) (n0 : Int) (n1 : Int) (n2 : Int) (n3 : Int) (sl4 : Option Addr) (sl4n sl4c : Nat) (H : AH) (Q : Value → AH → Prop) : wpF Tryz.prog C ann_F_parcloselaw19_Job F_parcloselaw19_Job [(.agg #[(vI n0), (vI n1), (vI n2), (vI n3), (.slice sl4 sl4n sl4c)])] H Q = vc_F_parcloselaw19_Job C n0 n1 n2 n3 sl4 sl4n sl4c H Q := by kernel_rfl
def ann_F_part_Part_Request : Ann := [(207, ⟨[16], [(.bool false)], [0, 1, 2]⟩)]
def vc_F_part_Part_Request (C : WT) (p0 : Option Addr) (n1 : Int) (n2 : Int) (H : AH) (Q : Value → AH → Prop) : Prop :=
    C F_part_Part_none [(.pointer p0)] H (fun r4 H3 =>
    r_b r4 <| fun b5 =>
    bcase b5 (Q (vI 1) H3) (dr p0 fun b6 o7 =>
    ld_b H3 (some ⟨b6, o7 + 3, none⟩) fun b8 =>
    bcase (!b8) (Q (vI 41) H3) (∀ X9 : List Value → AH → Prop, (∀ b13 : Bool, ∀ H14 : AH, (∀ F15 : TF, bcase b13 (Q (vI 1) H14) (dr p0 fun b16 o17 =>
    ld_l H14 (some ⟨b16, o17 + 2, none⟩) fun sl18 sl18n sl18c =>
    ix sl18 sl18n n1 fun b19 o20 =>
    ld_p H14 (some ⟨b19, o20 + Int.toNat n1 * 1, none⟩) fun p21 =>
    dr p21 fun b22 o23 =>
    ld_p H14 (some ⟨b22, o23 + 1, none⟩) fun p24 =>
    C F_ring_Ring_int_Push [(.pointer p24), (vI n2)] H14 (fun r26 H25 =>
    r_b r26 <| fun b27 =>
    bcase (!b27) (Q (vI 5) H25) (Q (vI 0) H25)))) → X9 [(.bool b13)] H14) → bcase (decide (n1 < 0)) (kp [(.pointer p0), (vI n1), (vI n2)] (X9 [(.bool true)] H3)) (dr p0 fun b10 o11 =>
    ld_l H3 (some ⟨b10, o11 + 2, none⟩) fun sl12 sl12n sl12c =>
    bcase (decide ((↑(sl12n : Nat) : Int) ≤ n1)) (kp [(.pointer p0), (vI n1), (vI n2)] (X9 [(.bool true)] H3)) (bcase (decide (n2 < 1)) (kp [(.pointer p0), (vI n1), (vI n2)] (X9 [(.bool true)] H3)) (kp [(.pointer p0), (vI n1), (vI n2)] (X9 [(.bool (decide (1048576 < n2)))] H3)))))))
theorem nf_F_part_Part_Request (C : WT) (p0 : Option Addr) (n1 : Int) (n2 : Int) (H : AH) (Q : Value → AH → Prop) : wpF Tryz.prog C ann_F_part_Part_Request F_part_Part_Request [(.pointer p0), (vI n1), (vI n2)] H Q = vc_F_part_Part_Request C p0 n1 n2 H Q := by kernel_rfl
def ann_F_part_Part_Stop : Ann := [(126, ⟨[24], [(vI 0)], [22, 23]⟩)]
def vc_F_part_Part_Stop (C : WT) (p0 : Option Addr) (H : AH) (Q : Value → AH → Prop) : Prop :=
    C F_part_Part_none [(.pointer p0)] H (fun r2 H1 =>
    r_b r2 <| fun b3 =>
    bcase b3 (Q (.tuple #[]) H1) (dr p0 fun b4 o5 =>
    st H1 1 (some ⟨b4, o5 + 3, none⟩) (.bool false) fun H6 =>
    dr p0 fun b7 o8 =>
    ld_p H6 (some ⟨b7, o8 + 0, none⟩) fun p9 =>
    C F_tasks_Table_Clear [(.pointer p9)] H6 (fun r11 H10 =>
    r_T r11 <| dr p0 fun b12 o13 =>
    ld_p H10 (some ⟨b12, o13 + 1, none⟩) fun p14 =>
    C F_police_Police_Drop [(.pointer p14), (.bool false)] H10 (fun r16 H15 =>
    r_T r16 <| dr p0 fun b17 o18 =>
    ld_l H15 (some ⟨b17, o18 + 2, none⟩) fun sl19 sl19n sl19c =>
    ∀ X20 : List Value → AH → Prop, (∀ n21 : Int, ∀ H22 : AH, (∀ F23 : TF, bcase (decide (n21 < (↑(sl19n : Nat) : Int))) (ix sl19 sl19n n21 fun b24 o25 =>
    ld_p H22 (some ⟨b24, o25 + Int.toNat n21 * 1, none⟩) fun p26 =>
    C F_part_row_empty [(.pointer p26)] H22 (fun r28 H27 =>
    r_T r28 <| kp [(.slice sl19 sl19n sl19c), (vI (↑(sl19n : Nat) : Int))] (X20 [(vI (IntKind.wrap .i64 (n21 + 1)))] H27))) (Q (.tuple #[]) H22)) → X20 [(vI n21)] H22) → X20 [(vI 0)] H15))))
theorem nf_F_part_Part_Stop (C : WT) (p0 : Option Addr) (H : AH) (Q : Value → AH → Prop) : wpF Tryz.prog C ann_F_part_Part_Stop F_part_Part_Stop [(.pointer p0)] H Q = vc_F_part_Part_Stop C p0 H Q := by kernel_rfl
def ann_F_part_Part_Restart : Ann := []
def vc_F_part_Part_Restart (C : WT) (p0 : Option Addr) (H : AH) (Q : Value → AH → Prop) : Prop :=
    C F_part_Part_none [(.pointer p0)] H (fun r2 H1 =>
    r_b r2 <| fun b3 =>
    bcase (!b3) (C F_part_Part_Stop [(.pointer p0)] H1 (fun r5 H4 =>
    r_T r5 <| dr p0 fun b6 o7 =>
    st H4 1 (some ⟨b6, o7 + 3, none⟩) (.bool true) fun H8 =>
    Q (.tuple #[]) H8)) (Q (.tuple #[]) H1))
theorem nf_F_part_Part_Restart (C : WT) (p0 : Option Addr) (H : AH) (Q : Value → AH → Prop) : wpF Tryz.prog C ann_F_part_Part_Restart F_part_Part_Restart [(.pointer p0)] H Q = vc_F_part_Part_Restart C p0 H Q := by kernel_rfl
def ann_F_part_Part_Jobs : Ann := [(122, ⟨[3, 9], [(.slice none 0 0), (vI 0)], [0]⟩)]
def vc_F_part_Part_Jobs (C : WT) (p0 : Option Addr) (H : AH) (Q : Value → AH → Prop) : Prop :=
    C F_part_Part_none [(.pointer p0)] H (fun r2 H1 =>
    r_b r2 <| fun b3 =>
    bcase b3 (Q (.slice none 0 0) H1) (∀ X4 : List Value → AH → Prop, (∀ (sl5 : Option Addr) (sl5n sl5c : Nat), ∀ n6 : Int, ∀ H7 : AH, (∀ F8 : TF, bcase (decide (n6 < 6)) (dr p0 fun b9 o10 =>
    ld_p H7 (some ⟨b9, o10 + 0, none⟩) fun p11 =>
    C F_tasks_Table_Get [(.pointer p11), (vI n6)] H7 (fun r13 H12 =>
    r_T_Aiiiil_b r13 <| fun n14 n15 n16 n17 sl18 sl18n sl18c b19 =>
    nw H12 (.cells [(vI 0), (vI 0), (vI 0), (vI 0), (.slice none 0 0)] false 0) fun b20 H21 =>
    st H21 5 (some ⟨b20, 0, none⟩) (.agg #[(vI n14), (vI n15), (vI n16), (vI n17), (.slice sl18 sl18n sl18c)]) fun H22 =>
    bcase b19 (ld_Aiiiil H22 (some ⟨b20, 0, none⟩) fun n23 n24 n25 n26 sl27 sl27n sl27c =>
    nw H22 (.cells [(vI n23), (vI n24), (vI n25), (vI n26), (.slice sl27 sl27n sl27c)] false 0) fun b28 H29 =>
    apK H29 5 56 (.slice sl5 sl5n sl5c) (.slice (some ⟨b28, 0, none⟩) 1 1) fun sl30 sl30n sl30c H31 =>
    kp [(.pointer p0)] (X4 [(.slice sl30 sl30n sl30c), (vI (IntKind.wrap .i64 (n6 + 1)))] H31)) (kp [(.pointer p0)] (X4 [(.slice sl5 sl5n sl5c), (vI (IntKind.wrap .i64 (n6 + 1)))] H22)))) (Q (.slice sl5 sl5n sl5c) H7)) → X4 [(.slice sl5 sl5n sl5c), (vI n6)] H7) → X4 [(.slice none 0 0), (vI 0)] H1))
theorem nf_F_part_Part_Jobs (C : WT) (p0 : Option Addr) (H : AH) (Q : Value → AH → Prop) : wpF Tryz.prog C ann_F_part_Part_Jobs F_part_Part_Jobs [(.pointer p0)] H Q = vc_F_part_Part_Jobs C p0 H Q := by kernel_rfl
def ann_F_part_Part_High : Ann := []
def vc_F_part_Part_High (C : WT) (p0 : Option Addr) (H : AH) (Q : Value → AH → Prop) : Prop :=
    C F_part_Part_none [(.pointer p0)] H (fun r2 H1 =>
    r_b r2 <| fun b3 =>
    bcase (!b3) (dr p0 fun b4 o5 =>
    ld_p H1 (some ⟨b4, o5 + 0, none⟩) fun p6 =>
    C F_tasks_Table_High [(.pointer p6)] H1 (fun r8 H7 =>
    r_b r8 <| fun b9 =>
    Q (.bool b9) H7)) (Q (.bool false) H1))
theorem nf_F_part_Part_High (C : WT) (p0 : Option Addr) (H : AH) (Q : Value → AH → Prop) : wpF Tryz.prog C ann_F_part_Part_High F_part_Part_High [(.pointer p0)] H Q = vc_F_part_Part_High C p0 H Q := by kernel_rfl
def ann_F_part_Part_Pick : Ann := [(250, ⟨[5, 6, 32], [(vI 0), (.bool false), (vI 0)], [2, 7, 30, 31]⟩), (32051, ⟨[62], [(.bool false)], [2, 5, 6, 7, 8, 10, 30, 31, 32]⟩)]
def vc_F_part_Part_Pick (C : WT) (p0 : Option Addr) (H : AH) (Q : Value → AH → Prop) : Prop :=
    nw H (.cells [(.bool false), (vI 0)] false 0) fun b1 H2 =>
    C F_part_Part_Up [(.pointer p0)] H2 (fun r4 H3 =>
    r_b r4 <| fun b5 =>
    bcase (!b5) (st H3 2 (some ⟨b1, 0, none⟩) (.agg #[(.bool false), (vI 0)]) fun H6 =>
    ld_Abi H6 (some ⟨b1, 0, none⟩) fun b7 n8 =>
    Q (.tuple #[(.agg #[(.bool b7), (vI n8)]), (.bool false)]) H6) (dr p0 fun b9 o10 =>
    ld_p H3 (some ⟨b9, o10 + 0, none⟩) fun p11 =>
    C F_tasks_Table_First [(.pointer p11)] H3 (fun r13 H12 =>
    r_T_i_i_b r13 <| fun n14 n15 b16 =>
    nw H12 (.cells [(.bool false), (vI 0)] false 0) fun b17 H18 =>
    st H18 2 (some ⟨b17, 0, none⟩) (.agg #[(.bool false), (vI n14)]) fun H19 =>
    dr p0 fun b20 o21 =>
    ld_l H19 (some ⟨b20, o21 + 2, none⟩) fun sl22 sl22n sl22c =>
    ∀ X23 : List Value → AH → Prop, (∀ n24 : Int, ∀ b25 : Bool, ∀ n26 : Int, ∀ H27 : AH, (∀ F28 : TF, bcase (decide (n26 < (↑(sl22n : Nat) : Int))) (ix sl22 sl22n n26 fun b29 o30 =>
    ld_p H27 (some ⟨b29, o30 + Int.toNat n26 * 1, none⟩) fun p31 =>
    dr p31 fun b32 o33 =>
    ld_v H27 (some ⟨b32, o33 + 0, none⟩) fun v34 =>
    ∃ (g35 : Nat) (x36 : Value), invA Tryz.prog H27 v34 "Due" = some (g35, x36) ∧ C g35 [x36] H27 (fun r38 H37 =>
    r_T_i_b r38 <| fun n39 b40 =>
    ∀ X41 : List Value → AH → Prop, (∀ b48 : Bool, ∀ H49 : AH, (∀ F50 : TF, bcase b48 (st H49 2 (some ⟨b17, 0, none⟩) (.agg #[(.bool true), (vI n26)]) fun H51 =>
    kp [(.pointer (some ⟨b1, 0, none⟩)), (.pointer (some ⟨b17, 0, none⟩)), (.slice sl22 sl22n sl22c), (vI (↑(sl22n : Nat) : Int))] (X23 [(vI n39), (.bool true), (vI (IntKind.wrap .i64 (n26 + 1)))] H51)) (kp [(.pointer (some ⟨b1, 0, none⟩)), (.pointer (some ⟨b17, 0, none⟩)), (.slice sl22 sl22n sl22c), (vI (↑(sl22n : Nat) : Int))] (X23 [(vI n24), (.bool b25), (vI (IntKind.wrap .i64 (n26 + 1)))] H49))) → X41 [(.bool b48)] H49) → bcase b40 (dr p31 fun b42 o43 =>
    ld_p H37 (some ⟨b42, o43 + 1, none⟩) fun p44 =>
    C F_ring_Ring_int_Len [(.pointer p44)] H37 (fun r46 H45 =>
    r_i r46 <| fun n47 =>
    bcase (decide (0 < n47)) (bcase (!b25) (kp [(.pointer (some ⟨b1, 0, none⟩)), (vI n24), (.bool b25), (.pointer (some ⟨b17, 0, none⟩)), (vI n26), (vI n39), (.slice sl22 sl22n sl22c), (vI (↑(sl22n : Nat) : Int)), (vI n26)] (X41 [(.bool true)] H45)) (kp [(.pointer (some ⟨b1, 0, none⟩)), (vI n24), (.bool b25), (.pointer (some ⟨b17, 0, none⟩)), (vI n26), (vI n39), (.slice sl22 sl22n sl22c), (vI (↑(sl22n : Nat) : Int)), (vI n26)] (X41 [(.bool (decide (n39 < n24)))] H45))) (kp [(.pointer (some ⟨b1, 0, none⟩)), (vI n24), (.bool b25), (.pointer (some ⟨b17, 0, none⟩)), (vI n26), (vI n39), (.slice sl22 sl22n sl22c), (vI (↑(sl22n : Nat) : Int)), (vI n26)] (X41 [(.bool false)] H45)))) (kp [(.pointer (some ⟨b1, 0, none⟩)), (vI n24), (.bool b25), (.pointer (some ⟨b17, 0, none⟩)), (vI n26), (vI n39), (.slice sl22 sl22n sl22c), (vI (↑(sl22n : Nat) : Int)), (vI n26)] (X41 [(.bool false)] H37)))) (ld_Abi H27 (some ⟨b17, 0, none⟩) fun b52 n53 =>
    st H27 2 (some ⟨b1, 0, none⟩) (.agg #[(.bool b52), (vI n53)]) fun H54 =>
    ld_Abi H54 (some ⟨b1, 0, none⟩) fun b55 n56 =>
    Q (.tuple #[(.agg #[(.bool b55), (vI n56)]), (.bool b25)]) H54)) → X23 [(vI n24), (.bool b25), (vI n26)] H27) → X23 [(vI n15), (.bool b16), (vI 0)] H19)))
theorem nf_F_part_Part_Pick (C : WT) (p0 : Option Addr) (H : AH) (Q : Value → AH → Prop) : wpF Tryz.prog C ann_F_part_Part_Pick F_part_Part_Pick [(.pointer p0)] H Q = vc_F_part_Part_Pick C p0 H Q := by kernel_rfl
def ann_F_part_Part_Up : Ann := []
def vc_F_part_Part_Up (C : WT) (p0 : Option Addr) (H : AH) (Q : Value → AH → Prop) : Prop :=
    C F_part_Part_none [(.pointer p0)] H (fun r2 H1 =>
    r_b r2 <| fun b3 =>
    bcase (!b3) (dr p0 fun b4 o5 =>
    ld_b H1 (some ⟨b4, o5 + 3, none⟩) fun b6 =>
    Q (.bool b6) H1) (Q (.bool false) H1))
theorem nf_F_part_Part_Up (C : WT) (p0 : Option Addr) (H : AH) (Q : Value → AH → Prop) : wpF Tryz.prog C ann_F_part_Part_Up F_part_Part_Up [(.pointer p0)] H Q = vc_F_part_Part_Up C p0 H Q := by kernel_rfl
def ann_F_part_Part_Queue : Ann := [(3, ⟨[], [], [0, 1]⟩)]
def vc_F_part_Part_Queue (C : WT) (p0 : Option Addr) (n1 : Int) (H : AH) (Q : Value → AH → Prop) : Prop :=
    ∀ X2 : List Value → AH → Prop, (∀ H9 : AH, (∀ F10 : TF, dr p0 fun b11 o12 =>
    ld_l H9 (some ⟨b11, o12 + 2, none⟩) fun sl13 sl13n sl13c =>
    ix sl13 sl13n n1 fun b14 o15 =>
    ld_p H9 (some ⟨b14, o15 + Int.toNat n1 * 1, none⟩) fun p16 =>
    dr p16 fun b17 o18 =>
    ld_p H9 (some ⟨b17, o18 + 1, none⟩) fun p19 =>
    C F_ring_Ring_int_Len [(.pointer p19)] H9 (fun r21 H20 =>
    r_i r21 <| fun n22 =>
    Q (vI n22) H20)) → X2 [] H9) → C F_part_Part_none [(.pointer p0)] H (fun r4 H3 =>
    r_b r4 <| fun b5 =>
    bcase b5 (Q (vI 0) H3) (bcase (decide (n1 < 0)) (Q (vI 0) H3) (dr p0 fun b6 o7 =>
    ld_l H3 (some ⟨b6, o7 + 2, none⟩) fun sl8 sl8n sl8c =>
    bcase (decide ((↑(sl8n : Nat) : Int) ≤ n1)) (Q (vI 0) H3) (kp [(.pointer p0), (vI n1)] (X2 [] H3)))))
theorem nf_F_part_Part_Queue (C : WT) (p0 : Option Addr) (n1 : Int) (H : AH) (Q : Value → AH → Prop) : wpF Tryz.prog C ann_F_part_Part_Queue F_part_Part_Queue [(.pointer p0), (vI n1)] H Q = vc_F_part_Part_Queue C p0 n1 H Q := by kernel_rfl
def ann_F_parcloselaw20_num : Ann := []
def vc_F_parcloselaw20_num (C : WT) (n0 : Int) (H : AH) (Q : Value → AH → Prop) : Prop :=
    Q (vI n0) H
theorem nf_F_parcloselaw20_num (C : WT) (n0 : Int) (H : AH) (Q : Value → AH → Prop) : wpF Tryz.prog C ann_F_parcloselaw20_num F_parcloselaw20_num [(vI n0)] H Q = vc_F_parcloselaw20_num C n0 H Q := by kernel_rfl
def ann_F_conf_Part_Rights : Ann := []
def vc_F_conf_Part_Rights (C : WT) (sl0 : Option Addr) (sl0n sl0c : Nat) (sl1 : Option Addr) (sl1n sl1c : Nat) (sl2 : Option Addr) (sl2n sl2c : Nat) (n3 : Int) (n4 : Int) (n5 : Int) (H : AH) (Q : Value → AH → Prop) : Prop :=
    nw H (.cells [(.slice sl0 sl0n sl0c), (.slice sl1 sl1n sl1c), (.slice sl2 sl2n sl2c), (.int .u8 n3), (.int .u8 n4), (.int .u8 n5)] false 0) fun b6 H7 =>
    ld_l H7 (some ⟨b6, 0 + 0, none⟩) fun sl8 sl8n sl8c =>
    C F_conf_all_conf_Task [(.slice sl8 sl8n sl8c), (vI 6)] H7 (fun r10 H9 =>
    r_b r10 <| fun b11 =>
    bcase (!b11) (Q (vI 22) H9) (ld_l H9 (some ⟨b6, 0 + 1, none⟩) fun sl12 sl12n sl12c =>
    C F_conf_all_conf_Server [(.slice sl12 sl12n sl12c), (vI 3)] H9 (fun r14 H13 =>
    r_b r14 <| fun b15 =>
    bcase (!b15) (Q (vI 23) H13) (∃ (sl16 : Option Addr) (sl16n sl16c : Nat), sliceArr H13 3 1 (.pointer (some ⟨b6, 0 + 3, none⟩)) none none = some (.slice sl16 sl16n sl16c) ∧ C F_slices_Max__uint8uint8 [(.slice sl16 sl16n sl16c)] H13 (fun r18 H17 =>
    r_c r18 <| fun n19 =>
    bcase (decide (2 < n19)) (Q (vI 26) H17) (Q (vI 0) H17))))))
theorem nf_F_conf_Part_Rights (C : WT) (sl0 : Option Addr) (sl0n sl0c : Nat) (sl1 : Option Addr) (sl1n sl1c : Nat) (sl2 : Option Addr) (sl2n sl2c : Nat) (n3 : Int) (n4 : Int) (n5 : Int) (H : AH) (Q : Value → AH → Prop) : wpF Tryz.prog C ann_F_conf_Part_Rights F_conf_Part_Rights [(.agg #[(.slice sl0 sl0n sl0c), (.slice sl1 sl1n sl1c), (.slice sl2 sl2n sl2c), (.int .u8 n3), (.int .u8 n4), (.int .u8 n5)])] H Q = vc_F_conf_Part_Rights C sl0 sl0n sl0c sl1 sl1n sl1c sl2 sl2n sl2c n3 n4 n5 H Q := by kernel_rfl
def ann_F_tasks_New : Ann := [(3, ⟨[], [], [0]⟩), (122, ⟨[18], [(vI 0)], [3, 16, 17]⟩)]
def vc_F_tasks_New (C : WT) (sl0 : Option Addr) (sl0n sl0c : Nat) (H : AH) (Q : Value → AH → Prop) : Prop :=
    ∀ X1 : List Value → AH → Prop, (∀ H5 : AH, (∀ F6 : TF, C F_heap_New [(vI 6)] H5 (fun r8 H7 =>
    r_p r8 <| fun p9 =>
    nw H7 (.cells [(.slice none 0 0), (.pointer p9), (.bool false)] false 0) fun b10 H11 =>
    ∀ X12 : List Value → AH → Prop, (∀ n13 : Int, ∀ H14 : AH, (∀ F15 : TF, bcase (decide (n13 < (↑(sl0n : Nat) : Int))) (ix sl0 sl0n n13 fun b16 o17 =>
    ld_Abiiiii H14 (some ⟨b16, o17 + Int.toNat n13 * 6, none⟩) fun b18 n19 n20 n21 n22 n23 =>
    nw H14 (.cells [(.bool false), (vI 0), (vI 0), (vI 0), (vI 0), (vI 0)] false 0) fun b24 H25 =>
    st H25 6 (some ⟨b24, 0, none⟩) (.agg #[(.bool b18), (vI n19), (vI n20), (vI n21), (vI n22), (vI n23)]) fun H26 =>
    dr (some ⟨b10, 0, none⟩) fun b27 o28 =>
    ld_l H26 (some ⟨b27, o28 + 0, none⟩) fun sl29 sl29n sl29c =>
    ld_Abiiiii H26 (some ⟨b24, 0, none⟩) fun b30 n31 n32 n33 n34 n35 =>
    nw H26 (.cells [(.bool b30), (vI n31), (vI n32), (vI n33), (vI n34), (vI n35), (.pointer none)] false 0) fun b36 H37 =>
    apK H37 7 56 (.slice sl29 sl29n sl29c) (.slice (some ⟨b36, 0, none⟩) 1 1) fun sl38 sl38n sl38c H39 =>
    dr (some ⟨b10, 0, none⟩) fun b40 o41 =>
    st H39 1 (some ⟨b40, o41 + 0, none⟩) (.slice sl38 sl38n sl38c) fun H42 =>
    kp [(.pointer (some ⟨b10, 0, none⟩)), (.slice sl0 sl0n sl0c), (vI (↑(sl0n : Nat) : Int))] (X12 [(vI (IntKind.wrap .i64 (n13 + 1)))] H42)) (Q (.pointer (some ⟨b10, 0, none⟩)) H14)) → X12 [(vI n13)] H14) → X12 [(vI 0)] H11)) → X1 [] H5) → bcase (decide (6 < (↑(sl0n : Nat) : Int))) (Q (.pointer none) H) (C F_slices_ContainsFunc__conf_Taskconf_Task [(.slice sl0 sl0n sl0c), (.func (.func F_tasks_New_1) #[] #[])] H (fun r3 H2 =>
    r_b r3 <| fun b4 =>
    bcase b4 (Q (.pointer none) H2) (kp [(.slice sl0 sl0n sl0c)] (X1 [] H2))))
theorem nf_F_tasks_New (C : WT) (sl0 : Option Addr) (sl0n sl0c : Nat) (H : AH) (Q : Value → AH → Prop) : wpF Tryz.prog C ann_F_tasks_New F_tasks_New [(.slice sl0 sl0n sl0c)] H Q = vc_F_tasks_New C sl0 sl0n sl0c H Q := by kernel_rfl
def ann_F_police_New : Ann := [(3, ⟨[], [], [0]⟩), (122, ⟨[17], [(vI 0)], [3, 15, 16]⟩)]
def vc_F_police_New (C : WT) (sl0 : Option Addr) (sl0n sl0c : Nat) (H : AH) (Q : Value → AH → Prop) : Prop :=
    ∀ X1 : List Value → AH → Prop, (∀ H5 : AH, (∀ F6 : TF, nw H5 (.cells [(.slice none 0 0), (.bool false)] false 0) fun b7 H8 =>
    ∀ X9 : List Value → AH → Prop, (∀ n10 : Int, ∀ H11 : AH, (∀ F12 : TF, bcase (decide (n10 < (↑(sl0n : Nat) : Int))) (ix sl0 sl0n n10 fun b13 o14 =>
    ld_Abiiiii H11 (some ⟨b13, o14 + Int.toNat n10 * 6, none⟩) fun b15 n16 n17 n18 n19 n20 =>
    nw H11 (.cells [(.bool false), (vI 0), (vI 0), (vI 0), (vI 0), (vI 0)] false 0) fun b21 H22 =>
    st H22 6 (some ⟨b21, 0, none⟩) (.agg #[(.bool b15), (vI n16), (vI n17), (vI n18), (vI n19), (vI n20)]) fun H23 =>
    dr (some ⟨b7, 0, none⟩) fun b24 o25 =>
    ld_l H23 (some ⟨b24, o25 + 0, none⟩) fun sl26 sl26n sl26c =>
    ld_Abiiiii H23 (some ⟨b21, 0, none⟩) fun b27 n28 n29 n30 n31 n32 =>
    nw H23 (.cells [(.bool b27), (vI n28), (vI n29), (vI n30), (vI n31), (vI n32), (vI 0), (.bool false)] false 0) fun b33 H34 =>
    apK H34 8 64 (.slice sl26 sl26n sl26c) (.slice (some ⟨b33, 0, none⟩) 1 1) fun sl35 sl35n sl35c H36 =>
    dr (some ⟨b7, 0, none⟩) fun b37 o38 =>
    st H36 1 (some ⟨b37, o38 + 0, none⟩) (.slice sl35 sl35n sl35c) fun H39 =>
    kp [(.pointer (some ⟨b7, 0, none⟩)), (.slice sl0 sl0n sl0c), (vI (↑(sl0n : Nat) : Int))] (X9 [(vI (IntKind.wrap .i64 (n10 + 1)))] H39)) (Q (.pointer (some ⟨b7, 0, none⟩)) H11)) → X9 [(vI n10)] H11) → X9 [(vI 0)] H8) → X1 [] H5) → bcase (decide (6 < (↑(sl0n : Nat) : Int))) (Q (.pointer none) H) (C F_slices_ContainsFunc__conf_Taskconf_Task [(.slice sl0 sl0n sl0c), (.func (.func F_police_New_1) #[] #[])] H (fun r3 H2 =>
    r_b r3 <| fun b4 =>
    bcase b4 (Q (.pointer none) H2) (kp [(.slice sl0 sl0n sl0c)] (X1 [] H2))))
theorem nf_F_police_New (C : WT) (sl0 : Option Addr) (sl0n sl0c : Nat) (H : AH) (Q : Value → AH → Prop) : wpF Tryz.prog C ann_F_police_New F_police_New [(.slice sl0 sl0n sl0c)] H Q = vc_F_police_New C sl0 sl0n sl0c H Q := by kernel_rfl
def ann_F_part_rows : Ann := [(58, ⟨[5, 11], [(.slice none 0 0), (vI 0)], [0, 9, 10]⟩), (7475, ⟨[], [], [0, 5, 8, 9, 10, 11]⟩)]
def vc_F_part_rows (C : WT) (n0 : Int) (sl1 : Option Addr) (sl1n sl1c : Nat) (H : AH) (Q : Value → AH → Prop) : Prop :=
    ∀ X2 : List Value → AH → Prop, (∀ (sl3 : Option Addr) (sl3n sl3c : Nat), ∀ n4 : Int, ∀ H5 : AH, (∀ F6 : TF, bcase (decide (n4 < (↑(sl1n : Nat) : Int))) (ix sl1 sl1n n4 fun b7 o8 =>
    ld_Abii H5 (some ⟨b7, o8 + Int.toNat n4 * 3, none⟩) fun b9 n10 n11 =>
    nw H5 (.cells [(.bool false), (vI 0), (vI 0)] false 0) fun b12 H13 =>
    st H13 3 (some ⟨b12, 0, none⟩) (.agg #[(.bool b9), (vI n10), (vI n11)]) fun H14 =>
    C F_ring_New_int [(vI 8)] H14 (fun r16 H15 =>
    r_p r16 <| fun p17 =>
    nw H15 (.cells [.nilIface, (.pointer p17), (vI 1)] false 0) fun b18 H19 =>
    ∀ X20 : List Value → AH → Prop, (∀ H40 : AH, (∀ F41 : TF, nw H40 (.cells [(.pointer (some ⟨b18, 0, none⟩))] false 0) fun b42 H43 =>
    apK H43 1 8 (.slice sl3 sl3n sl3c) (.slice (some ⟨b42, 0, none⟩) 1 1) fun sl44 sl44n sl44c H45 =>
    kp [(vI n0), (.slice sl1 sl1n sl1c), (vI (↑(sl1n : Nat) : Int))] (X2 [(.slice sl44 sl44n sl44c), (vI (IntKind.wrap .i64 (n4 + 1)))] H45)) → X20 [] H40) → ld_b H19 (some ⟨b12, 0 + 0, none⟩) fun b21 =>
    bcase b21 (ld_Abii H19 (some ⟨b12, 0, none⟩) fun b22 n23 n24 =>
    C F_refill_New [(.agg #[(.bool b22), (vI n23), (vI n24)]), (vI n0)] H19 (fun r26 H25 =>
    r_p r26 <| fun p27 =>
    dr (some ⟨b18, 0, none⟩) fun b28 o29 =>
    st H25 1 (some ⟨b28, o29 + 0, none⟩) (.iface T_Prefill_Budget (.pointer p27)) fun H30 =>
    kp [(vI n0), (.slice sl3 sl3n sl3c), (.pointer (some ⟨b18, 0, none⟩)), (.slice sl1 sl1n sl1c), (vI (↑(sl1n : Nat) : Int)), (vI n4)] (X20 [] H30))) (ld_Abii H19 (some ⟨b12, 0, none⟩) fun b31 n32 n33 =>
    C F_chunk_New [(.agg #[(.bool b31), (vI n32), (vI n33)])] H19 (fun r35 H34 =>
    r_p r35 <| fun p36 =>
    dr (some ⟨b18, 0, none⟩) fun b37 o38 =>
    st H34 1 (some ⟨b37, o38 + 0, none⟩) (.iface T_Pchunk_Budget (.pointer p36)) fun H39 =>
    kp [(vI n0), (.slice sl3 sl3n sl3c), (.pointer (some ⟨b18, 0, none⟩)), (.slice sl1 sl1n sl1c), (vI (↑(sl1n : Nat) : Int)), (vI n4)] (X20 [] H39))))) (Q (.slice sl3 sl3n sl3c) H5)) → X2 [(.slice sl3 sl3n sl3c), (vI n4)] H5) → X2 [(.slice none 0 0), (vI 0)] H
theorem nf_F_part_rows (C : WT) (n0 : Int) (sl1 : Option Addr) (sl1n sl1c : Nat) (H : AH) (Q : Value → AH → Prop) : wpF Tryz.prog C ann_F_part_rows F_part_rows [(vI n0), (.slice sl1 sl1n sl1c)] H Q = vc_F_part_rows C n0 sl1 sl1n sl1c H Q := by kernel_rfl
def ann_F_slices_Concat__part_Eventpart_Event : Ann := [(58, ⟨[3, 11], [(vI 0), (vI 0)], [0, 9, 10]⟩), (250, ⟨[6, 27], [(.slice none 0 0), (vI 0)], [25, 26]⟩)]
def vc_F_slices_Concat__part_Eventpart_Event (C : WT) (sl0 : Option Addr) (sl0n sl0c : Nat) (H : AH) (Q : Value → AH → Prop) : Prop :=
    ∀ X1 : List Value → AH → Prop, (∀ n2 : Int, ∀ n3 : Int, ∀ H4 : AH, (∀ F5 : TF, bcase (decide (n3 < (↑(sl0n : Nat) : Int))) (ix sl0 sl0n n3 fun b6 o7 =>
    ld_l H4 (some ⟨b6, o7 + Int.toNat n3 * 1, none⟩) fun sl8 sl8n sl8c =>
    bcase (decide ((IntKind.wrap .i64 (n2 + (↑(sl8n : Nat) : Int))) < 0)) (False) (kp [(.slice sl0 sl0n sl0c), (.slice sl0 sl0n sl0c), (vI (↑(sl0n : Nat) : Int))] (X1 [(vI (IntKind.wrap .i64 (n2 + (↑(sl8n : Nat) : Int)))), (vI (IntKind.wrap .i64 (n3 + 1)))] H4))) (C F_slices_Grow__part_Eventpart_Event [(.slice none 0 0), (vI n2)] H4 (fun r10 H9 =>
    r_l r10 <| fun sl11 sl11n sl11c =>
    ∀ X12 : List Value → AH → Prop, (∀ (sl13 : Option Addr) (sl13n sl13c : Nat), ∀ n14 : Int, ∀ H15 : AH, (∀ F16 : TF, bcase (decide (n14 < (↑(sl0n : Nat) : Int))) (ix sl0 sl0n n14 fun b17 o18 =>
    ld_l H15 (some ⟨b17, o18 + Int.toNat n14 * 1, none⟩) fun sl19 sl19n sl19c =>
    apK H15 3 24 (.slice sl13 sl13n sl13c) (.slice sl19 sl19n sl19c) fun sl20 sl20n sl20c H21 =>
    kp [(.slice sl0 sl0n sl0c), (vI (↑(sl0n : Nat) : Int))] (X12 [(.slice sl20 sl20n sl20c), (vI (IntKind.wrap .i64 (n14 + 1)))] H21)) (Q (.slice sl13 sl13n sl13c) H15)) → X12 [(.slice sl13 sl13n sl13c), (vI n14)] H15) → X12 [(.slice sl11 sl11n sl11c), (vI 0)] H9))) → X1 [(vI n2), (vI n3)] H4) → X1 [(vI 0), (vI 0)] H
theorem nf_F_slices_Concat__part_Eventpart_Event (C : WT) (sl0 : Option Addr) (sl0n sl0c : Nat) (H : AH) (Q : Value → AH → Prop) : wpF Tryz.prog C ann_F_slices_Concat__part_Eventpart_Event F_slices_Concat__part_Eventpart_Event [(.slice sl0 sl0n sl0c)] H Q = vc_F_slices_Concat__part_Eventpart_Event C sl0 sl0n sl0c H Q := by kernel_rfl
def ann_F_part_of : Ann := [(58, ⟨[5, 10], [(.slice none 0 0), (vI 0)], [0, 8, 9]⟩)]
def vc_F_part_of (C : WT) (n0 : Int) (sl1 : Option Addr) (sl1n sl1c : Nat) (H : AH) (Q : Value → AH → Prop) : Prop :=
    ∀ X2 : List Value → AH → Prop, (∀ (sl3 : Option Addr) (sl3n sl3c : Nat), ∀ n4 : Int, ∀ H5 : AH, (∀ F6 : TF, bcase (decide (n4 < (↑(sl1n : Nat) : Int))) (ix sl1 sl1n n4 fun b7 o8 =>
    ld_i H5 (some ⟨b7, o8 + Int.toNat n4 * 1, none⟩) fun n9 =>
    nw H5 (.cells [(vI n0), (vI n9), (vI 0)] false 0) fun b10 H11 =>
    apK H11 3 24 (.slice sl3 sl3n sl3c) (.slice (some ⟨b10, 0, none⟩) 1 1) fun sl12 sl12n sl12c H13 =>
    kp [(vI n0), (.slice sl1 sl1n sl1c), (vI (↑(sl1n : Nat) : Int))] (X2 [(.slice sl12 sl12n sl12c), (vI (IntKind.wrap .i64 (n4 + 1)))] H13)) (Q (.slice sl3 sl3n sl3c) H5)) → X2 [(.slice sl3 sl3n sl3c), (vI n4)] H5) → X2 [(.slice none 0 0), (vI 0)] H
theorem nf_F_part_of (C : WT) (n0 : Int) (sl1 : Option Addr) (sl1n sl1c : Nat) (H : AH) (Q : Value → AH → Prop) : wpF Tryz.prog C ann_F_part_of F_part_of [(vI n0), (.slice sl1 sl1n sl1c)] H Q = vc_F_part_of C n0 sl1 sl1n sl1c H Q := by kernel_rfl
def ann_F_tasks_Table_Missed : Ann := []
def vc_F_tasks_Table_Missed (C : WT) (p0 : Option Addr) (n1 : Int) (H : AH) (Q : Value → AH → Prop) : Prop :=
    nw H (.cells [(vI n1)] false 0) fun b2 H3 =>
    C F_tasks_Table_none [(.pointer p0)] H3 (fun r5 H4 =>
    r_b r5 <| fun b6 =>
    bcase b6 (Q (.slice none 0 0) H4) (C F_tasks_Table_each [(.pointer p0), (.func (.func F_tasks_Table_Missed_1) #[] #[(.pointer (some ⟨b2, 0, none⟩))])] H4 (fun r8 H7 =>
    r_l r8 <| fun sl9 sl9n sl9c =>
    Q (.slice sl9 sl9n sl9c) H7)))
theorem nf_F_tasks_Table_Missed (C : WT) (p0 : Option Addr) (n1 : Int) (H : AH) (Q : Value → AH → Prop) : wpF Tryz.prog C ann_F_tasks_Table_Missed F_tasks_Table_Missed [(.pointer p0), (vI n1)] H Q = vc_F_tasks_Table_Missed C p0 n1 H Q := by kernel_rfl
def ann_F_part_Part_settle : Ann := [(122, ⟨[21], [(vI 0)], [19, 20]⟩)]
def vc_F_part_Part_settle (C : WT) (p0 : Option Addr) (H : AH) (Q : Value → AH → Prop) : Prop :=
    dr p0 fun b1 o2 =>
    ld_p H (some ⟨b1, o2 + 0, none⟩) fun p3 =>
    C F_tasks_Table_Fall [(.pointer p3)] H (fun r5 H4 =>
    r_b r5 <| fun b6 =>
    bcase (!b6) (Q (.slice none 0 0) H4) (dr p0 fun b7 o8 =>
    ld_p H4 (some ⟨b7, o8 + 1, none⟩) fun p9 =>
    C F_police_Police_Drop [(.pointer p9), (.bool false)] H4 (fun r11 H10 =>
    r_T r11 <| dr p0 fun b12 o13 =>
    ld_l H10 (some ⟨b12, o13 + 2, none⟩) fun sl14 sl14n sl14c =>
    ∀ X15 : List Value → AH → Prop, (∀ n16 : Int, ∀ H17 : AH, (∀ F18 : TF, bcase (decide (n16 < (↑(sl14n : Nat) : Int))) (ix sl14 sl14n n16 fun b19 o20 =>
    ld_p H17 (some ⟨b19, o20 + Int.toNat n16 * 1, none⟩) fun p21 =>
    dr p21 fun b22 o23 =>
    ld_v H17 (some ⟨b22, o23 + 0, none⟩) fun v24 =>
    ∃ (g25 : Nat) (x26 : Value), invA Tryz.prog H17 v24 "Resume" = some (g25, x26) ∧ C g25 [x26] H17 (fun r28 H27 =>
    r_T r28 <| kp [(.slice sl14 sl14n sl14c), (vI (↑(sl14n : Nat) : Int))] (X15 [(vI (IntKind.wrap .i64 (n16 + 1)))] H27))) (nw H17 (.cells [(vI 5), (vI 0), (vI 0)] false 0) fun b29 H30 =>
    Q (.slice (some ⟨b29, 0, none⟩) 1 1) H30)) → X15 [(vI n16)] H17) → X15 [(vI 0)] H10)))
theorem nf_F_part_Part_settle (C : WT) (p0 : Option Addr) (H : AH) (Q : Value → AH → Prop) : wpF Tryz.prog C ann_F_part_Part_settle F_part_Part_settle [(.pointer p0)] H Q = vc_F_part_Part_settle C p0 H Q := by kernel_rfl
def ann_F_ring_Ring_int_Len : Ann := []
def vc_F_ring_Ring_int_Len (C : WT) (p0 : Option Addr) (H : AH) (Q : Value → AH → Prop) : Prop :=
    bcase (Option.isNone p0) (Q (vI 0) H) (dr p0 fun b1 o2 =>
    ld_i H (some ⟨b1, o2 + 2, none⟩) fun n3 =>
    Q (vI n3) H)
theorem nf_F_ring_Ring_int_Len (C : WT) (p0 : Option Addr) (H : AH) (Q : Value → AH → Prop) : wpF Tryz.prog C ann_F_ring_Ring_int_Len F_ring_Ring_int_Len [(.pointer p0)] H Q = vc_F_ring_Ring_int_Len C p0 H Q := by kernel_rfl
def ann_F_part_Part_work : Ann := []
def vc_F_part_Part_work (C : WT) (p0 : Option Addr) (n1 : Int) (H : AH) (Q : Value → AH → Prop) : Prop :=
    nw H (.cells [(vI 0), (vI 0), (vI 0)] false 0) fun b2 H3 =>
    dr p0 fun b4 o5 =>
    ld_p H3 (some ⟨b4, o5 + 0, none⟩) fun p6 =>
    C F_tasks_Table_Run [(.pointer p6), (vI n1)] H3 (fun r8 H7 =>
    r_T_Aiii_i r8 <| fun n9 n10 n11 n12 =>
    nw H7 (.cells [(vI 0), (vI 0), (vI 0)] false 0) fun b13 H14 =>
    st H14 3 (some ⟨b13, 0, none⟩) (.agg #[(vI n9), (vI n10), (vI n11)]) fun H15 =>
    bcase (n12 == 3) (ld_Aiii H15 (some ⟨b13, 0, none⟩) fun n16 n17 n18 =>
    C F_part_Part_rise [(.pointer p0)] H15 (fun r20 H19 =>
    r_l r20 <| fun sl21 sl21n sl21c =>
    Again H19 (.ldN 3 (.pointer (some ⟨b13, 0, none⟩))) (.agg #[(vI n16), (vI n17), (vI n18)]) ∧ st H19 3 (some ⟨b2, 0, none⟩) (.agg #[(vI n16), (vI n17), (vI n18)]) fun H22 =>
    ld_Aiii H22 (some ⟨b2, 0, none⟩) fun n23 n24 n25 =>
    Q (.tuple #[(.agg #[(vI n23), (vI n24), (vI n25)]), (.slice sl21 sl21n sl21c)]) H22)) (bcase (n12 == 1) (ld_Aiii H15 (some ⟨b13, 0, none⟩) fun n26 n27 n28 =>
    nw H15 (.cells [(vI n1)] false 0) fun b29 H30 =>
    C F_part_of [(vI 0), (.slice (some ⟨b29, 0, none⟩) 1 1)] H30 (fun r32 H31 =>
    r_l r32 <| fun sl33 sl33n sl33c =>
    Again H31 (.ldN 3 (.pointer (some ⟨b13, 0, none⟩))) (.agg #[(vI n26), (vI n27), (vI n28)]) ∧ C F_part_Part_settle [(.pointer p0)] H31 (fun r35 H34 =>
    r_l r35 <| fun sl36 sl36n sl36c =>
    Again H34 (.ldN 3 (.pointer (some ⟨b13, 0, none⟩))) (.agg #[(vI n26), (vI n27), (vI n28)]) ∧ nw H34 (.cells [(.slice sl33 sl33n sl33c), (.slice sl36 sl36n sl36c)] false 0) fun b37 H38 =>
    C F_slices_Concat__part_Eventpart_Event [(.slice (some ⟨b37, 0, none⟩) 2 2)] H38 (fun r40 H39 =>
    r_l r40 <| fun sl41 sl41n sl41c =>
    Again H39 (.ldN 3 (.pointer (some ⟨b13, 0, none⟩))) (.agg #[(vI n26), (vI n27), (vI n28)]) ∧ st H39 3 (some ⟨b2, 0, none⟩) (.agg #[(vI n26), (vI n27), (vI n28)]) fun H42 =>
    ld_Aiii H42 (some ⟨b2, 0, none⟩) fun n43 n44 n45 =>
    Q (.tuple #[(.agg #[(vI n43), (vI n44), (vI n45)]), (.slice sl41 sl41n sl41c)]) H42)))) (bcase (n12 == 2) (ld_Aiii H15 (some ⟨b13, 0, none⟩) fun n46 n47 n48 =>
    nw H15 (.cells [(vI n1)] false 0) fun b49 H50 =>
    C F_part_of [(vI 1), (.slice (some ⟨b49, 0, none⟩) 1 1)] H50 (fun r52 H51 =>
    r_l r52 <| fun sl53 sl53n sl53c =>
    Again H51 (.ldN 3 (.pointer (some ⟨b13, 0, none⟩))) (.agg #[(vI n46), (vI n47), (vI n48)]) ∧ C F_part_Part_settle [(.pointer p0)] H51 (fun r55 H54 =>
    r_l r55 <| fun sl56 sl56n sl56c =>
    Again H54 (.ldN 3 (.pointer (some ⟨b13, 0, none⟩))) (.agg #[(vI n46), (vI n47), (vI n48)]) ∧ nw H54 (.cells [(.slice sl53 sl53n sl53c), (.slice sl56 sl56n sl56c)] false 0) fun b57 H58 =>
    C F_slices_Concat__part_Eventpart_Event [(.slice (some ⟨b57, 0, none⟩) 2 2)] H58 (fun r60 H59 =>
    r_l r60 <| fun sl61 sl61n sl61c =>
    Again H59 (.ldN 3 (.pointer (some ⟨b13, 0, none⟩))) (.agg #[(vI n46), (vI n47), (vI n48)]) ∧ st H59 3 (some ⟨b2, 0, none⟩) (.agg #[(vI n46), (vI n47), (vI n48)]) fun H62 =>
    ld_Aiii H62 (some ⟨b2, 0, none⟩) fun n63 n64 n65 =>
    Q (.tuple #[(.agg #[(vI n63), (vI n64), (vI n65)]), (.slice sl61 sl61n sl61c)]) H62)))) (ld_Aiii H15 (some ⟨b13, 0, none⟩) fun n66 n67 n68 =>
    st H15 3 (some ⟨b2, 0, none⟩) (.agg #[(vI n66), (vI n67), (vI n68)]) fun H69 =>
    ld_Aiii H69 (some ⟨b2, 0, none⟩) fun n70 n71 n72 =>
    Q (.tuple #[(.agg #[(vI n70), (vI n71), (vI n72)]), (.slice none 0 0)]) H69))))
theorem nf_F_part_Part_work (C : WT) (p0 : Option Addr) (n1 : Int) (H : AH) (Q : Value → AH → Prop) : wpF Tryz.prog C ann_F_part_Part_work F_part_Part_work [(.pointer p0), (vI n1)] H Q = vc_F_part_Part_work C p0 n1 H Q := by kernel_rfl
def ann_F_part_row_serve : Ann := [(127, ⟨[], [], [0]⟩)]
def vc_F_part_row_serve (C : WT) (p0 : Option Addr) (H : AH) (Q : Value → AH → Prop) : Prop :=
    dr p0 fun b1 o2 =>
    ld_v H (some ⟨b1, o2 + 0, none⟩) fun v3 =>
    ∃ (g4 : Nat) (x5 : Value), invA Tryz.prog H v3 "Use" = some (g4, x5) ∧ C g4 [x5] H (fun r7 H6 =>
    r_b r7 <| fun b8 =>
    dr p0 fun b9 o10 =>
    ld_p H6 (some ⟨b9, o10 + 1, none⟩) fun p11 =>
    C F_ring_Ring_int_At [(.pointer p11), (vI 0)] H6 (fun r13 H12 =>
    r_T_i_b r13 <| fun n14 b15 =>
    bcase (decide (1 < n14)) (dr p0 fun b16 o17 =>
    ld_p H12 (some ⟨b16, o17 + 1, none⟩) fun p18 =>
    C F_ring_Ring_int_Set [(.pointer p18), (vI 0), (vI (IntKind.wrap .i64 (n14 - 1)))] H12 (fun r20 H19 =>
    r_b r20 <| fun b21 =>
    Q (vI 0) H19)) (dr p0 fun b22 o23 =>
    ld_p H12 (some ⟨b22, o23 + 1, none⟩) fun p24 =>
    C F_ring_Ring_int_Pop [(.pointer p24)] H12 (fun r26 H25 =>
    r_T_i_b r26 <| fun n27 b28 =>
    dr p0 fun b29 o30 =>
    ld_i H25 (some ⟨b29, o30 + 2, none⟩) fun n31 =>
    dr p0 fun b32 o33 =>
    st H25 1 (some ⟨b32, o33 + 2, none⟩) (vI (IntKind.wrap .i64 (n31 + 1))) fun H34 =>
    ∀ X35 : List Value → AH → Prop, (∀ H49 : AH, (∀ F50 : TF, dr p0 fun b51 o52 =>
    ld_i H49 (some ⟨b51, o52 + 2, none⟩) fun n53 =>
    Q (vI (IntKind.wrap .i64 (n53 - 1))) H49) → X35 [] H49) → dr p0 fun b36 o37 =>
    ld_p H34 (some ⟨b36, o37 + 1, none⟩) fun p38 =>
    C F_ring_Ring_int_Len [(.pointer p38)] H34 (fun r40 H39 =>
    r_i r40 <| fun n41 =>
    bcase (n41 == 0) (dr p0 fun b42 o43 =>
    ld_v H39 (some ⟨b42, o43 + 0, none⟩) fun v44 =>
    ∃ (g45 : Nat) (x46 : Value), invA Tryz.prog H39 v44 "Done" = some (g45, x46) ∧ C g45 [x46] H39 (fun r48 H47 =>
    r_T r48 <| kp [(.pointer p0)] (X35 [] H47))) (kp [(.pointer p0)] (X35 [] H39)))))))
theorem nf_F_part_row_serve (C : WT) (p0 : Option Addr) (H : AH) (Q : Value → AH → Prop) : wpF Tryz.prog C ann_F_part_row_serve F_part_row_serve [(.pointer p0)] H Q = vc_F_part_row_serve C p0 H Q := by kernel_rfl
def ann_F_part_Part_none : Ann := []
def vc_F_part_Part_none (C : WT) (p0 : Option Addr) (H : AH) (Q : Value → AH → Prop) : Prop :=
    bcase (Option.isNone p0) (Q (.bool true) H) (dr p0 fun b1 o2 =>
    ld_p H (some ⟨b1, o2 + 0, none⟩) fun p3 =>
    Q (.bool (Option.isNone p3)) H)
theorem nf_F_part_Part_none (C : WT) (p0 : Option Addr) (H : AH) (Q : Value → AH → Prop) : wpF Tryz.prog C ann_F_part_Part_none F_part_Part_none [(.pointer p0)] H Q = vc_F_part_Part_none C p0 H Q := by kernel_rfl
def ann_F_police_Police_May : Ann := [(28, ⟨[11], [(.bool false)], [0, 1, 2, 7]⟩)]
def vc_F_police_Police_May (C : WT) (p0 : Option Addr) (n1 : Int) (n2 : Int) (H : AH) (Q : Value → AH → Prop) : Prop :=
    C F_police_Police_task [(.pointer p0), (vI n1)] H (fun r4 H3 =>
    r_p r4 <| fun p5 =>
    ∀ X6 : List Value → AH → Prop, (∀ b7 : Bool, ∀ H8 : AH, (∀ F9 : TF, bcase b7 (Q (vI 1) H8) (C F_police_Police_Dropped [(.pointer p0), (vI n1)] H8 (fun r11 H10 =>
    r_b r11 <| fun b12 =>
    bcase b12 (Q (vI 42) H10) (dr p5 fun b13 o14 =>
    ld_Abiiiiiib H10 (some ⟨b13, o14, none⟩) fun b15 n16 n17 n18 n19 n20 n21 b22 =>
    C F_police_known_soon [(.agg #[(.bool b15), (vI n16), (vI n17), (vI n18), (vI n19), (vI n20), (vI n21), (.bool b22)]), (vI n2)] H10 (fun r24 H23 =>
    r_b r24 <| fun b25 =>
    bcase b25 (Q (vI 40) H23) (Q (vI 0) H23)))))) → X6 [(.bool b7)] H8) → bcase (Option.isNone p5) (kp [(.pointer p0), (vI n1), (vI n2), (.pointer p5)] (X6 [(.bool true)] H3)) (bcase (decide (n2 < 0)) (kp [(.pointer p0), (vI n1), (vI n2), (.pointer p5)] (X6 [(.bool true)] H3)) (kp [(.pointer p0), (vI n1), (vI n2), (.pointer p5)] (X6 [(.bool (decide (4611686018427387904 < n2)))] H3))))
theorem nf_F_police_Police_May (C : WT) (p0 : Option Addr) (n1 : Int) (n2 : Int) (H : AH) (Q : Value → AH → Prop) : wpF Tryz.prog C ann_F_police_Police_May F_police_Police_May [(.pointer p0), (vI n1), (vI n2)] H Q = vc_F_police_Police_May C p0 n1 n2 H Q := by kernel_rfl
def ann_F_tasks_Table_Put : Ann := [(28, ⟨[10], [(.bool false)], [0, 3, 5]⟩), (7, ⟨[], [], [0, 3, 5]⟩)]
def vc_F_tasks_Table_Put (C : WT) (p0 : Option Addr) (n1 : Int) (n2 : Int) (n3 : Int) (n4 : Int) (sl5 : Option Addr) (sl5n sl5c : Nat) (H : AH) (Q : Value → AH → Prop) : Prop :=
    nw H (.cells [(vI n1), (vI n2), (vI n3), (vI n4), (.slice sl5 sl5n sl5c)] false 0) fun b6 H7 =>
    ld_i H7 (some ⟨b6, 0 + 0, none⟩) fun n8 =>
    C F_tasks_Table_slot [(.pointer p0), (vI n8)] H7 (fun r10 H9 =>
    r_p r10 <| fun p11 =>
    ∀ X12 : List Value → AH → Prop, (∀ H34 : AH, (∀ F35 : TF, ld_l H34 (some ⟨b6, 0 + 4, none⟩) fun sl36 sl36n sl36c =>
    C F_slices_Clone__tasks_Optasks_Op [(.slice sl36 sl36n sl36c)] H34 (fun r38 H37 =>
    r_l r38 <| fun sl39 sl39n sl39c =>
    st H37 1 (some ⟨b6, 0 + 4, none⟩) (.slice sl39 sl39n sl39c) fun H40 =>
    dr p11 fun b41 o42 =>
    st H40 1 (some ⟨b41, o42 + 6, none⟩) (.pointer (some ⟨b6, 0, none⟩)) fun H43 =>
    dr p0 fun b44 o45 =>
    ld_p H43 (some ⟨b44, o45 + 1, none⟩) fun p46 =>
    ld_i H43 (some ⟨b6, 0 + 0, none⟩) fun n47 =>
    dr p0 fun b48 o49 =>
    ld_b H43 (some ⟨b48, o49 + 2, none⟩) fun b50 =>
    C F_tasks_slot_due [(.pointer p11), (.bool b50)] H43 (fun r52 H51 =>
    r_i r52 <| fun n53 =>
    Again H51 (.ld1 (.pointer (some ⟨b6, 0 + 0, none⟩))) (vI n47) ∧ Again H51 (.ld1 (.pointer (some ⟨b44, o45 + 1, none⟩))) (.pointer p46) ∧ C F_heap_Heap_Put [(.pointer p46), (vI n47), (vI n53)] H51 (fun r55 H54 =>
    r_i r55 <| fun n56 =>
    Q (vI 0) H54)))) → X12 [] H34) → ∀ X13 : List Value → AH → Prop, (∀ b22 : Bool, ∀ H23 : AH, (∀ F24 : TF, bcase b22 (Q (vI 1) H23) (dr p11 fun b25 o26 =>
    ld_p H23 (some ⟨b25, o26 + 6, none⟩) fun p27 =>
    bcase (!(Option.isNone p27)) (Q (vI 4) H23) (dr p0 fun b28 o29 =>
    ld_b H23 (some ⟨b28, o29 + 2, none⟩) fun b30 =>
    bcase b30 (dr p11 fun b31 o32 =>
    ld_b H23 (some ⟨b31, o32 + 0 + 0, none⟩) fun b33 =>
    bcase (!b33) (Q (vI 42) H23) (kp [(.pointer p0), (.pointer (some ⟨b6, 0, none⟩)), (.pointer p11)] (X12 [] H23))) (kp [(.pointer p0), (.pointer (some ⟨b6, 0, none⟩)), (.pointer p11)] (X12 [] H23))))) → X13 [(.bool b22)] H23) → bcase (Option.isNone p11) (kp [(.pointer p0), (.pointer (some ⟨b6, 0, none⟩)), (.pointer p11)] (X13 [(.bool true)] H9)) (ld_Aiiiil H9 (some ⟨b6, 0, none⟩) fun n14 n15 n16 n17 sl18 sl18n sl18c =>
    C F_tasks_Job_right [(.agg #[(vI n14), (vI n15), (vI n16), (vI n17), (.slice sl18 sl18n sl18c)])] H9 (fun r20 H19 =>
    r_b r20 <| fun b21 =>
    kp [(.pointer p0), (.pointer (some ⟨b6, 0, none⟩)), (.pointer p11)] (X13 [(.bool (!b21))] H19))))
theorem nf_F_tasks_Table_Put (C : WT) (p0 : Option Addr) (n1 : Int) (n2 : Int) (n3 : Int) (n4 : Int) (sl5 : Option Addr) (sl5n sl5c : Nat) (H : AH) (Q : Value → AH → Prop) : wpF Tryz.prog C ann_F_tasks_Table_Put F_tasks_Table_Put [(.pointer p0), (.agg #[(vI n1), (vI n2), (vI n3), (vI n4), (.slice sl5 sl5n sl5c)])] H Q = vc_F_tasks_Table_Put C p0 n1 n2 n3 n4 sl5 sl5n sl5c H Q := by kernel_rfl
def ann_F_police_Police_Take : Ann := []
def vc_F_police_Police_Take (C : WT) (p0 : Option Addr) (n1 : Int) (n2 : Int) (H : AH) (Q : Value → AH → Prop) : Prop :=
    C F_police_Police_May [(.pointer p0), (vI n1), (vI n2)] H (fun r4 H3 =>
    r_i r4 <| fun n5 =>
    bcase (n5 == 0) (C F_police_Police_task [(.pointer p0), (vI n1)] H3 (fun r7 H6 =>
    r_p r7 <| fun p8 =>
    dr p8 fun b9 o10 =>
    st H6 1 (some ⟨b9, o10 + 6, none⟩) (vI n2) fun H11 =>
    dr p8 fun b12 o13 =>
    st H11 1 (some ⟨b12, o13 + 7, none⟩) (.bool true) fun H14 =>
    Q (vI n5) H14)) (Q (vI n5) H3))
theorem nf_F_police_Police_Take (C : WT) (p0 : Option Addr) (n1 : Int) (n2 : Int) (H : AH) (Q : Value → AH → Prop) : wpF Tryz.prog C ann_F_police_Police_Take F_police_Police_Take [(.pointer p0), (vI n1), (vI n2)] H Q = vc_F_police_Police_Take C p0 n1 n2 H Q := by kernel_rfl
def ann_F_ring_Ring_int_Push : Ann := [(3, ⟨[], [], [0, 1]⟩)]
def vc_F_ring_Ring_int_Push (C : WT) (p0 : Option Addr) (n1 : Int) (H : AH) (Q : Value → AH → Prop) : Prop :=
    ∀ X2 : List Value → AH → Prop, (∀ H12 : AH, (∀ F13 : TF, dr p0 fun b14 o15 =>
    ld_i H12 (some ⟨b14, o15 + 2, none⟩) fun n16 =>
    dr p0 fun b17 o18 =>
    st H12 1 (some ⟨b17, o18 + 2, none⟩) (vI (IntKind.wrap .i64 (n16 + 1))) fun H19 =>
    dr p0 fun b20 o21 =>
    ld_l H19 (some ⟨b20, o21 + 0, none⟩) fun sl22 sl22n sl22c =>
    dr p0 fun b23 o24 =>
    ld_i H19 (some ⟨b23, o24 + 2, none⟩) fun n25 =>
    C F_ring_Ring_int_place [(.pointer p0), (vI (IntKind.wrap .i64 (n25 - 1)))] H19 (fun r27 H26 =>
    r_i r27 <| fun n28 =>
    Again H26 (.ld1 (.pointer (some ⟨b20, o21 + 0, none⟩))) (.slice sl22 sl22n sl22c) ∧ ix sl22 sl22n n28 fun b29 o30 =>
    st H26 1 (some ⟨b29, o30 + Int.toNat n28 * 1, none⟩) (vI n1) fun H31 =>
    Q (.bool true) H31)) → X2 [] H12) → C F_ring_Ring_int_none [(.pointer p0)] H (fun r4 H3 =>
    r_b r4 <| fun b5 =>
    bcase b5 (Q (.bool false) H3) (dr p0 fun b6 o7 =>
    ld_i H3 (some ⟨b6, o7 + 2, none⟩) fun n8 =>
    dr p0 fun b9 o10 =>
    ld_l H3 (some ⟨b9, o10 + 0, none⟩) fun sl11 sl11n sl11c =>
    bcase (n8 == (↑(sl11n : Nat) : Int)) (Q (.bool false) H3) (kp [(.pointer p0), (vI n1)] (X2 [] H3))))
theorem nf_F_ring_Ring_int_Push (C : WT) (p0 : Option Addr) (n1 : Int) (H : AH) (Q : Value → AH → Prop) : wpF Tryz.prog C ann_F_ring_Ring_int_Push F_ring_Ring_int_Push [(.pointer p0), (vI n1)] H Q = vc_F_ring_Ring_int_Push C p0 n1 H Q := by kernel_rfl
def ann_F_tasks_Table_Clear : Ann := []
def vc_F_tasks_Table_Clear (C : WT) (p0 : Option Addr) (H : AH) (Q : Value → AH → Prop) : Prop :=
    C F_tasks_Table_none [(.pointer p0)] H (fun r2 H1 =>
    r_b r2 <| fun b3 =>
    bcase (!b3) (C F_tasks_Table_each [(.pointer p0), (.func (.func F_tasks_Table_Clear_1) #[] #[])] H1 (fun r5 H4 =>
    r_l r5 <| fun sl6 sl6n sl6c =>
    dr p0 fun b7 o8 =>
    st H4 1 (some ⟨b7, o8 + 2, none⟩) (.bool false) fun H9 =>
    Q (.tuple #[]) H9)) (Q (.tuple #[]) H1))
theorem nf_F_tasks_Table_Clear (C : WT) (p0 : Option Addr) (H : AH) (Q : Value → AH → Prop) : wpF Tryz.prog C ann_F_tasks_Table_Clear F_tasks_Table_Clear [(.pointer p0)] H Q = vc_F_tasks_Table_Clear C p0 H Q := by kernel_rfl
def ann_F_police_Police_Drop : Ann := []
def vc_F_police_Police_Drop (C : WT) (p0 : Option Addr) (b1 : Bool) (H : AH) (Q : Value → AH → Prop) : Prop :=
    bcase (!(Option.isNone p0)) (dr p0 fun b2 o3 =>
    st H 1 (some ⟨b2, o3 + 1, none⟩) (.bool b1) fun H4 =>
    Q (.tuple #[]) H4) (Q (.tuple #[]) H)
theorem nf_F_police_Police_Drop (C : WT) (p0 : Option Addr) (b1 : Bool) (H : AH) (Q : Value → AH → Prop) : wpF Tryz.prog C ann_F_police_Police_Drop F_police_Police_Drop [(.pointer p0), (.bool b1)] H Q = vc_F_police_Police_Drop C p0 b1 H Q := by kernel_rfl
def ann_F_part_row_empty : Ann := []
def vc_F_part_row_empty (C : WT) (p0 : Option Addr) (H : AH) (Q : Value → AH → Prop) : Prop :=
    dr p0 fun b1 o2 =>
    ld_i H (some ⟨b1, o2 + 2, none⟩) fun n3 =>
    dr p0 fun b4 o5 =>
    ld_p H (some ⟨b4, o5 + 1, none⟩) fun p6 =>
    C F_ring_Ring_int_Len [(.pointer p6)] H (fun r8 H7 =>
    r_i r8 <| fun n9 =>
    Again H7 (.ld1 (.pointer (some ⟨b1, o2 + 2, none⟩))) (vI n3) ∧ dr p0 fun b10 o11 =>
    st H7 1 (some ⟨b10, o11 + 2, none⟩) (vI (IntKind.wrap .i64 (n3 + n9))) fun H12 =>
    dr p0 fun b13 o14 =>
    ld_p H12 (some ⟨b13, o14 + 1, none⟩) fun p15 =>
    C F_ring_Ring_int_Clear [(.pointer p15)] H12 (fun r17 H16 =>
    r_T r17 <| dr p0 fun b18 o19 =>
    ld_v H16 (some ⟨b18, o19 + 0, none⟩) fun v20 =>
    ∃ (g21 : Nat) (x22 : Value), invA Tryz.prog H16 v20 "Reset" = some (g21, x22) ∧ C g21 [x22] H16 (fun r24 H23 =>
    r_T r24 <| Q (.tuple #[]) H23)))
theorem nf_F_part_row_empty (C : WT) (p0 : Option Addr) (H : AH) (Q : Value → AH → Prop) : wpF Tryz.prog C ann_F_part_row_empty F_part_row_empty [(.pointer p0)] H Q = vc_F_part_row_empty C p0 H Q := by kernel_rfl
def ann_F_tasks_Table_Get : Ann := []
def vc_F_tasks_Table_Get (C : WT) (p0 : Option Addr) (n1 : Int) (H : AH) (Q : Value → AH → Prop) : Prop :=
    nw H (.cells [(vI 0), (vI 0), (vI 0), (vI 0), (.slice none 0 0)] false 0) fun b2 H3 =>
    C F_tasks_Table_busy [(.pointer p0), (vI n1)] H3 (fun r5 H4 =>
    r_p r5 <| fun p6 =>
    bcase (Option.isNone p6) (st H4 5 (some ⟨b2, 0, none⟩) (.agg #[(vI 0), (vI 0), (vI 0), (vI 0), (.slice none 0 0)]) fun H7 =>
    ld_Aiiiil H7 (some ⟨b2, 0, none⟩) fun n8 n9 n10 n11 sl12 sl12n sl12c =>
    Q (.tuple #[(.agg #[(vI n8), (vI n9), (vI n10), (vI n11), (.slice sl12 sl12n sl12c)]), (.bool false)]) H7) (dr p6 fun b13 o14 =>
    ld_p H4 (some ⟨b13, o14 + 6, none⟩) fun p15 =>
    dr p15 fun b16 o17 =>
    ld_Aiiiil H4 (some ⟨b16, o17, none⟩) fun n18 n19 n20 n21 sl22 sl22n sl22c =>
    nw H4 (.cells [(vI 0), (vI 0), (vI 0), (vI 0), (.slice none 0 0)] false 0) fun b23 H24 =>
    st H24 5 (some ⟨b23, 0, none⟩) (.agg #[(vI n18), (vI n19), (vI n20), (vI n21), (.slice sl22 sl22n sl22c)]) fun H25 =>
    ld_l H25 (some ⟨b23, 0 + 4, none⟩) fun sl26 sl26n sl26c =>
    C F_slices_Clone__tasks_Optasks_Op [(.slice sl26 sl26n sl26c)] H25 (fun r28 H27 =>
    r_l r28 <| fun sl29 sl29n sl29c =>
    st H27 1 (some ⟨b23, 0 + 4, none⟩) (.slice sl29 sl29n sl29c) fun H30 =>
    ld_Aiiiil H30 (some ⟨b23, 0, none⟩) fun n31 n32 n33 n34 sl35 sl35n sl35c =>
    st H30 5 (some ⟨b2, 0, none⟩) (.agg #[(vI n31), (vI n32), (vI n33), (vI n34), (.slice sl35 sl35n sl35c)]) fun H36 =>
    ld_Aiiiil H36 (some ⟨b2, 0, none⟩) fun n37 n38 n39 n40 sl41 sl41n sl41c =>
    Q (.tuple #[(.agg #[(vI n37), (vI n38), (vI n39), (vI n40), (.slice sl41 sl41n sl41c)]), (.bool true)]) H36)))
theorem nf_F_tasks_Table_Get (C : WT) (p0 : Option Addr) (n1 : Int) (H : AH) (Q : Value → AH → Prop) : wpF Tryz.prog C ann_F_tasks_Table_Get F_tasks_Table_Get [(.pointer p0), (vI n1)] H Q = vc_F_tasks_Table_Get C p0 n1 H Q := by kernel_rfl
def ann_F_tasks_Table_High : Ann := []
def vc_F_tasks_Table_High (C : WT) (p0 : Option Addr) (H : AH) (Q : Value → AH → Prop) : Prop :=
    C F_tasks_Table_none [(.pointer p0)] H (fun r2 H1 =>
    r_b r2 <| fun b3 =>
    bcase (!b3) (dr p0 fun b4 o5 =>
    ld_b H1 (some ⟨b4, o5 + 2, none⟩) fun b6 =>
    Q (.bool b6) H1) (Q (.bool false) H1))
theorem nf_F_tasks_Table_High (C : WT) (p0 : Option Addr) (H : AH) (Q : Value → AH → Prop) : wpF Tryz.prog C ann_F_tasks_Table_High F_tasks_Table_High [(.pointer p0)] H Q = vc_F_tasks_Table_High C p0 H Q := by kernel_rfl
def ann_F_tasks_Table_First : Ann := []
def vc_F_tasks_Table_First (C : WT) (p0 : Option Addr) (H : AH) (Q : Value → AH → Prop) : Prop :=
    C F_tasks_Table_none [(.pointer p0)] H (fun r2 H1 =>
    r_b r2 <| fun b3 =>
    bcase b3 (Q (.tuple #[(vI 0), (vI 0), (.bool false)]) H1) (dr p0 fun b4 o5 =>
    ld_p H1 (some ⟨b4, o5 + 1, none⟩) fun p6 =>
    C F_heap_Heap_First [(.pointer p6)] H1 (fun r8 H7 =>
    r_T_i_i_b r8 <| fun n9 n10 b11 =>
    Q (.tuple #[(vI n9), (vI n10), (.bool b11)]) H7)))
theorem nf_F_tasks_Table_First (C : WT) (p0 : Option Addr) (H : AH) (Q : Value → AH → Prop) : wpF Tryz.prog C ann_F_tasks_Table_First F_tasks_Table_First [(.pointer p0)] H Q = vc_F_tasks_Table_First C p0 H Q := by kernel_rfl
def ann_F_conf_all_conf_Task : Ann := []
def vc_F_conf_all_conf_Task (C : WT) (sl0 : Option Addr) (sl0n sl0c : Nat) (n1 : Int) (H : AH) (Q : Value → AH → Prop) : Prop :=
    bcase (decide ((↑(sl0n : Nat) : Int) ≤ n1)) (C F_slices_ContainsFunc__conf_Taskconf_Task [(.slice sl0 sl0n sl0c), (.func (.func F_conf_all_conf_Task_1) #[] #[])] H (fun r3 H2 =>
    r_b r3 <| fun b4 =>
    Q (.bool (!b4)) H2)) (Q (.bool false) H)
theorem nf_F_conf_all_conf_Task (C : WT) (sl0 : Option Addr) (sl0n sl0c : Nat) (n1 : Int) (H : AH) (Q : Value → AH → Prop) : wpF Tryz.prog C ann_F_conf_all_conf_Task F_conf_all_conf_Task [(.slice sl0 sl0n sl0c), (vI n1)] H Q = vc_F_conf_all_conf_Task C sl0 sl0n sl0c n1 H Q := by kernel_rfl
def ann_F_conf_all_conf_Server : Ann := []
def vc_F_conf_all_conf_Server (C : WT) (sl0 : Option Addr) (sl0n sl0c : Nat) (n1 : Int) (H : AH) (Q : Value → AH → Prop) : Prop :=
    bcase (decide ((↑(sl0n : Nat) : Int) ≤ n1)) (C F_slices_ContainsFunc__conf_Serverconf_Server [(.slice sl0 sl0n sl0c), (.func (.func F_conf_all_conf_Server_1) #[] #[])] H (fun r3 H2 =>
    r_b r3 <| fun b4 =>
    Q (.bool (!b4)) H2)) (Q (.bool false) H)
theorem nf_F_conf_all_conf_Server (C : WT) (sl0 : Option Addr) (sl0n sl0c : Nat) (n1 : Int) (H : AH) (Q : Value → AH → Prop) : wpF Tryz.prog C ann_F_conf_all_conf_Server F_conf_all_conf_Server [(.slice sl0 sl0n sl0c), (vI n1)] H Q = vc_F_conf_all_conf_Server C sl0 sl0n sl0c n1 H Q := by kernel_rfl
def ann_F_slices_Max__uint8uint8 : Ann := [(3, ⟨[], [], [0]⟩), (122, ⟨[3, 4], [(.int .u8 0), (vI 0)], [0]⟩)]
def vc_F_slices_Max__uint8uint8 (C : WT) (sl0 : Option Addr) (sl0n sl0c : Nat) (H : AH) (Q : Value → AH → Prop) : Prop :=
    ∀ X1 : List Value → AH → Prop, (∀ H2 : AH, (∀ F3 : TF, ix sl0 sl0n 0 fun b4 o5 =>
    ld_c H2 (some ⟨b4, o5 + Int.toNat 0 * 1, none⟩) fun n6 =>
    ∀ X7 : List Value → AH → Prop, (∀ n8 : Int, ∀ n9 : Int, ∀ H10 : AH, (∀ F11 : TF, bcase (decide (n9 < (↑(sl0n : Nat) : Int))) (ix sl0 sl0n n9 fun b12 o13 =>
    ld_c H10 (some ⟨b12, o13 + Int.toNat n9 * 1, none⟩) fun n14 =>
    kp [(.slice sl0 sl0n sl0c)] (X7 [(.int .u8 (if n14 > n8 then n14 else n8)), (vI (IntKind.wrap .i64 (n9 + 1)))] H10)) (Q (.int .u8 n8) H10)) → X7 [(.int .u8 n8), (vI n9)] H10) → X7 [(.int .u8 n6), (vI 1)] H2) → X1 [] H2) → bcase (decide ((↑(sl0n : Nat) : Int) < 1)) (False) (kp [(.slice sl0 sl0n sl0c)] (X1 [] H))
theorem nf_F_slices_Max__uint8uint8 (C : WT) (sl0 : Option Addr) (sl0n sl0c : Nat) (H : AH) (Q : Value → AH → Prop) : wpF Tryz.prog C ann_F_slices_Max__uint8uint8 F_slices_Max__uint8uint8 [(.slice sl0 sl0n sl0c)] H Q = vc_F_slices_Max__uint8uint8 C sl0 sl0n sl0c H Q := by kernel_rfl
def ann_F_slices_ContainsFunc__conf_Taskconf_Task : Ann := []
def vc_F_slices_ContainsFunc__conf_Taskconf_Task (C : WT) (sl0 : Option Addr) (sl0n sl0c : Nat) (v1 : Value) (H : AH) (Q : Value → AH → Prop) : Prop :=
    C F_slices_IndexFunc__conf_Taskconf_Task [(.slice sl0 sl0n sl0c), v1] H (fun r3 H2 =>
    r_i r3 <| fun n4 =>
    Q (.bool (decide (0 ≤ n4))) H2)
theorem nf_F_slices_ContainsFunc__conf_Taskconf_Task (C : WT) (sl0 : Option Addr) (sl0n sl0c : Nat) (v1 : Value) (H : AH) (Q : Value → AH → Prop) : wpF Tryz.prog C ann_F_slices_ContainsFunc__conf_Taskconf_Task F_slices_ContainsFunc__conf_Taskconf_Task [(.slice sl0 sl0n sl0c), v1] H Q = vc_F_slices_ContainsFunc__conf_Taskconf_Task C sl0 sl0n sl0c v1 H Q := by kernel_rfl
def ann_F_tasks_New_1 : Ann := []
def vc_F_tasks_New_1 (C : WT) (b0 : Bool) (n1 : Int) (n2 : Int) (n3 : Int) (n4 : Int) (n5 : Int) (H : AH) (Q : Value → AH → Prop) : Prop :=
    nw H (.cells [(.bool b0), (vI n1), (vI n2), (vI n3), (vI n4), (vI n5)] false 0) fun b6 H7 =>
    ld_Abiiiii H7 (some ⟨b6, 0, none⟩) fun b8 n9 n10 n11 n12 n13 =>
    C F_conf_Task_Right [(.agg #[(.bool b8), (vI n9), (vI n10), (vI n11), (vI n12), (vI n13)])] H7 (fun r15 H14 =>
    r_b r15 <| fun b16 =>
    Q (.bool (!b16)) H14)
theorem nf_F_tasks_New_1 (C : WT) (b0 : Bool) (n1 : Int) (n2 : Int) (n3 : Int) (n4 : Int) (n5 : Int) (H : AH) (Q : Value → AH → Prop) : wpF Tryz.prog C ann_F_tasks_New_1 F_tasks_New_1 [(.agg #[(.bool b0), (vI n1), (vI n2), (vI n3), (vI n4), (vI n5)])] H Q = vc_F_tasks_New_1 C b0 n1 n2 n3 n4 n5 H Q := by kernel_rfl
def ann_F_conf_Task_Right : Ann := [(3, ⟨[], [], [1]⟩)]
def vc_F_conf_Task_Right (C : WT) (b0 : Bool) (n1 : Int) (n2 : Int) (n3 : Int) (n4 : Int) (n5 : Int) (H : AH) (Q : Value → AH → Prop) : Prop :=
    nw H (.cells [(.bool b0), (vI n1), (vI n2), (vI n3), (vI n4), (vI n5)] false 0) fun b6 H7 =>
    ∀ X8 : List Value → AH → Prop, (∀ H26 : AH, (∀ F27 : TF, ld_b H26 (some ⟨b6, 0 + 0, none⟩) fun b28 =>
    bcase b28 (Q (.bool true) H26) (ld_i H26 (some ⟨b6, 0 + 3, none⟩) fun n29 =>
    ld_i H26 (some ⟨b6, 0 + 2, none⟩) fun n30 =>
    bcase (n29 == n30) (ld_i H26 (some ⟨b6, 0 + 5, none⟩) fun n31 =>
    ld_i H26 (some ⟨b6, 0 + 4, none⟩) fun n32 =>
    Q (.bool (n31 == n32)) H26) (Q (.bool false) H26))) → X8 [] H26) → ld_i H7 (some ⟨b6, 0 + 4, none⟩) fun n9 =>
    ld_i H7 (some ⟨b6, 0 + 3, none⟩) fun n10 =>
    ld_i H7 (some ⟨b6, 0 + 2, none⟩) fun n11 =>
    ld_i H7 (some ⟨b6, 0 + 1, none⟩) fun n12 =>
    nw H7 (.cells [(vI 1), (vI n9), (vI n10), (vI n11), (vI n12), (vI 1000)] false 0) fun b13 H14 =>
    C F_conf_rise [(.slice (some ⟨b13, 0, none⟩) 6 6)] H14 (fun r16 H15 =>
    r_b r16 <| fun b17 =>
    bcase (!b17) (Q (.bool false) H15) (ld_i H15 (some ⟨b6, 0 + 4, none⟩) fun n18 =>
    ld_i H15 (some ⟨b6, 0 + 5, none⟩) fun n19 =>
    ld_i H15 (some ⟨b6, 0 + 2, none⟩) fun n20 =>
    nw H15 (.cells [(vI n18), (vI n19), (vI n20)] false 0) fun b21 H22 =>
    C F_conf_rise [(.slice (some ⟨b21, 0, none⟩) 3 3)] H22 (fun r24 H23 =>
    r_b r24 <| fun b25 =>
    bcase (!b25) (Q (.bool false) H23) (kp [(.pointer (some ⟨b6, 0, none⟩))] (X8 [] H23)))))
theorem nf_F_conf_Task_Right (C : WT) (b0 : Bool) (n1 : Int) (n2 : Int) (n3 : Int) (n4 : Int) (n5 : Int) (H : AH) (Q : Value → AH → Prop) : wpF Tryz.prog C ann_F_conf_Task_Right F_conf_Task_Right [(.agg #[(.bool b0), (vI n1), (vI n2), (vI n3), (vI n4), (vI n5)])] H Q = vc_F_conf_Task_Right C b0 n1 n2 n3 n4 n5 H Q := by kernel_rfl
def ann_F_heap_New : Ann := [(122, ⟨[21], [(vI 0)], [3, 20]⟩)]
def vc_F_heap_New (C : WT) (n0 : Int) (H : AH) (Q : Value → AH → Prop) : Prop :=
    ∃ (B3 : Blk) (n4 c5 : Nat), mkS 8 [(vI 0)] (vI (if 1024 < (if 0 > n0 then 0 else n0) then 1024 else (if 0 > n0 then 0 else n0))) (vI (if 1024 < (if 0 > n0 then 0 else n0) then 1024 else (if 0 > n0 then 0 else n0))) = some (B3, n4, c5) ∧ nw H (B3) fun b1 H2 =>
    ∃ (B8 : Blk) (n9 c10 : Nat), mkS 8 [(vI 0)] (vI (if 1024 < (if 0 > n0 then 0 else n0) then 1024 else (if 0 > n0 then 0 else n0))) (vI (if 1024 < (if 0 > n0 then 0 else n0) then 1024 else (if 0 > n0 then 0 else n0))) = some (B8, n9, c10) ∧ nw H2 (B8) fun b6 H7 =>
    nw H7 (.cells [(.slice none 0 0), (.slice (some ⟨b1, 0, none⟩) n4 c5), (.slice (some ⟨b6, 0, none⟩) n9 c10), (.bool true)] false 0) fun b11 H12 =>
    dr (some ⟨b11, 0, none⟩) fun b13 o14 =>
    ld_l H12 (some ⟨b13, o14 + 0 + 1, none⟩) fun sl15 sl15n sl15c =>
    ∀ X16 : List Value → AH → Prop, (∀ n17 : Int, ∀ H18 : AH, (∀ F19 : TF, bcase (decide (n17 < (↑(sl15n : Nat) : Int))) (dr (some ⟨b11, 0, none⟩) fun b20 o21 =>
    ld_l H18 (some ⟨b20, o21 + 0 + 1, none⟩) fun sl22 sl22n sl22c =>
    ix sl22 sl22n n17 fun b23 o24 =>
    st H18 1 (some ⟨b23, o24 + Int.toNat n17 * 1, none⟩) (vI (-1)) fun H25 =>
    kp [(.pointer (some ⟨b11, 0, none⟩)), (vI (↑(sl15n : Nat) : Int))] (X16 [(vI (IntKind.wrap .i64 (n17 + 1)))] H25)) (Q (.pointer (some ⟨b11, 0, none⟩)) H18)) → X16 [(vI n17)] H18) → X16 [(vI 0)] H12
theorem nf_F_heap_New (C : WT) (n0 : Int) (H : AH) (Q : Value → AH → Prop) : wpF Tryz.prog C ann_F_heap_New F_heap_New [(vI n0)] H Q = vc_F_heap_New C n0 H Q := by kernel_rfl
def ann_F_police_New_1 : Ann := []
def vc_F_police_New_1 (C : WT) (b0 : Bool) (n1 : Int) (n2 : Int) (n3 : Int) (n4 : Int) (n5 : Int) (H : AH) (Q : Value → AH → Prop) : Prop :=
    nw H (.cells [(.bool b0), (vI n1), (vI n2), (vI n3), (vI n4), (vI n5)] false 0) fun b6 H7 =>
    ld_Abiiiii H7 (some ⟨b6, 0, none⟩) fun b8 n9 n10 n11 n12 n13 =>
    C F_conf_Task_Right [(.agg #[(.bool b8), (vI n9), (vI n10), (vI n11), (vI n12), (vI n13)])] H7 (fun r15 H14 =>
    r_b r15 <| fun b16 =>
    Q (.bool (!b16)) H14)
theorem nf_F_police_New_1 (C : WT) (b0 : Bool) (n1 : Int) (n2 : Int) (n3 : Int) (n4 : Int) (n5 : Int) (H : AH) (Q : Value → AH → Prop) : wpF Tryz.prog C ann_F_police_New_1 F_police_New_1 [(.agg #[(.bool b0), (vI n1), (vI n2), (vI n3), (vI n4), (vI n5)])] H Q = vc_F_police_New_1 C b0 n1 n2 n3 n4 n5 H Q := by kernel_rfl
def ann_F_ring_New_int : Ann := []
def vc_F_ring_New_int (C : WT) (n0 : Int) (H : AH) (Q : Value → AH → Prop) : Prop :=
    ∃ (B3 : Blk) (n4 c5 : Nat), mkS 8 [(vI 0)] (vI (if 4096 < (if 0 > n0 then 0 else n0) then 4096 else (if 0 > n0 then 0 else n0))) (vI (if 4096 < (if 0 > n0 then 0 else n0) then 4096 else (if 0 > n0 then 0 else n0))) = some (B3, n4, c5) ∧ nw H (B3) fun b1 H2 =>
    nw H2 (.cells [(.slice (some ⟨b1, 0, none⟩) n4 c5), (vI 0), (vI 0)] false 0) fun b6 H7 =>
    Q (.pointer (some ⟨b6, 0, none⟩)) H7
theorem nf_F_ring_New_int (C : WT) (n0 : Int) (H : AH) (Q : Value → AH → Prop) : wpF Tryz.prog C ann_F_ring_New_int F_ring_New_int [(vI n0)] H Q = vc_F_ring_New_int C n0 H Q := by kernel_rfl
def ann_F_refill_New : Ann := [(3, ⟨[], [], [1, 2]⟩)]
def vc_F_refill_New (C : WT) (b0 : Bool) (n1 : Int) (n2 : Int) (n3 : Int) (H : AH) (Q : Value → AH → Prop) : Prop :=
    nw H (.cells [(.bool b0), (vI n1), (vI n2)] false 0) fun b4 H5 =>
    ∀ X6 : List Value → AH → Prop, (∀ H13 : AH, (∀ F14 : TF, ld_Abii H13 (some ⟨b4, 0, none⟩) fun b15 n16 n17 =>
    ld_i H13 (some ⟨b4, 0 + 1, none⟩) fun n18 =>
    nw H13 (.cells [(.slice none 0 0), (.bool b15), (vI n16), (vI n17), (vI n3), (vI n3), (vI n18), (.bool false)] false 0) fun b19 H20 =>
    Q (.pointer (some ⟨b19, 0, none⟩)) H20) → X6 [] H13) → ld_Abii H5 (some ⟨b4, 0, none⟩) fun b7 n8 n9 =>
    C F_conf_Server_Right [(.agg #[(.bool b7), (vI n8), (vI n9)])] H5 (fun r11 H10 =>
    r_b r11 <| fun b12 =>
    bcase (!b12) (Q (.pointer none) H10) (bcase (decide (n3 < 0)) (Q (.pointer none) H10) (bcase (decide (4611686018427387904 < n3)) (Q (.pointer none) H10) (kp [(vI n3), (.pointer (some ⟨b4, 0, none⟩))] (X6 [] H10)))))
theorem nf_F_refill_New (C : WT) (b0 : Bool) (n1 : Int) (n2 : Int) (n3 : Int) (H : AH) (Q : Value → AH → Prop) : wpF Tryz.prog C ann_F_refill_New F_refill_New [(.agg #[(.bool b0), (vI n1), (vI n2)]), (vI n3)] H Q = vc_F_refill_New C b0 n1 n2 n3 H Q := by kernel_rfl
def ann_F_chunk_New : Ann := []
def vc_F_chunk_New (C : WT) (b0 : Bool) (n1 : Int) (n2 : Int) (H : AH) (Q : Value → AH → Prop) : Prop :=
    nw H (.cells [(.bool b0), (vI n1), (vI n2)] false 0) fun b3 H4 =>
    ld_Abii H4 (some ⟨b3, 0, none⟩) fun b5 n6 n7 =>
    C F_conf_Server_Right [(.agg #[(.bool b5), (vI n6), (vI n7)])] H4 (fun r9 H8 =>
    r_b r9 <| fun b10 =>
    bcase (!b10) (Q (.pointer none) H8) (ld_Abii H8 (some ⟨b3, 0, none⟩) fun b11 n12 n13 =>
    ld_i H8 (some ⟨b3, 0 + 1, none⟩) fun n14 =>
    nw H8 (.cells [(.slice none 0 0), (.bool b11), (vI n12), (vI n13), (vI n14), (.slice none 0 0), (.bool false)] false 0) fun b15 H16 =>
    Q (.pointer (some ⟨b15, 0, none⟩)) H16))
theorem nf_F_chunk_New (C : WT) (b0 : Bool) (n1 : Int) (n2 : Int) (H : AH) (Q : Value → AH → Prop) : wpF Tryz.prog C ann_F_chunk_New F_chunk_New [(.agg #[(.bool b0), (vI n1), (vI n2)])] H Q = vc_F_chunk_New C b0 n1 n2 H Q := by kernel_rfl
def ann_F_slices_Grow__part_Eventpart_Event : Ann := [(3, ⟨[], [], [0, 1]⟩)]
def vc_F_slices_Grow__part_Eventpart_Event (C : WT) (sl0 : Option Addr) (sl0n sl0c : Nat) (n1 : Int) (H : AH) (Q : Value → AH → Prop) : Prop :=
    ∀ X2 : List Value → AH → Prop, (∀ H3 : AH, (∀ F4 : TF, ∃ n5 : Int, capA H3 (.slice sl0 sl0n sl0c) = some (vI n5) ∧ bcase (decide (0 < (IntKind.wrap .i64 (n1 - (IntKind.wrap .i64 (n5 - (↑(sl0n : Nat) : Int))))))) (∃ n6 : Int, capA H3 (.slice sl0 sl0n sl0c) = some (vI n6) ∧ slK H3 3 sl0 sl0n sl0c none (some (vI n6)) fun sl7 sl7n sl7c =>
    ∃ (sl8 : Option Addr) (sl8n sl8c : Nat), ∃ H9 : AH, apZ H3 3 24 [(vI 0), (vI 0), (vI 0)] (.slice sl7 sl7n sl7c) (vI (IntKind.wrap .i64 (n1 - (IntKind.wrap .i64 (n5 - (↑(sl0n : Nat) : Int)))))) = some ((.slice sl8 sl8n sl8c), H9) ∧ slK H9 3 sl8 sl8n sl8c none (some (vI (↑(sl0n : Nat) : Int))) fun sl10 sl10n sl10c =>
    Q (.slice sl10 sl10n sl10c) H9) (Q (.slice sl0 sl0n sl0c) H3)) → X2 [] H3) → bcase (decide (n1 < 0)) (False) (kp [(.slice sl0 sl0n sl0c), (vI n1)] (X2 [] H))
theorem nf_F_slices_Grow__part_Eventpart_Event (C : WT) (sl0 : Option Addr) (sl0n sl0c : Nat) (n1 : Int) (H : AH) (Q : Value → AH → Prop) : wpF Tryz.prog C ann_F_slices_Grow__part_Eventpart_Event F_slices_Grow__part_Eventpart_Event [(.slice sl0 sl0n sl0c), (vI n1)] H Q = vc_F_slices_Grow__part_Eventpart_Event C sl0 sl0n sl0c n1 H Q := by kernel_rfl
def ann_F_tasks_Table_none : Ann := []
def vc_F_tasks_Table_none (C : WT) (p0 : Option Addr) (H : AH) (Q : Value → AH → Prop) : Prop :=
    bcase (Option.isNone p0) (Q (.bool true) H) (dr p0 fun b1 o2 =>
    ld_p H (some ⟨b1, o2 + 1, none⟩) fun p3 =>
    Q (.bool (Option.isNone p3)) H)
theorem nf_F_tasks_Table_none (C : WT) (p0 : Option Addr) (H : AH) (Q : Value → AH → Prop) : wpF Tryz.prog C ann_F_tasks_Table_none F_tasks_Table_none [(.pointer p0)] H Q = vc_F_tasks_Table_none C p0 H Q := by kernel_rfl
def ann_F_tasks_Table_each : Ann := [(58, ⟨[5, 13], [(.slice none 0 0), (vI 0)], [0, 1, 12]⟩), (7475, ⟨[25], [(.bool false)], [0, 1, 5, 6, 12, 13]⟩)]
def vc_F_tasks_Table_each (C : WT) (p0 : Option Addr) (v1 : Value) (H : AH) (Q : Value → AH → Prop) : Prop :=
    dr p0 fun b2 o3 =>
    ld_l H (some ⟨b2, o3 + 0, none⟩) fun sl4 sl4n sl4c =>
    ∀ X5 : List Value → AH → Prop, (∀ (sl6 : Option Addr) (sl6n sl6c : Nat), ∀ n7 : Int, ∀ H8 : AH, (∀ F9 : TF, bcase (decide (n7 < (↑(sl4n : Nat) : Int))) (C F_tasks_Table_busy [(.pointer p0), (vI n7)] H8 (fun r11 H10 =>
    r_p r11 <| fun p12 =>
    ∀ X13 : List Value → AH → Prop, (∀ b19 : Bool, ∀ H20 : AH, (∀ F21 : TF, bcase b19 (nw H20 (.cells [(vI n7)] false 0) fun b22 H23 =>
    apK H23 1 8 (.slice sl6 sl6n sl6c) (.slice (some ⟨b22, 0, none⟩) 1 1) fun sl24 sl24n sl24c H25 =>
    C F_tasks_Table_gone [(.pointer p0), (vI n7)] H25 (fun r27 H26 =>
    r_T r27 <| kp [(.pointer p0), v1, (vI (↑(sl4n : Nat) : Int))] (X5 [(.slice sl24 sl24n sl24c), (vI (IntKind.wrap .i64 (n7 + 1)))] H26))) (kp [(.pointer p0), v1, (vI (↑(sl4n : Nat) : Int))] (X5 [(.slice sl6 sl6n sl6c), (vI (IntKind.wrap .i64 (n7 + 1)))] H20))) → X13 [(.bool b19)] H20) → bcase (!(Option.isNone p12)) (∃ (g14 : Nat) (az15 : List Value), fnV v1 [(.pointer p12)] = some (g14, az15) ∧ C g14 az15 H10 (fun r17 H16 =>
    r_b r17 <| fun b18 =>
    kp [(.pointer p0), v1, (.slice sl6 sl6n sl6c), (vI n7), (vI (↑(sl4n : Nat) : Int)), (vI n7)] (X13 [(.bool b18)] H16))) (kp [(.pointer p0), v1, (.slice sl6 sl6n sl6c), (vI n7), (vI (↑(sl4n : Nat) : Int)), (vI n7)] (X13 [(.bool false)] H10)))) (Q (.slice sl6 sl6n sl6c) H8)) → X5 [(.slice sl6 sl6n sl6c), (vI n7)] H8) → X5 [(.slice none 0 0), (vI 0)] H
theorem nf_F_tasks_Table_each (C : WT) (p0 : Option Addr) (v1 : Value) (H : AH) (Q : Value → AH → Prop) : wpF Tryz.prog C ann_F_tasks_Table_each F_tasks_Table_each [(.pointer p0), v1] H Q = vc_F_tasks_Table_each C p0 v1 H Q := by kernel_rfl
def ann_F_tasks_Table_Missed_1 : Ann := []
def vc_F_tasks_Table_Missed_1 (C : WT) (p0 : Option Addr) (p1 : Option Addr) (H : AH) (Q : Value → AH → Prop) : Prop :=
    dr p0 fun b2 o3 =>
    ld_p H (some ⟨b2, o3 + 6, none⟩) fun p4 =>
    dr p4 fun b5 o6 =>
    ld_i H (some ⟨b5, o6 + 1, none⟩) fun n7 =>
    dr p0 fun b8 o9 =>
    ld_i H (some ⟨b8, o9 + 0 + 2, none⟩) fun n10 =>
    ld_i H p1 fun n11 =>
    Q (.bool (decide ((IntKind.wrap .i64 (n7 + n10)) ≤ n11))) H
theorem nf_F_tasks_Table_Missed_1 (C : WT) (p0 : Option Addr) (p1 : Option Addr) (H : AH) (Q : Value → AH → Prop) : wpF Tryz.prog C ann_F_tasks_Table_Missed_1 F_tasks_Table_Missed_1 [(.pointer p0), (.pointer p1)] H Q = vc_F_tasks_Table_Missed_1 C p0 p1 H Q := by kernel_rfl
def ann_F_tasks_Table_Fall : Ann := [(3, ⟨[], [], [0]⟩)]
def vc_F_tasks_Table_Fall (C : WT) (p0 : Option Addr) (H : AH) (Q : Value → AH → Prop) : Prop :=
    ∀ X1 : List Value → AH → Prop, (∀ H8 : AH, (∀ F9 : TF, dr p0 fun b10 o11 =>
    st H8 1 (some ⟨b10, o11 + 2, none⟩) (.bool false) fun H12 =>
    Q (.bool true) H12) → X1 [] H8) → C F_tasks_Table_High [(.pointer p0)] H (fun r3 H2 =>
    r_b r3 <| fun b4 =>
    bcase (!b4) (Q (.bool false) H2) (C F_tasks_Table_Len [(.pointer p0)] H2 (fun r6 H5 =>
    r_i r6 <| fun n7 =>
    bcase (decide (0 < n7)) (Q (.bool false) H5) (kp [(.pointer p0)] (X1 [] H5)))))
theorem nf_F_tasks_Table_Fall (C : WT) (p0 : Option Addr) (H : AH) (Q : Value → AH → Prop) : wpF Tryz.prog C ann_F_tasks_Table_Fall F_tasks_Table_Fall [(.pointer p0)] H Q = vc_F_tasks_Table_Fall C p0 H Q := by kernel_rfl
def ann_F_tasks_Table_Run : Ann := [(127, ⟨[8], [(vI 0)], [4, 7]⟩)]
def vc_F_tasks_Table_Run (C : WT) (p0 : Option Addr) (n1 : Int) (H : AH) (Q : Value → AH → Prop) : Prop :=
    nw H (.cells [(vI 0), (vI 0), (vI 0)] false 0) fun b2 H3 =>
    C F_tasks_Table_busy [(.pointer p0), (vI n1)] H3 (fun r5 H4 =>
    r_p r5 <| fun p6 =>
    bcase (Option.isNone p6) (st H4 3 (some ⟨b2, 0, none⟩) (.agg #[(vI 0), (vI 0), (vI 0)]) fun H7 =>
    ld_Aiii H7 (some ⟨b2, 0, none⟩) fun n8 n9 n10 =>
    Q (.tuple #[(.agg #[(vI n8), (vI n9), (vI n10)]), (vI 4)]) H7) (dr p6 fun b11 o12 =>
    ld_p H4 (some ⟨b11, o12 + 6, none⟩) fun p13 =>
    dr p13 fun b14 o15 =>
    ld_Aiiiil H4 (some ⟨b14, o15, none⟩) fun n16 n17 n18 n19 sl20 sl20n sl20c =>
    C F_tasks_Job_op [(.agg #[(vI n16), (vI n17), (vI n18), (vI n19), (.slice sl20 sl20n sl20c)])] H4 (fun r22 H21 =>
    r_Aiii r22 <| fun n23 n24 n25 =>
    nw H21 (.cells [(vI 0), (vI 0), (vI 0)] false 0) fun b26 H27 =>
    st H27 3 (some ⟨b26, 0, none⟩) (.agg #[(vI n23), (vI n24), (vI n25)]) fun H28 =>
    dr p6 fun b29 o30 =>
    ld_p H28 (some ⟨b29, o30 + 6, none⟩) fun p31 =>
    dr p31 fun b32 o33 =>
    ld_i H28 (some ⟨b32, o33 + 3, none⟩) fun n34 =>
    dr p31 fun b35 o36 =>
    st H28 1 (some ⟨b35, o36 + 3, none⟩) (vI (IntKind.wrap .i64 (n34 + 1))) fun H37 =>
    ∀ X38 : List Value → AH → Prop, (∀ n83 : Int, ∀ H84 : AH, (∀ F85 : TF, ld_Aiii H84 (some ⟨b26, 0, none⟩) fun n86 n87 n88 =>
    st H84 3 (some ⟨b2, 0, none⟩) (.agg #[(vI n86), (vI n87), (vI n88)]) fun H89 =>
    ld_Aiii H89 (some ⟨b2, 0, none⟩) fun n90 n91 n92 =>
    Q (.tuple #[(.agg #[(vI n90), (vI n91), (vI n92)]), (vI n83)]) H89) → X38 [(vI n83)] H84) → dr p6 fun b39 o40 =>
    ld_p H37 (some ⟨b39, o40 + 6, none⟩) fun p41 =>
    dr p41 fun b42 o43 =>
    ld_i H37 (some ⟨b42, o43 + 3, none⟩) fun n44 =>
    dr p0 fun b45 o46 =>
    ld_b H37 (some ⟨b45, o46 + 2, none⟩) fun b47 =>
    C F_tasks_slot_budget [(.pointer p6), (.bool b47)] H37 (fun r49 H48 =>
    r_i r49 <| fun n50 =>
    Again H48 (.ld1 (.pointer (some ⟨b42, o43 + 3, none⟩))) (vI n44) ∧ Again H48 (.ld1 (.pointer (some ⟨b39, o40 + 6, none⟩))) (.pointer p41) ∧ dr p6 fun b51 o52 =>
    ld_p H48 (some ⟨b51, o52 + 6, none⟩) fun p53 =>
    dr p53 fun b54 o55 =>
    ld_i H48 (some ⟨b54, o55 + 3, none⟩) fun n56 =>
    dr p6 fun b57 o58 =>
    ld_p H48 (some ⟨b57, o58 + 6, none⟩) fun p59 =>
    dr p59 fun b60 o61 =>
    ld_i H48 (some ⟨b60, o61 + 2, none⟩) fun n62 =>
    bcase (n56 == n62) (C F_tasks_Table_gone [(.pointer p0), (vI n1)] H48 (fun r64 H63 =>
    r_T r64 <| kp [(.pointer (some ⟨b2, 0, none⟩)), (.pointer (some ⟨b26, 0, none⟩))] (X38 [(vI 1)] H63))) (bcase (decide (n50 ≤ n44)) (dr p0 fun b65 o66 =>
    ld_b H48 (some ⟨b65, o66 + 2, none⟩) fun b67 =>
    bcase b67 (C F_tasks_Table_gone [(.pointer p0), (vI n1)] H48 (fun r69 H68 =>
    r_T r69 <| kp [(.pointer (some ⟨b2, 0, none⟩)), (.pointer (some ⟨b26, 0, none⟩))] (X38 [(vI 2)] H68))) (dr p6 fun b70 o71 =>
    ld_b H48 (some ⟨b70, o71 + 0 + 0, none⟩) fun b72 =>
    bcase (!b72) (C F_tasks_Table_gone [(.pointer p0), (vI n1)] H48 (fun r74 H73 =>
    r_T r74 <| kp [(.pointer (some ⟨b2, 0, none⟩)), (.pointer (some ⟨b26, 0, none⟩))] (X38 [(vI 2)] H73))) (dr p6 fun b75 o76 =>
    ld_i H48 (some ⟨b75, o76 + 0 + 5, none⟩) fun n77 =>
    dr p6 fun b78 o79 =>
    ld_i H48 (some ⟨b78, o79 + 0 + 4, none⟩) fun n80 =>
    bcase (n77 == n80) (C F_tasks_Table_gone [(.pointer p0), (vI n1)] H48 (fun r82 H81 =>
    r_T r82 <| kp [(.pointer (some ⟨b2, 0, none⟩)), (.pointer (some ⟨b26, 0, none⟩))] (X38 [(vI 2)] H81))) (bcase (decide (n50 ≤ n44)) (kp [(.pointer (some ⟨b2, 0, none⟩)), (.pointer (some ⟨b26, 0, none⟩))] (X38 [(vI 3)] H48)) (kp [(.pointer (some ⟨b2, 0, none⟩)), (.pointer (some ⟨b26, 0, none⟩))] (X38 [(vI 0)] H48)))))) (bcase (decide (n50 ≤ n44)) (kp [(.pointer (some ⟨b2, 0, none⟩)), (.pointer (some ⟨b26, 0, none⟩))] (X38 [(vI 3)] H48)) (kp [(.pointer (some ⟨b2, 0, none⟩)), (.pointer (some ⟨b26, 0, none⟩))] (X38 [(vI 0)] H48))))))))
theorem nf_F_tasks_Table_Run (C : WT) (p0 : Option Addr) (n1 : Int) (H : AH) (Q : Value → AH → Prop) : wpF Tryz.prog C ann_F_tasks_Table_Run F_tasks_Table_Run [(.pointer p0), (vI n1)] H Q = vc_F_tasks_Table_Run C p0 n1 H Q := by kernel_rfl
def ann_F_part_Part_rise : Ann := [(122, ⟨[22], [(vI 0)], [3, 20, 21]⟩)]
def vc_F_part_Part_rise (C : WT) (p0 : Option Addr) (H : AH) (Q : Value → AH → Prop) : Prop :=
    dr p0 fun b1 o2 =>
    ld_p H (some ⟨b1, o2 + 0, none⟩) fun p3 =>
    C F_tasks_Table_Rise [(.pointer p3)] H (fun r5 H4 =>
    r_l r5 <| fun sl6 sl6n sl6c =>
    C F_part_of [(vI 4), (.slice sl6 sl6n sl6c)] H4 (fun r8 H7 =>
    r_l r8 <| fun sl9 sl9n sl9c =>
    dr p0 fun b10 o11 =>
    ld_p H7 (some ⟨b10, o11 + 1, none⟩) fun p12 =>
    C F_police_Police_Drop [(.pointer p12), (.bool true)] H7 (fun r14 H13 =>
    r_T r14 <| dr p0 fun b15 o16 =>
    ld_l H13 (some ⟨b15, o16 + 2, none⟩) fun sl17 sl17n sl17c =>
    ∀ X18 : List Value → AH → Prop, (∀ n19 : Int, ∀ H20 : AH, (∀ F21 : TF, bcase (decide (n19 < (↑(sl17n : Nat) : Int))) (ix sl17 sl17n n19 fun b22 o23 =>
    ld_p H20 (some ⟨b22, o23 + Int.toNat n19 * 1, none⟩) fun p24 =>
    dr p24 fun b25 o26 =>
    ld_v H20 (some ⟨b25, o26 + 0, none⟩) fun v27 =>
    ∃ (g28 : Nat) (x29 : Value), invA Tryz.prog H20 v27 "Stop" = some (g28, x29) ∧ C g28 [x29] H20 (fun r31 H30 =>
    r_T r31 <| kp [(.slice sl9 sl9n sl9c), (.slice sl17 sl17n sl17c), (vI (↑(sl17n : Nat) : Int))] (X18 [(vI (IntKind.wrap .i64 (n19 + 1)))] H30))) (nw H20 (.cells [(vI 3), (vI 0), (vI 0)] false 0) fun b32 H33 =>
    apK H33 3 24 (.slice sl9 sl9n sl9c) (.slice (some ⟨b32, 0, none⟩) 1 1) fun sl34 sl34n sl34c H35 =>
    Q (.slice sl34 sl34n sl34c) H35)) → X18 [(vI n19)] H20) → X18 [(vI 0)] H13)))
theorem nf_F_part_Part_rise (C : WT) (p0 : Option Addr) (H : AH) (Q : Value → AH → Prop) : wpF Tryz.prog C ann_F_part_Part_rise F_part_Part_rise [(.pointer p0)] H Q = vc_F_part_Part_rise C p0 H Q := by kernel_rfl
def ann_F_ring_Ring_int_At : Ann := []
def vc_F_ring_Ring_int_At (C : WT) (p0 : Option Addr) (n1 : Int) (H : AH) (Q : Value → AH → Prop) : Prop :=
    C F_ring_Ring_int_is [(.pointer p0), (vI n1)] H (fun r3 H2 =>
    r_b r3 <| fun b4 =>
    bcase (!b4) (Q (.tuple #[(vI 0), (.bool false)]) H2) (dr p0 fun b5 o6 =>
    ld_l H2 (some ⟨b5, o6 + 0, none⟩) fun sl7 sl7n sl7c =>
    C F_ring_Ring_int_place [(.pointer p0), (vI n1)] H2 (fun r9 H8 =>
    r_i r9 <| fun n10 =>
    Again H8 (.ld1 (.pointer (some ⟨b5, o6 + 0, none⟩))) (.slice sl7 sl7n sl7c) ∧ ix sl7 sl7n n10 fun b11 o12 =>
    ld_i H8 (some ⟨b11, o12 + Int.toNat n10 * 1, none⟩) fun n13 =>
    Q (.tuple #[(vI n13), (.bool true)]) H8)))
theorem nf_F_ring_Ring_int_At (C : WT) (p0 : Option Addr) (n1 : Int) (H : AH) (Q : Value → AH → Prop) : wpF Tryz.prog C ann_F_ring_Ring_int_At F_ring_Ring_int_At [(.pointer p0), (vI n1)] H Q = vc_F_ring_Ring_int_At C p0 n1 H Q := by kernel_rfl
def ann_F_ring_Ring_int_Set : Ann := []
def vc_F_ring_Ring_int_Set (C : WT) (p0 : Option Addr) (n1 : Int) (n2 : Int) (H : AH) (Q : Value → AH → Prop) : Prop :=
    C F_ring_Ring_int_is [(.pointer p0), (vI n1)] H (fun r4 H3 =>
    r_b r4 <| fun b5 =>
    bcase (!b5) (Q (.bool false) H3) (dr p0 fun b6 o7 =>
    ld_l H3 (some ⟨b6, o7 + 0, none⟩) fun sl8 sl8n sl8c =>
    C F_ring_Ring_int_place [(.pointer p0), (vI n1)] H3 (fun r10 H9 =>
    r_i r10 <| fun n11 =>
    Again H9 (.ld1 (.pointer (some ⟨b6, o7 + 0, none⟩))) (.slice sl8 sl8n sl8c) ∧ ix sl8 sl8n n11 fun b12 o13 =>
    st H9 1 (some ⟨b12, o13 + Int.toNat n11 * 1, none⟩) (vI n2) fun H14 =>
    Q (.bool true) H14)))
theorem nf_F_ring_Ring_int_Set (C : WT) (p0 : Option Addr) (n1 : Int) (n2 : Int) (H : AH) (Q : Value → AH → Prop) : wpF Tryz.prog C ann_F_ring_Ring_int_Set F_ring_Ring_int_Set [(.pointer p0), (vI n1), (vI n2)] H Q = vc_F_ring_Ring_int_Set C p0 n1 n2 H Q := by kernel_rfl
def ann_F_ring_Ring_int_Pop : Ann := [(7, ⟨[], [], [4, 5]⟩)]
def vc_F_ring_Ring_int_Pop (C : WT) (p0 : Option Addr) (H : AH) (Q : Value → AH → Prop) : Prop :=
    C F_ring_Ring_int_At [(.pointer p0), (vI 0)] H (fun r2 H1 =>
    r_T_i_b r2 <| fun n3 b4 =>
    ∀ X5 : List Value → AH → Prop, (∀ H27 : AH, (∀ F28 : TF, Q (.tuple #[(vI n3), (.bool b4)]) H27) → X5 [] H27) → bcase b4 (dr p0 fun b6 o7 =>
    ld_l H1 (some ⟨b6, o7 + 0, none⟩) fun sl8 sl8n sl8c =>
    dr p0 fun b9 o10 =>
    ld_i H1 (some ⟨b9, o10 + 1, none⟩) fun n11 =>
    ix sl8 sl8n n11 fun b12 o13 =>
    st H1 1 (some ⟨b12, o13 + Int.toNat n11 * 1, none⟩) (vI 0) fun H14 =>
    C F_ring_Ring_int_place [(.pointer p0), (vI 1)] H14 (fun r16 H15 =>
    r_i r16 <| fun n17 =>
    dr p0 fun b18 o19 =>
    st H15 1 (some ⟨b18, o19 + 1, none⟩) (vI n17) fun H20 =>
    dr p0 fun b21 o22 =>
    ld_i H20 (some ⟨b21, o22 + 2, none⟩) fun n23 =>
    dr p0 fun b24 o25 =>
    st H20 1 (some ⟨b24, o25 + 2, none⟩) (vI (IntKind.wrap .i64 (n23 - 1))) fun H26 =>
    kp [(vI n3), (.bool b4)] (X5 [] H26))) (kp [(vI n3), (.bool b4)] (X5 [] H1)))
theorem nf_F_ring_Ring_int_Pop (C : WT) (p0 : Option Addr) (H : AH) (Q : Value → AH → Prop) : wpF Tryz.prog C ann_F_ring_Ring_int_Pop F_ring_Ring_int_Pop [(.pointer p0)] H Q = vc_F_ring_Ring_int_Pop C p0 H Q := by kernel_rfl
def ann_F_police_Police_task : Ann := [(3, ⟨[], [], [0, 1]⟩)]
def vc_F_police_Police_task (C : WT) (p0 : Option Addr) (n1 : Int) (H : AH) (Q : Value → AH → Prop) : Prop :=
    ∀ X2 : List Value → AH → Prop, (∀ H6 : AH, (∀ F7 : TF, dr p0 fun b8 o9 =>
    ld_l H6 (some ⟨b8, o9 + 0, none⟩) fun sl10 sl10n sl10c =>
    ix sl10 sl10n n1 fun b11 o12 =>
    Q (.pointer (some ⟨b11, o12 + Int.toNat n1 * 8, none⟩)) H6) → X2 [] H6) → bcase (Option.isNone p0) (Q (.pointer none) H) (bcase (decide (n1 < 0)) (Q (.pointer none) H) (dr p0 fun b3 o4 =>
    ld_l H (some ⟨b3, o4 + 0, none⟩) fun sl5 sl5n sl5c =>
    bcase (decide ((↑(sl5n : Nat) : Int) ≤ n1)) (Q (.pointer none) H) (kp [(.pointer p0), (vI n1)] (X2 [] H))))
theorem nf_F_police_Police_task (C : WT) (p0 : Option Addr) (n1 : Int) (H : AH) (Q : Value → AH → Prop) : wpF Tryz.prog C ann_F_police_Police_task F_police_Police_task [(.pointer p0), (vI n1)] H Q = vc_F_police_Police_task C p0 n1 H Q := by kernel_rfl
def ann_F_police_Police_Dropped : Ann := []
def vc_F_police_Police_Dropped (C : WT) (p0 : Option Addr) (n1 : Int) (H : AH) (Q : Value → AH → Prop) : Prop :=
    C F_police_Police_task [(.pointer p0), (vI n1)] H (fun r3 H2 =>
    r_p r3 <| fun p4 =>
    bcase (!(Option.isNone p4)) (dr p0 fun b5 o6 =>
    ld_b H2 (some ⟨b5, o6 + 1, none⟩) fun b7 =>
    bcase b7 (dr p4 fun b8 o9 =>
    ld_b H2 (some ⟨b8, o9 + 0 + 0, none⟩) fun b10 =>
    Q (.bool (!b10)) H2) (Q (.bool false) H2)) (Q (.bool false) H2))
theorem nf_F_police_Police_Dropped (C : WT) (p0 : Option Addr) (n1 : Int) (H : AH) (Q : Value → AH → Prop) : wpF Tryz.prog C ann_F_police_Police_Dropped F_police_Police_Dropped [(.pointer p0), (vI n1)] H Q = vc_F_police_Police_Dropped C p0 n1 H Q := by kernel_rfl
def ann_F_police_known_soon : Ann := []
def vc_F_police_known_soon (C : WT) (b0 : Bool) (n1 : Int) (n2 : Int) (n3 : Int) (n4 : Int) (n5 : Int) (n6 : Int) (b7 : Bool) (n8 : Int) (H : AH) (Q : Value → AH → Prop) : Prop :=
    nw H (.cells [(.bool b0), (vI n1), (vI n2), (vI n3), (vI n4), (vI n5), (vI n6), (.bool b7)] false 0) fun b9 H10 =>
    ld_b H10 (some ⟨b9, 0 + 7, none⟩) fun b11 =>
    bcase b11 (ld_i H10 (some ⟨b9, 0 + 6, none⟩) fun n12 =>
    ld_i H10 (some ⟨b9, 0 + 0 + 1, none⟩) fun n13 =>
    Q (.bool (decide ((IntKind.wrap .i64 (n8 - n12)) < n13))) H10) (Q (.bool false) H10)
theorem nf_F_police_known_soon (C : WT) (b0 : Bool) (n1 : Int) (n2 : Int) (n3 : Int) (n4 : Int) (n5 : Int) (n6 : Int) (b7 : Bool) (n8 : Int) (H : AH) (Q : Value → AH → Prop) : wpF Tryz.prog C ann_F_police_known_soon F_police_known_soon [(.agg #[(.bool b0), (vI n1), (vI n2), (vI n3), (vI n4), (vI n5), (vI n6), (.bool b7)]), (vI n8)] H Q = vc_F_police_known_soon C b0 n1 n2 n3 n4 n5 n6 b7 n8 H Q := by kernel_rfl
def ann_F_tasks_Table_slot : Ann := [(3, ⟨[], [], [0, 1]⟩)]
def vc_F_tasks_Table_slot (C : WT) (p0 : Option Addr) (n1 : Int) (H : AH) (Q : Value → AH → Prop) : Prop :=
    ∀ X2 : List Value → AH → Prop, (∀ H9 : AH, (∀ F10 : TF, dr p0 fun b11 o12 =>
    ld_l H9 (some ⟨b11, o12 + 0, none⟩) fun sl13 sl13n sl13c =>
    ix sl13 sl13n n1 fun b14 o15 =>
    Q (.pointer (some ⟨b14, o15 + Int.toNat n1 * 7, none⟩)) H9) → X2 [] H9) → C F_tasks_Table_none [(.pointer p0)] H (fun r4 H3 =>
    r_b r4 <| fun b5 =>
    bcase b5 (Q (.pointer none) H3) (bcase (decide (n1 < 0)) (Q (.pointer none) H3) (dr p0 fun b6 o7 =>
    ld_l H3 (some ⟨b6, o7 + 0, none⟩) fun sl8 sl8n sl8c =>
    bcase (decide ((↑(sl8n : Nat) : Int) ≤ n1)) (Q (.pointer none) H3) (kp [(.pointer p0), (vI n1)] (X2 [] H3)))))
theorem nf_F_tasks_Table_slot (C : WT) (p0 : Option Addr) (n1 : Int) (H : AH) (Q : Value → AH → Prop) : wpF Tryz.prog C ann_F_tasks_Table_slot F_tasks_Table_slot [(.pointer p0), (vI n1)] H Q = vc_F_tasks_Table_slot C p0 n1 H Q := by kernel_rfl
def ann_F_tasks_Job_right : Ann := []
def vc_F_tasks_Job_right (C : WT) (n0 : Int) (n1 : Int) (n2 : Int) (n3 : Int) (sl4 : Option Addr) (sl4n sl4c : Nat) (H : AH) (Q : Value → AH → Prop) : Prop :=
    nw H (.cells [(vI n0), (vI n1), (vI n2), (vI n3), (.slice sl4 sl4n sl4c)] false 0) fun b5 H6 =>
    ld_i H6 (some ⟨b5, 0 + 1, none⟩) fun n7 =>
    bcase (decide (0 ≤ n7)) (ld_i H6 (some ⟨b5, 0 + 1, none⟩) fun n8 =>
    bcase (decide (n8 ≤ 4611686018427387904)) (ld_i H6 (some ⟨b5, 0 + 2, none⟩) fun n9 =>
    bcase (decide (1 ≤ n9)) (ld_i H6 (some ⟨b5, 0 + 2, none⟩) fun n10 =>
    bcase (decide (n10 ≤ 1048576)) (ld_i H6 (some ⟨b5, 0 + 3, none⟩) fun n11 =>
    bcase (n11 == 0) (ld_l H6 (some ⟨b5, 0 + 4, none⟩) fun sl12 sl12n sl12c =>
    Q (.bool (decide ((↑(sl12n : Nat) : Int) ≤ 64))) H6) (Q (.bool false) H6)) (Q (.bool false) H6)) (Q (.bool false) H6)) (Q (.bool false) H6)) (Q (.bool false) H6)
theorem nf_F_tasks_Job_right (C : WT) (n0 : Int) (n1 : Int) (n2 : Int) (n3 : Int) (sl4 : Option Addr) (sl4n sl4c : Nat) (H : AH) (Q : Value → AH → Prop) : wpF Tryz.prog C ann_F_tasks_Job_right F_tasks_Job_right [(.agg #[(vI n0), (vI n1), (vI n2), (vI n3), (.slice sl4 sl4n sl4c)])] H Q = vc_F_tasks_Job_right C n0 n1 n2 n3 sl4 sl4n sl4c H Q := by kernel_rfl
def ann_F_slices_Clone__tasks_Optasks_Op : Ann := []
def vc_F_slices_Clone__tasks_Optasks_Op (C : WT) (sl0 : Option Addr) (sl0n sl0c : Nat) (H : AH) (Q : Value → AH → Prop) : Prop :=
    bcase (Option.isNone sl0) (Q (.slice none 0 0) H) (nw H (.cells [] false 0) fun b1 H2 =>
    apK H2 3 24 (.slice (some ⟨b1, 0, none⟩) 0 0) (.slice sl0 sl0n sl0c) fun sl3 sl3n sl3c H4 =>
    Q (.slice sl3 sl3n sl3c) H4)
theorem nf_F_slices_Clone__tasks_Optasks_Op (C : WT) (sl0 : Option Addr) (sl0n sl0c : Nat) (H : AH) (Q : Value → AH → Prop) : wpF Tryz.prog C ann_F_slices_Clone__tasks_Optasks_Op F_slices_Clone__tasks_Optasks_Op [(.slice sl0 sl0n sl0c)] H Q = vc_F_slices_Clone__tasks_Optasks_Op C sl0 sl0n sl0c H Q := by kernel_rfl
def ann_F_heap_Heap_Put : Ann := []
def vc_F_heap_Heap_Put (C : WT) (p0 : Option Addr) (n1 : Int) (n2 : Int) (H : AH) (Q : Value → AH → Prop) : Prop :=
    C F_heap_Heap_in [(.pointer p0), (vI n1)] H (fun r4 H3 =>
    r_T_b_i r4 <| fun b5 n6 =>
    bcase (n6 != 0) (Q (vI n6) H3) (bcase b5 (Q (vI 4) H3) (dr p0 fun b7 o8 =>
    ld_l H3 (some ⟨b7, o8 + 0 + 2, none⟩) fun sl9 sl9n sl9c =>
    ix sl9 sl9n n1 fun b10 o11 =>
    st H3 1 (some ⟨b10, o11 + Int.toNat n1 * 1, none⟩) (vI n2) fun H12 =>
    dr p0 fun b13 o14 =>
    ld_l H12 (some ⟨b13, o14 + 0 + 0, none⟩) fun sl15 sl15n sl15c =>
    nw H12 (.cells [(vI n1)] false 0) fun b16 H17 =>
    apK H17 1 8 (.slice sl15 sl15n sl15c) (.slice (some ⟨b16, 0, none⟩) 1 1) fun sl18 sl18n sl18c H19 =>
    dr p0 fun b20 o21 =>
    st H19 1 (some ⟨b20, o21 + 0 + 0, none⟩) (.slice sl18 sl18n sl18c) fun H22 =>
    dr p0 fun b23 o24 =>
    dr p0 fun b25 o26 =>
    ld_l H22 (some ⟨b25, o26 + 0 + 0, none⟩) fun sl27 sl27n sl27c =>
    C F_heap_lists_set [(.pointer (some ⟨b23, o24 + 0, none⟩)), (vI (IntKind.wrap .i64 ((↑(sl27n : Nat) : Int) - 1))), (vI n1)] H22 (fun r29 H28 =>
    r_T r29 <| dr p0 fun b30 o31 =>
    dr p0 fun b32 o33 =>
    ld_l H28 (some ⟨b32, o33 + 0 + 0, none⟩) fun sl34 sl34n sl34c =>
    C F_heap_lists_up [(.pointer (some ⟨b30, o31 + 0, none⟩)), (vI (IntKind.wrap .i64 ((↑(sl34n : Nat) : Int) - 1)))] H28 (fun r36 H35 =>
    r_T r36 <| Q (vI 0) H35)))))
theorem nf_F_heap_Heap_Put (C : WT) (p0 : Option Addr) (n1 : Int) (n2 : Int) (H : AH) (Q : Value → AH → Prop) : wpF Tryz.prog C ann_F_heap_Heap_Put F_heap_Heap_Put [(.pointer p0), (vI n1), (vI n2)] H Q = vc_F_heap_Heap_Put C p0 n1 n2 H Q := by kernel_rfl
def ann_F_tasks_slot_due : Ann := []
def vc_F_tasks_slot_due (C : WT) (p0 : Option Addr) (b1 : Bool) (H : AH) (Q : Value → AH → Prop) : Prop :=
    bcase b1 (dr p0 fun b2 o3 =>
    ld_p H (some ⟨b2, o3 + 6, none⟩) fun p4 =>
    dr p4 fun b5 o6 =>
    ld_i H (some ⟨b5, o6 + 1, none⟩) fun n7 =>
    dr p0 fun b8 o9 =>
    ld_i H (some ⟨b8, o9 + 0 + 2, none⟩) fun n10 =>
    Q (vI (IntKind.wrap .i64 (n7 + n10))) H) (dr p0 fun b11 o12 =>
    ld_p H (some ⟨b11, o12 + 6, none⟩) fun p13 =>
    dr p13 fun b14 o15 =>
    ld_i H (some ⟨b14, o15 + 1, none⟩) fun n16 =>
    dr p0 fun b17 o18 =>
    ld_i H (some ⟨b17, o18 + 0 + 3, none⟩) fun n19 =>
    Q (vI (IntKind.wrap .i64 (n16 + n19))) H)
theorem nf_F_tasks_slot_due (C : WT) (p0 : Option Addr) (b1 : Bool) (H : AH) (Q : Value → AH → Prop) : wpF Tryz.prog C ann_F_tasks_slot_due F_tasks_slot_due [(.pointer p0), (.bool b1)] H Q = vc_F_tasks_slot_due C p0 b1 H Q := by kernel_rfl
def ann_F_ring_Ring_int_none : Ann := []
def vc_F_ring_Ring_int_none (C : WT) (p0 : Option Addr) (H : AH) (Q : Value → AH → Prop) : Prop :=
    bcase (Option.isNone p0) (Q (.bool true) H) (dr p0 fun b1 o2 =>
    ld_l H (some ⟨b1, o2 + 0, none⟩) fun sl3 sl3n sl3c =>
    Q (.bool ((↑(sl3n : Nat) : Int) == 0)) H)
theorem nf_F_ring_Ring_int_none (C : WT) (p0 : Option Addr) (H : AH) (Q : Value → AH → Prop) : wpF Tryz.prog C ann_F_ring_Ring_int_none F_ring_Ring_int_none [(.pointer p0)] H Q = vc_F_ring_Ring_int_none C p0 H Q := by kernel_rfl
def ann_F_ring_Ring_int_place : Ann := []
def vc_F_ring_Ring_int_place (C : WT) (p0 : Option Addr) (n1 : Int) (H : AH) (Q : Value → AH → Prop) : Prop :=
    dr p0 fun b2 o3 =>
    ld_i H (some ⟨b2, o3 + 1, none⟩) fun n4 =>
    dr p0 fun b5 o6 =>
    ld_l H (some ⟨b5, o6 + 0, none⟩) fun sl7 sl7n sl7c =>
    binI .rem (IntKind.wrap .i64 (n4 + n1)) (↑(sl7n : Nat) : Int) fun n8 =>
    Q (vI n8) H
theorem nf_F_ring_Ring_int_place (C : WT) (p0 : Option Addr) (n1 : Int) (H : AH) (Q : Value → AH → Prop) : wpF Tryz.prog C ann_F_ring_Ring_int_place F_ring_Ring_int_place [(.pointer p0), (vI n1)] H Q = vc_F_ring_Ring_int_place C p0 n1 H Q := by kernel_rfl
def ann_F_tasks_Table_Clear_1 : Ann := []
def vc_F_tasks_Table_Clear_1 (C : WT) (p0 : Option Addr) (H : AH) (Q : Value → AH → Prop) : Prop :=
    Q (.bool true) H
theorem nf_F_tasks_Table_Clear_1 (C : WT) (p0 : Option Addr) (H : AH) (Q : Value → AH → Prop) : wpF Tryz.prog C ann_F_tasks_Table_Clear_1 F_tasks_Table_Clear_1 [(.pointer p0)] H Q = vc_F_tasks_Table_Clear_1 C p0 H Q := by kernel_rfl
def ann_F_ring_Ring_int_Clear : Ann := []
def vc_F_ring_Ring_int_Clear (C : WT) (p0 : Option Addr) (H : AH) (Q : Value → AH → Prop) : Prop :=
    bcase (Option.isNone p0) (Q (.tuple #[]) H) (dr p0 fun b1 o2 =>
    ld_l H (some ⟨b1, o2 + 0, none⟩) fun sl3 sl3n sl3c =>
    ∃ H4 : AH, clearA H [(vI 0)] (.slice sl3 sl3n sl3c) = some H4 ∧ dr p0 fun b5 o6 =>
    st H4 1 (some ⟨b5, o6 + 1, none⟩) (vI 0) fun H7 =>
    dr p0 fun b8 o9 =>
    st H7 1 (some ⟨b8, o9 + 2, none⟩) (vI 0) fun H10 =>
    Q (.tuple #[]) H10)
theorem nf_F_ring_Ring_int_Clear (C : WT) (p0 : Option Addr) (H : AH) (Q : Value → AH → Prop) : wpF Tryz.prog C ann_F_ring_Ring_int_Clear F_ring_Ring_int_Clear [(.pointer p0)] H Q = vc_F_ring_Ring_int_Clear C p0 H Q := by kernel_rfl
def ann_F_tasks_Table_busy : Ann := []
def vc_F_tasks_Table_busy (C : WT) (p0 : Option Addr) (n1 : Int) (H : AH) (Q : Value → AH → Prop) : Prop :=
    C F_tasks_Table_slot [(.pointer p0), (vI n1)] H (fun r3 H2 =>
    r_p r3 <| fun p4 =>
    bcase (Option.isNone p4) (Q (.pointer none) H2) (dr p4 fun b5 o6 =>
    ld_p H2 (some ⟨b5, o6 + 6, none⟩) fun p7 =>
    bcase (Option.isNone p7) (Q (.pointer none) H2) (Q (.pointer p4) H2)))
theorem nf_F_tasks_Table_busy (C : WT) (p0 : Option Addr) (n1 : Int) (H : AH) (Q : Value → AH → Prop) : wpF Tryz.prog C ann_F_tasks_Table_busy F_tasks_Table_busy [(.pointer p0), (vI n1)] H Q = vc_F_tasks_Table_busy C p0 n1 H Q := by kernel_rfl
def ann_F_heap_Heap_First : Ann := [(6, ⟨[16], [(.bool false)], [0]⟩), (3, ⟨[], [], [0]⟩)]
def vc_F_heap_Heap_First (C : WT) (p0 : Option Addr) (H : AH) (Q : Value → AH → Prop) : Prop :=
    ∀ X1 : List Value → AH → Prop, (∀ H12 : AH, (∀ F13 : TF, dr p0 fun b14 o15 =>
    ld_l H12 (some ⟨b14, o15 + 0 + 0, none⟩) fun sl16 sl16n sl16c =>
    ix sl16 sl16n 0 fun b17 o18 =>
    ld_i H12 (some ⟨b17, o18 + Int.toNat 0 * 1, none⟩) fun n19 =>
    dr p0 fun b20 o21 =>
    ld_l H12 (some ⟨b20, o21 + 0 + 2, none⟩) fun sl22 sl22n sl22c =>
    ix sl22 sl22n n19 fun b23 o24 =>
    ld_i H12 (some ⟨b23, o24 + Int.toNat n19 * 1, none⟩) fun n25 =>
    Q (.tuple #[(vI n19), (vI n25), (.bool true)]) H12) → X1 [] H12) → ∀ X2 : List Value → AH → Prop, (∀ b9 : Bool, ∀ H10 : AH, (∀ F11 : TF, bcase b9 (Q (.tuple #[(vI 0), (vI 0), (.bool false)]) H10) (kp [(.pointer p0)] (X1 [] H10))) → X2 [(.bool b9)] H10) → C F_heap_Heap_none [(.pointer p0)] H (fun r4 H3 =>
    r_b r4 <| fun b5 =>
    bcase b5 (kp [(.pointer p0)] (X2 [(.bool true)] H3)) (dr p0 fun b6 o7 =>
    ld_l H3 (some ⟨b6, o7 + 0 + 0, none⟩) fun sl8 sl8n sl8c =>
    kp [(.pointer p0)] (X2 [(.bool ((↑(sl8n : Nat) : Int) == 0))] H3)))
theorem nf_F_heap_Heap_First (C : WT) (p0 : Option Addr) (H : AH) (Q : Value → AH → Prop) : wpF Tryz.prog C ann_F_heap_Heap_First F_heap_Heap_First [(.pointer p0)] H Q = vc_F_heap_Heap_First C p0 H Q := by kernel_rfl
def ann_F_conf_all_conf_Task_1 : Ann := []
def vc_F_conf_all_conf_Task_1 (C : WT) (b0 : Bool) (n1 : Int) (n2 : Int) (n3 : Int) (n4 : Int) (n5 : Int) (H : AH) (Q : Value → AH → Prop) : Prop :=
    nw H (.cells [(.bool b0), (vI n1), (vI n2), (vI n3), (vI n4), (vI n5)] false 0) fun b6 H7 =>
    ld_Abiiiii H7 (some ⟨b6, 0, none⟩) fun b8 n9 n10 n11 n12 n13 =>
    ∃ (g14 : Nat) (x15 : Value), invA Tryz.prog H7 (.iface T_conf_Task (.agg #[(.bool b8), (vI n9), (vI n10), (vI n11), (vI n12), (vI n13)])) "Right" = some (g14, x15) ∧ C g14 [x15] H7 (fun r17 H16 =>
    r_b r17 <| fun b18 =>
    Q (.bool (!b18)) H16)
theorem nf_F_conf_all_conf_Task_1 (C : WT) (b0 : Bool) (n1 : Int) (n2 : Int) (n3 : Int) (n4 : Int) (n5 : Int) (H : AH) (Q : Value → AH → Prop) : wpF Tryz.prog C ann_F_conf_all_conf_Task_1 F_conf_all_conf_Task_1 [(.agg #[(.bool b0), (vI n1), (vI n2), (vI n3), (vI n4), (vI n5)])] H Q = vc_F_conf_all_conf_Task_1 C b0 n1 n2 n3 n4 n5 H Q := by kernel_rfl
def ann_F_slices_ContainsFunc__conf_Serverconf_Server : Ann := []
def vc_F_slices_ContainsFunc__conf_Serverconf_Server (C : WT) (sl0 : Option Addr) (sl0n sl0c : Nat) (v1 : Value) (H : AH) (Q : Value → AH → Prop) : Prop :=
    C F_slices_IndexFunc__conf_Serverconf_Server [(.slice sl0 sl0n sl0c), v1] H (fun r3 H2 =>
    r_i r3 <| fun n4 =>
    Q (.bool (decide (0 ≤ n4))) H2)
theorem nf_F_slices_ContainsFunc__conf_Serverconf_Server (C : WT) (sl0 : Option Addr) (sl0n sl0c : Nat) (v1 : Value) (H : AH) (Q : Value → AH → Prop) : wpF Tryz.prog C ann_F_slices_ContainsFunc__conf_Serverconf_Server F_slices_ContainsFunc__conf_Serverconf_Server [(.slice sl0 sl0n sl0c), v1] H Q = vc_F_slices_ContainsFunc__conf_Serverconf_Server C sl0 sl0n sl0c v1 H Q := by kernel_rfl
def ann_F_conf_all_conf_Server_1 : Ann := []
def vc_F_conf_all_conf_Server_1 (C : WT) (b0 : Bool) (n1 : Int) (n2 : Int) (H : AH) (Q : Value → AH → Prop) : Prop :=
    nw H (.cells [(.bool b0), (vI n1), (vI n2)] false 0) fun b3 H4 =>
    ld_Abii H4 (some ⟨b3, 0, none⟩) fun b5 n6 n7 =>
    ∃ (g8 : Nat) (x9 : Value), invA Tryz.prog H4 (.iface T_conf_Server (.agg #[(.bool b5), (vI n6), (vI n7)])) "Right" = some (g8, x9) ∧ C g8 [x9] H4 (fun r11 H10 =>
    r_b r11 <| fun b12 =>
    Q (.bool (!b12)) H10)
theorem nf_F_conf_all_conf_Server_1 (C : WT) (b0 : Bool) (n1 : Int) (n2 : Int) (H : AH) (Q : Value → AH → Prop) : wpF Tryz.prog C ann_F_conf_all_conf_Server_1 F_conf_all_conf_Server_1 [(.agg #[(.bool b0), (vI n1), (vI n2)])] H Q = vc_F_conf_all_conf_Server_1 C b0 n1 n2 H Q := by kernel_rfl
def ann_F_slices_IndexFunc__conf_Taskconf_Task : Ann := [(26, ⟨[8], [(vI 0)], [0, 1, 7]⟩)]
def vc_F_slices_IndexFunc__conf_Taskconf_Task (C : WT) (sl0 : Option Addr) (sl0n sl0c : Nat) (v1 : Value) (H : AH) (Q : Value → AH → Prop) : Prop :=
    ∀ X2 : List Value → AH → Prop, (∀ n3 : Int, ∀ H4 : AH, (∀ F5 : TF, bcase (decide (n3 < (↑(sl0n : Nat) : Int))) (ix sl0 sl0n n3 fun b6 o7 =>
    ld_Abiiiii H4 (some ⟨b6, o7 + Int.toNat n3 * 6, none⟩) fun b8 n9 n10 n11 n12 n13 =>
    ∃ (g14 : Nat) (az15 : List Value), fnV v1 [(.agg #[(.bool b8), (vI n9), (vI n10), (vI n11), (vI n12), (vI n13)])] = some (g14, az15) ∧ C g14 az15 H4 (fun r17 H16 =>
    r_b r17 <| fun b18 =>
    bcase b18 (Q (vI n3) H16) (kp [(.slice sl0 sl0n sl0c), v1, (vI (↑(sl0n : Nat) : Int))] (X2 [(vI (IntKind.wrap .i64 (n3 + 1)))] H16)))) (Q (vI (-1)) H4)) → X2 [(vI n3)] H4) → X2 [(vI 0)] H
theorem nf_F_slices_IndexFunc__conf_Taskconf_Task (C : WT) (sl0 : Option Addr) (sl0n sl0c : Nat) (v1 : Value) (H : AH) (Q : Value → AH → Prop) : wpF Tryz.prog C ann_F_slices_IndexFunc__conf_Taskconf_Task F_slices_IndexFunc__conf_Taskconf_Task [(.slice sl0 sl0n sl0c), v1] H Q = vc_F_slices_IndexFunc__conf_Taskconf_Task C sl0 sl0n sl0c v1 H Q := by kernel_rfl
def ann_F_conf_rise : Ann := []
def vc_F_conf_rise (C : WT) (sl0 : Option Addr) (sl0n sl0c : Nat) (H : AH) (Q : Value → AH → Prop) : Prop :=
    C F_slices_IsSorted__intint [(.slice sl0 sl0n sl0c)] H (fun r2 H1 =>
    r_b r2 <| fun b3 =>
    Q (.bool b3) H1)
theorem nf_F_conf_rise (C : WT) (sl0 : Option Addr) (sl0n sl0c : Nat) (H : AH) (Q : Value → AH → Prop) : wpF Tryz.prog C ann_F_conf_rise F_conf_rise [(.slice sl0 sl0n sl0c)] H Q = vc_F_conf_rise C sl0 sl0n sl0c H Q := by kernel_rfl
def ann_F_conf_Server_Right : Ann := []
def vc_F_conf_Server_Right (C : WT) (b0 : Bool) (n1 : Int) (n2 : Int) (H : AH) (Q : Value → AH → Prop) : Prop :=
    nw H (.cells [(.bool b0), (vI n1), (vI n2)] false 0) fun b3 H4 =>
    ld_i H4 (some ⟨b3, 0 + 1, none⟩) fun n5 =>
    ld_i H4 (some ⟨b3, 0 + 2, none⟩) fun n6 =>
    nw H4 (.cells [(vI 1), (vI n5), (vI n6), (vI 1000)] false 0) fun b7 H8 =>
    C F_conf_rise [(.slice (some ⟨b7, 0, none⟩) 4 4)] H8 (fun r10 H9 =>
    r_b r10 <| fun b11 =>
    Q (.bool b11) H9)
theorem nf_F_conf_Server_Right (C : WT) (b0 : Bool) (n1 : Int) (n2 : Int) (H : AH) (Q : Value → AH → Prop) : wpF Tryz.prog C ann_F_conf_Server_Right F_conf_Server_Right [(.agg #[(.bool b0), (vI n1), (vI n2)])] H Q = vc_F_conf_Server_Right C b0 n1 n2 H Q := by kernel_rfl
def ann_F_tasks_Table_gone : Ann := []
def vc_F_tasks_Table_gone (C : WT) (p0 : Option Addr) (n1 : Int) (H : AH) (Q : Value → AH → Prop) : Prop :=
    dr p0 fun b2 o3 =>
    ld_l H (some ⟨b2, o3 + 0, none⟩) fun sl4 sl4n sl4c =>
    ix sl4 sl4n n1 fun b5 o6 =>
    st H 1 (some ⟨b5, o6 + Int.toNat n1 * 7 + 6, none⟩) (.pointer none) fun H7 =>
    dr p0 fun b8 o9 =>
    ld_p H7 (some ⟨b8, o9 + 1, none⟩) fun p10 =>
    C F_heap_Heap_Remove [(.pointer p10), (vI n1)] H7 (fun r12 H11 =>
    r_b r12 <| fun b13 =>
    Q (.tuple #[]) H11)
theorem nf_F_tasks_Table_gone (C : WT) (p0 : Option Addr) (n1 : Int) (H : AH) (Q : Value → AH → Prop) : wpF Tryz.prog C ann_F_tasks_Table_gone F_tasks_Table_gone [(.pointer p0), (vI n1)] H Q = vc_F_tasks_Table_gone C p0 n1 H Q := by kernel_rfl
def ann_F_tasks_Table_Len : Ann := []
def vc_F_tasks_Table_Len (C : WT) (p0 : Option Addr) (H : AH) (Q : Value → AH → Prop) : Prop :=
    C F_tasks_Table_none [(.pointer p0)] H (fun r2 H1 =>
    r_b r2 <| fun b3 =>
    bcase b3 (Q (vI 0) H1) (dr p0 fun b4 o5 =>
    ld_p H1 (some ⟨b4, o5 + 1, none⟩) fun p6 =>
    C F_heap_Heap_Len [(.pointer p6)] H1 (fun r8 H7 =>
    r_i r8 <| fun n9 =>
    Q (vI n9) H7)))
theorem nf_F_tasks_Table_Len (C : WT) (p0 : Option Addr) (H : AH) (Q : Value → AH → Prop) : wpF Tryz.prog C ann_F_tasks_Table_Len F_tasks_Table_Len [(.pointer p0)] H Q = vc_F_tasks_Table_Len C p0 H Q := by kernel_rfl
def ann_F_tasks_Job_op : Ann := []
def vc_F_tasks_Job_op (C : WT) (n0 : Int) (n1 : Int) (n2 : Int) (n3 : Int) (sl4 : Option Addr) (sl4n sl4c : Nat) (H : AH) (Q : Value → AH → Prop) : Prop :=
    nw H (.cells [(vI n0), (vI n1), (vI n2), (vI n3), (.slice sl4 sl4n sl4c)] false 0) fun b5 H6 =>
    nw H6 (.cells [(vI 0), (vI 0), (vI 0)] false 0) fun b7 H8 =>
    ld_i H8 (some ⟨b5, 0 + 3, none⟩) fun n9 =>
    ld_l H8 (some ⟨b5, 0 + 4, none⟩) fun sl10 sl10n sl10c =>
    bcase (decide (n9 < (↑(sl10n : Nat) : Int))) (ld_l H8 (some ⟨b5, 0 + 4, none⟩) fun sl11 sl11n sl11c =>
    ld_i H8 (some ⟨b5, 0 + 3, none⟩) fun n12 =>
    ix sl11 sl11n n12 fun b13 o14 =>
    ld_Aiii H8 (some ⟨b13, o14 + Int.toNat n12 * 3, none⟩) fun n15 n16 n17 =>
    st H8 3 (some ⟨b7, 0, none⟩) (.agg #[(vI n15), (vI n16), (vI n17)]) fun H18 =>
    ld_Aiii H18 (some ⟨b7, 0, none⟩) fun n19 n20 n21 =>
    Q (.agg #[(vI n19), (vI n20), (vI n21)]) H18) (st H8 3 (some ⟨b7, 0, none⟩) (.agg #[(vI 0), (vI 0), (vI 0)]) fun H22 =>
    ld_Aiii H22 (some ⟨b7, 0, none⟩) fun n23 n24 n25 =>
    Q (.agg #[(vI n23), (vI n24), (vI n25)]) H22)
theorem nf_F_tasks_Job_op (C : WT) (n0 : Int) (n1 : Int) (n2 : Int) (n3 : Int) (sl4 : Option Addr) (sl4n sl4c : Nat) (H : AH) (Q : Value → AH → Prop) : wpF Tryz.prog C ann_F_tasks_Job_op F_tasks_Job_op [(.agg #[(vI n0), (vI n1), (vI n2), (vI n3), (.slice sl4 sl4n sl4c)])] H Q = vc_F_tasks_Job_op C n0 n1 n2 n3 sl4 sl4n sl4c H Q := by kernel_rfl
def ann_F_tasks_slot_budget : Ann := []
def vc_F_tasks_slot_budget (C : WT) (p0 : Option Addr) (b1 : Bool) (H : AH) (Q : Value → AH → Prop) : Prop :=
    bcase b1 (dr p0 fun b2 o3 =>
    ld_i H (some ⟨b2, o3 + 0 + 5, none⟩) fun n4 =>
    Q (vI n4) H) (dr p0 fun b5 o6 =>
    ld_i H (some ⟨b5, o6 + 0 + 4, none⟩) fun n7 =>
    Q (vI n7) H)
theorem nf_F_tasks_slot_budget (C : WT) (p0 : Option Addr) (b1 : Bool) (H : AH) (Q : Value → AH → Prop) : wpF Tryz.prog C ann_F_tasks_slot_budget F_tasks_slot_budget [(.pointer p0), (.bool b1)] H Q = vc_F_tasks_slot_budget C p0 b1 H Q := by kernel_rfl
def ann_F_tasks_Table_Rise : Ann := [(250, ⟨[18], [(vI 0)], [0, 3, 17]⟩)]
def vc_F_tasks_Table_Rise (C : WT) (p0 : Option Addr) (H : AH) (Q : Value → AH → Prop) : Prop :=
    C F_tasks_Table_none [(.pointer p0)] H (fun r2 H1 =>
    r_b r2 <| fun b3 =>
    bcase b3 (Q (.slice none 0 0) H1) (dr p0 fun b4 o5 =>
    st H1 1 (some ⟨b4, o5 + 2, none⟩) (.bool true) fun H6 =>
    C F_tasks_Table_each [(.pointer p0), (.func (.func F_tasks_Table_Rise_1) #[] #[])] H6 (fun r8 H7 =>
    r_l r8 <| fun sl9 sl9n sl9c =>
    dr p0 fun b10 o11 =>
    ld_l H7 (some ⟨b10, o11 + 0, none⟩) fun sl12 sl12n sl12c =>
    ∀ X13 : List Value → AH → Prop, (∀ n14 : Int, ∀ H15 : AH, (∀ F16 : TF, bcase (decide (n14 < (↑(sl12n : Nat) : Int))) (C F_tasks_Table_busy [(.pointer p0), (vI n14)] H15 (fun r18 H17 =>
    r_p r18 <| fun p19 =>
    bcase (!(Option.isNone p19)) (dr p0 fun b20 o21 =>
    ld_p H17 (some ⟨b20, o21 + 1, none⟩) fun p22 =>
    C F_tasks_slot_due [(.pointer p19), (.bool true)] H17 (fun r24 H23 =>
    r_i r24 <| fun n25 =>
    Again H23 (.ld1 (.pointer (some ⟨b20, o21 + 1, none⟩))) (.pointer p22) ∧ C F_heap_Heap_Change [(.pointer p22), (vI n14), (vI n25)] H23 (fun r27 H26 =>
    r_i r27 <| fun n28 =>
    kp [(.pointer p0), (.slice sl9 sl9n sl9c), (vI (↑(sl12n : Nat) : Int))] (X13 [(vI (IntKind.wrap .i64 (n14 + 1)))] H26)))) (kp [(.pointer p0), (.slice sl9 sl9n sl9c), (vI (↑(sl12n : Nat) : Int))] (X13 [(vI (IntKind.wrap .i64 (n14 + 1)))] H17)))) (Q (.slice sl9 sl9n sl9c) H15)) → X13 [(vI n14)] H15) → X13 [(vI 0)] H7)))
theorem nf_F_tasks_Table_Rise (C : WT) (p0 : Option Addr) (H : AH) (Q : Value → AH → Prop) : wpF Tryz.prog C ann_F_tasks_Table_Rise F_tasks_Table_Rise [(.pointer p0)] H Q = vc_F_tasks_Table_Rise C p0 H Q := by kernel_rfl
def ann_F_ring_Ring_int_is : Ann := []
def vc_F_ring_Ring_int_is (C : WT) (p0 : Option Addr) (n1 : Int) (H : AH) (Q : Value → AH → Prop) : Prop :=
    C F_ring_Ring_int_none [(.pointer p0)] H (fun r3 H2 =>
    r_b r3 <| fun b4 =>
    bcase (!b4) (bcase (decide (0 ≤ n1)) (dr p0 fun b5 o6 =>
    ld_i H2 (some ⟨b5, o6 + 2, none⟩) fun n7 =>
    Q (.bool (decide (n1 < n7))) H2) (Q (.bool false) H2)) (Q (.bool false) H2))
theorem nf_F_ring_Ring_int_is (C : WT) (p0 : Option Addr) (n1 : Int) (H : AH) (Q : Value → AH → Prop) : wpF Tryz.prog C ann_F_ring_Ring_int_is F_ring_Ring_int_is [(.pointer p0), (vI n1)] H Q = vc_F_ring_Ring_int_is C p0 n1 H Q := by kernel_rfl
def ann_F_heap_Heap_in : Ann := [(3, ⟨[], [], [0, 1]⟩)]
def vc_F_heap_Heap_in (C : WT) (p0 : Option Addr) (n1 : Int) (H : AH) (Q : Value → AH → Prop) : Prop :=
    ∀ X2 : List Value → AH → Prop, (∀ H9 : AH, (∀ F10 : TF, dr p0 fun b11 o12 =>
    ld_l H9 (some ⟨b11, o12 + 0 + 1, none⟩) fun sl13 sl13n sl13c =>
    ix sl13 sl13n n1 fun b14 o15 =>
    ld_i H9 (some ⟨b14, o15 + Int.toNat n1 * 1, none⟩) fun n16 =>
    Q (.tuple #[(.bool (n16 != (-1))), (vI 0)]) H9) → X2 [] H9) → C F_heap_Heap_none [(.pointer p0)] H (fun r4 H3 =>
    r_b r4 <| fun b5 =>
    bcase b5 (Q (.tuple #[(.bool false), (vI 1)]) H3) (bcase (decide (n1 < 0)) (Q (.tuple #[(.bool false), (vI 1)]) H3) (dr p0 fun b6 o7 =>
    ld_l H3 (some ⟨b6, o7 + 0 + 1, none⟩) fun sl8 sl8n sl8c =>
    bcase (decide ((↑(sl8n : Nat) : Int) ≤ n1)) (Q (.tuple #[(.bool false), (vI 1)]) H3) (kp [(.pointer p0), (vI n1)] (X2 [] H3)))))
theorem nf_F_heap_Heap_in (C : WT) (p0 : Option Addr) (n1 : Int) (H : AH) (Q : Value → AH → Prop) : wpF Tryz.prog C ann_F_heap_Heap_in F_heap_Heap_in [(.pointer p0), (vI n1)] H Q = vc_F_heap_Heap_in C p0 n1 H Q := by kernel_rfl
def ann_F_heap_lists_set : Ann := []
def vc_F_heap_lists_set (C : WT) (p0 : Option Addr) (n1 : Int) (n2 : Int) (H : AH) (Q : Value → AH → Prop) : Prop :=
    dr p0 fun b3 o4 =>
    ld_l H (some ⟨b3, o4 + 0, none⟩) fun sl5 sl5n sl5c =>
    dr p0 fun b6 o7 =>
    ld_l H (some ⟨b6, o7 + 1, none⟩) fun sl8 sl8n sl8c =>
    ix sl5 sl5n n1 fun b9 o10 =>
    st H 1 (some ⟨b9, o10 + Int.toNat n1 * 1, none⟩) (vI n2) fun H11 =>
    ix sl8 sl8n n2 fun b12 o13 =>
    st H11 1 (some ⟨b12, o13 + Int.toNat n2 * 1, none⟩) (vI n1) fun H14 =>
    Q (.tuple #[]) H14
theorem nf_F_heap_lists_set (C : WT) (p0 : Option Addr) (n1 : Int) (n2 : Int) (H : AH) (Q : Value → AH → Prop) : wpF Tryz.prog C ann_F_heap_lists_set F_heap_lists_set [(.pointer p0), (vI n1), (vI n2)] H Q = vc_F_heap_lists_set C p0 n1 n2 H Q := by kernel_rfl
def ann_F_heap_lists_up : Ann := [(2, ⟨[1], [(vI 0)], [0]⟩), (4, ⟨[], [], [0, 1]⟩)]
def vc_F_heap_lists_up (C : WT) (p0 : Option Addr) (n1 : Int) (H : AH) (Q : Value → AH → Prop) : Prop :=
    ∀ X2 : List Value → AH → Prop, (∀ n3 : Int, ∀ H4 : AH, (∀ F5 : TF, ∀ X6 : List Value → AH → Prop, (∀ H11 : AH, (∀ F12 : TF, binI .quo (IntKind.wrap .i64 (n3 - 1)) 2 fun n13 =>
    C F_heap_lists_swap [(.pointer p0), (vI n3), (vI n13)] H11 (fun r15 H14 =>
    r_T r15 <| binI .quo (IntKind.wrap .i64 (n3 - 1)) 2 fun n16 =>
    kp [(.pointer p0)] (X2 [(vI n16)] H14))) → X6 [] H11) → bcase (decide (0 < n3)) (binI .quo (IntKind.wrap .i64 (n3 - 1)) 2 fun n7 =>
    C F_heap_lists_less [(.pointer p0), (vI n3), (vI n7)] H4 (fun r9 H8 =>
    r_b r9 <| fun b10 =>
    bcase b10 (kp [(.pointer p0), (vI n3)] (X6 [] H8)) (Q (.tuple #[]) H8))) (Q (.tuple #[]) H4)) → X2 [(vI n3)] H4) → X2 [(vI n1)] H
theorem nf_F_heap_lists_up (C : WT) (p0 : Option Addr) (n1 : Int) (H : AH) (Q : Value → AH → Prop) : wpF Tryz.prog C ann_F_heap_lists_up F_heap_lists_up [(.pointer p0), (vI n1)] H Q = vc_F_heap_lists_up C p0 n1 H Q := by kernel_rfl
def ann_F_heap_Heap_none : Ann := []
def vc_F_heap_Heap_none (C : WT) (p0 : Option Addr) (H : AH) (Q : Value → AH → Prop) : Prop :=
    bcase (Option.isNone p0) (Q (.bool true) H) (dr p0 fun b1 o2 =>
    ld_b H (some ⟨b1, o2 + 3, none⟩) fun b3 =>
    Q (.bool (!b3)) H)
theorem nf_F_heap_Heap_none (C : WT) (p0 : Option Addr) (H : AH) (Q : Value → AH → Prop) : wpF Tryz.prog C ann_F_heap_Heap_none F_heap_Heap_none [(.pointer p0)] H Q = vc_F_heap_Heap_none C p0 H Q := by kernel_rfl
def ann_F_slices_IndexFunc__conf_Serverconf_Server : Ann := [(26, ⟨[8], [(vI 0)], [0, 1, 7]⟩)]
def vc_F_slices_IndexFunc__conf_Serverconf_Server (C : WT) (sl0 : Option Addr) (sl0n sl0c : Nat) (v1 : Value) (H : AH) (Q : Value → AH → Prop) : Prop :=
    ∀ X2 : List Value → AH → Prop, (∀ n3 : Int, ∀ H4 : AH, (∀ F5 : TF, bcase (decide (n3 < (↑(sl0n : Nat) : Int))) (ix sl0 sl0n n3 fun b6 o7 =>
    ld_Abii H4 (some ⟨b6, o7 + Int.toNat n3 * 3, none⟩) fun b8 n9 n10 =>
    ∃ (g11 : Nat) (az12 : List Value), fnV v1 [(.agg #[(.bool b8), (vI n9), (vI n10)])] = some (g11, az12) ∧ C g11 az12 H4 (fun r14 H13 =>
    r_b r14 <| fun b15 =>
    bcase b15 (Q (vI n3) H13) (kp [(.slice sl0 sl0n sl0c), v1, (vI (↑(sl0n : Nat) : Int))] (X2 [(vI (IntKind.wrap .i64 (n3 + 1)))] H13)))) (Q (vI (-1)) H4)) → X2 [(vI n3)] H4) → X2 [(vI 0)] H
theorem nf_F_slices_IndexFunc__conf_Serverconf_Server (C : WT) (sl0 : Option Addr) (sl0n sl0c : Nat) (v1 : Value) (H : AH) (Q : Value → AH → Prop) : wpF Tryz.prog C ann_F_slices_IndexFunc__conf_Serverconf_Server F_slices_IndexFunc__conf_Serverconf_Server [(.slice sl0 sl0n sl0c), v1] H Q = vc_F_slices_IndexFunc__conf_Serverconf_Server C sl0 sl0n sl0c v1 H Q := by kernel_rfl
def ann_F_slices_IsSorted__intint : Ann := [(26, ⟨[3], [(vI 0)], [0]⟩)]
def vc_F_slices_IsSorted__intint (C : WT) (sl0 : Option Addr) (sl0n sl0c : Nat) (H : AH) (Q : Value → AH → Prop) : Prop :=
    ∀ X1 : List Value → AH → Prop, (∀ n2 : Int, ∀ H3 : AH, (∀ F4 : TF, bcase (decide (0 < n2)) (ix sl0 sl0n n2 fun b5 o6 =>
    ld_i H3 (some ⟨b5, o6 + Int.toNat n2 * 1, none⟩) fun n7 =>
    ix sl0 sl0n (IntKind.wrap .i64 (n2 - 1)) fun b8 o9 =>
    ld_i H3 (some ⟨b8, o9 + Int.toNat (IntKind.wrap .i64 (n2 - 1)) * 1, none⟩) fun n10 =>
    C F_cmp_Less_int [(vI n7), (vI n10)] H3 (fun r12 H11 =>
    r_b r12 <| fun b13 =>
    bcase b13 (Q (.bool false) H11) (kp [(.slice sl0 sl0n sl0c)] (X1 [(vI (IntKind.wrap .i64 (n2 - 1)))] H11)))) (Q (.bool true) H3)) → X1 [(vI n2)] H3) → X1 [(vI (IntKind.wrap .i64 ((↑(sl0n : Nat) : Int) - 1)))] H
theorem nf_F_slices_IsSorted__intint (C : WT) (sl0 : Option Addr) (sl0n sl0c : Nat) (H : AH) (Q : Value → AH → Prop) : wpF Tryz.prog C ann_F_slices_IsSorted__intint F_slices_IsSorted__intint [(.slice sl0 sl0n sl0c)] H Q = vc_F_slices_IsSorted__intint C sl0 sl0n sl0c H Q := by kernel_rfl
def ann_F_heap_Heap_Remove : Ann := []
def vc_F_heap_Heap_Remove (C : WT) (p0 : Option Addr) (n1 : Int) (H : AH) (Q : Value → AH → Prop) : Prop :=
    C F_heap_Heap_in [(.pointer p0), (vI n1)] H (fun r3 H2 =>
    r_T_b_i r3 <| fun b4 n5 =>
    bcase (!b4) (Q (.bool false) H2) (dr p0 fun b6 o7 =>
    ld_l H2 (some ⟨b6, o7 + 0 + 1, none⟩) fun sl8 sl8n sl8c =>
    ix sl8 sl8n n1 fun b9 o10 =>
    ld_i H2 (some ⟨b9, o10 + Int.toNat n1 * 1, none⟩) fun n11 =>
    dr p0 fun b12 o13 =>
    ld_l H2 (some ⟨b12, o13 + 0 + 0, none⟩) fun sl14 sl14n sl14c =>
    dr p0 fun b15 o16 =>
    C F_heap_lists_swap [(.pointer (some ⟨b15, o16 + 0, none⟩)), (vI n11), (vI (IntKind.wrap .i64 ((↑(sl14n : Nat) : Int) - 1)))] H2 (fun r18 H17 =>
    r_T r18 <| dr p0 fun b19 o20 =>
    ld_l H17 (some ⟨b19, o20 + 0 + 0, none⟩) fun sl21 sl21n sl21c =>
    slK H17 1 sl21 sl21n sl21c none (some (vI (IntKind.wrap .i64 ((↑(sl14n : Nat) : Int) - 1)))) fun sl22 sl22n sl22c =>
    dr p0 fun b23 o24 =>
    st H17 1 (some ⟨b23, o24 + 0 + 0, none⟩) (.slice sl22 sl22n sl22c) fun H25 =>
    dr p0 fun b26 o27 =>
    ld_l H25 (some ⟨b26, o27 + 0 + 1, none⟩) fun sl28 sl28n sl28c =>
    ix sl28 sl28n n1 fun b29 o30 =>
    st H25 1 (some ⟨b29, o30 + Int.toNat n1 * 1, none⟩) (vI (-1)) fun H31 =>
    bcase (decide (n11 < (IntKind.wrap .i64 ((↑(sl14n : Nat) : Int) - 1)))) (dr p0 fun b32 o33 =>
    C F_heap_lists_up [(.pointer (some ⟨b32, o33 + 0, none⟩)), (vI n11)] H31 (fun r35 H34 =>
    r_T r35 <| dr p0 fun b36 o37 =>
    C F_heap_lists_down [(.pointer (some ⟨b36, o37 + 0, none⟩)), (vI n11)] H34 (fun r39 H38 =>
    r_T r39 <| Q (.bool true) H38))) (Q (.bool true) H31))))
theorem nf_F_heap_Heap_Remove (C : WT) (p0 : Option Addr) (n1 : Int) (H : AH) (Q : Value → AH → Prop) : wpF Tryz.prog C ann_F_heap_Heap_Remove F_heap_Heap_Remove [(.pointer p0), (vI n1)] H Q = vc_F_heap_Heap_Remove C p0 n1 H Q := by kernel_rfl
def ann_F_heap_Heap_Len : Ann := []
def vc_F_heap_Heap_Len (C : WT) (p0 : Option Addr) (H : AH) (Q : Value → AH → Prop) : Prop :=
    C F_heap_Heap_none [(.pointer p0)] H (fun r2 H1 =>
    r_b r2 <| fun b3 =>
    bcase b3 (Q (vI 0) H1) (dr p0 fun b4 o5 =>
    ld_l H1 (some ⟨b4, o5 + 0 + 0, none⟩) fun sl6 sl6n sl6c =>
    Q (vI (↑(sl6n : Nat) : Int)) H1))
theorem nf_F_heap_Heap_Len (C : WT) (p0 : Option Addr) (H : AH) (Q : Value → AH → Prop) : wpF Tryz.prog C ann_F_heap_Heap_Len F_heap_Heap_Len [(.pointer p0)] H Q = vc_F_heap_Heap_Len C p0 H Q := by kernel_rfl
def ann_F_tasks_Table_Rise_1 : Ann := []
def vc_F_tasks_Table_Rise_1 (C : WT) (p0 : Option Addr) (H : AH) (Q : Value → AH → Prop) : Prop :=
    dr p0 fun b1 o2 =>
    ld_b H (some ⟨b1, o2 + 0 + 0, none⟩) fun b3 =>
    Q (.bool (!b3)) H
theorem nf_F_tasks_Table_Rise_1 (C : WT) (p0 : Option Addr) (H : AH) (Q : Value → AH → Prop) : wpF Tryz.prog C ann_F_tasks_Table_Rise_1 F_tasks_Table_Rise_1 [(.pointer p0)] H Q = vc_F_tasks_Table_Rise_1 C p0 H Q := by kernel_rfl
def ann_F_heap_Heap_Change : Ann := []
def vc_F_heap_Heap_Change (C : WT) (p0 : Option Addr) (n1 : Int) (n2 : Int) (H : AH) (Q : Value → AH → Prop) : Prop :=
    C F_heap_Heap_in [(.pointer p0), (vI n1)] H (fun r4 H3 =>
    r_T_b_i r4 <| fun b5 n6 =>
    bcase (n6 != 0) (Q (vI n6) H3) (bcase (!b5) (Q (vI 3) H3) (dr p0 fun b7 o8 =>
    ld_l H3 (some ⟨b7, o8 + 0 + 2, none⟩) fun sl9 sl9n sl9c =>
    ix sl9 sl9n n1 fun b10 o11 =>
    st H3 1 (some ⟨b10, o11 + Int.toNat n1 * 1, none⟩) (vI n2) fun H12 =>
    dr p0 fun b13 o14 =>
    dr p0 fun b15 o16 =>
    ld_l H12 (some ⟨b15, o16 + 0 + 1, none⟩) fun sl17 sl17n sl17c =>
    ix sl17 sl17n n1 fun b18 o19 =>
    ld_i H12 (some ⟨b18, o19 + Int.toNat n1 * 1, none⟩) fun n20 =>
    C F_heap_lists_up [(.pointer (some ⟨b13, o14 + 0, none⟩)), (vI n20)] H12 (fun r22 H21 =>
    r_T r22 <| dr p0 fun b23 o24 =>
    dr p0 fun b25 o26 =>
    ld_l H21 (some ⟨b25, o26 + 0 + 1, none⟩) fun sl27 sl27n sl27c =>
    ix sl27 sl27n n1 fun b28 o29 =>
    ld_i H21 (some ⟨b28, o29 + Int.toNat n1 * 1, none⟩) fun n30 =>
    C F_heap_lists_down [(.pointer (some ⟨b23, o24 + 0, none⟩)), (vI n30)] H21 (fun r32 H31 =>
    r_T r32 <| Q (vI 0) H31)))))
theorem nf_F_heap_Heap_Change (C : WT) (p0 : Option Addr) (n1 : Int) (n2 : Int) (H : AH) (Q : Value → AH → Prop) : wpF Tryz.prog C ann_F_heap_Heap_Change F_heap_Heap_Change [(.pointer p0), (vI n1), (vI n2)] H Q = vc_F_heap_Heap_Change C p0 n1 n2 H Q := by kernel_rfl
def ann_F_heap_lists_less : Ann := []
def vc_F_heap_lists_less (C : WT) (p0 : Option Addr) (n1 : Int) (n2 : Int) (H : AH) (Q : Value → AH → Prop) : Prop :=
    dr p0 fun b3 o4 =>
    ld_l H (some ⟨b3, o4 + 0, none⟩) fun sl5 sl5n sl5c =>
    ix sl5 sl5n n1 fun b6 o7 =>
    ld_i H (some ⟨b6, o7 + Int.toNat n1 * 1, none⟩) fun n8 =>
    dr p0 fun b9 o10 =>
    ld_l H (some ⟨b9, o10 + 0, none⟩) fun sl11 sl11n sl11c =>
    ix sl11 sl11n n2 fun b12 o13 =>
    ld_i H (some ⟨b12, o13 + Int.toNat n2 * 1, none⟩) fun n14 =>
    C F_heap_lists_order [(.pointer p0), (vI n8), (vI n14)] H (fun r16 H15 =>
    r_i r16 <| fun n17 =>
    Q (.bool (decide (n17 < 0))) H15)
theorem nf_F_heap_lists_less (C : WT) (p0 : Option Addr) (n1 : Int) (n2 : Int) (H : AH) (Q : Value → AH → Prop) : wpF Tryz.prog C ann_F_heap_lists_less F_heap_lists_less [(.pointer p0), (vI n1), (vI n2)] H Q = vc_F_heap_lists_less C p0 n1 n2 H Q := by kernel_rfl
def ann_F_heap_lists_swap : Ann := []
def vc_F_heap_lists_swap (C : WT) (p0 : Option Addr) (n1 : Int) (n2 : Int) (H : AH) (Q : Value → AH → Prop) : Prop :=
    dr p0 fun b3 o4 =>
    ld_l H (some ⟨b3, o4 + 0, none⟩) fun sl5 sl5n sl5c =>
    ix sl5 sl5n n1 fun b6 o7 =>
    ld_i H (some ⟨b6, o7 + Int.toNat n1 * 1, none⟩) fun n8 =>
    dr p0 fun b9 o10 =>
    ld_l H (some ⟨b9, o10 + 0, none⟩) fun sl11 sl11n sl11c =>
    ix sl11 sl11n n2 fun b12 o13 =>
    ld_i H (some ⟨b12, o13 + Int.toNat n2 * 1, none⟩) fun n14 =>
    C F_heap_lists_set [(.pointer p0), (vI n1), (vI n14)] H (fun r16 H15 =>
    r_T r16 <| C F_heap_lists_set [(.pointer p0), (vI n2), (vI n8)] H15 (fun r18 H17 =>
    r_T r18 <| Q (.tuple #[]) H17))
theorem nf_F_heap_lists_swap (C : WT) (p0 : Option Addr) (n1 : Int) (n2 : Int) (H : AH) (Q : Value → AH → Prop) : wpF Tryz.prog C ann_F_heap_lists_swap F_heap_lists_swap [(.pointer p0), (vI n1), (vI n2)] H Q = vc_F_heap_lists_swap C p0 n1 n2 H Q := by kernel_rfl
def ann_F_cmp_Less_int : Ann := []
def vc_F_cmp_Less_int (C : WT) (n0 : Int) (n1 : Int) (H : AH) (Q : Value → AH → Prop) : Prop :=
    C F_cmp_isNaN_int [(vI n0)] H (fun r3 H2 =>
    r_b r3 <| fun b4 =>
    bcase b4 (C F_cmp_isNaN_int [(vI n1)] H2 (fun r6 H5 =>
    r_b r6 <| fun b7 =>
    bcase (!b7) (Q (.bool true) H5) (Q (.bool (decide (n0 < n1))) H5))) (Q (.bool (decide (n0 < n1))) H2))
theorem nf_F_cmp_Less_int (C : WT) (n0 : Int) (n1 : Int) (H : AH) (Q : Value → AH → Prop) : wpF Tryz.prog C ann_F_cmp_Less_int F_cmp_Less_int [(vI n0), (vI n1)] H Q = vc_F_cmp_Less_int C n0 n1 H Q := by kernel_rfl
def ann_F_heap_lists_down : Ann := [(30, ⟨[1, 5], [(vI 0), (vI 0)], [2, 4]⟩)]
def vc_F_heap_lists_down (C : WT) (p0 : Option Addr) (n1 : Int) (H : AH) (Q : Value → AH → Prop) : Prop :=
    nw H (.cells [(.pointer p0)] false 0) fun b2 H3 =>
    ∃ (g4 : Nat) (az5 : List Value), fnV (.func (.func F_heap_lists_down_1) #[] #[(.pointer (some ⟨b2, 0, none⟩))]) [(vI n1)] = some (g4, az5) ∧ C g4 az5 H3 (fun r7 H6 =>
    r_i r7 <| fun n8 =>
    ∀ X9 : List Value → AH → Prop, (∀ n10 : Int, ∀ n11 : Int, ∀ H12 : AH, (∀ F13 : TF, bcase (n11 != n10) (ld_p H12 (some ⟨b2, 0, none⟩) fun p14 =>
    C F_heap_lists_swap [(.pointer p14), (vI n10), (vI n11)] H12 (fun r16 H15 =>
    r_T r16 <| ∃ (g17 : Nat) (az18 : List Value), fnV (.func (.func F_heap_lists_down_1) #[] #[(.pointer (some ⟨b2, 0, none⟩))]) [(vI n11)] = some (g17, az18) ∧ C g17 az18 H15 (fun r20 H19 =>
    r_i r20 <| fun n21 =>
    kp [(.pointer (some ⟨b2, 0, none⟩)), (.func (.func F_heap_lists_down_1) #[] #[(.pointer (some ⟨b2, 0, none⟩))])] (X9 [(vI n11), (vI n21)] H19)))) (Q (.tuple #[]) H12)) → X9 [(vI n10), (vI n11)] H12) → X9 [(vI n1), (vI n8)] H6)
theorem nf_F_heap_lists_down (C : WT) (p0 : Option Addr) (n1 : Int) (H : AH) (Q : Value → AH → Prop) : wpF Tryz.prog C ann_F_heap_lists_down F_heap_lists_down [(.pointer p0), (vI n1)] H Q = vc_F_heap_lists_down C p0 n1 H Q := by kernel_rfl
def ann_F_heap_lists_order : Ann := []
def vc_F_heap_lists_order (C : WT) (p0 : Option Addr) (n1 : Int) (n2 : Int) (H : AH) (Q : Value → AH → Prop) : Prop :=
    dr p0 fun b3 o4 =>
    ld_l H (some ⟨b3, o4 + 2, none⟩) fun sl5 sl5n sl5c =>
    ix sl5 sl5n n1 fun b6 o7 =>
    ld_i H (some ⟨b6, o7 + Int.toNat n1 * 1, none⟩) fun n8 =>
    dr p0 fun b9 o10 =>
    ld_l H (some ⟨b9, o10 + 2, none⟩) fun sl11 sl11n sl11c =>
    ix sl11 sl11n n2 fun b12 o13 =>
    ld_i H (some ⟨b12, o13 + Int.toNat n2 * 1, none⟩) fun n14 =>
    C F_cmp_Compare_int [(vI n8), (vI n14)] H (fun r16 H15 =>
    r_i r16 <| fun n17 =>
    C F_cmp_Compare_int [(vI n1), (vI n2)] H15 (fun r19 H18 =>
    r_i r19 <| fun n20 =>
    nw H18 (.cells [(vI n17), (vI n20)] false 0) fun b21 H22 =>
    C F_cmp_Or_int [(.slice (some ⟨b21, 0, none⟩) 2 2)] H22 (fun r24 H23 =>
    r_i r24 <| fun n25 =>
    Q (vI n25) H23)))
theorem nf_F_heap_lists_order (C : WT) (p0 : Option Addr) (n1 : Int) (n2 : Int) (H : AH) (Q : Value → AH → Prop) : wpF Tryz.prog C ann_F_heap_lists_order F_heap_lists_order [(.pointer p0), (vI n1), (vI n2)] H Q = vc_F_heap_lists_order C p0 n1 n2 H Q := by kernel_rfl
def ann_F_cmp_isNaN_int : Ann := []
def vc_F_cmp_isNaN_int (C : WT) (n0 : Int) (H : AH) (Q : Value → AH → Prop) : Prop :=
    Q (.bool (n0 != n0)) H
theorem nf_F_cmp_isNaN_int (C : WT) (n0 : Int) (H : AH) (Q : Value → AH → Prop) : wpF Tryz.prog C ann_F_cmp_isNaN_int F_cmp_isNaN_int [(vI n0)] H Q = vc_F_cmp_isNaN_int C n0 H Q := by kernel_rfl
def ann_F_heap_lists_down_1 : Ann := [(58, ⟨[4, 5], [(vI 0), (vI 0)], [0, 1]⟩), (116, ⟨[], [], [0, 1, 4, 5]⟩)]
def vc_F_heap_lists_down_1 (C : WT) (n0 : Int) (p1 : Option Addr) (H : AH) (Q : Value → AH → Prop) : Prop :=
    ∀ X2 : List Value → AH → Prop, (∀ n3 : Int, ∀ n4 : Int, ∀ H5 : AH, (∀ F6 : TF, ∀ X7 : List Value → AH → Prop, (∀ H12 : AH, (∀ F13 : TF, ld_p H12 p1 fun p14 =>
    C F_heap_lists_less [(.pointer p14), (vI n4), (vI n3)] H12 (fun r16 H15 =>
    r_b r16 <| fun b17 =>
    bcase b17 (kp [(vI n0), (.pointer p1)] (X2 [(vI n4), (vI (IntKind.wrap .i64 (n4 + 1)))] H15)) (kp [(vI n0), (.pointer p1)] (X2 [(vI n3), (vI (IntKind.wrap .i64 (n4 + 1)))] H15)))) → X7 [] H12) → bcase (decide (n4 ≤ (IntKind.wrap .i64 ((IntKind.wrap .i64 (2 * n0)) + 2)))) (ld_p H5 p1 fun p8 =>
    dr p8 fun b9 o10 =>
    ld_l H5 (some ⟨b9, o10 + 0, none⟩) fun sl11 sl11n sl11c =>
    bcase (decide (n4 < (↑(sl11n : Nat) : Int))) (kp [(vI n0), (.pointer p1), (vI n3), (vI n4)] (X7 [] H5)) (Q (vI n3) H5)) (Q (vI n3) H5)) → X2 [(vI n3), (vI n4)] H5) → X2 [(vI n0), (vI (IntKind.wrap .i64 ((IntKind.wrap .i64 (2 * n0)) + 1)))] H
theorem nf_F_heap_lists_down_1 (C : WT) (n0 : Int) (p1 : Option Addr) (H : AH) (Q : Value → AH → Prop) : wpF Tryz.prog C ann_F_heap_lists_down_1 F_heap_lists_down_1 [(vI n0), (.pointer p1)] H Q = vc_F_heap_lists_down_1 C n0 p1 H Q := by kernel_rfl
def ann_F_cmp_Or_int : Ann := [(58, ⟨[8], [(vI 0)], [3, 6, 7]⟩)]
def vc_F_cmp_Or_int (C : WT) (sl0 : Option Addr) (sl0n sl0c : Nat) (H : AH) (Q : Value → AH → Prop) : Prop :=
    ∀ X1 : List Value → AH → Prop, (∀ n2 : Int, ∀ H3 : AH, (∀ F4 : TF, bcase (decide (n2 < (↑(sl0n : Nat) : Int))) (ix sl0 sl0n n2 fun b5 o6 =>
    ld_i H3 (some ⟨b5, o6 + Int.toNat n2 * 1, none⟩) fun n7 =>
    bcase (n7 != 0) (Q (vI n7) H3) (kp [(vI 0), (.slice sl0 sl0n sl0c), (vI (↑(sl0n : Nat) : Int))] (X1 [(vI (IntKind.wrap .i64 (n2 + 1)))] H3))) (Q (vI 0) H3)) → X1 [(vI n2)] H3) → X1 [(vI 0)] H
theorem nf_F_cmp_Or_int (C : WT) (sl0 : Option Addr) (sl0n sl0c : Nat) (H : AH) (Q : Value → AH → Prop) : wpF Tryz.prog C ann_F_cmp_Or_int F_cmp_Or_int [(.slice sl0 sl0n sl0c)] H Q = vc_F_cmp_Or_int C sl0 sl0n sl0c H Q := by kernel_rfl
def ann_F_cmp_Compare_int : Ann := []
def vc_F_cmp_Compare_int (C : WT) (n0 : Int) (n1 : Int) (H : AH) (Q : Value → AH → Prop) : Prop :=
    C F_cmp_isNaN_int [(vI n0)] H (fun r3 H2 =>
    r_b r3 <| fun b4 =>
    C F_cmp_isNaN_int [(vI n1)] H2 (fun r6 H5 =>
    r_b r6 <| fun b7 =>
    bcase b4 (bcase b7 (Q (vI 0) H5) (Q (vI (-1)) H5)) (bcase b7 (Q (vI 1) H5) (bcase (decide (n0 < n1)) (Q (vI (-1)) H5) (bcase (decide (n1 < n0)) (Q (vI 1) H5) (Q (vI 0) H5))))))
theorem nf_F_cmp_Compare_int (C : WT) (n0 : Int) (n1 : Int) (H : AH) (Q : Value → AH → Prop) : wpF Tryz.prog C ann_F_cmp_Compare_int F_cmp_Compare_int [(vI n0), (vI n1)] H Q = vc_F_cmp_Compare_int C n0 n1 H Q := by kernel_rfl
def ann_F_heap_Heap_Due : Ann := []
def vc_F_heap_Heap_Due (C : WT) (p0 : Option Addr) (n1 : Int) (H : AH) (Q : Value → AH → Prop) : Prop :=
    C F_heap_Heap_in [(.pointer p0), (vI n1)] H (fun r3 H2 =>
    r_T_b_i r3 <| fun b4 n5 =>
    bcase (!b4) (Q (.tuple #[(vI 0), (.bool false)]) H2) (dr p0 fun b6 o7 =>
    ld_l H2 (some ⟨b6, o7 + 0 + 2, none⟩) fun sl8 sl8n sl8c =>
    ix sl8 sl8n n1 fun b9 o10 =>
    ld_i H2 (some ⟨b9, o10 + Int.toNat n1 * 1, none⟩) fun n11 =>
    Q (.tuple #[(vI n11), (.bool true)]) H2))
theorem nf_F_heap_Heap_Due (C : WT) (p0 : Option Addr) (n1 : Int) (H : AH) (Q : Value → AH → Prop) : wpF Tryz.prog C ann_F_heap_Heap_Due F_heap_Heap_Due [(.pointer p0), (vI n1)] H Q = vc_F_heap_Heap_Due C p0 n1 H Q := by kernel_rfl
def ann_F_refill_Budget_Done : Ann := []
def vc_F_refill_Budget_Done (C : WT) (p0 : Option Addr) (H : AH) (Q : Value → AH → Prop) : Prop :=
    C F_refill_Budget_none [(.pointer p0)] H (fun r2 H1 =>
    r_b r2 <| fun b3 =>
    bcase (!b3) (dr p0 fun b4 o5 =>
    ld_i H1 (some ⟨b4, o5 + 6, none⟩) fun n6 =>
    dr p0 fun b7 o8 =>
    C F_refill_live_left [(.pointer (some ⟨b7, o8 + 0, none⟩))] H1 (fun r10 H9 =>
    r_i r10 <| fun n11 =>
    Again H9 (.ld1 (.pointer (some ⟨b4, o5 + 6, none⟩))) (vI n6) ∧ dr p0 fun b12 o13 =>
    st H9 1 (some ⟨b12, o13 + 6, none⟩) (vI (IntKind.wrap .i64 (n6 + n11))) fun H14 =>
    dr p0 fun b15 o16 =>
    st H14 1 (some ⟨b15, o16 + 0 + 0, none⟩) (.slice none 0 0) fun H17 =>
    Q (.tuple #[]) H17)) (Q (.tuple #[]) H1))
theorem nf_F_refill_Budget_Done (C : WT) (p0 : Option Addr) (H : AH) (Q : Value → AH → Prop) : wpF Tryz.prog C ann_F_refill_Budget_Done F_refill_Budget_Done [(.pointer p0)] H Q = vc_F_refill_Budget_Done C p0 H Q := by kernel_rfl
def ann_F_refill_Budget_Due : Ann := [(3, ⟨[], [], [0]⟩)]
def vc_F_refill_Budget_Due (C : WT) (p0 : Option Addr) (H : AH) (Q : Value → AH → Prop) : Prop :=
    ∀ X1 : List Value → AH → Prop, (∀ H8 : AH, (∀ F9 : TF, dr p0 fun b10 o11 =>
    ld_l H8 (some ⟨b10, o11 + 0 + 0, none⟩) fun sl12 sl12n sl12c =>
    ix sl12 sl12n 0 fun b13 o14 =>
    ld_i H8 (some ⟨b13, o14 + Int.toNat 0 * 2 + 0, none⟩) fun n15 =>
    dr p0 fun b16 o17 =>
    ld_i H8 (some ⟨b16, o17 + 1 + 2, none⟩) fun n18 =>
    Q (.tuple #[(vI (IntKind.wrap .i64 (n15 + n18))), (.bool true)]) H8) → X1 [] H8) → C F_refill_Budget_none [(.pointer p0)] H (fun r3 H2 =>
    r_b r3 <| fun b4 =>
    bcase b4 (Q (.tuple #[(vI 0), (.bool false)]) H2) (dr p0 fun b5 o6 =>
    ld_l H2 (some ⟨b5, o6 + 0 + 0, none⟩) fun sl7 sl7n sl7c =>
    bcase ((↑(sl7n : Nat) : Int) == 0) (Q (.tuple #[(vI 0), (.bool false)]) H2) (kp [(.pointer p0)] (X1 [] H2))))
theorem nf_F_refill_Budget_Due (C : WT) (p0 : Option Addr) (H : AH) (Q : Value → AH → Prop) : wpF Tryz.prog C ann_F_refill_Budget_Due F_refill_Budget_Due [(.pointer p0)] H Q = vc_F_refill_Budget_Due C p0 H Q := by kernel_rfl
def ann_F_refill_Budget_Go : Ann := [(3, ⟨[], [], [0, 1, 2]⟩), (15, ⟨[49], [(.bool false)], [0, 1]⟩)]
def vc_F_refill_Budget_Go (C : WT) (p0 : Option Addr) (n1 : Int) (b2 : Bool) (H : AH) (Q : Value → AH → Prop) : Prop :=
    C F_refill_Budget_none [(.pointer p0)] H (fun r4 H3 =>
    r_b r4 <| fun b5 =>
    bcase b5 (Q (.tuple #[]) H3) (∀ X6 : List Value → AH → Prop, (∀ H27 : AH, (∀ F28 : TF, dr p0 fun b29 o30 =>
    st H27 1 (some ⟨b29, o30 + 5, none⟩) (vI n1) fun H31 =>
    ∀ X32 : List Value → AH → Prop, (∀ b39 : Bool, ∀ H40 : AH, (∀ F41 : TF, bcase b39 (dr p0 fun b42 o43 =>
    ld_l H40 (some ⟨b42, o43 + 0 + 0, none⟩) fun sl44 sl44n sl44c =>
    dr p0 fun b45 o46 =>
    ld_i H40 (some ⟨b45, o46 + 6, none⟩) fun n47 =>
    nw H40 (.cells [(vI n1), (vI n47)] false 0) fun b48 H49 =>
    apK H49 2 16 (.slice sl44 sl44n sl44c) (.slice (some ⟨b48, 0, none⟩) 1 1) fun sl50 sl50n sl50c H51 =>
    dr p0 fun b52 o53 =>
    st H51 1 (some ⟨b52, o53 + 0 + 0, none⟩) (.slice sl50 sl50n sl50c) fun H54 =>
    dr p0 fun b55 o56 =>
    st H54 1 (some ⟨b55, o56 + 6, none⟩) (vI 0) fun H57 =>
    Q (.tuple #[]) H57) (Q (.tuple #[]) H40)) → X32 [(.bool b39)] H40) → bcase b2 (dr p0 fun b33 o34 =>
    ld_b H31 (some ⟨b33, o34 + 7, none⟩) fun b35 =>
    bcase (!b35) (dr p0 fun b36 o37 =>
    ld_i H31 (some ⟨b36, o37 + 6, none⟩) fun n38 =>
    kp [(.pointer p0), (vI n1)] (X32 [(.bool (decide (0 < n38)))] H31)) (kp [(.pointer p0), (vI n1)] (X32 [(.bool false)] H31))) (kp [(.pointer p0), (vI n1)] (X32 [(.bool false)] H31))) → X6 [] H27) → C F_refill_Budget_period [(.pointer p0), (vI n1)] H3 (fun r8 H7 =>
    r_i r8 <| fun n9 =>
    dr p0 fun b10 o11 =>
    ld_i H7 (some ⟨b10, o11 + 5, none⟩) fun n12 =>
    Again H3 (.ld1 (.pointer (some ⟨b10, o11 + 5, none⟩))) (vI n12) ∧ C F_refill_Budget_period [(.pointer p0), (vI n12)] H7 (fun r14 H13 =>
    r_i r14 <| fun n15 =>
    bcase (decide (n15 < n9)) (dr p0 fun b16 o17 =>
    ld_i H13 (some ⟨b16, o17 + 1 + 1, none⟩) fun n18 =>
    dr p0 fun b19 o20 =>
    C F_refill_live_left [(.pointer (some ⟨b19, o20 + 0, none⟩))] H13 (fun r22 H21 =>
    r_i r22 <| fun n23 =>
    Again H21 (.ld1 (.pointer (some ⟨b16, o17 + 1 + 1, none⟩))) (vI n18) ∧ dr p0 fun b24 o25 =>
    st H21 1 (some ⟨b24, o25 + 6, none⟩) (vI (IntKind.wrap .i64 (n18 - n23))) fun H26 =>
    kp [(.pointer p0), (vI n1), (.bool b2)] (X6 [] H26))) (kp [(.pointer p0), (vI n1), (.bool b2)] (X6 [] H13))))))
theorem nf_F_refill_Budget_Go (C : WT) (p0 : Option Addr) (n1 : Int) (b2 : Bool) (H : AH) (Q : Value → AH → Prop) : wpF Tryz.prog C ann_F_refill_Budget_Go F_refill_Budget_Go [(.pointer p0), (vI n1), (.bool b2)] H Q = vc_F_refill_Budget_Go C p0 n1 b2 H Q := by kernel_rfl
def ann_F_refill_Budget_Reset : Ann := []
def vc_F_refill_Budget_Reset (C : WT) (p0 : Option Addr) (H : AH) (Q : Value → AH → Prop) : Prop :=
    C F_refill_Budget_none [(.pointer p0)] H (fun r2 H1 =>
    r_b r2 <| fun b3 =>
    bcase (!b3) (dr p0 fun b4 o5 =>
    st H1 1 (some ⟨b4, o5 + 0 + 0, none⟩) (.slice none 0 0) fun H6 =>
    dr p0 fun b7 o8 =>
    ld_i H6 (some ⟨b7, o8 + 1 + 1, none⟩) fun n9 =>
    dr p0 fun b10 o11 =>
    st H6 1 (some ⟨b10, o11 + 6, none⟩) (vI n9) fun H12 =>
    dr p0 fun b13 o14 =>
    st H12 1 (some ⟨b13, o14 + 7, none⟩) (.bool false) fun H15 =>
    Q (.tuple #[]) H15) (Q (.tuple #[]) H1))
theorem nf_F_refill_Budget_Reset (C : WT) (p0 : Option Addr) (H : AH) (Q : Value → AH → Prop) : wpF Tryz.prog C ann_F_refill_Budget_Reset F_refill_Budget_Reset [(.pointer p0)] H Q = vc_F_refill_Budget_Reset C p0 H Q := by kernel_rfl
def ann_F_refill_Budget_Resume : Ann := []
def vc_F_refill_Budget_Resume (C : WT) (p0 : Option Addr) (H : AH) (Q : Value → AH → Prop) : Prop :=
    C F_refill_Budget_none [(.pointer p0)] H (fun r2 H1 =>
    r_b r2 <| fun b3 =>
    bcase (!b3) (dr p0 fun b4 o5 =>
    st H1 1 (some ⟨b4, o5 + 7, none⟩) (.bool false) fun H6 =>
    Q (.tuple #[]) H6) (Q (.tuple #[]) H1))
theorem nf_F_refill_Budget_Resume (C : WT) (p0 : Option Addr) (H : AH) (Q : Value → AH → Prop) : wpF Tryz.prog C ann_F_refill_Budget_Resume F_refill_Budget_Resume [(.pointer p0)] H Q = vc_F_refill_Budget_Resume C p0 H Q := by kernel_rfl
def ann_F_refill_Budget_Stop : Ann := []
def vc_F_refill_Budget_Stop (C : WT) (p0 : Option Addr) (H : AH) (Q : Value → AH → Prop) : Prop :=
    C F_refill_Budget_none [(.pointer p0)] H (fun r2 H1 =>
    r_b r2 <| fun b3 =>
    bcase (!b3) (C F_refill_Budget_Done [(.pointer p0)] H1 (fun r5 H4 =>
    r_T r5 <| dr p0 fun b6 o7 =>
    st H4 1 (some ⟨b6, o7 + 7, none⟩) (.bool true) fun H8 =>
    Q (.tuple #[]) H8)) (Q (.tuple #[]) H1))
theorem nf_F_refill_Budget_Stop (C : WT) (p0 : Option Addr) (H : AH) (Q : Value → AH → Prop) : wpF Tryz.prog C ann_F_refill_Budget_Stop F_refill_Budget_Stop [(.pointer p0)] H Q = vc_F_refill_Budget_Stop C p0 H Q := by kernel_rfl
def ann_F_refill_Budget_Use : Ann := []
def vc_F_refill_Budget_Use (C : WT) (p0 : Option Addr) (H : AH) (Q : Value → AH → Prop) : Prop :=
    C F_refill_Budget_none [(.pointer p0)] H (fun r2 H1 =>
    r_b r2 <| fun b3 =>
    bcase (!b3) (dr p0 fun b4 o5 =>
    C F_refill_live_take [(.pointer (some ⟨b4, o5 + 0, none⟩))] H1 (fun r7 H6 =>
    r_b r7 <| fun b8 =>
    Q (.bool b8) H6)) (Q (.bool false) H1))
theorem nf_F_refill_Budget_Use (C : WT) (p0 : Option Addr) (H : AH) (Q : Value → AH → Prop) : wpF Tryz.prog C ann_F_refill_Budget_Use F_refill_Budget_Use [(.pointer p0)] H Q = vc_F_refill_Budget_Use C p0 H Q := by kernel_rfl
def ann_F_refill_Budget_none : Ann := []
def vc_F_refill_Budget_none (C : WT) (p0 : Option Addr) (H : AH) (Q : Value → AH → Prop) : Prop :=
    bcase (Option.isNone p0) (Q (.bool true) H) (dr p0 fun b1 o2 =>
    ld_i H (some ⟨b1, o2 + 1 + 1, none⟩) fun n3 =>
    Q (.bool (n3 == 0)) H)
theorem nf_F_refill_Budget_none (C : WT) (p0 : Option Addr) (H : AH) (Q : Value → AH → Prop) : wpF Tryz.prog C ann_F_refill_Budget_none F_refill_Budget_none [(.pointer p0)] H Q = vc_F_refill_Budget_none C p0 H Q := by kernel_rfl
def ann_F_refill_live_left : Ann := [(58, ⟨[3, 11], [(vI 0), (vI 0)], [9, 10]⟩)]
def vc_F_refill_live_left (C : WT) (p0 : Option Addr) (H : AH) (Q : Value → AH → Prop) : Prop :=
    dr p0 fun b1 o2 =>
    ld_l H (some ⟨b1, o2 + 0, none⟩) fun sl3 sl3n sl3c =>
    ∀ X4 : List Value → AH → Prop, (∀ n5 : Int, ∀ n6 : Int, ∀ H7 : AH, (∀ F8 : TF, bcase (decide (n6 < (↑(sl3n : Nat) : Int))) (ix sl3 sl3n n6 fun b9 o10 =>
    ld_Aii H7 (some ⟨b9, o10 + Int.toNat n6 * 2, none⟩) fun n11 n12 =>
    nw H7 (.cells [(vI 0), (vI 0)] false 0) fun b13 H14 =>
    st H14 2 (some ⟨b13, 0, none⟩) (.agg #[(vI n11), (vI n12)]) fun H15 =>
    ld_i H15 (some ⟨b13, 0 + 1, none⟩) fun n16 =>
    kp [(.slice sl3 sl3n sl3c), (vI (↑(sl3n : Nat) : Int))] (X4 [(vI (IntKind.wrap .i64 (n5 + n16))), (vI (IntKind.wrap .i64 (n6 + 1)))] H15)) (Q (vI n5) H7)) → X4 [(vI n5), (vI n6)] H7) → X4 [(vI 0), (vI 0)] H
theorem nf_F_refill_live_left (C : WT) (p0 : Option Addr) (H : AH) (Q : Value → AH → Prop) : wpF Tryz.prog C ann_F_refill_live_left F_refill_live_left [(.pointer p0)] H Q = vc_F_refill_live_left C p0 H Q := by kernel_rfl
def ann_F_refill_Budget_period : Ann := []
def vc_F_refill_Budget_period (C : WT) (p0 : Option Addr) (n1 : Int) (H : AH) (Q : Value → AH → Prop) : Prop :=
    dr p0 fun b2 o3 =>
    ld_i H (some ⟨b2, o3 + 4, none⟩) fun n4 =>
    dr p0 fun b5 o6 =>
    ld_i H (some ⟨b5, o6 + 1 + 2, none⟩) fun n7 =>
    C F_num_Floor [(vI (IntKind.wrap .i64 (n1 - n4))), (vI n7)] H (fun r9 H8 =>
    r_i r9 <| fun n10 =>
    Q (vI n10) H8)
theorem nf_F_refill_Budget_period (C : WT) (p0 : Option Addr) (n1 : Int) (H : AH) (Q : Value → AH → Prop) : wpF Tryz.prog C ann_F_refill_Budget_period F_refill_Budget_period [(.pointer p0), (vI n1)] H Q = vc_F_refill_Budget_period C p0 n1 H Q := by kernel_rfl
def ann_F_refill_live_take : Ann := []
def vc_F_refill_live_take (C : WT) (p0 : Option Addr) (H : AH) (Q : Value → AH → Prop) : Prop :=
    dr p0 fun b1 o2 =>
    ld_l H (some ⟨b1, o2 + 0, none⟩) fun sl3 sl3n sl3c =>
    bcase ((↑(sl3n : Nat) : Int) == 0) (Q (.bool false) H) (dr p0 fun b4 o5 =>
    ld_l H (some ⟨b4, o5 + 0, none⟩) fun sl6 sl6n sl6c =>
    ix sl6 sl6n 0 fun b7 o8 =>
    ld_i H (some ⟨b7, o8 + Int.toNat 0 * 2 + 1, none⟩) fun n9 =>
    ix sl6 sl6n 0 fun b10 o11 =>
    st H 1 (some ⟨b10, o11 + Int.toNat 0 * 2 + 1, none⟩) (vI (IntKind.wrap .i64 (n9 - 1))) fun H12 =>
    dr p0 fun b13 o14 =>
    ld_l H12 (some ⟨b13, o14 + 0, none⟩) fun sl15 sl15n sl15c =>
    ix sl15 sl15n 0 fun b16 o17 =>
    ld_i H12 (some ⟨b16, o17 + Int.toNat 0 * 2 + 1, none⟩) fun n18 =>
    bcase (n18 == 0) (dr p0 fun b19 o20 =>
    ld_l H12 (some ⟨b19, o20 + 0, none⟩) fun sl21 sl21n sl21c =>
    slK H12 2 sl21 sl21n sl21c (some (vI 1)) none fun sl22 sl22n sl22c =>
    dr p0 fun b23 o24 =>
    st H12 1 (some ⟨b23, o24 + 0, none⟩) (.slice sl22 sl22n sl22c) fun H25 =>
    Q (.bool true) H25) (Q (.bool true) H12))
theorem nf_F_refill_live_take (C : WT) (p0 : Option Addr) (H : AH) (Q : Value → AH → Prop) : wpF Tryz.prog C ann_F_refill_live_take F_refill_live_take [(.pointer p0)] H Q = vc_F_refill_live_take C p0 H Q := by kernel_rfl
def ann_F_num_Floor : Ann := []
def vc_F_num_Floor (C : WT) (n0 : Int) (n1 : Int) (H : AH) (Q : Value → AH → Prop) : Prop :=
    bcase (decide (n1 < 1)) (Q (vI 0) H) (binI .quo n0 n1 fun n2 =>
    binI .rem n0 n1 fun n3 =>
    C F_num_btoi [(.bool (decide (n3 < 0)))] H (fun r5 H4 =>
    r_i r5 <| fun n6 =>
    Q (vI (IntKind.wrap .i64 (n2 - n6))) H4))
theorem nf_F_num_Floor (C : WT) (n0 : Int) (n1 : Int) (H : AH) (Q : Value → AH → Prop) : wpF Tryz.prog C ann_F_num_Floor F_num_Floor [(vI n0), (vI n1)] H Q = vc_F_num_Floor C n0 n1 H Q := by kernel_rfl
def ann_F_num_btoi : Ann := []
def vc_F_num_btoi (C : WT) (b0 : Bool) (H : AH) (Q : Value → AH → Prop) : Prop :=
    bcase b0 (Q (vI 1) H) (Q (vI 0) H)
theorem nf_F_num_btoi (C : WT) (b0 : Bool) (H : AH) (Q : Value → AH → Prop) : wpF Tryz.prog C ann_F_num_btoi F_num_btoi [(.bool b0)] H Q = vc_F_num_btoi C b0 H Q := by kernel_rfl
def ann_F_chunk_Budget_Done : Ann := [(14, ⟨[11], [(vI 0)], [0, 9, 10]⟩)]
def vc_F_chunk_Budget_Done (C : WT) (p0 : Option Addr) (H : AH) (Q : Value → AH → Prop) : Prop :=
    C F_chunk_Budget_none [(.pointer p0)] H (fun r2 H1 =>
    r_b r2 <| fun b3 =>
    bcase b3 (Q (.tuple #[]) H1) (dr p0 fun b4 o5 =>
    C F_chunk_live_shut [(.pointer (some ⟨b4, o5 + 0, none⟩))] H1 (fun r7 H6 =>
    r_l r7 <| fun sl8 sl8n sl8c =>
    ∀ X9 : List Value → AH → Prop, (∀ n10 : Int, ∀ H11 : AH, (∀ F12 : TF, bcase (decide (n10 < (↑(sl8n : Nat) : Int))) (ix sl8 sl8n n10 fun b13 o14 =>
    ld_Aiii H11 (some ⟨b13, o14 + Int.toNat n10 * 3, none⟩) fun n15 n16 n17 =>
    nw H11 (.cells [(vI 0), (vI 0), (vI 0)] false 0) fun b18 H19 =>
    st H19 3 (some ⟨b18, 0, none⟩) (.agg #[(vI n15), (vI n16), (vI n17)]) fun H20 =>
    dr p0 fun b21 o22 =>
    ld_i H20 (some ⟨b21, o22 + 4, none⟩) fun n23 =>
    ld_i H20 (some ⟨b18, 0 + 1, none⟩) fun n24 =>
    dr p0 fun b25 o26 =>
    st H20 1 (some ⟨b25, o26 + 4, none⟩) (vI (IntKind.wrap .i64 (n23 + n24))) fun H27 =>
    ld_Aiii H27 (some ⟨b18, 0, none⟩) fun n28 n29 n30 =>
    C F_chunk_Budget_owe [(.pointer p0), (.agg #[(vI n28), (vI n29), (vI n30)])] H27 (fun r32 H31 =>
    r_T r32 <| kp [(.pointer p0), (.slice sl8 sl8n sl8c), (vI (↑(sl8n : Nat) : Int))] (X9 [(vI (IntKind.wrap .i64 (n10 + 1)))] H31))) (Q (.tuple #[]) H11)) → X9 [(vI n10)] H11) → X9 [(vI 0)] H6)))
theorem nf_F_chunk_Budget_Done (C : WT) (p0 : Option Addr) (H : AH) (Q : Value → AH → Prop) : wpF Tryz.prog C ann_F_chunk_Budget_Done F_chunk_Budget_Done [(.pointer p0)] H Q = vc_F_chunk_Budget_Done C p0 H Q := by kernel_rfl
def ann_F_chunk_Budget_Due : Ann := [(3, ⟨[], [], [0]⟩)]
def vc_F_chunk_Budget_Due (C : WT) (p0 : Option Addr) (H : AH) (Q : Value → AH → Prop) : Prop :=
    ∀ X1 : List Value → AH → Prop, (∀ H10 : AH, (∀ F11 : TF, dr p0 fun b12 o13 =>
    C F_chunk_live_first [(.pointer (some ⟨b12, o13 + 0, none⟩))] H10 (fun r15 H14 =>
    r_p r15 <| fun p16 =>
    dr p16 fun b17 o18 =>
    ld_i H14 (some ⟨b17, o18 + 0, none⟩) fun n19 =>
    dr p0 fun b20 o21 =>
    ld_i H14 (some ⟨b20, o21 + 1 + 2, none⟩) fun n22 =>
    Again H10 (.ld1 (.pointer (some ⟨b20, o21 + 1 + 2, none⟩))) (vI n22) ∧ Q (.tuple #[(vI (IntKind.wrap .i64 (n19 + n22))), (.bool true)]) H14)) → X1 [] H10) → C F_chunk_Budget_none [(.pointer p0)] H (fun r3 H2 =>
    r_b r3 <| fun b4 =>
    bcase b4 (Q (.tuple #[(vI 0), (.bool false)]) H2) (dr p0 fun b5 o6 =>
    C F_chunk_live_first [(.pointer (some ⟨b5, o6 + 0, none⟩))] H2 (fun r8 H7 =>
    r_p r8 <| fun p9 =>
    bcase (Option.isNone p9) (Q (.tuple #[(vI 0), (.bool false)]) H7) (kp [(.pointer p0)] (X1 [] H7)))))
theorem nf_F_chunk_Budget_Due (C : WT) (p0 : Option Addr) (H : AH) (Q : Value → AH → Prop) : wpF Tryz.prog C ann_F_chunk_Budget_Due F_chunk_Budget_Due [(.pointer p0)] H Q = vc_F_chunk_Budget_Due C p0 H Q := by kernel_rfl
def ann_F_chunk_Budget_Go : Ann := [(7, ⟨[32], [(.bool false)], [0, 1]⟩)]
def vc_F_chunk_Budget_Go (C : WT) (p0 : Option Addr) (n1 : Int) (b2 : Bool) (H : AH) (Q : Value → AH → Prop) : Prop :=
    C F_chunk_Budget_none [(.pointer p0)] H (fun r4 H3 =>
    r_b r4 <| fun b5 =>
    bcase b5 (Q (.tuple #[]) H3) (dr p0 fun b6 o7 =>
    ld_i H3 (some ⟨b6, o7 + 4, none⟩) fun n8 =>
    C F_chunk_Budget_ripe [(.pointer p0), (vI n1)] H3 (fun r10 H9 =>
    r_i r10 <| fun n11 =>
    Again H9 (.ld1 (.pointer (some ⟨b6, o7 + 4, none⟩))) (vI n8) ∧ dr p0 fun b12 o13 =>
    st H9 1 (some ⟨b12, o13 + 4, none⟩) (vI (IntKind.wrap .i64 (n8 + n11))) fun H14 =>
    ∀ X15 : List Value → AH → Prop, (∀ b22 : Bool, ∀ H23 : AH, (∀ F24 : TF, bcase b22 (dr p0 fun b25 o26 =>
    ld_l H23 (some ⟨b25, o26 + 0 + 0, none⟩) fun sl27 sl27n sl27c =>
    dr p0 fun b28 o29 =>
    ld_i H23 (some ⟨b28, o29 + 4, none⟩) fun n30 =>
    nw H23 (.cells [(vI n1), (vI n30), (vI 0)] false 0) fun b31 H32 =>
    apK H32 3 24 (.slice sl27 sl27n sl27c) (.slice (some ⟨b31, 0, none⟩) 1 1) fun sl33 sl33n sl33c H34 =>
    dr p0 fun b35 o36 =>
    st H34 1 (some ⟨b35, o36 + 0 + 0, none⟩) (.slice sl33 sl33n sl33c) fun H37 =>
    dr p0 fun b38 o39 =>
    st H37 1 (some ⟨b38, o39 + 4, none⟩) (vI 0) fun H40 =>
    Q (.tuple #[]) H40) (Q (.tuple #[]) H23)) → X15 [(.bool b22)] H23) → bcase b2 (dr p0 fun b16 o17 =>
    ld_b H14 (some ⟨b16, o17 + 6, none⟩) fun b18 =>
    bcase (!b18) (dr p0 fun b19 o20 =>
    ld_i H14 (some ⟨b19, o20 + 4, none⟩) fun n21 =>
    kp [(.pointer p0), (vI n1)] (X15 [(.bool (decide (0 < n21)))] H14)) (kp [(.pointer p0), (vI n1)] (X15 [(.bool false)] H14))) (kp [(.pointer p0), (vI n1)] (X15 [(.bool false)] H14)))))
theorem nf_F_chunk_Budget_Go (C : WT) (p0 : Option Addr) (n1 : Int) (b2 : Bool) (H : AH) (Q : Value → AH → Prop) : wpF Tryz.prog C ann_F_chunk_Budget_Go F_chunk_Budget_Go [(.pointer p0), (vI n1), (.bool b2)] H Q = vc_F_chunk_Budget_Go C p0 n1 b2 H Q := by kernel_rfl
def ann_F_chunk_Budget_Reset : Ann := []
def vc_F_chunk_Budget_Reset (C : WT) (p0 : Option Addr) (H : AH) (Q : Value → AH → Prop) : Prop :=
    C F_chunk_Budget_none [(.pointer p0)] H (fun r2 H1 =>
    r_b r2 <| fun b3 =>
    bcase (!b3) (dr p0 fun b4 o5 =>
    C F_chunk_live_shut [(.pointer (some ⟨b4, o5 + 0, none⟩))] H1 (fun r7 H6 =>
    r_l r7 <| fun sl8 sl8n sl8c =>
    dr p0 fun b9 o10 =>
    ld_i H6 (some ⟨b9, o10 + 1 + 1, none⟩) fun n11 =>
    dr p0 fun b12 o13 =>
    st H6 1 (some ⟨b12, o13 + 4, none⟩) (vI n11) fun H14 =>
    dr p0 fun b15 o16 =>
    st H14 1 (some ⟨b15, o16 + 5, none⟩) (.slice none 0 0) fun H17 =>
    dr p0 fun b18 o19 =>
    st H17 1 (some ⟨b18, o19 + 6, none⟩) (.bool false) fun H20 =>
    Q (.tuple #[]) H20)) (Q (.tuple #[]) H1))
theorem nf_F_chunk_Budget_Reset (C : WT) (p0 : Option Addr) (H : AH) (Q : Value → AH → Prop) : wpF Tryz.prog C ann_F_chunk_Budget_Reset F_chunk_Budget_Reset [(.pointer p0)] H Q = vc_F_chunk_Budget_Reset C p0 H Q := by kernel_rfl
def ann_F_chunk_Budget_Resume : Ann := []
def vc_F_chunk_Budget_Resume (C : WT) (p0 : Option Addr) (H : AH) (Q : Value → AH → Prop) : Prop :=
    C F_chunk_Budget_none [(.pointer p0)] H (fun r2 H1 =>
    r_b r2 <| fun b3 =>
    bcase (!b3) (dr p0 fun b4 o5 =>
    st H1 1 (some ⟨b4, o5 + 6, none⟩) (.bool false) fun H6 =>
    Q (.tuple #[]) H6) (Q (.tuple #[]) H1))
theorem nf_F_chunk_Budget_Resume (C : WT) (p0 : Option Addr) (H : AH) (Q : Value → AH → Prop) : wpF Tryz.prog C ann_F_chunk_Budget_Resume F_chunk_Budget_Resume [(.pointer p0)] H Q = vc_F_chunk_Budget_Resume C p0 H Q := by kernel_rfl
def ann_F_chunk_Budget_Stop : Ann := []
def vc_F_chunk_Budget_Stop (C : WT) (p0 : Option Addr) (H : AH) (Q : Value → AH → Prop) : Prop :=
    C F_chunk_Budget_none [(.pointer p0)] H (fun r2 H1 =>
    r_b r2 <| fun b3 =>
    bcase (!b3) (C F_chunk_Budget_Done [(.pointer p0)] H1 (fun r5 H4 =>
    r_T r5 <| dr p0 fun b6 o7 =>
    st H4 1 (some ⟨b6, o7 + 6, none⟩) (.bool true) fun H8 =>
    Q (.tuple #[]) H8)) (Q (.tuple #[]) H1))
theorem nf_F_chunk_Budget_Stop (C : WT) (p0 : Option Addr) (H : AH) (Q : Value → AH → Prop) : wpF Tryz.prog C ann_F_chunk_Budget_Stop F_chunk_Budget_Stop [(.pointer p0)] H Q = vc_F_chunk_Budget_Stop C p0 H Q := by kernel_rfl
def ann_F_chunk_Budget_Use : Ann := []
def vc_F_chunk_Budget_Use (C : WT) (p0 : Option Addr) (H : AH) (Q : Value → AH → Prop) : Prop :=
    C F_chunk_Budget_none [(.pointer p0)] H (fun r2 H1 =>
    r_b r2 <| fun b3 =>
    bcase b3 (Q (.bool false) H1) (dr p0 fun b4 o5 =>
    C F_chunk_live_first [(.pointer (some ⟨b4, o5 + 0, none⟩))] H1 (fun r7 H6 =>
    r_p r7 <| fun p8 =>
    bcase (Option.isNone p8) (Q (.bool false) H6) (dr p8 fun b9 o10 =>
    ld_i H6 (some ⟨b9, o10 + 1, none⟩) fun n11 =>
    dr p8 fun b12 o13 =>
    st H6 1 (some ⟨b12, o13 + 1, none⟩) (vI (IntKind.wrap .i64 (n11 - 1))) fun H14 =>
    dr p8 fun b15 o16 =>
    ld_i H14 (some ⟨b15, o16 + 2, none⟩) fun n17 =>
    dr p8 fun b18 o19 =>
    st H14 1 (some ⟨b18, o19 + 2, none⟩) (vI (IntKind.wrap .i64 (n17 + 1))) fun H20 =>
    dr p8 fun b21 o22 =>
    ld_i H20 (some ⟨b21, o22 + 1, none⟩) fun n23 =>
    bcase (n23 == 0) (dr p8 fun b24 o25 =>
    ld_Aiii H20 (some ⟨b24, o25, none⟩) fun n26 n27 n28 =>
    C F_chunk_Budget_owe [(.pointer p0), (.agg #[(vI n26), (vI n27), (vI n28)])] H20 (fun r30 H29 =>
    r_T r30 <| dr p0 fun b31 o32 =>
    ld_l H29 (some ⟨b31, o32 + 0 + 0, none⟩) fun sl33 sl33n sl33c =>
    slK H29 3 sl33 sl33n sl33c (some (vI 1)) none fun sl34 sl34n sl34c =>
    dr p0 fun b35 o36 =>
    st H29 1 (some ⟨b35, o36 + 0 + 0, none⟩) (.slice sl34 sl34n sl34c) fun H37 =>
    Q (.bool true) H37)) (Q (.bool true) H20)))))
theorem nf_F_chunk_Budget_Use (C : WT) (p0 : Option Addr) (H : AH) (Q : Value → AH → Prop) : wpF Tryz.prog C ann_F_chunk_Budget_Use F_chunk_Budget_Use [(.pointer p0)] H Q = vc_F_chunk_Budget_Use C p0 H Q := by kernel_rfl
def ann_F_chunk_Budget_none : Ann := []
def vc_F_chunk_Budget_none (C : WT) (p0 : Option Addr) (H : AH) (Q : Value → AH → Prop) : Prop :=
    bcase (Option.isNone p0) (Q (.bool true) H) (dr p0 fun b1 o2 =>
    ld_i H (some ⟨b1, o2 + 1 + 1, none⟩) fun n3 =>
    Q (.bool (n3 == 0)) H)
theorem nf_F_chunk_Budget_none (C : WT) (p0 : Option Addr) (H : AH) (Q : Value → AH → Prop) : wpF Tryz.prog C ann_F_chunk_Budget_none F_chunk_Budget_none [(.pointer p0)] H Q = vc_F_chunk_Budget_none C p0 H Q := by kernel_rfl
def ann_F_chunk_live_shut : Ann := []
def vc_F_chunk_live_shut (C : WT) (p0 : Option Addr) (H : AH) (Q : Value → AH → Prop) : Prop :=
    dr p0 fun b1 o2 =>
    ld_l H (some ⟨b1, o2 + 0, none⟩) fun sl3 sl3n sl3c =>
    dr p0 fun b4 o5 =>
    st H 1 (some ⟨b4, o5 + 0, none⟩) (.slice none 0 0) fun H6 =>
    Q (.slice sl3 sl3n sl3c) H6
theorem nf_F_chunk_live_shut (C : WT) (p0 : Option Addr) (H : AH) (Q : Value → AH → Prop) : wpF Tryz.prog C ann_F_chunk_live_shut F_chunk_live_shut [(.pointer p0)] H Q = vc_F_chunk_live_shut C p0 H Q := by kernel_rfl
def ann_F_chunk_Budget_owe : Ann := []
def vc_F_chunk_Budget_owe (C : WT) (p0 : Option Addr) (n1 : Int) (n2 : Int) (n3 : Int) (H : AH) (Q : Value → AH → Prop) : Prop :=
    nw H (.cells [(vI n1), (vI n2), (vI n3)] false 0) fun b4 H5 =>
    ld_i H5 (some ⟨b4, 0 + 2, none⟩) fun n6 =>
    bcase (decide (0 < n6)) (dr p0 fun b7 o8 =>
    ld_l H5 (some ⟨b7, o8 + 5, none⟩) fun sl9 sl9n sl9c =>
    ld_i H5 (some ⟨b4, 0 + 0, none⟩) fun n10 =>
    dr p0 fun b11 o12 =>
    ld_i H5 (some ⟨b11, o12 + 1 + 2, none⟩) fun n13 =>
    ld_i H5 (some ⟨b4, 0 + 2, none⟩) fun n14 =>
    nw H5 (.cells [(vI (IntKind.wrap .i64 (n10 + n13))), (vI n14)] false 0) fun b15 H16 =>
    apK H16 2 16 (.slice sl9 sl9n sl9c) (.slice (some ⟨b15, 0, none⟩) 1 1) fun sl17 sl17n sl17c H18 =>
    dr p0 fun b19 o20 =>
    st H18 1 (some ⟨b19, o20 + 5, none⟩) (.slice sl17 sl17n sl17c) fun H21 =>
    Q (.tuple #[]) H21) (Q (.tuple #[]) H5)
theorem nf_F_chunk_Budget_owe (C : WT) (p0 : Option Addr) (n1 : Int) (n2 : Int) (n3 : Int) (H : AH) (Q : Value → AH → Prop) : wpF Tryz.prog C ann_F_chunk_Budget_owe F_chunk_Budget_owe [(.pointer p0), (.agg #[(vI n1), (vI n2), (vI n3)])] H Q = vc_F_chunk_Budget_owe C p0 n1 n2 n3 H Q := by kernel_rfl
def ann_F_chunk_live_first : Ann := []
def vc_F_chunk_live_first (C : WT) (p0 : Option Addr) (H : AH) (Q : Value → AH → Prop) : Prop :=
    dr p0 fun b1 o2 =>
    ld_l H (some ⟨b1, o2 + 0, none⟩) fun sl3 sl3n sl3c =>
    bcase ((↑(sl3n : Nat) : Int) == 0) (Q (.pointer none) H) (dr p0 fun b4 o5 =>
    ld_l H (some ⟨b4, o5 + 0, none⟩) fun sl6 sl6n sl6c =>
    ix sl6 sl6n 0 fun b7 o8 =>
    Q (.pointer (some ⟨b7, o8 + Int.toNat 0 * 3, none⟩)) H)
theorem nf_F_chunk_live_first (C : WT) (p0 : Option Addr) (H : AH) (Q : Value → AH → Prop) : wpF Tryz.prog C ann_F_chunk_live_first F_chunk_live_first [(.pointer p0)] H Q = vc_F_chunk_live_first C p0 H Q := by kernel_rfl
def ann_F_chunk_Budget_ripe : Ann := []
def vc_F_chunk_Budget_ripe (C : WT) (p0 : Option Addr) (n1 : Int) (H : AH) (Q : Value → AH → Prop) : Prop :=
    nw H (.cells [(vI n1)] false 0) fun b2 H3 =>
    nw H3 (.cells [(vI 0)] false 0) fun b4 H5 =>
    st H5 1 (some ⟨b4, 0, none⟩) (vI 0) fun H6 =>
    dr p0 fun b7 o8 =>
    ld_l H6 (some ⟨b7, o8 + 5, none⟩) fun sl9 sl9n sl9c =>
    C F_slices_DeleteFunc__chunk_Backchunk_Back [(.slice sl9 sl9n sl9c), (.func (.func F_chunk_Budget_ripe_1) #[] #[(.pointer (some ⟨b2, 0, none⟩)), (.pointer (some ⟨b4, 0, none⟩))])] H6 (fun r11 H10 =>
    r_l r11 <| fun sl12 sl12n sl12c =>
    dr p0 fun b13 o14 =>
    st H10 1 (some ⟨b13, o14 + 5, none⟩) (.slice sl12 sl12n sl12c) fun H15 =>
    ld_i H15 (some ⟨b4, 0, none⟩) fun n16 =>
    Q (vI n16) H15)
theorem nf_F_chunk_Budget_ripe (C : WT) (p0 : Option Addr) (n1 : Int) (H : AH) (Q : Value → AH → Prop) : wpF Tryz.prog C ann_F_chunk_Budget_ripe F_chunk_Budget_ripe [(.pointer p0), (vI n1)] H Q = vc_F_chunk_Budget_ripe C p0 n1 H Q := by kernel_rfl
def ann_F_slices_DeleteFunc__chunk_Backchunk_Back : Ann := [(122, ⟨[5, 6], [(vI 0), (vI 0)], [0, 1]⟩)]
def vc_F_slices_DeleteFunc__chunk_Backchunk_Back (C : WT) (sl0 : Option Addr) (sl0n sl0c : Nat) (v1 : Value) (H : AH) (Q : Value → AH → Prop) : Prop :=
    C F_slices_IndexFunc__chunk_Backchunk_Back [(.slice sl0 sl0n sl0c), v1] H (fun r3 H2 =>
    r_i r3 <| fun n4 =>
    bcase (n4 == (-1)) (Q (.slice sl0 sl0n sl0c) H2) (∀ X5 : List Value → AH → Prop, (∀ n6 : Int, ∀ n7 : Int, ∀ H8 : AH, (∀ F9 : TF, bcase (decide (n7 < (↑(sl0n : Nat) : Int))) (ix sl0 sl0n n7 fun b10 o11 =>
    ld_Aii H8 (some ⟨b10, o11 + Int.toNat n7 * 2, none⟩) fun n12 n13 =>
    nw H8 (.cells [(vI 0), (vI 0)] false 0) fun b14 H15 =>
    st H15 2 (some ⟨b14, 0, none⟩) (.agg #[(vI n12), (vI n13)]) fun H16 =>
    ld_Aii H16 (some ⟨b14, 0, none⟩) fun n17 n18 =>
    ∃ (g19 : Nat) (az20 : List Value), fnV v1 [(.agg #[(vI n17), (vI n18)])] = some (g19, az20) ∧ C g19 az20 H16 (fun r22 H21 =>
    r_b r22 <| fun b23 =>
    bcase (!b23) (ld_Aii H21 (some ⟨b14, 0, none⟩) fun n24 n25 =>
    ix sl0 sl0n n6 fun b26 o27 =>
    st H21 2 (some ⟨b26, o27 + Int.toNat n6 * 2, none⟩) (.agg #[(vI n24), (vI n25)]) fun H28 =>
    kp [(.slice sl0 sl0n sl0c), v1] (X5 [(vI (IntKind.wrap .i64 (n6 + 1))), (vI (IntKind.wrap .i64 (n7 + 1)))] H28)) (kp [(.slice sl0 sl0n sl0c), v1] (X5 [(vI n6), (vI (IntKind.wrap .i64 (n7 + 1)))] H21)))) (slK H8 2 sl0 sl0n sl0c (some (vI n6)) none fun sl29 sl29n sl29c =>
    ∃ H30 : AH, clearA H8 [(vI 0), (vI 0)] (.slice sl29 sl29n sl29c) = some H30 ∧ slK H30 2 sl0 sl0n sl0c none (some (vI n6)) fun sl31 sl31n sl31c =>
    Q (.slice sl31 sl31n sl31c) H30)) → X5 [(vI n6), (vI n7)] H8) → X5 [(vI n4), (vI (IntKind.wrap .i64 (n4 + 1)))] H2))
theorem nf_F_slices_DeleteFunc__chunk_Backchunk_Back (C : WT) (sl0 : Option Addr) (sl0n sl0c : Nat) (v1 : Value) (H : AH) (Q : Value → AH → Prop) : wpF Tryz.prog C ann_F_slices_DeleteFunc__chunk_Backchunk_Back F_slices_DeleteFunc__chunk_Backchunk_Back [(.slice sl0 sl0n sl0c), v1] H Q = vc_F_slices_DeleteFunc__chunk_Backchunk_Back C sl0 sl0n sl0c v1 H Q := by kernel_rfl
def ann_F_chunk_Budget_ripe_1 : Ann := [(3, ⟨[], [], [1, 3]⟩)]
def vc_F_chunk_Budget_ripe_1 (C : WT) (n0 : Int) (n1 : Int) (p2 : Option Addr) (p3 : Option Addr) (H : AH) (Q : Value → AH → Prop) : Prop :=
    nw H (.cells [(vI n0), (vI n1)] false 0) fun b4 H5 =>
    ∀ X6 : List Value → AH → Prop, (∀ H12 : AH, (∀ F13 : TF, ld_i H12 (some ⟨b4, 0 + 0, none⟩) fun n14 =>
    ld_i H12 p2 fun n15 =>
    Q (.bool (decide (n14 ≤ n15))) H12) → X6 [] H12) → ld_i H5 (some ⟨b4, 0 + 0, none⟩) fun n7 =>
    ld_i H5 p2 fun n8 =>
    bcase (decide (n7 ≤ n8)) (ld_i H5 p3 fun n9 =>
    ld_i H5 (some ⟨b4, 0 + 1, none⟩) fun n10 =>
    st H5 1 p3 (vI (IntKind.wrap .i64 (n9 + n10))) fun H11 =>
    kp [(.pointer p2), (.pointer (some ⟨b4, 0, none⟩))] (X6 [] H11)) (kp [(.pointer p2), (.pointer (some ⟨b4, 0, none⟩))] (X6 [] H5))
theorem nf_F_chunk_Budget_ripe_1 (C : WT) (n0 : Int) (n1 : Int) (p2 : Option Addr) (p3 : Option Addr) (H : AH) (Q : Value → AH → Prop) : wpF Tryz.prog C ann_F_chunk_Budget_ripe_1 F_chunk_Budget_ripe_1 [(.agg #[(vI n0), (vI n1)]), (.pointer p2), (.pointer p3)] H Q = vc_F_chunk_Budget_ripe_1 C n0 n1 p2 p3 H Q := by kernel_rfl
def ann_F_slices_IndexFunc__chunk_Backchunk_Back : Ann := [(26, ⟨[8], [(vI 0)], [0, 1, 7]⟩)]
def vc_F_slices_IndexFunc__chunk_Backchunk_Back (C : WT) (sl0 : Option Addr) (sl0n sl0c : Nat) (v1 : Value) (H : AH) (Q : Value → AH → Prop) : Prop :=
    ∀ X2 : List Value → AH → Prop, (∀ n3 : Int, ∀ H4 : AH, (∀ F5 : TF, bcase (decide (n3 < (↑(sl0n : Nat) : Int))) (ix sl0 sl0n n3 fun b6 o7 =>
    ld_Aii H4 (some ⟨b6, o7 + Int.toNat n3 * 2, none⟩) fun n8 n9 =>
    ∃ (g10 : Nat) (az11 : List Value), fnV v1 [(.agg #[(vI n8), (vI n9)])] = some (g10, az11) ∧ C g10 az11 H4 (fun r13 H12 =>
    r_b r13 <| fun b14 =>
    bcase b14 (Q (vI n3) H12) (kp [(.slice sl0 sl0n sl0c), v1, (vI (↑(sl0n : Nat) : Int))] (X2 [(vI (IntKind.wrap .i64 (n3 + 1)))] H12)))) (Q (vI (-1)) H4)) → X2 [(vI n3)] H4) → X2 [(vI 0)] H
theorem nf_F_slices_IndexFunc__chunk_Backchunk_Back (C : WT) (sl0 : Option Addr) (sl0n sl0c : Nat) (v1 : Value) (H : AH) (Q : Value → AH → Prop) : wpF Tryz.prog C ann_F_slices_IndexFunc__chunk_Backchunk_Back F_slices_IndexFunc__chunk_Backchunk_Back [(.slice sl0 sl0n sl0c), v1] H Q = vc_F_slices_IndexFunc__chunk_Backchunk_Back C sl0 sl0n sl0c v1 H Q := by kernel_rfl
end Go.Ez
