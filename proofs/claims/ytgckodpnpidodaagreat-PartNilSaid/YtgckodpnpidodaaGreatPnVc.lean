import Derived.Test.YtgckodpnpidodaaGreatEzLem
import Derived.Test.YtgckodpnpidodaaGreatProg
import Derived.KernelRfl
set_option linter.all false
set_option linter.unusedVariables false
namespace Go.Ez
open Go.Proofs
abbrev F_gosem_cut_init : FuncId := 2
abbrev F_parcloselaw20_PartModes : FuncId := 3
abbrev F_parcloselaw20_PartNil : FuncId := 4
abbrev F_part_New : FuncId := 5
abbrev F_parcloselaw03_Part : FuncId := 6
abbrev F_parcloselaw20_few : FuncId := 7
abbrev F_parcloselaw20_light : FuncId := 8
abbrev F_parcloselaw20_knows : FuncId := 9
abbrev F_part_Part_Begin : FuncId := 10
abbrev F_part_Part_Run : FuncId := 11
abbrev F_part_Part_Arrive : FuncId := 12
abbrev F_parcloselaw19_Job : FuncId := 13
abbrev F_part_Part_Request : FuncId := 14
abbrev F_part_Part_Stop : FuncId := 15
abbrev F_part_Part_Restart : FuncId := 16
abbrev F_part_Part_Jobs : FuncId := 17
abbrev F_part_Part_High : FuncId := 18
abbrev F_part_Part_Pick : FuncId := 19
abbrev F_part_Part_Up : FuncId := 20
abbrev F_part_Part_Queue : FuncId := 21
abbrev F_parcloselaw20_num : FuncId := 22
abbrev F_conf_Part_Rights : FuncId := 23
abbrev F_tasks_New : FuncId := 24
abbrev F_police_New : FuncId := 25
abbrev F_part_rows : FuncId := 26
abbrev F_slices_Concat__part_Eventpart_Event : FuncId := 27
abbrev F_part_of : FuncId := 28
abbrev F_tasks_Table_Missed : FuncId := 29
abbrev F_part_Part_settle : FuncId := 30
abbrev F_ring_Ring_int_Len : FuncId := 31
abbrev F_part_Part_work : FuncId := 32
abbrev F_part_row_serve : FuncId := 33
abbrev F_part_Part_none : FuncId := 34
abbrev F_police_Police_May : FuncId := 35
abbrev F_tasks_Table_Put : FuncId := 36
abbrev F_police_Police_Take : FuncId := 37
abbrev F_ring_Ring_int_Push : FuncId := 38
abbrev F_tasks_Table_Clear : FuncId := 39
abbrev F_police_Police_Drop : FuncId := 40
abbrev F_part_row_empty : FuncId := 41
abbrev F_tasks_Table_Get : FuncId := 42
abbrev F_tasks_Table_High : FuncId := 43
abbrev F_tasks_Table_First : FuncId := 44
abbrev F_conf_all_conf_Task : FuncId := 45
abbrev F_conf_all_conf_Server : FuncId := 46
abbrev F_slices_Max__uint8uint8 : FuncId := 47
abbrev F_slices_ContainsFunc__conf_Taskconf_Task : FuncId := 48
abbrev F_tasks_New_1 : FuncId := 49
abbrev F_conf_Task_Right : FuncId := 50
abbrev F_heap_New : FuncId := 51
abbrev F_police_New_1 : FuncId := 52
abbrev F_ring_New_int : FuncId := 53
abbrev F_refill_New : FuncId := 54
abbrev F_chunk_New : FuncId := 55
abbrev F_slices_Grow__part_Eventpart_Event : FuncId := 56
abbrev F_tasks_Table_none : FuncId := 57
abbrev F_tasks_Table_each : FuncId := 58
abbrev F_tasks_Table_Missed_1 : FuncId := 59
abbrev F_tasks_Table_Fall : FuncId := 60
abbrev F_tasks_Table_Run : FuncId := 61
abbrev F_part_Part_rise : FuncId := 62
abbrev F_ring_Ring_int_At : FuncId := 63
abbrev F_ring_Ring_int_Set : FuncId := 64
abbrev F_ring_Ring_int_Pop : FuncId := 65
abbrev F_police_Police_task : FuncId := 66
abbrev F_police_Police_Dropped : FuncId := 67
abbrev F_police_known_soon : FuncId := 68
abbrev F_tasks_Table_slot : FuncId := 69
abbrev F_tasks_Job_right : FuncId := 70
abbrev F_slices_Clone__tasks_Optasks_Op : FuncId := 71
abbrev F_heap_Heap_Put : FuncId := 72
abbrev F_tasks_slot_due : FuncId := 73
abbrev F_ring_Ring_int_none : FuncId := 74
abbrev F_ring_Ring_int_place : FuncId := 75
abbrev F_tasks_Table_Clear_1 : FuncId := 76
abbrev F_ring_Ring_int_Clear : FuncId := 77
abbrev F_tasks_Table_busy : FuncId := 78
abbrev F_heap_Heap_First : FuncId := 79
abbrev F_conf_all_conf_Task_1 : FuncId := 80
abbrev F_slices_ContainsFunc__conf_Serverconf_Server : FuncId := 81
abbrev F_conf_all_conf_Server_1 : FuncId := 82
abbrev F_slices_IndexFunc__conf_Taskconf_Task : FuncId := 83
abbrev F_conf_rise : FuncId := 84
abbrev F_conf_Server_Right : FuncId := 85
abbrev F_tasks_Table_gone : FuncId := 86
abbrev F_tasks_Table_Len : FuncId := 87
abbrev F_tasks_Job_op : FuncId := 88
abbrev F_tasks_slot_budget : FuncId := 89
abbrev F_tasks_Table_Rise : FuncId := 90
abbrev F_ring_Ring_int_is : FuncId := 91
abbrev F_heap_Heap_in : FuncId := 92
abbrev F_heap_lists_set : FuncId := 93
abbrev F_heap_lists_up : FuncId := 94
abbrev F_heap_Heap_none : FuncId := 95
abbrev F_slices_IndexFunc__conf_Serverconf_Server : FuncId := 96
abbrev F_slices_IsSorted__intint : FuncId := 97
abbrev F_heap_Heap_Remove : FuncId := 98
abbrev F_heap_Heap_Len : FuncId := 99
abbrev F_tasks_Table_Rise_1 : FuncId := 100
abbrev F_heap_Heap_Change : FuncId := 101
abbrev F_heap_lists_less : FuncId := 102
abbrev F_heap_lists_swap : FuncId := 103
abbrev F_cmp_Less_int : FuncId := 104
abbrev F_heap_lists_down : FuncId := 105
abbrev F_heap_lists_order : FuncId := 106
abbrev F_cmp_isNaN_int : FuncId := 107
abbrev F_heap_lists_down_1 : FuncId := 108
abbrev F_cmp_Or_int : FuncId := 109
abbrev F_cmp_Compare_int : FuncId := 110
abbrev F_heap_Heap_Due : FuncId := 126
abbrev F_refill_Budget_Done : FuncId := 127
abbrev F_refill_Budget_Due : FuncId := 128
abbrev F_refill_Budget_Go : FuncId := 129
abbrev F_refill_Budget_Reset : FuncId := 130
abbrev F_refill_Budget_Resume : FuncId := 131
abbrev F_refill_Budget_Stop : FuncId := 132
abbrev F_refill_Budget_Use : FuncId := 133
abbrev F_refill_Budget_none : FuncId := 134
abbrev F_refill_live_left : FuncId := 135
abbrev F_refill_Budget_period : FuncId := 136
abbrev F_refill_live_take : FuncId := 137
abbrev F_num_Floor : FuncId := 138
abbrev F_num_btoi : FuncId := 139
abbrev F_chunk_Budget_Done : FuncId := 140
abbrev F_chunk_Budget_Due : FuncId := 141
abbrev F_chunk_Budget_Go : FuncId := 142
abbrev F_chunk_Budget_Reset : FuncId := 143
abbrev F_chunk_Budget_Resume : FuncId := 144
abbrev F_chunk_Budget_Stop : FuncId := 145
abbrev F_chunk_Budget_Use : FuncId := 146
abbrev F_chunk_Budget_none : FuncId := 147
abbrev F_chunk_live_shut : FuncId := 148
abbrev F_chunk_Budget_owe : FuncId := 149
abbrev F_chunk_live_first : FuncId := 150
abbrev F_chunk_Budget_ripe : FuncId := 151
abbrev F_slices_DeleteFunc__chunk_Backchunk_Back : FuncId := 152
abbrev F_chunk_Budget_ripe_1 : FuncId := 153
abbrev F_slices_IndexFunc__chunk_Backchunk_Back : FuncId := 154
abbrev T_ : TypeId := 0
abbrev T_func : TypeId := 1
abbrev T_int64 : TypeId := 2
abbrev T_int : TypeId := 3
abbrev T_bool : TypeId := 4
abbrev T_uint8 : TypeId := 5
abbrev T_abi_BoundsErrorCode : TypeId := 6
abbrev T_long : TypeId := 7
abbrev T_runtime_boundsError : TypeId := 8
abbrev T_string : TypeId := 9
abbrev T_runtime_errorString : TypeId := 10
abbrev T_runtime_plainError : TypeId := 11
abbrev T_uintptr : TypeId := 12
abbrev T_structmsgstringaddruintptr : TypeId := 13
abbrev T_runtime_errorAddressString : TypeId := 14
abbrev T_Pruntime_TypeAssertionError : TypeId := 15
abbrev T_Pruntime_PanicNilError : TypeId := 16
abbrev T_Pabi_Type : TypeId := 17
abbrev T_structtypPabi_Type : TypeId := 18
abbrev T_maps_unhashableTypeError : TypeId := 19
abbrev T_interface : TypeId := 20
abbrev T_int32 : TypeId := 21
abbrev T_Aparcloseref03_Task : TypeId := 22
abbrev T_Aparcloseref03_Server : TypeId := 23
abbrev T_Aint : TypeId := 24
abbrev T_A3uint8 : TypeId := 25
abbrev T_long_2 : TypeId := 26
abbrev T_parcloseref03_Part : TypeId := 27
abbrev T_Aparcloselaw20_Act : TypeId := 28
abbrev T_Ppart_Part : TypeId := 29
abbrev T_funcconf_PartintPpart_Part : TypeId := 30
abbrev T_Aconf_Task : TypeId := 31
abbrev T_Aconf_Server : TypeId := 32
abbrev T_long_3 : TypeId := 33
abbrev T_conf_Part : TypeId := 34
abbrev T_funcparcloseref03_Partconf_Part : TypeId := 35
abbrev T_funcparcloseref03_Partbool : TypeId := 36
abbrev T_funcAparcloselaw20_Actbool : TypeId := 37
abbrev T_funcbool : TypeId := 38
abbrev T_Aparcloseref19_Op : TypeId := 39
abbrev T_long_4 : TypeId := 40
abbrev T_parcloseref19_Job : TypeId := 41
abbrev T_structKindintSintNintJparcloseref19_Job : TypeId := 42
abbrev T_parcloselaw20_Act : TypeId := 43
abbrev T_Apart_Event : TypeId := 44
abbrev T_funcintApart_Event : TypeId := 45
abbrev T_structServerboolNint : TypeId := 46
abbrev T_part_What : TypeId := 47
abbrev T_structKindintAintBint : TypeId := 48
abbrev T_tasks_Op : TypeId := 49
abbrev T_part_Whattasks_OpApart_Event : TypeId := 50
abbrev T_funcpart_Whattasks_OpApart_Event : TypeId := 51
abbrev T_api_Errno : TypeId := 52
abbrev T_funcinttasks_Jobapi_Errno : TypeId := 53
abbrev T_Atasks_Op : TypeId := 54
abbrev T_long_5 : TypeId := 55
abbrev T_tasks_Job : TypeId := 56
abbrev T_funcparcloseref19_Jobtasks_Job : TypeId := 57
abbrev T_funcintintapi_Errno : TypeId := 58
abbrev T_Atasks_Job : TypeId := 59
abbrev T_funcAtasks_Job : TypeId := 60
abbrev T_structHiboolTintDintVintLointTopint : TypeId := 61
abbrev T_parcloseref03_Task : TypeId := 62
abbrev T_part_Whatbool : TypeId := 63
abbrev T_funcpart_Whatbool : TypeId := 64
abbrev T_funcintint : TypeId := 65
abbrev T_funcparcloseref03_PartAparcloselaw20_Actbool : TypeId := 66
abbrev T_funcapi_Errnoint : TypeId := 67
abbrev T_Ptasks_Table : TypeId := 68
abbrev T_Ppolice_Police : TypeId := 69
abbrev T_APpart_row : TypeId := 70
abbrev T_long_6 : TypeId := 71
abbrev T_part_Part : TypeId := 72
abbrev T_funcparcloselaw20_Actbool : TypeId := 73
abbrev T_funcapi_Errno : TypeId := 74
abbrev T_func___conf_TaskPtasks_Table : TypeId := 75
abbrev T_func___conf_TaskPpolice_Police : TypeId := 76
abbrev T_funcint___conf_ServerAPpart_row : TypeId := 77
abbrev T_conf_Task : TypeId := 78
abbrev T_structRefillboolCintTint : TypeId := 79
abbrev T_conf_Server : TypeId := 80
abbrev T_parcloseref03_Server : TypeId := 81
abbrev T_part_Event : TypeId := 82
abbrev T_func___Apart_EventApart_Event : TypeId := 83
abbrev T_funcint___intApart_Event : TypeId := 84
abbrev T_funcintAint : TypeId := 85
abbrev T_funcApart_Event : TypeId := 86
abbrev T_Ppart_row : TypeId := 87
abbrev T_funcintbool : TypeId := 88
abbrev T_long_7 : TypeId := 89
abbrev T_part_budget : TypeId := 90
abbrev T_Pring_RingAint : TypeId := 91
abbrev T_structpart_budgetleftPring_RingAintfirstint : TypeId := 92
abbrev T_part_row : TypeId := 93
abbrev T_funcint : TypeId := 94
abbrev T_tasks_OpApart_Event : TypeId := 95
abbrev T_funcinttasks_OpApart_Event : TypeId := 96
abbrev T_functasks_Jobapi_Errno : TypeId := 97
abbrev T_parcloseref19_Op : TypeId := 98
abbrev T_funcintbool_2 : TypeId := 99
abbrev T_funcbool_2 : TypeId := 100
abbrev T_tasks_Jobbool : TypeId := 101
abbrev T_funcinttasks_Jobbool : TypeId := 102
abbrev T_intintbool : TypeId := 103
abbrev T_funcintintbool : TypeId := 104
abbrev T_intbool : TypeId := 105
abbrev T_funcintbool_3 : TypeId := 106
abbrev T_funcAconf_Taskintbool : TypeId := 107
abbrev T_funcAconf_Serverintbool : TypeId := 108
abbrev T_funcAuint8uint8 : TypeId := 109
abbrev T_Auint8 : TypeId := 110
abbrev T_funcAconf_Taskfuncconf_Taskboolbool : TypeId := 111
abbrev T_funcconf_Taskbool : TypeId := 112
abbrev T_Pheap_Heap : TypeId := 113
abbrev T_funcintPheap_Heap : TypeId := 114
abbrev T_Atasks_slot : TypeId := 115
abbrev T_structslotsAtasks_slotorderPheap_Heaphighbool : TypeId := 116
abbrev T_tasks_Table : TypeId := 117
abbrev T_Ptasks_Job : TypeId := 118
abbrev T_structconf_TaskPtasks_Job : TypeId := 119
abbrev T_tasks_slot : TypeId := 120
abbrev T_Apolice_known : TypeId := 121
abbrev T_structtasksApolice_knownhighbool : TypeId := 122
abbrev T_police_Police : TypeId := 123
abbrev T_structconf_Tasklastintwasbool : TypeId := 124
abbrev T_police_known : TypeId := 125
abbrev T_funcintPring_RingAint : TypeId := 126
abbrev T_Prefill_Budget : TypeId := 127
abbrev T_funcconf_ServerintPrefill_Budget : TypeId := 128
abbrev T_Pchunk_Budget : TypeId := 129
abbrev T_funcconf_ServerPchunk_Budget : TypeId := 130
abbrev T_AApart_Event : TypeId := 131
abbrev T_funcApart_EventintApart_Event : TypeId := 132
abbrev T_funcfuncPtasks_slotboolAint : TypeId := 133
abbrev T_Ptasks_slot : TypeId := 134
abbrev T_funcPtasks_slotbool : TypeId := 135
abbrev T_structlAintfirstintnint : TypeId := 136
abbrev T_ring_RingAint : TypeId := 137
abbrev T_tasks_Opint : TypeId := 138
abbrev T_funcinttasks_Opint : TypeId := 139
abbrev T_funcintintbool_2 : TypeId := 140
abbrev T_funcintintbool_3 : TypeId := 141
abbrev T_Ppolice_known : TypeId := 142
abbrev T_funcintPpolice_known : TypeId := 143
abbrev T_funcintPtasks_slot : TypeId := 144
abbrev T_funcAtasks_OpAtasks_Op : TypeId := 145
abbrev T_funcboolint : TypeId := 146
abbrev T_funcAconf_Serverfuncconf_Serverboolbool : TypeId := 147
abbrev T_funcconf_Serverbool : TypeId := 148
abbrev T_funcAconf_Taskfuncconf_Taskboolint : TypeId := 149
abbrev T_func___intbool : TypeId := 150
abbrev T_structatAintplaceAintdueAint : TypeId := 151
abbrev T_heap_lists : TypeId := 152
abbrev T_structheap_listsmadebool : TypeId := 153
abbrev T_heap_Heap : TypeId := 154
abbrev T_Arefill_Chunk : TypeId := 155
abbrev T_structlArefill_Chunk : TypeId := 156
abbrev T_refill_live : TypeId := 157
abbrev T_long_8 : TypeId := 158
abbrev T_refill_Budget : TypeId := 159
abbrev T_Achunk_Chunk : TypeId := 160
abbrev T_structlAchunk_Chunk : TypeId := 161
abbrev T_chunk_live : TypeId := 162
abbrev T_Achunk_Back : TypeId := 163
abbrev T_long_9 : TypeId := 164
abbrev T_chunk_Budget : TypeId := 165
abbrev T_funcint_2 : TypeId := 166
abbrev T_functasks_Op : TypeId := 167
abbrev T_funcAint : TypeId := 168
abbrev T_boolapi_Errno : TypeId := 169
abbrev T_funcintboolapi_Errno : TypeId := 170
abbrev T_funcintint_2 : TypeId := 171
abbrev T_funcAconf_Serverfuncconf_Serverboolint : TypeId := 172
abbrev T_funcAintbool : TypeId := 173
abbrev T_Pheap_lists : TypeId := 174
abbrev T_funcintintint : TypeId := 175
abbrev T_func___intint : TypeId := 176
abbrev T_funcstring : TypeId := 177
abbrev T_long_10 : TypeId := 178
abbrev T_runtime_TypeAssertionError : TypeId := 179
abbrev T_A0Pruntime_PanicNilError : TypeId := 180
abbrev T_structA0Pruntime_PanicNilError : TypeId := 181
abbrev T_runtime_PanicNilError : TypeId := 182
abbrev T_uint32 : TypeId := 183
abbrev T_abi_TFlag : TypeId := 184
abbrev T_abi_Kind : TypeId := 185
abbrev T_funcunsafe_Pointerunsafe_Pointerbool : TypeId := 186
abbrev T_Puint8 : TypeId := 187
abbrev T_abi_NameOff : TypeId := 188
abbrev T_abi_TypeOff : TypeId := 189
abbrev T_long_11 : TypeId := 190
abbrev T_abi_Type : TypeId := 191
abbrev T_structAtintLeftint : TypeId := 192
abbrev T_refill_Chunk : TypeId := 193
abbrev T_Prefill_live : TypeId := 194
abbrev T_funcAchunk_Chunk : TypeId := 195
abbrev T_structAtintLeftintUsedint : TypeId := 196
abbrev T_chunk_Chunk : TypeId := 197
abbrev T_funcchunk_Chunk : TypeId := 198
abbrev T_Pchunk_Chunk : TypeId := 199
abbrev T_funcPchunk_Chunk : TypeId := 200
abbrev T_Pchunk_live : TypeId := 201
abbrev T_structAtintNint : TypeId := 202
abbrev T_chunk_Back : TypeId := 203
abbrev T_funcAchunk_Backfuncchunk_BackboolAchunk_Back : TypeId := 204
abbrev T_funcchunk_Backbool : TypeId := 205
abbrev T_funcAchunk_Backfuncchunk_Backboolint : TypeId := 206
abbrev T_unsafe_Pointer : TypeId := 207
set_option maxRecDepth 100000
def ann_F_parcloselaw20_PartNil : Ann := [(5, ⟨[3, 4], [(.pointer none), (.int .i64 0)], [1]⟩)]
def vc_F_parcloselaw20_PartNil (C : WT) (n0 : Int) (n1 : Int) (n2 : Int) (n3 : Int) (n4 : Int) (n5 : Int) (n6 : Int) (sl7 : Option Addr) (sl7n sl7c : Nat) (H : AH) (Q : Value → AH → Prop) : Prop :=
    ∀ (b8 : Nat) (H9 : AH), b8 = AH.next H → H9 = AH.alloc H (.cells [(.int .i64 n0), (.int .i64 n1), (.int .i64 n2), (.int .i64 n3), (.int .i64 n4), (.int .i64 n5), (.int .i64 n6), (.slice sl7 sl7n sl7c)] false 0) → ∃ n10 : Int, ∃ n11 : Int, ∃ n12 : Int, ∃ n13 : Int, ∃ n14 : Int, ∃ n15 : Int, ∃ n16 : Int, ∃ (sl17 : Option Addr) (sl17n sl17c : Nat), ldN H9 8 (.pointer (some ⟨b8, 0, none⟩)) = some (.agg #[(.int .i64 n10), (.int .i64 n11), (.int .i64 n12), (.int .i64 n13), (.int .i64 n14), (.int .i64 n15), (.int .i64 n16), (.slice sl17 sl17n sl17c)]) ∧
    ∀ (b18 : Nat) (H19 : AH), b18 = AH.next H9 → H19 = AH.alloc H9 (.cells [(.int .i64 n10), (.int .i64 n11), (.int .i64 n12), (.int .i64 n13), (.int .i64 n14), (.int .i64 n15), (.int .i64 n16), (.slice sl17 sl17n sl17c)] false 0) → C F_parcloselaw20_light [(.slice (some ⟨b18, 0, none⟩) 1 1)] H19 (fun r21 H20 => ∃ b22 : Bool, r21 = (.bool b22) ∧
    bcase (!b22) (C F_parcloselaw20_knows [] H20 (fun r24 H23 => ∃ b25 : Bool, r24 = (.bool b25) ∧
    Q (.bool b25) H23)) (∀ X26 : List Value → AH → Prop, (∀ p27 : Option Addr, ∀ n28 : Int, ∀ H29 : AH, (∀ F30 : TF, bcase (decide (n28 < 2)) (C F_part_Part_Stop [(.pointer p27)] H29 (fun r32 H31 => r32 = (.tuple #[]) ∧
    C F_part_Part_Restart [(.pointer p27)] H31 (fun r34 H33 => r34 = (.tuple #[]) ∧
    C F_part_Part_Pick [(.pointer p27)] H33 (fun r36 H35 => ∃ b37 : Bool, ∃ n38 : Int, ∃ b39 : Bool, r36 = (.tuple #[(.agg #[(.bool b37), (.int .i64 n38)]), (.bool b39)]) ∧
    ∀ (b40 : Nat) (H41 : AH), b40 = AH.next H35 → H41 = AH.alloc H35 (.cells [(.bool false), (.int .i64 0)] false 0) → ∃ H42 : AH, stV H41 2 (.pointer (some ⟨b40, 0, none⟩)) (.agg #[(.bool b37), (.int .i64 n38)]) = some H42 ∧
    C F_part_Part_Run [(.pointer p27)] H42 (fun r44 H43 => ∃ b45 : Bool, ∃ n46 : Int, ∃ n47 : Int, ∃ n48 : Int, ∃ n49 : Int, ∃ (sl50 : Option Addr) (sl50n sl50c : Nat), r44 = (.tuple #[(.agg #[(.bool b45), (.int .i64 n46)]), (.agg #[(.int .i64 n47), (.int .i64 n48), (.int .i64 n49)]), (.slice sl50 sl50n sl50c)]) ∧
    ∀ (b51 : Nat) (H52 : AH), b51 = AH.next H43 → H52 = AH.alloc H43 (.cells [(.bool false), (.int .i64 0)] false 0) → ∀ (b53 : Nat) (H54 : AH), b53 = AH.next H52 → H54 = AH.alloc H52 (.cells [(.int .i64 0), (.int .i64 0), (.int .i64 0)] false 0) → ∃ H55 : AH, stV H54 2 (.pointer (some ⟨b51, 0, none⟩)) (.agg #[(.bool b45), (.int .i64 n46)]) = some H55 ∧
    ∃ H56 : AH, stV H55 3 (.pointer (some ⟨b53, 0, none⟩)) (.agg #[(.int .i64 n47), (.int .i64 n48), (.int .i64 n49)]) = some H56 ∧
    ∃ n57 : Int, ∃ n58 : Int, ∃ n59 : Int, ∃ n60 : Int, ∃ (sl61 : Option Addr) (sl61n sl61c : Nat), ldN H56 5 (.pointer (some ⟨b8, 0 + 3, none⟩)) = some (.agg #[(.int .i64 n57), (.int .i64 n58), (.int .i64 n59), (.int .i64 n60), (.slice sl61 sl61n sl61c)]) ∧
    C F_parcloselaw19_Job [(.agg #[(.int .i64 n57), (.int .i64 n58), (.int .i64 n59), (.int .i64 n60), (.slice sl61 sl61n sl61c)])] H56 (fun r63 H62 => ∃ n64 : Int, ∃ n65 : Int, ∃ n66 : Int, ∃ n67 : Int, ∃ (sl68 : Option Addr) (sl68n sl68c : Nat), r63 = (.agg #[(.int .i64 n64), (.int .i64 n65), (.int .i64 n66), (.int .i64 n67), (.slice sl68 sl68n sl68c)]) ∧
    C F_part_Part_Arrive [(.pointer p27), (.int .i64 5), (.agg #[(.int .i64 n64), (.int .i64 n65), (.int .i64 n66), (.int .i64 n67), (.slice sl68 sl68n sl68c)])] H62 (fun r70 H69 => ∃ n71 : Int, r70 = (.int .i64 n71) ∧
    C F_parcloselaw20_num [(.int .i64 n71)] H69 (fun r73 H72 => ∃ n74 : Int, r73 = (.int .i64 n74) ∧
    bcase (n74 != 1) (Q (.bool false) H72) (∃ n75 : Int, ld1 H72 (.pointer (some ⟨b8, 0 + 1, none⟩)) = some (.int .i64 n75) ∧
    ∃ n76 : Int, ld1 H72 (.pointer (some ⟨b8, 0 + 2, none⟩)) = some (.int .i64 n76) ∧
    C F_part_Part_Request [(.pointer p27), (.int .i64 n75), (.int .i64 n76)] H72 (fun r78 H77 => ∃ n79 : Int, r78 = (.int .i64 n79) ∧
    C F_parcloselaw20_num [(.int .i64 n79)] H77 (fun r81 H80 => ∃ n82 : Int, r81 = (.int .i64 n82) ∧
    bcase (n82 != 1) (Q (.bool false) H80) (C F_part_Part_Begin [(.pointer p27), (.int .i64 5)] H80 (fun r84 H83 => ∃ (sl85 : Option Addr) (sl85n sl85c : Nat), r84 = (.slice sl85 sl85n sl85c) ∧
    C F_part_Part_Jobs [(.pointer p27)] H83 (fun r87 H86 => ∃ (sl88 : Option Addr) (sl88n sl88c : Nat), r87 = (.slice sl88 sl88n sl88c) ∧
    ∃ n89 : Int, ld1 H86 (.pointer (some ⟨b8, 0 + 1, none⟩)) = some (.int .i64 n89) ∧
    Again H83 (.ld1 (.pointer (some ⟨b8, 0 + 1, none⟩))) (.int .i64 n89) ∧
    Again H80 (.ld1 (.pointer (some ⟨b8, 0 + 1, none⟩))) (.int .i64 n89) ∧
    C F_part_Part_Queue [(.pointer p27), (.int .i64 n89)] H86 (fun r91 H90 => ∃ n92 : Int, r91 = (.int .i64 n92) ∧
    bcase ((IntKind.wrap .i64 ((IntKind.wrap .i64 ((IntKind.wrap .i64 ((↑(sl85n : Nat) : Int) + (↑(sl50n : Nat) : Int))) + (↑(sl88n : Nat) : Int))) + n92)) != 0) (Q (.bool false) H90) (bcase b39 (Q (.bool false) H90) (∃ b93 : Bool, ∃ n94 : Int, ldN H90 2 (.pointer (some ⟨b40, 0, none⟩)) = some (.agg #[(.bool b93), (.int .i64 n94)]) ∧
    ∃ b95 : Bool, ∃ n96 : Int, ldN H90 2 (.pointer (some ⟨b51, 0, none⟩)) = some (.agg #[(.bool b95), (.int .i64 n96)]) ∧
    ∃ b97 : Bool, eqSV Tryz.prog .neq T_part_What (.agg #[(.bool b93), (.int .i64 n94)]) (.agg #[(.bool b95), (.int .i64 n96)]) = some (.bool b97) ∧
    bcase b97 (Q (.bool false) H90) (∃ n98 : Int, ∃ n99 : Int, ∃ n100 : Int, ldN H90 3 (.pointer (some ⟨b53, 0, none⟩)) = some (.agg #[(.int .i64 n98), (.int .i64 n99), (.int .i64 n100)]) ∧
    ∃ b101 : Bool, eqSV Tryz.prog .neq T_tasks_Op (.agg #[(.int .i64 n98), (.int .i64 n99), (.int .i64 n100)]) (.agg #[(.int .i64 0), (.int .i64 0), (.int .i64 0)]) = some (.bool b101) ∧
    bcase b101 (Q (.bool false) H90) (C F_part_Part_Up [(.pointer p27)] H90 (fun r103 H102 => ∃ b104 : Bool, r103 = (.bool b104) ∧
    bcase b104 (Q (.bool false) H102) (C F_part_Part_High [(.pointer p27)] H102 (fun r106 H105 => ∃ b107 : Bool, r106 = (.bool b107) ∧
    bcase b107 (Q (.bool false) H105) (∀ (b108 : Nat) (H109 : AH), b108 = AH.next H105 → H109 = AH.alloc H105 (.cells [(.pointer none), (.pointer none), (.slice none 0 0), (.bool false)] false 0) → ([(.pointer (some ⟨b8, 0, none⟩))] : List Value) = [(.pointer (some ⟨b8, 0, none⟩))] ∧
    X26 [(.pointer (some ⟨b108, 0, none⟩)), (.int .i64 (IntKind.wrap .i64 (n28 + 1)))] H109))))))))))))))))))))))) (C F_parcloselaw20_knows [] H29 (fun r111 H110 => ∃ b112 : Bool, r111 = (.bool b112) ∧
    Q (.bool b112) H110))) → X26 [(.pointer p27), (.int .i64 n28)] H29) → X26 [(.pointer none), (.int .i64 0)] H20))
theorem nf_F_parcloselaw20_PartNil (C : WT) (n0 : Int) (n1 : Int) (n2 : Int) (n3 : Int) (n4 : Int) (n5 : Int) (n6 : Int) (sl7 : Option Addr) (sl7n sl7c : Nat) (H : AH) (Q : Value → AH → Prop) : wpF Tryz.prog C ann_F_parcloselaw20_PartNil F_parcloselaw20_PartNil [(.agg #[(.int .i64 n0), (.int .i64 n1), (.int .i64 n2), (.int .i64 n3), (.int .i64 n4), (.int .i64 n5), (.int .i64 n6), (.slice sl7 sl7n sl7c)])] H Q = vc_F_parcloselaw20_PartNil C n0 n1 n2 n3 n4 n5 n6 sl7 sl7n sl7c H Q := by kernel_rfl

set_option maxRecDepth 100000
def ann_F_parcloselaw20_light : Ann := [(2, ⟨[3], [(.int .i64 0)], [0]⟩)]
def vc_F_parcloselaw20_light (C : WT) (sl0 : Option Addr) (sl0n sl0c : Nat) (H : AH) (Q : Value → AH → Prop) : Prop :=
    ∀ X1 : List Value → AH → Prop, (∀ n2 : Int, ∀ H3 : AH, (∀ F4 : TF, bcase (decide (n2 < (↑(sl0n : Nat) : Int))) (bcase (decide (n2 < 150)) (∃ b5 o6 : Nat, (sl0 : Option Addr) = some ⟨b5, o6, none⟩ ∧
    (0 : Int) ≤ n2 ∧
    n2 < ((sl0n : Nat) : Int) ∧
    ∃ (sl7 : Option Addr) (sl7n sl7c : Nat), ld1 H3 (.pointer (some ⟨b5, o6 + Int.toNat n2 * 8 + 3 + 4, none⟩)) = some (.slice sl7 sl7n sl7c) ∧
    bcase (decide (70 < (↑(sl7n : Nat) : Int))) (Q (.bool false) H3) (([(.slice sl0 sl0n sl0c)] : List Value) = [(.slice sl0 sl0n sl0c)] ∧
    X1 [(.int .i64 (IntKind.wrap .i64 (n2 + 1)))] H3)) (Q (.bool (decide ((↑(sl0n : Nat) : Int) ≤ 150))) H3)) (Q (.bool (decide ((↑(sl0n : Nat) : Int) ≤ 150))) H3)) → X1 [(.int .i64 n2)] H3) → X1 [(.int .i64 0)] H
theorem nf_F_parcloselaw20_light (C : WT) (sl0 : Option Addr) (sl0n sl0c : Nat) (H : AH) (Q : Value → AH → Prop) : wpF Tryz.prog C ann_F_parcloselaw20_light F_parcloselaw20_light [(.slice sl0 sl0n sl0c)] H Q = vc_F_parcloselaw20_light C sl0 sl0n sl0c H Q := by kernel_rfl

set_option maxRecDepth 100000
def ann_F_part_Part_Begin : Ann := [(5, ⟨[27], [(.int .i64 0)], [1, 5, 25, 26]⟩)]
def vc_F_part_Part_Begin (C : WT) (p0 : Option Addr) (n1 : Int) (H : AH) (Q : Value → AH → Prop) : Prop :=
    C F_part_Part_Up [(.pointer p0)] H (fun r3 H2 => ∃ b4 : Bool, r3 = (.bool b4) ∧
    bcase (!b4) (Q (.slice none 0 0) H2) (∃ b5 o6 : Nat, (p0 : Option Addr) = some ⟨b5, o6, none⟩ ∧
    ∃ p7 : Option Addr, ld1 H2 (.pointer (some ⟨b5, o6 + 0, none⟩)) = some (.pointer p7) ∧
    C F_tasks_Table_Missed [(.pointer p7), (.int .i64 n1)] H2 (fun r9 H8 => ∃ (sl10 : Option Addr) (sl10n sl10c : Nat), r9 = (.slice sl10 sl10n sl10c) ∧
    C F_part_of [(.int .i64 2), (.slice sl10 sl10n sl10c)] H8 (fun r12 H11 => ∃ (sl13 : Option Addr) (sl13n sl13c : Nat), r12 = (.slice sl13 sl13n sl13c) ∧
    C F_part_Part_settle [(.pointer p0)] H11 (fun r15 H14 => ∃ (sl16 : Option Addr) (sl16n sl16c : Nat), r15 = (.slice sl16 sl16n sl16c) ∧
    ∀ (b17 : Nat) (H18 : AH), b17 = AH.next H14 → H18 = AH.alloc H14 (.cells [(.slice sl13 sl13n sl13c), (.slice sl16 sl16n sl16c)] false 0) → C F_slices_Concat__part_Eventpart_Event [(.slice (some ⟨b17, 0, none⟩) 2 2)] H18 (fun r20 H19 => ∃ (sl21 : Option Addr) (sl21n sl21c : Nat), r20 = (.slice sl21 sl21n sl21c) ∧
    ∃ b22 o23 : Nat, (p0 : Option Addr) = some ⟨b22, o23, none⟩ ∧
    ∃ (sl24 : Option Addr) (sl24n sl24c : Nat), ld1 H19 (.pointer (some ⟨b22, o23 + 2, none⟩)) = some (.slice sl24 sl24n sl24c) ∧
    ∀ X25 : List Value → AH → Prop, (∀ n26 : Int, ∀ H27 : AH, (∀ F28 : TF, bcase (decide (n26 < (↑(sl24n : Nat) : Int))) (∃ b29 o30 : Nat, (sl24 : Option Addr) = some ⟨b29, o30, none⟩ ∧
    (0 : Int) ≤ n26 ∧
    n26 < ((sl24n : Nat) : Int) ∧
    ∃ p31 : Option Addr, ld1 H27 (.pointer (some ⟨b29, o30 + Int.toNat n26 * 1, none⟩)) = some (.pointer p31) ∧
    ∃ b32 o33 : Nat, (p31 : Option Addr) = some ⟨b32, o33, none⟩ ∧
    ∃ v34 : Value, ld1 H27 (.pointer (some ⟨b32, o33 + 0, none⟩)) = some v34 ∧
    ∃ b35 o36 : Nat, (p31 : Option Addr) = some ⟨b35, o36, none⟩ ∧
    ∃ p37 : Option Addr, ld1 H27 (.pointer (some ⟨b35, o36 + 1, none⟩)) = some (.pointer p37) ∧
    C F_ring_Ring_int_Len [(.pointer p37)] H27 (fun r39 H38 => ∃ n40 : Int, r39 = (.int .i64 n40) ∧
    Again H38 (.ld1 (.pointer (some ⟨b32, o33 + 0, none⟩))) v34 ∧
    nilK v34 fun v41 => ∃ (g42 : Nat) (x43 : Value), invA Tryz.prog H38 v34 "Go" = some (g42, x43) ∧
    C g42 [x43, (.int .i64 n1), (.bool (decide (0 < n40)))] H38 (fun r45 H44 => r45 = (.tuple #[]) ∧
    ([(.int .i64 n1), (.slice sl21 sl21n sl21c), (.slice sl24 sl24n sl24c), (.int .i64 (↑(sl24n : Nat) : Int))] : List Value) = [(.int .i64 n1), (.slice sl21 sl21n sl21c), (.slice sl24 sl24n sl24c), (.int .i64 (↑(sl24n : Nat) : Int))] ∧
    X25 [(.int .i64 (IntKind.wrap .i64 (n26 + 1)))] H44))) (Q (.slice sl21 sl21n sl21c) H27)) → X25 [(.int .i64 n26)] H27) → X25 [(.int .i64 0)] H19))))))
theorem nf_F_part_Part_Begin (C : WT) (p0 : Option Addr) (n1 : Int) (H : AH) (Q : Value → AH → Prop) : wpF Tryz.prog C ann_F_part_Part_Begin F_part_Part_Begin [(.pointer p0), (.int .i64 n1)] H Q = vc_F_part_Part_Begin C p0 n1 H Q := by kernel_rfl

set_option maxRecDepth 100000
def ann_F_part_Part_Run : Ann := []
def vc_F_part_Part_Run (C : WT) (p0 : Option Addr) (H : AH) (Q : Value → AH → Prop) : Prop :=
    ∀ (b1 : Nat) (H2 : AH), b1 = AH.next H → H2 = AH.alloc H (.cells [(.bool false), (.int .i64 0)] false 0) → ∀ (b3 : Nat) (H4 : AH), b3 = AH.next H2 → H4 = AH.alloc H2 (.cells [(.int .i64 0), (.int .i64 0), (.int .i64 0)] false 0) → C F_part_Part_Pick [(.pointer p0)] H4 (fun r6 H5 => ∃ b7 : Bool, ∃ n8 : Int, ∃ b9 : Bool, r6 = (.tuple #[(.agg #[(.bool b7), (.int .i64 n8)]), (.bool b9)]) ∧
    ∀ (b10 : Nat) (H11 : AH), b10 = AH.next H5 → H11 = AH.alloc H5 (.cells [(.bool false), (.int .i64 0)] false 0) → ∃ H12 : AH, stV H11 2 (.pointer (some ⟨b10, 0, none⟩)) (.agg #[(.bool b7), (.int .i64 n8)]) = some H12 ∧
    bcase (!b9) (∃ H13 : AH, stV H12 2 (.pointer (some ⟨b1, 0, none⟩)) (.agg #[(.bool false), (.int .i64 0)]) = some H13 ∧
    ∃ H14 : AH, stV H13 3 (.pointer (some ⟨b3, 0, none⟩)) (.agg #[(.int .i64 0), (.int .i64 0), (.int .i64 0)]) = some H14 ∧
    ∃ b15 : Bool, ∃ n16 : Int, ldN H14 2 (.pointer (some ⟨b1, 0, none⟩)) = some (.agg #[(.bool b15), (.int .i64 n16)]) ∧
    ∃ n17 : Int, ∃ n18 : Int, ∃ n19 : Int, ldN H14 3 (.pointer (some ⟨b3, 0, none⟩)) = some (.agg #[(.int .i64 n17), (.int .i64 n18), (.int .i64 n19)]) ∧
    Q (.tuple #[(.agg #[(.bool b15), (.int .i64 n16)]), (.agg #[(.int .i64 n17), (.int .i64 n18), (.int .i64 n19)]), (.slice none 0 0)]) H14) (∃ b20 : Bool, ld1 H12 (.pointer (some ⟨b10, 0 + 0, none⟩)) = some (.bool b20) ∧
    bcase (!b20) (∃ n21 : Int, ld1 H12 (.pointer (some ⟨b10, 0 + 1, none⟩)) = some (.int .i64 n21) ∧
    C F_part_Part_work [(.pointer p0), (.int .i64 n21)] H12 (fun r23 H22 => ∃ n24 : Int, ∃ n25 : Int, ∃ n26 : Int, ∃ (sl27 : Option Addr) (sl27n sl27c : Nat), r23 = (.tuple #[(.agg #[(.int .i64 n24), (.int .i64 n25), (.int .i64 n26)]), (.slice sl27 sl27n sl27c)]) ∧
    ∀ (b28 : Nat) (H29 : AH), b28 = AH.next H22 → H29 = AH.alloc H22 (.cells [(.int .i64 0), (.int .i64 0), (.int .i64 0)] false 0) → ∃ H30 : AH, stV H29 3 (.pointer (some ⟨b28, 0, none⟩)) (.agg #[(.int .i64 n24), (.int .i64 n25), (.int .i64 n26)]) = some H30 ∧
    ∃ b31 : Bool, ∃ n32 : Int, ldN H30 2 (.pointer (some ⟨b10, 0, none⟩)) = some (.agg #[(.bool b31), (.int .i64 n32)]) ∧
    ∃ n33 : Int, ∃ n34 : Int, ∃ n35 : Int, ldN H30 3 (.pointer (some ⟨b28, 0, none⟩)) = some (.agg #[(.int .i64 n33), (.int .i64 n34), (.int .i64 n35)]) ∧
    ∃ H36 : AH, stV H30 2 (.pointer (some ⟨b1, 0, none⟩)) (.agg #[(.bool b31), (.int .i64 n32)]) = some H36 ∧
    Again H36 (.ldN 3 (.pointer (some ⟨b28, 0, none⟩))) (.agg #[(.int .i64 n33), (.int .i64 n34), (.int .i64 n35)]) ∧
    ∃ H37 : AH, stV H36 3 (.pointer (some ⟨b3, 0, none⟩)) (.agg #[(.int .i64 n33), (.int .i64 n34), (.int .i64 n35)]) = some H37 ∧
    ∃ b38 : Bool, ∃ n39 : Int, ldN H37 2 (.pointer (some ⟨b1, 0, none⟩)) = some (.agg #[(.bool b38), (.int .i64 n39)]) ∧
    ∃ n40 : Int, ∃ n41 : Int, ∃ n42 : Int, ldN H37 3 (.pointer (some ⟨b3, 0, none⟩)) = some (.agg #[(.int .i64 n40), (.int .i64 n41), (.int .i64 n42)]) ∧
    Q (.tuple #[(.agg #[(.bool b38), (.int .i64 n39)]), (.agg #[(.int .i64 n40), (.int .i64 n41), (.int .i64 n42)]), (.slice sl27 sl27n sl27c)]) H37)) (∃ b43 o44 : Nat, (p0 : Option Addr) = some ⟨b43, o44, none⟩ ∧
    ∃ (sl45 : Option Addr) (sl45n sl45c : Nat), ld1 H12 (.pointer (some ⟨b43, o44 + 2, none⟩)) = some (.slice sl45 sl45n sl45c) ∧
    ∃ n46 : Int, ld1 H12 (.pointer (some ⟨b10, 0 + 1, none⟩)) = some (.int .i64 n46) ∧
    ∃ b47 o48 : Nat, (sl45 : Option Addr) = some ⟨b47, o48, none⟩ ∧
    (0 : Int) ≤ n46 ∧
    n46 < ((sl45n : Nat) : Int) ∧
    ∃ p49 : Option Addr, ld1 H12 (.pointer (some ⟨b47, o48 + Int.toNat n46 * 1, none⟩)) = some (.pointer p49) ∧
    C F_part_row_serve [(.pointer p49)] H12 (fun r51 H50 => ∃ n52 : Int, r51 = (.int .i64 n52) ∧
    bcase (n52 == 0) (∃ b53 : Bool, ∃ n54 : Int, ldN H50 2 (.pointer (some ⟨b10, 0, none⟩)) = some (.agg #[(.bool b53), (.int .i64 n54)]) ∧
    ∃ H55 : AH, stV H50 2 (.pointer (some ⟨b1, 0, none⟩)) (.agg #[(.bool b53), (.int .i64 n54)]) = some H55 ∧
    ∃ H56 : AH, stV H55 3 (.pointer (some ⟨b3, 0, none⟩)) (.agg #[(.int .i64 0), (.int .i64 0), (.int .i64 0)]) = some H56 ∧
    ∃ b57 : Bool, ∃ n58 : Int, ldN H56 2 (.pointer (some ⟨b1, 0, none⟩)) = some (.agg #[(.bool b57), (.int .i64 n58)]) ∧
    ∃ n59 : Int, ∃ n60 : Int, ∃ n61 : Int, ldN H56 3 (.pointer (some ⟨b3, 0, none⟩)) = some (.agg #[(.int .i64 n59), (.int .i64 n60), (.int .i64 n61)]) ∧
    Q (.tuple #[(.agg #[(.bool b57), (.int .i64 n58)]), (.agg #[(.int .i64 n59), (.int .i64 n60), (.int .i64 n61)]), (.slice none 0 0)]) H56) (∃ b62 : Bool, ∃ n63 : Int, ldN H50 2 (.pointer (some ⟨b10, 0, none⟩)) = some (.agg #[(.bool b62), (.int .i64 n63)]) ∧
    ∃ n64 : Int, ld1 H50 (.pointer (some ⟨b10, 0 + 1, none⟩)) = some (.int .i64 n64) ∧
    ∀ (b65 : Nat) (H66 : AH), b65 = AH.next H50 → H66 = AH.alloc H50 (.cells [(.int .i64 6), (.int .i64 n64), (.int .i64 n52)] false 0) → ∃ H67 : AH, stV H66 2 (.pointer (some ⟨b1, 0, none⟩)) (.agg #[(.bool b62), (.int .i64 n63)]) = some H67 ∧
    Again H67 (.ld1 (.pointer (some ⟨b10, 0 + 1, none⟩))) (.int .i64 n64) ∧
    ∃ H68 : AH, stV H67 3 (.pointer (some ⟨b3, 0, none⟩)) (.agg #[(.int .i64 0), (.int .i64 0), (.int .i64 0)]) = some H68 ∧
    Again H68 (.ld1 (.pointer (some ⟨b10, 0 + 1, none⟩))) (.int .i64 n64) ∧
    ∃ b69 : Bool, ∃ n70 : Int, ldN H68 2 (.pointer (some ⟨b1, 0, none⟩)) = some (.agg #[(.bool b69), (.int .i64 n70)]) ∧
    ∃ n71 : Int, ∃ n72 : Int, ∃ n73 : Int, ldN H68 3 (.pointer (some ⟨b3, 0, none⟩)) = some (.agg #[(.int .i64 n71), (.int .i64 n72), (.int .i64 n73)]) ∧
    Q (.tuple #[(.agg #[(.bool b69), (.int .i64 n70)]), (.agg #[(.int .i64 n71), (.int .i64 n72), (.int .i64 n73)]), (.slice (some ⟨b65, 0, none⟩) 1 1)]) H68)))))
theorem nf_F_part_Part_Run (C : WT) (p0 : Option Addr) (H : AH) (Q : Value → AH → Prop) : wpF Tryz.prog C ann_F_part_Part_Run F_part_Part_Run [(.pointer p0)] H Q = vc_F_part_Part_Run C p0 H Q := by kernel_rfl

set_option maxRecDepth 100000
def ann_F_part_Part_Arrive : Ann := []
def vc_F_part_Part_Arrive (C : WT) (p0 : Option Addr) (n1 : Int) (n2 : Int) (n3 : Int) (n4 : Int) (n5 : Int) (sl6 : Option Addr) (sl6n sl6c : Nat) (H : AH) (Q : Value → AH → Prop) : Prop :=
    ∀ (b7 : Nat) (H8 : AH), b7 = AH.next H → H8 = AH.alloc H (.cells [(.int .i64 n2), (.int .i64 n3), (.int .i64 n4), (.int .i64 n5), (.slice sl6 sl6n sl6c)] false 0) → C F_part_Part_none [(.pointer p0)] H8 (fun r10 H9 => ∃ b11 : Bool, r10 = (.bool b11) ∧
    bcase b11 (Q (.int .i64 1) H9) (∃ b12 o13 : Nat, (p0 : Option Addr) = some ⟨b12, o13, none⟩ ∧
    ∃ b14 : Bool, ld1 H9 (.pointer (some ⟨b12, o13 + 3, none⟩)) = some (.bool b14) ∧
    bcase (!b14) (Q (.int .i64 41) H9) (∃ b15 o16 : Nat, (p0 : Option Addr) = some ⟨b15, o16, none⟩ ∧
    ∃ p17 : Option Addr, ld1 H9 (.pointer (some ⟨b15, o16 + 1, none⟩)) = some (.pointer p17) ∧
    ∃ n18 : Int, ld1 H9 (.pointer (some ⟨b7, 0 + 0, none⟩)) = some (.int .i64 n18) ∧
    C F_police_Police_May [(.pointer p17), (.int .i64 n18), (.int .i64 n1)] H9 (fun r20 H19 => ∃ n21 : Int, r20 = (.int .i64 n21) ∧
    bcase (n21 != 0) (Q (.int .i64 n21) H19) (∃ H22 : AH, stV H19 1 (.pointer (some ⟨b7, 0 + 1, none⟩)) (.int .i64 n1) = some H22 ∧
    ∃ b23 o24 : Nat, (p0 : Option Addr) = some ⟨b23, o24, none⟩ ∧
    ∃ p25 : Option Addr, ld1 H22 (.pointer (some ⟨b23, o24 + 0, none⟩)) = some (.pointer p25) ∧
    ∃ n26 : Int, ∃ n27 : Int, ∃ n28 : Int, ∃ n29 : Int, ∃ (sl30 : Option Addr) (sl30n sl30c : Nat), ldN H22 5 (.pointer (some ⟨b7, 0, none⟩)) = some (.agg #[(.int .i64 n26), (.int .i64 n27), (.int .i64 n28), (.int .i64 n29), (.slice sl30 sl30n sl30c)]) ∧
    C F_tasks_Table_Put [(.pointer p25), (.agg #[(.int .i64 n26), (.int .i64 n27), (.int .i64 n28), (.int .i64 n29), (.slice sl30 sl30n sl30c)])] H22 (fun r32 H31 => ∃ n33 : Int, r32 = (.int .i64 n33) ∧
    bcase (n33 != 0) (Q (.int .i64 n33) H31) (∃ b34 o35 : Nat, (p0 : Option Addr) = some ⟨b34, o35, none⟩ ∧
    ∃ p36 : Option Addr, ld1 H31 (.pointer (some ⟨b34, o35 + 1, none⟩)) = some (.pointer p36) ∧
    ∃ n37 : Int, ld1 H31 (.pointer (some ⟨b7, 0 + 0, none⟩)) = some (.int .i64 n37) ∧
    C F_police_Police_Take [(.pointer p36), (.int .i64 n37), (.int .i64 n1)] H31 (fun r39 H38 => ∃ n40 : Int, r39 = (.int .i64 n40) ∧
    Q (.int .i64 n40) H38))))))))
theorem nf_F_part_Part_Arrive (C : WT) (p0 : Option Addr) (n1 : Int) (n2 : Int) (n3 : Int) (n4 : Int) (n5 : Int) (sl6 : Option Addr) (sl6n sl6c : Nat) (H : AH) (Q : Value → AH → Prop) : wpF Tryz.prog C ann_F_part_Part_Arrive F_part_Part_Arrive [(.pointer p0), (.int .i64 n1), (.agg #[(.int .i64 n2), (.int .i64 n3), (.int .i64 n4), (.int .i64 n5), (.slice sl6 sl6n sl6c)])] H Q = vc_F_part_Part_Arrive C p0 n1 n2 n3 n4 n5 sl6 sl6n sl6c H Q := by kernel_rfl

set_option maxRecDepth 100000
def ann_F_parcloselaw19_Job : Ann := [(3, ⟨[4], [(.int .i64 0)], [1, 2, 3]⟩)]
def vc_F_parcloselaw19_Job (C : WT) (n0 : Int) (n1 : Int) (n2 : Int) (n3 : Int) (sl4 : Option Addr) (sl4n sl4c : Nat) (H : AH) (Q : Value → AH → Prop) : Prop :=
    ∀ (b5 : Nat) (H6 : AH), b5 = AH.next H → H6 = AH.alloc H (.cells [(.int .i64 n0), (.int .i64 n1), (.int .i64 n2), (.int .i64 n3), (.slice sl4 sl4n sl4c)] false 0) → ∀ (b7 : Nat) (H8 : AH), b7 = AH.next H6 → H8 = AH.alloc H6 (.cells [(.int .i64 0), (.int .i64 0), (.int .i64 0), (.int .i64 0), (.slice none 0 0)] false 0) → ∃ n9 : Int, ld1 H8 (.pointer (some ⟨b5, 0 + 0, none⟩)) = some (.int .i64 n9) ∧
    ∃ n10 : Int, ld1 H8 (.pointer (some ⟨b5, 0 + 1, none⟩)) = some (.int .i64 n10) ∧
    ∃ n11 : Int, ld1 H8 (.pointer (some ⟨b5, 0 + 2, none⟩)) = some (.int .i64 n11) ∧
    ∃ n12 : Int, ld1 H8 (.pointer (some ⟨b5, 0 + 3, none⟩)) = some (.int .i64 n12) ∧
    ∀ (b13 : Nat) (H14 : AH), b13 = AH.next H8 → H14 = AH.alloc H8 (.cells [(.int .i64 0), (.int .i64 0), (.int .i64 0), (.int .i64 0), (.slice none 0 0)] false 0) → ∃ H15 : AH, stV H14 5 (.pointer (some ⟨b13, 0, none⟩)) (.agg #[(.int .i64 n9), (.int .i64 n10), (.int .i64 n11), (.int .i64 n12), (.slice none 0 0)]) = some H15 ∧
    ∀ X16 : List Value → AH → Prop, (∀ n17 : Int, ∀ H18 : AH, (∀ F19 : TF, ∃ (sl20 : Option Addr) (sl20n sl20c : Nat), ld1 H18 (.pointer (some ⟨b5, 0 + 4, none⟩)) = some (.slice sl20 sl20n sl20c) ∧
    bcase (decide (n17 < (↑(sl20n : Nat) : Int))) (∃ (sl21 : Option Addr) (sl21n sl21c : Nat), ld1 H18 (.pointer (some ⟨b13, 0 + 4, none⟩)) = some (.slice sl21 sl21n sl21c) ∧
    ∃ (sl22 : Option Addr) (sl22n sl22c : Nat), ld1 H18 (.pointer (some ⟨b5, 0 + 4, none⟩)) = some (.slice sl22 sl22n sl22c) ∧
    ∃ b23 o24 : Nat, (sl22 : Option Addr) = some ⟨b23, o24, none⟩ ∧
    (0 : Int) ≤ n17 ∧
    n17 < ((sl22n : Nat) : Int) ∧
    ∃ n25 : Int, ∃ n26 : Int, ∃ n27 : Int, ldN H18 3 (.pointer (some ⟨b23, o24 + Int.toNat n17 * 3, none⟩)) = some (.agg #[(.int .i64 n25), (.int .i64 n26), (.int .i64 n27)]) ∧
    ∀ (b28 : Nat) (H29 : AH), b28 = AH.next H18 → H29 = AH.alloc H18 (.cells [(.int .i64 n25), (.int .i64 n26), (.int .i64 n27)] false 0) → ∃ (sl30 : Option Addr) (sl30n sl30c : Nat), ∃ H31 : AH, apA H29 3 24 (.slice sl21 sl21n sl21c) (.slice (some ⟨b28, 0, none⟩) 1 1) = some ((.slice sl30 sl30n sl30c), H31) ∧
    ∃ H32 : AH, stV H31 1 (.pointer (some ⟨b13, 0 + 4, none⟩)) (.slice sl30 sl30n sl30c) = some H32 ∧
    ([(.pointer (some ⟨b5, 0, none⟩)), (.pointer (some ⟨b7, 0, none⟩)), (.pointer (some ⟨b13, 0, none⟩))] : List Value) = [(.pointer (some ⟨b5, 0, none⟩)), (.pointer (some ⟨b7, 0, none⟩)), (.pointer (some ⟨b13, 0, none⟩))] ∧
    X16 [(.int .i64 (IntKind.wrap .i64 (n17 + 1)))] H32) (∃ n33 : Int, ∃ n34 : Int, ∃ n35 : Int, ∃ n36 : Int, ∃ (sl37 : Option Addr) (sl37n sl37c : Nat), ldN H18 5 (.pointer (some ⟨b13, 0, none⟩)) = some (.agg #[(.int .i64 n33), (.int .i64 n34), (.int .i64 n35), (.int .i64 n36), (.slice sl37 sl37n sl37c)]) ∧
    ∃ H38 : AH, stV H18 5 (.pointer (some ⟨b7, 0, none⟩)) (.agg #[(.int .i64 n33), (.int .i64 n34), (.int .i64 n35), (.int .i64 n36), (.slice sl37 sl37n sl37c)]) = some H38 ∧
    ∃ n39 : Int, ∃ n40 : Int, ∃ n41 : Int, ∃ n42 : Int, ∃ (sl43 : Option Addr) (sl43n sl43c : Nat), ldN H38 5 (.pointer (some ⟨b7, 0, none⟩)) = some (.agg #[(.int .i64 n39), (.int .i64 n40), (.int .i64 n41), (.int .i64 n42), (.slice sl43 sl43n sl43c)]) ∧
    Q (.agg #[(.int .i64 n39), (.int .i64 n40), (.int .i64 n41), (.int .i64 n42), (.slice sl43 sl43n sl43c)]) H38)) → X16 [(.int .i64 n17)] H18) → X16 [(.int .i64 0)] H15
theorem nf_F_parcloselaw19_Job (C : WT) (n0 : Int) (n1 : Int) (n2 : Int) (n3 : Int) (sl4 : Option Addr) (sl4n sl4c : Nat) (H : AH) (Q : Value → AH → Prop) : wpF Tryz.prog C ann_F_parcloselaw19_Job F_parcloselaw19_Job [(.agg #[(.int .i64 n0), (.int .i64 n1), (.int .i64 n2), (.int .i64 n3), (.slice sl4 sl4n sl4c)])] H Q = vc_F_parcloselaw19_Job C n0 n1 n2 n3 sl4 sl4n sl4c H Q := by kernel_rfl

set_option maxRecDepth 100000
def ann_F_part_Part_Request : Ann := []
def vc_F_part_Part_Request (C : WT) (p0 : Option Addr) (n1 : Int) (n2 : Int) (H : AH) (Q : Value → AH → Prop) : Prop :=
    C F_part_Part_none [(.pointer p0)] H (fun r4 H3 => ∃ b5 : Bool, r4 = (.bool b5) ∧
    bcase b5 (Q (.int .i64 1) H3) (∃ b6 o7 : Nat, (p0 : Option Addr) = some ⟨b6, o7, none⟩ ∧
    ∃ b8 : Bool, ld1 H3 (.pointer (some ⟨b6, o7 + 3, none⟩)) = some (.bool b8) ∧
    bcase (!b8) (Q (.int .i64 41) H3) (bcase (decide (n1 < 0)) (Q (.int .i64 1) H3) (∃ b9 o10 : Nat, (p0 : Option Addr) = some ⟨b9, o10, none⟩ ∧
    ∃ (sl11 : Option Addr) (sl11n sl11c : Nat), ld1 H3 (.pointer (some ⟨b9, o10 + 2, none⟩)) = some (.slice sl11 sl11n sl11c) ∧
    bcase (decide ((↑(sl11n : Nat) : Int) ≤ n1)) (Q (.int .i64 1) H3) (bcase (decide (n2 < 1)) (Q (.int .i64 1) H3) (bcase (decide (1048576 < n2)) (Q (.int .i64 1) H3) (∃ b12 o13 : Nat, (p0 : Option Addr) = some ⟨b12, o13, none⟩ ∧
    ∃ (sl14 : Option Addr) (sl14n sl14c : Nat), ld1 H3 (.pointer (some ⟨b12, o13 + 2, none⟩)) = some (.slice sl14 sl14n sl14c) ∧
    ∃ b15 o16 : Nat, (sl14 : Option Addr) = some ⟨b15, o16, none⟩ ∧
    (0 : Int) ≤ n1 ∧
    n1 < ((sl14n : Nat) : Int) ∧
    ∃ p17 : Option Addr, ld1 H3 (.pointer (some ⟨b15, o16 + Int.toNat n1 * 1, none⟩)) = some (.pointer p17) ∧
    ∃ b18 o19 : Nat, (p17 : Option Addr) = some ⟨b18, o19, none⟩ ∧
    ∃ p20 : Option Addr, ld1 H3 (.pointer (some ⟨b18, o19 + 1, none⟩)) = some (.pointer p20) ∧
    C F_ring_Ring_int_Push [(.pointer p20), (.int .i64 n2)] H3 (fun r22 H21 => ∃ b23 : Bool, r22 = (.bool b23) ∧
    bcase (!b23) (Q (.int .i64 5) H21) (Q (.int .i64 0) H21)))))))))
theorem nf_F_part_Part_Request (C : WT) (p0 : Option Addr) (n1 : Int) (n2 : Int) (H : AH) (Q : Value → AH → Prop) : wpF Tryz.prog C ann_F_part_Part_Request F_part_Part_Request [(.pointer p0), (.int .i64 n1), (.int .i64 n2)] H Q = vc_F_part_Part_Request C p0 n1 n2 H Q := by kernel_rfl

set_option maxRecDepth 100000
def ann_F_part_Part_Stop : Ann := [(5, ⟨[24], [(.int .i64 0)], [22, 23]⟩)]
def vc_F_part_Part_Stop (C : WT) (p0 : Option Addr) (H : AH) (Q : Value → AH → Prop) : Prop :=
    C F_part_Part_none [(.pointer p0)] H (fun r2 H1 => ∃ b3 : Bool, r2 = (.bool b3) ∧
    bcase b3 (Q (.tuple #[]) H1) (∃ b4 o5 : Nat, (p0 : Option Addr) = some ⟨b4, o5, none⟩ ∧
    ∃ H6 : AH, stV H1 1 (.pointer (some ⟨b4, o5 + 3, none⟩)) (.bool false) = some H6 ∧
    ∃ b7 o8 : Nat, (p0 : Option Addr) = some ⟨b7, o8, none⟩ ∧
    ∃ p9 : Option Addr, ld1 H6 (.pointer (some ⟨b7, o8 + 0, none⟩)) = some (.pointer p9) ∧
    C F_tasks_Table_Clear [(.pointer p9)] H6 (fun r11 H10 => r11 = (.tuple #[]) ∧
    ∃ b12 o13 : Nat, (p0 : Option Addr) = some ⟨b12, o13, none⟩ ∧
    ∃ p14 : Option Addr, ld1 H10 (.pointer (some ⟨b12, o13 + 1, none⟩)) = some (.pointer p14) ∧
    C F_police_Police_Drop [(.pointer p14), (.bool false)] H10 (fun r16 H15 => r16 = (.tuple #[]) ∧
    ∃ b17 o18 : Nat, (p0 : Option Addr) = some ⟨b17, o18, none⟩ ∧
    ∃ (sl19 : Option Addr) (sl19n sl19c : Nat), ld1 H15 (.pointer (some ⟨b17, o18 + 2, none⟩)) = some (.slice sl19 sl19n sl19c) ∧
    ∀ X20 : List Value → AH → Prop, (∀ n21 : Int, ∀ H22 : AH, (∀ F23 : TF, bcase (decide (n21 < (↑(sl19n : Nat) : Int))) (∃ b24 o25 : Nat, (sl19 : Option Addr) = some ⟨b24, o25, none⟩ ∧
    (0 : Int) ≤ n21 ∧
    n21 < ((sl19n : Nat) : Int) ∧
    ∃ p26 : Option Addr, ld1 H22 (.pointer (some ⟨b24, o25 + Int.toNat n21 * 1, none⟩)) = some (.pointer p26) ∧
    C F_part_row_empty [(.pointer p26)] H22 (fun r28 H27 => r28 = (.tuple #[]) ∧
    ([(.slice sl19 sl19n sl19c), (.int .i64 (↑(sl19n : Nat) : Int))] : List Value) = [(.slice sl19 sl19n sl19c), (.int .i64 (↑(sl19n : Nat) : Int))] ∧
    X20 [(.int .i64 (IntKind.wrap .i64 (n21 + 1)))] H27)) (Q (.tuple #[]) H22)) → X20 [(.int .i64 n21)] H22) → X20 [(.int .i64 0)] H15))))
theorem nf_F_part_Part_Stop (C : WT) (p0 : Option Addr) (H : AH) (Q : Value → AH → Prop) : wpF Tryz.prog C ann_F_part_Part_Stop F_part_Part_Stop [(.pointer p0)] H Q = vc_F_part_Part_Stop C p0 H Q := by kernel_rfl

set_option maxRecDepth 100000
def ann_F_part_Part_Restart : Ann := []
def vc_F_part_Part_Restart (C : WT) (p0 : Option Addr) (H : AH) (Q : Value → AH → Prop) : Prop :=
    C F_part_Part_none [(.pointer p0)] H (fun r2 H1 => ∃ b3 : Bool, r2 = (.bool b3) ∧
    bcase (!b3) (C F_part_Part_Stop [(.pointer p0)] H1 (fun r5 H4 => r5 = (.tuple #[]) ∧
    ∃ b6 o7 : Nat, (p0 : Option Addr) = some ⟨b6, o7, none⟩ ∧
    ∃ H8 : AH, stV H4 1 (.pointer (some ⟨b6, o7 + 3, none⟩)) (.bool true) = some H8 ∧
    Q (.tuple #[]) H8)) (Q (.tuple #[]) H1))
theorem nf_F_part_Part_Restart (C : WT) (p0 : Option Addr) (H : AH) (Q : Value → AH → Prop) : wpF Tryz.prog C ann_F_part_Part_Restart F_part_Part_Restart [(.pointer p0)] H Q = vc_F_part_Part_Restart C p0 H Q := by kernel_rfl

set_option maxRecDepth 100000
def ann_F_part_Part_Jobs : Ann := [(5, ⟨[3, 9], [(.slice none 0 0), (.int .i64 0)], [0]⟩)]
def vc_F_part_Part_Jobs (C : WT) (p0 : Option Addr) (H : AH) (Q : Value → AH → Prop) : Prop :=
    C F_part_Part_none [(.pointer p0)] H (fun r2 H1 => ∃ b3 : Bool, r2 = (.bool b3) ∧
    bcase b3 (Q (.slice none 0 0) H1) (∀ X4 : List Value → AH → Prop, (∀ (sl5 : Option Addr) (sl5n sl5c : Nat), ∀ n6 : Int, ∀ H7 : AH, (∀ F8 : TF, bcase (decide (n6 < 6)) (∃ b9 o10 : Nat, (p0 : Option Addr) = some ⟨b9, o10, none⟩ ∧
    ∃ p11 : Option Addr, ld1 H7 (.pointer (some ⟨b9, o10 + 0, none⟩)) = some (.pointer p11) ∧
    C F_tasks_Table_Get [(.pointer p11), (.int .i64 n6)] H7 (fun r13 H12 => ∃ n14 : Int, ∃ n15 : Int, ∃ n16 : Int, ∃ n17 : Int, ∃ (sl18 : Option Addr) (sl18n sl18c : Nat), ∃ b19 : Bool, r13 = (.tuple #[(.agg #[(.int .i64 n14), (.int .i64 n15), (.int .i64 n16), (.int .i64 n17), (.slice sl18 sl18n sl18c)]), (.bool b19)]) ∧
    ∀ (b20 : Nat) (H21 : AH), b20 = AH.next H12 → H21 = AH.alloc H12 (.cells [(.int .i64 0), (.int .i64 0), (.int .i64 0), (.int .i64 0), (.slice none 0 0)] false 0) → ∃ H22 : AH, stV H21 5 (.pointer (some ⟨b20, 0, none⟩)) (.agg #[(.int .i64 n14), (.int .i64 n15), (.int .i64 n16), (.int .i64 n17), (.slice sl18 sl18n sl18c)]) = some H22 ∧
    bcase b19 (∃ n23 : Int, ∃ n24 : Int, ∃ n25 : Int, ∃ n26 : Int, ∃ (sl27 : Option Addr) (sl27n sl27c : Nat), ldN H22 5 (.pointer (some ⟨b20, 0, none⟩)) = some (.agg #[(.int .i64 n23), (.int .i64 n24), (.int .i64 n25), (.int .i64 n26), (.slice sl27 sl27n sl27c)]) ∧
    ∀ (b28 : Nat) (H29 : AH), b28 = AH.next H22 → H29 = AH.alloc H22 (.cells [(.int .i64 n23), (.int .i64 n24), (.int .i64 n25), (.int .i64 n26), (.slice sl27 sl27n sl27c)] false 0) → ∃ (sl30 : Option Addr) (sl30n sl30c : Nat), ∃ H31 : AH, apA H29 5 56 (.slice sl5 sl5n sl5c) (.slice (some ⟨b28, 0, none⟩) 1 1) = some ((.slice sl30 sl30n sl30c), H31) ∧
    ([(.pointer p0)] : List Value) = [(.pointer p0)] ∧
    X4 [(.slice sl30 sl30n sl30c), (.int .i64 (IntKind.wrap .i64 (n6 + 1)))] H31) (([(.pointer p0)] : List Value) = [(.pointer p0)] ∧
    X4 [(.slice sl5 sl5n sl5c), (.int .i64 (IntKind.wrap .i64 (n6 + 1)))] H22))) (Q (.slice sl5 sl5n sl5c) H7)) → X4 [(.slice sl5 sl5n sl5c), (.int .i64 n6)] H7) → X4 [(.slice none 0 0), (.int .i64 0)] H1))
theorem nf_F_part_Part_Jobs (C : WT) (p0 : Option Addr) (H : AH) (Q : Value → AH → Prop) : wpF Tryz.prog C ann_F_part_Part_Jobs F_part_Part_Jobs [(.pointer p0)] H Q = vc_F_part_Part_Jobs C p0 H Q := by kernel_rfl

set_option maxRecDepth 100000
def ann_F_part_Part_High : Ann := []
def vc_F_part_Part_High (C : WT) (p0 : Option Addr) (H : AH) (Q : Value → AH → Prop) : Prop :=
    C F_part_Part_none [(.pointer p0)] H (fun r2 H1 => ∃ b3 : Bool, r2 = (.bool b3) ∧
    bcase (!b3) (∃ b4 o5 : Nat, (p0 : Option Addr) = some ⟨b4, o5, none⟩ ∧
    ∃ p6 : Option Addr, ld1 H1 (.pointer (some ⟨b4, o5 + 0, none⟩)) = some (.pointer p6) ∧
    C F_tasks_Table_High [(.pointer p6)] H1 (fun r8 H7 => ∃ b9 : Bool, r8 = (.bool b9) ∧
    Q (.bool b9) H7)) (Q (.bool false) H1))
theorem nf_F_part_Part_High (C : WT) (p0 : Option Addr) (H : AH) (Q : Value → AH → Prop) : wpF Tryz.prog C ann_F_part_Part_High F_part_Part_High [(.pointer p0)] H Q = vc_F_part_Part_High C p0 H Q := by kernel_rfl

set_option maxRecDepth 100000
def ann_F_part_Part_Pick : Ann := [(6, ⟨[5, 6, 32], [(.int .i64 0), (.bool false), (.int .i64 0)], [2, 7, 30, 31]⟩)]
def vc_F_part_Part_Pick (C : WT) (p0 : Option Addr) (H : AH) (Q : Value → AH → Prop) : Prop :=
    ∀ (b1 : Nat) (H2 : AH), b1 = AH.next H → H2 = AH.alloc H (.cells [(.bool false), (.int .i64 0)] false 0) → C F_part_Part_Up [(.pointer p0)] H2 (fun r4 H3 => ∃ b5 : Bool, r4 = (.bool b5) ∧
    bcase (!b5) (∃ H6 : AH, stV H3 2 (.pointer (some ⟨b1, 0, none⟩)) (.agg #[(.bool false), (.int .i64 0)]) = some H6 ∧
    ∃ b7 : Bool, ∃ n8 : Int, ldN H6 2 (.pointer (some ⟨b1, 0, none⟩)) = some (.agg #[(.bool b7), (.int .i64 n8)]) ∧
    Q (.tuple #[(.agg #[(.bool b7), (.int .i64 n8)]), (.bool false)]) H6) (∃ b9 o10 : Nat, (p0 : Option Addr) = some ⟨b9, o10, none⟩ ∧
    ∃ p11 : Option Addr, ld1 H3 (.pointer (some ⟨b9, o10 + 0, none⟩)) = some (.pointer p11) ∧
    C F_tasks_Table_First [(.pointer p11)] H3 (fun r13 H12 => ∃ n14 : Int, ∃ n15 : Int, ∃ b16 : Bool, r13 = (.tuple #[(.int .i64 n14), (.int .i64 n15), (.bool b16)]) ∧
    ∀ (b17 : Nat) (H18 : AH), b17 = AH.next H12 → H18 = AH.alloc H12 (.cells [(.bool false), (.int .i64 0)] false 0) → ∃ H19 : AH, stV H18 2 (.pointer (some ⟨b17, 0, none⟩)) (.agg #[(.bool false), (.int .i64 n14)]) = some H19 ∧
    ∃ b20 o21 : Nat, (p0 : Option Addr) = some ⟨b20, o21, none⟩ ∧
    ∃ (sl22 : Option Addr) (sl22n sl22c : Nat), ld1 H19 (.pointer (some ⟨b20, o21 + 2, none⟩)) = some (.slice sl22 sl22n sl22c) ∧
    ∀ X23 : List Value → AH → Prop, (∀ n24 : Int, ∀ b25 : Bool, ∀ n26 : Int, ∀ H27 : AH, (∀ F28 : TF, bcase (decide (n26 < (↑(sl22n : Nat) : Int))) (∃ b29 o30 : Nat, (sl22 : Option Addr) = some ⟨b29, o30, none⟩ ∧
    (0 : Int) ≤ n26 ∧
    n26 < ((sl22n : Nat) : Int) ∧
    ∃ p31 : Option Addr, ld1 H27 (.pointer (some ⟨b29, o30 + Int.toNat n26 * 1, none⟩)) = some (.pointer p31) ∧
    ∃ b32 o33 : Nat, (p31 : Option Addr) = some ⟨b32, o33, none⟩ ∧
    ∃ v34 : Value, ld1 H27 (.pointer (some ⟨b32, o33 + 0, none⟩)) = some v34 ∧
    ∃ (g35 : Nat) (x36 : Value), invA Tryz.prog H27 v34 "Due" = some (g35, x36) ∧
    C g35 [x36] H27 (fun r38 H37 => ∃ n39 : Int, ∃ b40 : Bool, r38 = (.tuple #[(.int .i64 n39), (.bool b40)]) ∧
    bcase b40 (∃ b41 o42 : Nat, (p31 : Option Addr) = some ⟨b41, o42, none⟩ ∧
    ∃ p43 : Option Addr, ld1 H37 (.pointer (some ⟨b41, o42 + 1, none⟩)) = some (.pointer p43) ∧
    C F_ring_Ring_int_Len [(.pointer p43)] H37 (fun r45 H44 => ∃ n46 : Int, r45 = (.int .i64 n46) ∧
    bcase (decide (0 < n46)) (bcase (!b25) (∃ H47 : AH, stV H44 2 (.pointer (some ⟨b17, 0, none⟩)) (.agg #[(.bool true), (.int .i64 n26)]) = some H47 ∧
    ([(.pointer (some ⟨b1, 0, none⟩)), (.pointer (some ⟨b17, 0, none⟩)), (.slice sl22 sl22n sl22c), (.int .i64 (↑(sl22n : Nat) : Int))] : List Value) = [(.pointer (some ⟨b1, 0, none⟩)), (.pointer (some ⟨b17, 0, none⟩)), (.slice sl22 sl22n sl22c), (.int .i64 (↑(sl22n : Nat) : Int))] ∧
    X23 [(.int .i64 n39), (.bool true), (.int .i64 (IntKind.wrap .i64 (n26 + 1)))] H47) (bcase (decide (n39 < n24)) (∃ H48 : AH, stV H44 2 (.pointer (some ⟨b17, 0, none⟩)) (.agg #[(.bool true), (.int .i64 n26)]) = some H48 ∧
    ([(.pointer (some ⟨b1, 0, none⟩)), (.pointer (some ⟨b17, 0, none⟩)), (.slice sl22 sl22n sl22c), (.int .i64 (↑(sl22n : Nat) : Int))] : List Value) = [(.pointer (some ⟨b1, 0, none⟩)), (.pointer (some ⟨b17, 0, none⟩)), (.slice sl22 sl22n sl22c), (.int .i64 (↑(sl22n : Nat) : Int))] ∧
    X23 [(.int .i64 n39), (.bool true), (.int .i64 (IntKind.wrap .i64 (n26 + 1)))] H48) (([(.pointer (some ⟨b1, 0, none⟩)), (.pointer (some ⟨b17, 0, none⟩)), (.slice sl22 sl22n sl22c), (.int .i64 (↑(sl22n : Nat) : Int))] : List Value) = [(.pointer (some ⟨b1, 0, none⟩)), (.pointer (some ⟨b17, 0, none⟩)), (.slice sl22 sl22n sl22c), (.int .i64 (↑(sl22n : Nat) : Int))] ∧
    X23 [(.int .i64 n24), (.bool b25), (.int .i64 (IntKind.wrap .i64 (n26 + 1)))] H44))) (([(.pointer (some ⟨b1, 0, none⟩)), (.pointer (some ⟨b17, 0, none⟩)), (.slice sl22 sl22n sl22c), (.int .i64 (↑(sl22n : Nat) : Int))] : List Value) = [(.pointer (some ⟨b1, 0, none⟩)), (.pointer (some ⟨b17, 0, none⟩)), (.slice sl22 sl22n sl22c), (.int .i64 (↑(sl22n : Nat) : Int))] ∧
    X23 [(.int .i64 n24), (.bool b25), (.int .i64 (IntKind.wrap .i64 (n26 + 1)))] H44))) (([(.pointer (some ⟨b1, 0, none⟩)), (.pointer (some ⟨b17, 0, none⟩)), (.slice sl22 sl22n sl22c), (.int .i64 (↑(sl22n : Nat) : Int))] : List Value) = [(.pointer (some ⟨b1, 0, none⟩)), (.pointer (some ⟨b17, 0, none⟩)), (.slice sl22 sl22n sl22c), (.int .i64 (↑(sl22n : Nat) : Int))] ∧
    X23 [(.int .i64 n24), (.bool b25), (.int .i64 (IntKind.wrap .i64 (n26 + 1)))] H37))) (∃ b49 : Bool, ∃ n50 : Int, ldN H27 2 (.pointer (some ⟨b17, 0, none⟩)) = some (.agg #[(.bool b49), (.int .i64 n50)]) ∧
    ∃ H51 : AH, stV H27 2 (.pointer (some ⟨b1, 0, none⟩)) (.agg #[(.bool b49), (.int .i64 n50)]) = some H51 ∧
    ∃ b52 : Bool, ∃ n53 : Int, ldN H51 2 (.pointer (some ⟨b1, 0, none⟩)) = some (.agg #[(.bool b52), (.int .i64 n53)]) ∧
    Q (.tuple #[(.agg #[(.bool b52), (.int .i64 n53)]), (.bool b25)]) H51)) → X23 [(.int .i64 n24), (.bool b25), (.int .i64 n26)] H27) → X23 [(.int .i64 n15), (.bool b16), (.int .i64 0)] H19)))
theorem nf_F_part_Part_Pick (C : WT) (p0 : Option Addr) (H : AH) (Q : Value → AH → Prop) : wpF Tryz.prog C ann_F_part_Part_Pick F_part_Part_Pick [(.pointer p0)] H Q = vc_F_part_Part_Pick C p0 H Q := by kernel_rfl

set_option maxRecDepth 100000
def ann_F_part_Part_Up : Ann := []
def vc_F_part_Part_Up (C : WT) (p0 : Option Addr) (H : AH) (Q : Value → AH → Prop) : Prop :=
    C F_part_Part_none [(.pointer p0)] H (fun r2 H1 => ∃ b3 : Bool, r2 = (.bool b3) ∧
    bcase (!b3) (∃ b4 o5 : Nat, (p0 : Option Addr) = some ⟨b4, o5, none⟩ ∧
    ∃ b6 : Bool, ld1 H1 (.pointer (some ⟨b4, o5 + 3, none⟩)) = some (.bool b6) ∧
    Q (.bool b6) H1) (Q (.bool false) H1))
theorem nf_F_part_Part_Up (C : WT) (p0 : Option Addr) (H : AH) (Q : Value → AH → Prop) : wpF Tryz.prog C ann_F_part_Part_Up F_part_Part_Up [(.pointer p0)] H Q = vc_F_part_Part_Up C p0 H Q := by kernel_rfl

set_option maxRecDepth 100000
def ann_F_part_Part_Queue : Ann := []
def vc_F_part_Part_Queue (C : WT) (p0 : Option Addr) (n1 : Int) (H : AH) (Q : Value → AH → Prop) : Prop :=
    C F_part_Part_none [(.pointer p0)] H (fun r3 H2 => ∃ b4 : Bool, r3 = (.bool b4) ∧
    bcase b4 (Q (.int .i64 0) H2) (bcase (decide (n1 < 0)) (Q (.int .i64 0) H2) (∃ b5 o6 : Nat, (p0 : Option Addr) = some ⟨b5, o6, none⟩ ∧
    ∃ (sl7 : Option Addr) (sl7n sl7c : Nat), ld1 H2 (.pointer (some ⟨b5, o6 + 2, none⟩)) = some (.slice sl7 sl7n sl7c) ∧
    bcase (decide ((↑(sl7n : Nat) : Int) ≤ n1)) (Q (.int .i64 0) H2) (∃ b8 o9 : Nat, (p0 : Option Addr) = some ⟨b8, o9, none⟩ ∧
    ∃ (sl10 : Option Addr) (sl10n sl10c : Nat), ld1 H2 (.pointer (some ⟨b8, o9 + 2, none⟩)) = some (.slice sl10 sl10n sl10c) ∧
    ∃ b11 o12 : Nat, (sl10 : Option Addr) = some ⟨b11, o12, none⟩ ∧
    (0 : Int) ≤ n1 ∧
    n1 < ((sl10n : Nat) : Int) ∧
    ∃ p13 : Option Addr, ld1 H2 (.pointer (some ⟨b11, o12 + Int.toNat n1 * 1, none⟩)) = some (.pointer p13) ∧
    ∃ b14 o15 : Nat, (p13 : Option Addr) = some ⟨b14, o15, none⟩ ∧
    ∃ p16 : Option Addr, ld1 H2 (.pointer (some ⟨b14, o15 + 1, none⟩)) = some (.pointer p16) ∧
    C F_ring_Ring_int_Len [(.pointer p16)] H2 (fun r18 H17 => ∃ n19 : Int, r18 = (.int .i64 n19) ∧
    Q (.int .i64 n19) H17)))))
theorem nf_F_part_Part_Queue (C : WT) (p0 : Option Addr) (n1 : Int) (H : AH) (Q : Value → AH → Prop) : wpF Tryz.prog C ann_F_part_Part_Queue F_part_Part_Queue [(.pointer p0), (.int .i64 n1)] H Q = vc_F_part_Part_Queue C p0 n1 H Q := by kernel_rfl

set_option maxRecDepth 100000
def ann_F_parcloselaw20_num : Ann := []
def vc_F_parcloselaw20_num (C : WT) (n0 : Int) (H : AH) (Q : Value → AH → Prop) : Prop :=
    Q (.int .i64 n0) H
theorem nf_F_parcloselaw20_num (C : WT) (n0 : Int) (H : AH) (Q : Value → AH → Prop) : wpF Tryz.prog C ann_F_parcloselaw20_num F_parcloselaw20_num [(.int .i64 n0)] H Q = vc_F_parcloselaw20_num C n0 H Q := by kernel_rfl

set_option maxRecDepth 100000
def ann_F_part_Part_none : Ann := []
def vc_F_part_Part_none (C : WT) (p0 : Option Addr) (H : AH) (Q : Value → AH → Prop) : Prop :=
    bcase (Option.isNone p0) (Q (.bool true) H) (∃ b1 o2 : Nat, (p0 : Option Addr) = some ⟨b1, o2, none⟩ ∧
    ∃ p3 : Option Addr, ld1 H (.pointer (some ⟨b1, o2 + 0, none⟩)) = some (.pointer p3) ∧
    Q (.bool (Option.isNone p3)) H)
theorem nf_F_part_Part_none (C : WT) (p0 : Option Addr) (H : AH) (Q : Value → AH → Prop) : wpF Tryz.prog C ann_F_part_Part_none F_part_Part_none [(.pointer p0)] H Q = vc_F_part_Part_none C p0 H Q := by kernel_rfl

end Go.Ez
