import Derived.Test.YtgckodpnpidodaaGreatEzStep
import Derived.Test.YtgckodpnpidodaaGreatProg
import Derived.KernelRfl
set_option linter.all false
set_option linter.all false
namespace Go.Ez
open Go.Proofs
abbrev F_gosem_cut_init : FuncId := 2
abbrev F_parcloselaw20_PartModes : FuncId := 3
abbrev F_parcloselaw20_PartNil : FuncId := 4
abbrev F_part_New : FuncId := 5
abbrev F_parcloselaw03_Part : FuncId := 6
abbrev F_parcloselaw20_few : FuncId := 7
abbrev F_parcloselaw20_light : FuncId := 8
abbrev F_parcloselaw20_knows : FuncId := 9
abbrev F_part_Part_Begin : FuncId := 10
abbrev F_part_Part_Run : FuncId := 11
abbrev F_part_Part_Arrive : FuncId := 12
abbrev F_parcloselaw19_Job : FuncId := 13
abbrev F_part_Part_Request : FuncId := 14
abbrev F_part_Part_Stop : FuncId := 15
abbrev F_part_Part_Restart : FuncId := 16
abbrev F_part_Part_Jobs : FuncId := 17
abbrev F_part_Part_High : FuncId := 18
abbrev F_part_Part_Pick : FuncId := 19
abbrev F_part_Part_Up : FuncId := 20
abbrev F_part_Part_Queue : FuncId := 21
abbrev F_parcloselaw20_num : FuncId := 22
abbrev F_conf_Part_Rights : FuncId := 23
abbrev F_tasks_New : FuncId := 24
abbrev F_police_New : FuncId := 25
abbrev F_part_rows : FuncId := 26
abbrev F_slices_Concat__part_Eventpart_Event : FuncId := 27
abbrev F_part_of : FuncId := 28
abbrev F_tasks_Table_Missed : FuncId := 29
abbrev F_part_Part_settle : FuncId := 30
abbrev F_ring_Ring_int_Len : FuncId := 31
abbrev F_part_Part_work : FuncId := 32
abbrev F_part_row_serve : FuncId := 33
abbrev F_part_Part_none : FuncId := 34
abbrev F_police_Police_May : FuncId := 35
abbrev F_tasks_Table_Put : FuncId := 36
abbrev F_police_Police_Take : FuncId := 37
abbrev F_ring_Ring_int_Push : FuncId := 38
abbrev F_tasks_Table_Clear : FuncId := 39
abbrev F_police_Police_Drop : FuncId := 40
abbrev F_part_row_empty : FuncId := 41
abbrev F_tasks_Table_Get : FuncId := 42
abbrev F_tasks_Table_High : FuncId := 43
abbrev F_tasks_Table_First : FuncId := 44
abbrev F_conf_all_conf_Task : FuncId := 45
abbrev F_conf_all_conf_Server : FuncId := 46
abbrev F_slices_Max__uint8uint8 : FuncId := 47
abbrev F_slices_ContainsFunc__conf_Taskconf_Task : FuncId := 48
abbrev F_tasks_New_1 : FuncId := 49
abbrev F_conf_Task_Right : FuncId := 50
abbrev F_heap_New : FuncId := 51
abbrev F_police_New_1 : FuncId := 52
abbrev F_ring_New_int : FuncId := 53
abbrev F_refill_New : FuncId := 54
abbrev F_chunk_New : FuncId := 55
abbrev F_slices_Grow__part_Eventpart_Event : FuncId := 56
abbrev F_tasks_Table_none : FuncId := 57
abbrev F_tasks_Table_each : FuncId := 58
abbrev F_tasks_Table_Missed_1 : FuncId := 59
abbrev F_tasks_Table_Fall : FuncId := 60
abbrev F_tasks_Table_Run : FuncId := 61
abbrev F_part_Part_rise : FuncId := 62
abbrev F_ring_Ring_int_At : FuncId := 63
abbrev F_ring_Ring_int_Set : FuncId := 64
abbrev F_ring_Ring_int_Pop : FuncId := 65
abbrev F_police_Police_task : FuncId := 66
abbrev F_police_Police_Dropped : FuncId := 67
abbrev F_police_known_soon : FuncId := 68
abbrev F_tasks_Table_slot : FuncId := 69
abbrev F_tasks_Job_right : FuncId := 70
abbrev F_slices_Clone__tasks_Optasks_Op : FuncId := 71
abbrev F_heap_Heap_Put : FuncId := 72
abbrev F_tasks_slot_due : FuncId := 73
abbrev F_ring_Ring_int_none : FuncId := 74
abbrev F_ring_Ring_int_place : FuncId := 75
abbrev F_tasks_Table_Clear_1 : FuncId := 76
abbrev F_ring_Ring_int_Clear : FuncId := 77
abbrev F_tasks_Table_busy : FuncId := 78
abbrev F_heap_Heap_First : FuncId := 79
abbrev F_conf_all_conf_Task_1 : FuncId := 80
abbrev F_slices_ContainsFunc__conf_Serverconf_Server : FuncId := 81
abbrev F_conf_all_conf_Server_1 : FuncId := 82
abbrev F_slices_IndexFunc__conf_Taskconf_Task : FuncId := 83
abbrev F_conf_rise : FuncId := 84
abbrev F_conf_Server_Right : FuncId := 85
abbrev F_tasks_Table_gone : FuncId := 86
abbrev F_tasks_Table_Len : FuncId := 87
abbrev F_tasks_Job_op : FuncId := 88
abbrev F_tasks_slot_budget : FuncId := 89
abbrev F_tasks_Table_Rise : FuncId := 90
abbrev F_ring_Ring_int_is : FuncId := 91
abbrev F_heap_Heap_in : FuncId := 92
abbrev F_heap_lists_set : FuncId := 93
abbrev F_heap_lists_up : FuncId := 94
abbrev F_heap_Heap_none : FuncId := 95
abbrev F_slices_IndexFunc__conf_Serverconf_Server : FuncId := 96
abbrev F_slices_IsSorted__intint : FuncId := 97
abbrev F_heap_Heap_Remove : FuncId := 98
abbrev F_heap_Heap_Len : FuncId := 99
abbrev F_tasks_Table_Rise_1 : FuncId := 100
abbrev F_heap_Heap_Change : FuncId := 101
abbrev F_heap_lists_less : FuncId := 102
abbrev F_heap_lists_swap : FuncId := 103
abbrev F_cmp_Less_int : FuncId := 104
abbrev F_heap_lists_down : FuncId := 105
abbrev F_heap_lists_order : FuncId := 106
abbrev F_cmp_isNaN_int : FuncId := 107
abbrev F_heap_lists_down_1 : FuncId := 108
abbrev F_cmp_Or_int : FuncId := 109
abbrev F_cmp_Compare_int : FuncId := 110
abbrev F_heap_Heap_Due : FuncId := 126
abbrev F_refill_Budget_Done : FuncId := 127
abbrev F_refill_Budget_Due : FuncId := 128
abbrev F_refill_Budget_Go : FuncId := 129
abbrev F_refill_Budget_Reset : FuncId := 130
abbrev F_refill_Budget_Resume : FuncId := 131
abbrev F_refill_Budget_Stop : FuncId := 132
abbrev F_refill_Budget_Use : FuncId := 133
abbrev F_refill_Budget_none : FuncId := 134
abbrev F_refill_live_left : FuncId := 135
abbrev F_refill_Budget_period : FuncId := 136
abbrev F_refill_live_take : FuncId := 137
abbrev F_num_Floor : FuncId := 138
abbrev F_num_btoi : FuncId := 139
abbrev F_chunk_Budget_Done : FuncId := 140
abbrev F_chunk_Budget_Due : FuncId := 141
abbrev F_chunk_Budget_Go : FuncId := 142
abbrev F_chunk_Budget_Reset : FuncId := 143
abbrev F_chunk_Budget_Resume : FuncId := 144
abbrev F_chunk_Budget_Stop : FuncId := 145
abbrev F_chunk_Budget_Use : FuncId := 146
abbrev F_chunk_Budget_none : FuncId := 147
abbrev F_chunk_live_shut : FuncId := 148
abbrev F_chunk_Budget_owe : FuncId := 149
abbrev F_chunk_live_first : FuncId := 150
abbrev F_chunk_Budget_ripe : FuncId := 151
abbrev F_slices_DeleteFunc__chunk_Backchunk_Back : FuncId := 152
abbrev F_chunk_Budget_ripe_1 : FuncId := 153
abbrev F_slices_IndexFunc__chunk_Backchunk_Back : FuncId := 154
abbrev T_ : TypeId := 0
abbrev T_func : TypeId := 1
abbrev T_int64 : TypeId := 2
abbrev T_int : TypeId := 3
abbrev T_bool : TypeId := 4
abbrev T_uint8 : TypeId := 5
abbrev T_abi_BoundsErrorCode : TypeId := 6
abbrev T_long : TypeId := 7
abbrev T_runtime_boundsError : TypeId := 8
abbrev T_string : TypeId := 9
abbrev T_runtime_errorString : TypeId := 10
abbrev T_runtime_plainError : TypeId := 11
abbrev T_uintptr : TypeId := 12
abbrev T_structmsgstringaddruintptr : TypeId := 13
abbrev T_runtime_errorAddressString : TypeId := 14
abbrev T_Pruntime_TypeAssertionError : TypeId := 15
abbrev T_Pruntime_PanicNilError : TypeId := 16
abbrev T_Pabi_Type : TypeId := 17
abbrev T_structtypPabi_Type : TypeId := 18
abbrev T_maps_unhashableTypeError : TypeId := 19
abbrev T_interface : TypeId := 20
abbrev T_int32 : TypeId := 21
abbrev T_Aparcloseref03_Task : TypeId := 22
abbrev T_Aparcloseref03_Server : TypeId := 23
abbrev T_Aint : TypeId := 24
abbrev T_A3uint8 : TypeId := 25
abbrev T_long_2 : TypeId := 26
abbrev T_parcloseref03_Part : TypeId := 27
abbrev T_Aparcloselaw20_Act : TypeId := 28
abbrev T_Ppart_Part : TypeId := 29
abbrev T_funcconf_PartintPpart_Part : TypeId := 30
abbrev T_Aconf_Task : TypeId := 31
abbrev T_Aconf_Server : TypeId := 32
abbrev T_long_3 : TypeId := 33
abbrev T_conf_Part : TypeId := 34
abbrev T_funcparcloseref03_Partconf_Part : TypeId := 35
abbrev T_funcparcloseref03_Partbool : TypeId := 36
abbrev T_funcAparcloselaw20_Actbool : TypeId := 37
abbrev T_funcbool : TypeId := 38
abbrev T_Aparcloseref19_Op : TypeId := 39
abbrev T_long_4 : TypeId := 40
abbrev T_parcloseref19_Job : TypeId := 41
abbrev T_structKindintSintNintJparcloseref19_Job : TypeId := 42
abbrev T_parcloselaw20_Act : TypeId := 43
abbrev T_Apart_Event : TypeId := 44
abbrev T_funcintApart_Event : TypeId := 45
abbrev T_structServerboolNint : TypeId := 46
abbrev T_part_What : TypeId := 47
abbrev T_structKindintAintBint : TypeId := 48
abbrev T_tasks_Op : TypeId := 49
abbrev T_part_Whattasks_OpApart_Event : TypeId := 50
abbrev T_funcpart_Whattasks_OpApart_Event : TypeId := 51
abbrev T_api_Errno : TypeId := 52
abbrev T_funcinttasks_Jobapi_Errno : TypeId := 53
abbrev T_Atasks_Op : TypeId := 54
abbrev T_long_5 : TypeId := 55
abbrev T_tasks_Job : TypeId := 56
abbrev T_funcparcloseref19_Jobtasks_Job : TypeId := 57
abbrev T_funcintintapi_Errno : TypeId := 58
abbrev T_Atasks_Job : TypeId := 59
abbrev T_funcAtasks_Job : TypeId := 60
abbrev T_structHiboolTintDintVintLointTopint : TypeId := 61
abbrev T_parcloseref03_Task : TypeId := 62
abbrev T_part_Whatbool : TypeId := 63
abbrev T_funcpart_Whatbool : TypeId := 64
abbrev T_funcintint : TypeId := 65
abbrev T_funcparcloseref03_PartAparcloselaw20_Actbool : TypeId := 66
abbrev T_funcapi_Errnoint : TypeId := 67
abbrev T_Ptasks_Table : TypeId := 68
abbrev T_Ppolice_Police : TypeId := 69
abbrev T_APpart_row : TypeId := 70
abbrev T_long_6 : TypeId := 71
abbrev T_part_Part : TypeId := 72
abbrev T_funcparcloselaw20_Actbool : TypeId := 73
abbrev T_funcapi_Errno : TypeId := 74
abbrev T_func___conf_TaskPtasks_Table : TypeId := 75
abbrev T_func___conf_TaskPpolice_Police : TypeId := 76
abbrev T_funcint___conf_ServerAPpart_row : TypeId := 77
abbrev T_conf_Task : TypeId := 78
abbrev T_structRefillboolCintTint : TypeId := 79
abbrev T_conf_Server : TypeId := 80
abbrev T_parcloseref03_Server : TypeId := 81
abbrev T_part_Event : TypeId := 82
abbrev T_func___Apart_EventApart_Event : TypeId := 83
abbrev T_funcint___intApart_Event : TypeId := 84
abbrev T_funcintAint : TypeId := 85
abbrev T_funcApart_Event : TypeId := 86
abbrev T_Ppart_row : TypeId := 87
abbrev T_funcintbool : TypeId := 88
abbrev T_long_7 : TypeId := 89
abbrev T_part_budget : TypeId := 90
abbrev T_Pring_RingAint : TypeId := 91
abbrev T_structpart_budgetleftPring_RingAintfirstint : TypeId := 92
abbrev T_part_row : TypeId := 93
abbrev T_funcint : TypeId := 94
abbrev T_tasks_OpApart_Event : TypeId := 95
abbrev T_funcinttasks_OpApart_Event : TypeId := 96
abbrev T_functasks_Jobapi_Errno : TypeId := 97
abbrev T_parcloseref19_Op : TypeId := 98
abbrev T_funcintbool_2 : TypeId := 99
abbrev T_funcbool_2 : TypeId := 100
abbrev T_tasks_Jobbool : TypeId := 101
abbrev T_funcinttasks_Jobbool : TypeId := 102
abbrev T_intintbool : TypeId := 103
abbrev T_funcintintbool : TypeId := 104
abbrev T_intbool : TypeId := 105
abbrev T_funcintbool_3 : TypeId := 106
abbrev T_funcAconf_Taskintbool : TypeId := 107
abbrev T_funcAconf_Serverintbool : TypeId := 108
abbrev T_funcAuint8uint8 : TypeId := 109
abbrev T_Auint8 : TypeId := 110
abbrev T_funcAconf_Taskfuncconf_Taskboolbool : TypeId := 111
abbrev T_funcconf_Taskbool : TypeId := 112
abbrev T_Pheap_Heap : TypeId := 113
abbrev T_funcintPheap_Heap : TypeId := 114
abbrev T_Atasks_slot : TypeId := 115
abbrev T_structslotsAtasks_slotorderPheap_Heaphighbool : TypeId := 116
abbrev T_tasks_Table : TypeId := 117
abbrev T_Ptasks_Job : TypeId := 118
abbrev T_structconf_TaskPtasks_Job : TypeId := 119
abbrev T_tasks_slot : TypeId := 120
abbrev T_Apolice_known : TypeId := 121
abbrev T_structtasksApolice_knownhighbool : TypeId := 122
abbrev T_police_Police : TypeId := 123
abbrev T_structconf_Tasklastintwasbool : TypeId := 124
abbrev T_police_known : TypeId := 125
abbrev T_funcintPring_RingAint : TypeId := 126
abbrev T_Prefill_Budget : TypeId := 127
abbrev T_funcconf_ServerintPrefill_Budget : TypeId := 128
abbrev T_Pchunk_Budget : TypeId := 129
abbrev T_funcconf_ServerPchunk_Budget : TypeId := 130
abbrev T_AApart_Event : TypeId := 131
abbrev T_funcApart_EventintApart_Event : TypeId := 132
abbrev T_funcfuncPtasks_slotboolAint : TypeId := 133
abbrev T_Ptasks_slot : TypeId := 134
abbrev T_funcPtasks_slotbool : TypeId := 135
abbrev T_structlAintfirstintnint : TypeId := 136
abbrev T_ring_RingAint : TypeId := 137
abbrev T_tasks_Opint : TypeId := 138
abbrev T_funcinttasks_Opint : TypeId := 139
abbrev T_funcintintbool_2 : TypeId := 140
abbrev T_funcintintbool_3 : TypeId := 141
abbrev T_Ppolice_known : TypeId := 142
abbrev T_funcintPpolice_known : TypeId := 143
abbrev T_funcintPtasks_slot : TypeId := 144
abbrev T_funcAtasks_OpAtasks_Op : TypeId := 145
abbrev T_funcboolint : TypeId := 146
abbrev T_funcAconf_Serverfuncconf_Serverboolbool : TypeId := 147
abbrev T_funcconf_Serverbool : TypeId := 148
abbrev T_funcAconf_Taskfuncconf_Taskboolint : TypeId := 149
abbrev T_func___intbool : TypeId := 150
abbrev T_structatAintplaceAintdueAint : TypeId := 151
abbrev T_heap_lists : TypeId := 152
abbrev T_structheap_listsmadebool : TypeId := 153
abbrev T_heap_Heap : TypeId := 154
abbrev T_Arefill_Chunk : TypeId := 155
abbrev T_structlArefill_Chunk : TypeId := 156
abbrev T_refill_live : TypeId := 157
abbrev T_long_8 : TypeId := 158
abbrev T_refill_Budget : TypeId := 159
abbrev T_Achunk_Chunk : TypeId := 160
abbrev T_structlAchunk_Chunk : TypeId := 161
abbrev T_chunk_live : TypeId := 162
abbrev T_Achunk_Back : TypeId := 163
abbrev T_long_9 : TypeId := 164
abbrev T_chunk_Budget : TypeId := 165
abbrev T_funcint_2 : TypeId := 166
abbrev T_functasks_Op : TypeId := 167
abbrev T_funcAint : TypeId := 168
abbrev T_boolapi_Errno : TypeId := 169
abbrev T_funcintboolapi_Errno : TypeId := 170
abbrev T_funcintint_2 : TypeId := 171
abbrev T_funcAconf_Serverfuncconf_Serverboolint : TypeId := 172
abbrev T_funcAintbool : TypeId := 173
abbrev T_Pheap_lists : TypeId := 174
abbrev T_funcintintint : TypeId := 175
abbrev T_func___intint : TypeId := 176
abbrev T_funcstring : TypeId := 177
abbrev T_long_10 : TypeId := 178
abbrev T_runtime_TypeAssertionError : TypeId := 179
abbrev T_A0Pruntime_PanicNilError : TypeId := 180
abbrev T_structA0Pruntime_PanicNilError : TypeId := 181
abbrev T_runtime_PanicNilError : TypeId := 182
abbrev T_uint32 : TypeId := 183
abbrev T_abi_TFlag : TypeId := 184
abbrev T_abi_Kind : TypeId := 185
abbrev T_funcunsafe_Pointerunsafe_Pointerbool : TypeId := 186
abbrev T_Puint8 : TypeId := 187
abbrev T_abi_NameOff : TypeId := 188
abbrev T_abi_TypeOff : TypeId := 189
abbrev T_long_11 : TypeId := 190
abbrev T_abi_Type : TypeId := 191
abbrev T_structAtintLeftint : TypeId := 192
abbrev T_refill_Chunk : TypeId := 193
abbrev T_Prefill_live : TypeId := 194
abbrev T_funcAchunk_Chunk : TypeId := 195
abbrev T_structAtintLeftintUsedint : TypeId := 196
abbrev T_chunk_Chunk : TypeId := 197
abbrev T_funcchunk_Chunk : TypeId := 198
abbrev T_Pchunk_Chunk : TypeId := 199
abbrev T_funcPchunk_Chunk : TypeId := 200
abbrev T_Pchunk_live : TypeId := 201
abbrev T_structAtintNint : TypeId := 202
abbrev T_chunk_Back : TypeId := 203
abbrev T_funcAchunk_Backfuncchunk_BackboolAchunk_Back : TypeId := 204
abbrev T_funcchunk_Backbool : TypeId := 205
abbrev T_funcAchunk_Backfuncchunk_Backboolint : TypeId := 206
abbrev T_unsafe_Pointer : TypeId := 207
def ld_Abi (H : AH) (a : Option Addr) (K : Bool → Int → Prop) : Prop := ∃ (x0 : Bool) (x1 : Int), ldN H 2 (.pointer a) = some (.agg #[.bool x0, .int .i64 x1]) ∧ K x0 x1
theorem ld_Abi.mk {H : AH} {b o : Nat} {cs : List Value} {ro : Bool} {g : Nat} {K : Bool → Int → Prop} {x0 x1 : _} (hg : H.get b = some (.cells cs ro g)) (hv : (cs.drop o).take 2 = [.bool x0, .int .i64 x1]) (hl : o + 2 ≤ cs.length) (h : K x0 x1) : ld_Abi H (some ⟨b, o, none⟩) K := ⟨x0, x1, ldN_at hg hl (by rw [hv]), h⟩
def ld_Abii (H : AH) (a : Option Addr) (K : Bool → Int → Int → Prop) : Prop := ∃ (x0 : Bool) (x1 : Int) (x2 : Int), ldN H 3 (.pointer a) = some (.agg #[.bool x0, .int .i64 x1, .int .i64 x2]) ∧ K x0 x1 x2
theorem ld_Abii.mk {H : AH} {b o : Nat} {cs : List Value} {ro : Bool} {g : Nat} {K : Bool → Int → Int → Prop} {x0 x1 x2 : _} (hg : H.get b = some (.cells cs ro g)) (hv : (cs.drop o).take 3 = [.bool x0, .int .i64 x1, .int .i64 x2]) (hl : o + 3 ≤ cs.length) (h : K x0 x1 x2) : ld_Abii H (some ⟨b, o, none⟩) K := ⟨x0, x1, x2, ldN_at hg hl (by rw [hv]), h⟩
def ld_Abiiiii (H : AH) (a : Option Addr) (K : Bool → Int → Int → Int → Int → Int → Prop) : Prop := ∃ (x0 : Bool) (x1 : Int) (x2 : Int) (x3 : Int) (x4 : Int) (x5 : Int), ldN H 6 (.pointer a) = some (.agg #[.bool x0, .int .i64 x1, .int .i64 x2, .int .i64 x3, .int .i64 x4, .int .i64 x5]) ∧ K x0 x1 x2 x3 x4 x5
theorem ld_Abiiiii.mk {H : AH} {b o : Nat} {cs : List Value} {ro : Bool} {g : Nat} {K : Bool → Int → Int → Int → Int → Int → Prop} {x0 x1 x2 x3 x4 x5 : _} (hg : H.get b = some (.cells cs ro g)) (hv : (cs.drop o).take 6 = [.bool x0, .int .i64 x1, .int .i64 x2, .int .i64 x3, .int .i64 x4, .int .i64 x5]) (hl : o + 6 ≤ cs.length) (h : K x0 x1 x2 x3 x4 x5) : ld_Abiiiii H (some ⟨b, o, none⟩) K := ⟨x0, x1, x2, x3, x4, x5, ldN_at hg hl (by rw [hv]), h⟩
def ld_Abiiiiiib (H : AH) (a : Option Addr) (K : Bool → Int → Int → Int → Int → Int → Int → Bool → Prop) : Prop := ∃ (x0 : Bool) (x1 : Int) (x2 : Int) (x3 : Int) (x4 : Int) (x5 : Int) (x6 : Int) (x7 : Bool), ldN H 8 (.pointer a) = some (.agg #[.bool x0, .int .i64 x1, .int .i64 x2, .int .i64 x3, .int .i64 x4, .int .i64 x5, .int .i64 x6, .bool x7]) ∧ K x0 x1 x2 x3 x4 x5 x6 x7
theorem ld_Abiiiiiib.mk {H : AH} {b o : Nat} {cs : List Value} {ro : Bool} {g : Nat} {K : Bool → Int → Int → Int → Int → Int → Int → Bool → Prop} {x0 x1 x2 x3 x4 x5 x6 x7 : _} (hg : H.get b = some (.cells cs ro g)) (hv : (cs.drop o).take 8 = [.bool x0, .int .i64 x1, .int .i64 x2, .int .i64 x3, .int .i64 x4, .int .i64 x5, .int .i64 x6, .bool x7]) (hl : o + 8 ≤ cs.length) (h : K x0 x1 x2 x3 x4 x5 x6 x7) : ld_Abiiiiiib H (some ⟨b, o, none⟩) K := ⟨x0, x1, x2, x3, x4, x5, x6, x7, ldN_at hg hl (by rw [hv]), h⟩
def ld_Accc (H : AH) (a : Option Addr) (K : Int → Int → Int → Prop) : Prop := ∃ (x0 : Int) (x1 : Int) (x2 : Int), ldN H 3 (.pointer a) = some (.agg #[.int .u8 x0, .int .u8 x1, .int .u8 x2]) ∧ K x0 x1 x2
theorem ld_Accc.mk {H : AH} {b o : Nat} {cs : List Value} {ro : Bool} {g : Nat} {K : Int → Int → Int → Prop} {x0 x1 x2 : _} (hg : H.get b = some (.cells cs ro g)) (hv : (cs.drop o).take 3 = [.int .u8 x0, .int .u8 x1, .int .u8 x2]) (hl : o + 3 ≤ cs.length) (h : K x0 x1 x2) : ld_Accc H (some ⟨b, o, none⟩) K := ⟨x0, x1, x2, ldN_at hg hl (by rw [hv]), h⟩
def ld_Aii (H : AH) (a : Option Addr) (K : Int → Int → Prop) : Prop := ∃ (x0 : Int) (x1 : Int), ldN H 2 (.pointer a) = some (.agg #[.int .i64 x0, .int .i64 x1]) ∧ K x0 x1
theorem ld_Aii.mk {H : AH} {b o : Nat} {cs : List Value} {ro : Bool} {g : Nat} {K : Int → Int → Prop} {x0 x1 : _} (hg : H.get b = some (.cells cs ro g)) (hv : (cs.drop o).take 2 = [.int .i64 x0, .int .i64 x1]) (hl : o + 2 ≤ cs.length) (h : K x0 x1) : ld_Aii H (some ⟨b, o, none⟩) K := ⟨x0, x1, ldN_at hg hl (by rw [hv]), h⟩
def ld_Aiii (H : AH) (a : Option Addr) (K : Int → Int → Int → Prop) : Prop := ∃ (x0 : Int) (x1 : Int) (x2 : Int), ldN H 3 (.pointer a) = some (.agg #[.int .i64 x0, .int .i64 x1, .int .i64 x2]) ∧ K x0 x1 x2
theorem ld_Aiii.mk {H : AH} {b o : Nat} {cs : List Value} {ro : Bool} {g : Nat} {K : Int → Int → Int → Prop} {x0 x1 x2 : _} (hg : H.get b = some (.cells cs ro g)) (hv : (cs.drop o).take 3 = [.int .i64 x0, .int .i64 x1, .int .i64 x2]) (hl : o + 3 ≤ cs.length) (h : K x0 x1 x2) : ld_Aiii H (some ⟨b, o, none⟩) K := ⟨x0, x1, x2, ldN_at hg hl (by rw [hv]), h⟩
def ld_Aiiiiiiil (H : AH) (a : Option Addr) (K : Int → Int → Int → Int → Int → Int → Int → Option Addr → Nat → Nat → Prop) : Prop := ∃ (x0 : Int) (x1 : Int) (x2 : Int) (x3 : Int) (x4 : Int) (x5 : Int) (x6 : Int) (x7 : Option Addr) (n7 c7 : Nat), ldN H 8 (.pointer a) = some (.agg #[.int .i64 x0, .int .i64 x1, .int .i64 x2, .int .i64 x3, .int .i64 x4, .int .i64 x5, .int .i64 x6, .slice x7 n7 c7]) ∧ K x0 x1 x2 x3 x4 x5 x6 x7 n7 c7
theorem ld_Aiiiiiiil.mk {H : AH} {b o : Nat} {cs : List Value} {ro : Bool} {g : Nat} {K : Int → Int → Int → Int → Int → Int → Int → Option Addr → Nat → Nat → Prop} {x0 x1 x2 x3 x4 x5 x6 x7 n7 c7 : _} (hg : H.get b = some (.cells cs ro g)) (hv : (cs.drop o).take 8 = [.int .i64 x0, .int .i64 x1, .int .i64 x2, .int .i64 x3, .int .i64 x4, .int .i64 x5, .int .i64 x6, .slice x7 n7 c7]) (hl : o + 8 ≤ cs.length) (h : K x0 x1 x2 x3 x4 x5 x6 x7 n7 c7) : ld_Aiiiiiiil H (some ⟨b, o, none⟩) K := ⟨x0, x1, x2, x3, x4, x5, x6, x7, n7, c7, ldN_at hg hl (by rw [hv]), h⟩
def ld_Aiiiil (H : AH) (a : Option Addr) (K : Int → Int → Int → Int → Option Addr → Nat → Nat → Prop) : Prop := ∃ (x0 : Int) (x1 : Int) (x2 : Int) (x3 : Int) (x4 : Option Addr) (n4 c4 : Nat), ldN H 5 (.pointer a) = some (.agg #[.int .i64 x0, .int .i64 x1, .int .i64 x2, .int .i64 x3, .slice x4 n4 c4]) ∧ K x0 x1 x2 x3 x4 n4 c4
theorem ld_Aiiiil.mk {H : AH} {b o : Nat} {cs : List Value} {ro : Bool} {g : Nat} {K : Int → Int → Int → Int → Option Addr → Nat → Nat → Prop} {x0 x1 x2 x3 x4 n4 c4 : _} (hg : H.get b = some (.cells cs ro g)) (hv : (cs.drop o).take 5 = [.int .i64 x0, .int .i64 x1, .int .i64 x2, .int .i64 x3, .slice x4 n4 c4]) (hl : o + 5 ≤ cs.length) (h : K x0 x1 x2 x3 x4 n4 c4) : ld_Aiiiil H (some ⟨b, o, none⟩) K := ⟨x0, x1, x2, x3, x4, n4, c4, ldN_at hg hl (by rw [hv]), h⟩
def ld_Alllccc (H : AH) (a : Option Addr) (K : Option Addr → Nat → Nat → Option Addr → Nat → Nat → Option Addr → Nat → Nat → Int → Int → Int → Prop) : Prop := ∃ (x0 : Option Addr) (n0 c0 : Nat) (x1 : Option Addr) (n1 c1 : Nat) (x2 : Option Addr) (n2 c2 : Nat) (x3 : Int) (x4 : Int) (x5 : Int), ldN H 6 (.pointer a) = some (.agg #[.slice x0 n0 c0, .slice x1 n1 c1, .slice x2 n2 c2, .int .u8 x3, .int .u8 x4, .int .u8 x5]) ∧ K x0 n0 c0 x1 n1 c1 x2 n2 c2 x3 x4 x5
theorem ld_Alllccc.mk {H : AH} {b o : Nat} {cs : List Value} {ro : Bool} {g : Nat} {K : Option Addr → Nat → Nat → Option Addr → Nat → Nat → Option Addr → Nat → Nat → Int → Int → Int → Prop} {x0 n0 c0 x1 n1 c1 x2 n2 c2 x3 x4 x5 : _} (hg : H.get b = some (.cells cs ro g)) (hv : (cs.drop o).take 6 = [.slice x0 n0 c0, .slice x1 n1 c1, .slice x2 n2 c2, .int .u8 x3, .int .u8 x4, .int .u8 x5]) (hl : o + 6 ≤ cs.length) (h : K x0 n0 c0 x1 n1 c1 x2 n2 c2 x3 x4 x5) : ld_Alllccc H (some ⟨b, o, none⟩) K := ⟨x0, n0, c0, x1, n1, c1, x2, n2, c2, x3, x4, x5, ldN_at hg hl (by rw [hv]), h⟩
def r_Aiii (r : Value) (K : Int → Int → Int → Prop) : Prop := ∃ (x0 : Int) (x1 : Int) (x2 : Int), r = .agg #[.int .i64 x0, .int .i64 x1, .int .i64 x2] ∧ K x0 x1 x2
@[simp] theorem r_Aiii_eq {x0 x1 x2 : _} {K : Int → Int → Int → Prop} : r_Aiii (.agg #[.int .i64 x0, .int .i64 x1, .int .i64 x2]) K ↔ K x0 x1 x2 := by simp [r_Aiii, and_assoc]
def r_Aiiiil (r : Value) (K : Int → Int → Int → Int → Option Addr → Nat → Nat → Prop) : Prop := ∃ (x0 : Int) (x1 : Int) (x2 : Int) (x3 : Int) (x4 : Option Addr) (n4 c4 : Nat), r = .agg #[.int .i64 x0, .int .i64 x1, .int .i64 x2, .int .i64 x3, .slice x4 n4 c4] ∧ K x0 x1 x2 x3 x4 n4 c4
@[simp] theorem r_Aiiiil_eq {x0 x1 x2 x3 x4 n4 c4 : _} {K : Int → Int → Int → Int → Option Addr → Nat → Nat → Prop} : r_Aiiiil (.agg #[.int .i64 x0, .int .i64 x1, .int .i64 x2, .int .i64 x3, .slice x4 n4 c4]) K ↔ K x0 x1 x2 x3 x4 n4 c4 := by simp [r_Aiiiil, and_assoc]
def r_Alllccc (r : Value) (K : Option Addr → Nat → Nat → Option Addr → Nat → Nat → Option Addr → Nat → Nat → Int → Int → Int → Prop) : Prop := ∃ (x0 : Option Addr) (n0 c0 : Nat) (x1 : Option Addr) (n1 c1 : Nat) (x2 : Option Addr) (n2 c2 : Nat) (x3 : Int) (x4 : Int) (x5 : Int), r = .agg #[.slice x0 n0 c0, .slice x1 n1 c1, .slice x2 n2 c2, .int .u8 x3, .int .u8 x4, .int .u8 x5] ∧ K x0 n0 c0 x1 n1 c1 x2 n2 c2 x3 x4 x5
@[simp] theorem r_Alllccc_eq {x0 n0 c0 x1 n1 c1 x2 n2 c2 x3 x4 x5 : _} {K : Option Addr → Nat → Nat → Option Addr → Nat → Nat → Option Addr → Nat → Nat → Int → Int → Int → Prop} : r_Alllccc (.agg #[.slice x0 n0 c0, .slice x1 n1 c1, .slice x2 n2 c2, .int .u8 x3, .int .u8 x4, .int .u8 x5]) K ↔ K x0 n0 c0 x1 n1 c1 x2 n2 c2 x3 x4 x5 := by simp [r_Alllccc, and_assoc]
def r_T (r : Value) (K : Prop) : Prop := r = .tuple #[] ∧ K
@[simp] theorem r_T_eq {K : Prop} : r_T (.tuple #[]) K ↔ K := by simp [r_T]
def r_T_Abi_Aiii_l (r : Value) (K : Bool → Int → Int → Int → Int → Option Addr → Nat → Nat → Prop) : Prop := ∃ (x0 : Bool) (x1 : Int) (x2 : Int) (x3 : Int) (x4 : Int) (x5 : Option Addr) (n5 c5 : Nat), r = .tuple #[.agg #[.bool x0, .int .i64 x1], .agg #[.int .i64 x2, .int .i64 x3, .int .i64 x4], .slice x5 n5 c5] ∧ K x0 x1 x2 x3 x4 x5 n5 c5
@[simp] theorem r_T_Abi_Aiii_l_eq {x0 x1 x2 x3 x4 x5 n5 c5 : _} {K : Bool → Int → Int → Int → Int → Option Addr → Nat → Nat → Prop} : r_T_Abi_Aiii_l (.tuple #[.agg #[.bool x0, .int .i64 x1], .agg #[.int .i64 x2, .int .i64 x3, .int .i64 x4], .slice x5 n5 c5]) K ↔ K x0 x1 x2 x3 x4 x5 n5 c5 := by simp [r_T_Abi_Aiii_l, and_assoc]
def r_T_Abi_b (r : Value) (K : Bool → Int → Bool → Prop) : Prop := ∃ (x0 : Bool) (x1 : Int) (x2 : Bool), r = .tuple #[.agg #[.bool x0, .int .i64 x1], .bool x2] ∧ K x0 x1 x2
@[simp] theorem r_T_Abi_b_eq {x0 x1 x2 : _} {K : Bool → Int → Bool → Prop} : r_T_Abi_b (.tuple #[.agg #[.bool x0, .int .i64 x1], .bool x2]) K ↔ K x0 x1 x2 := by simp [r_T_Abi_b, and_assoc]
def r_T_Aiii_i (r : Value) (K : Int → Int → Int → Int → Prop) : Prop := ∃ (x0 : Int) (x1 : Int) (x2 : Int) (x3 : Int), r = .tuple #[.agg #[.int .i64 x0, .int .i64 x1, .int .i64 x2], .int .i64 x3] ∧ K x0 x1 x2 x3
@[simp] theorem r_T_Aiii_i_eq {x0 x1 x2 x3 : _} {K : Int → Int → Int → Int → Prop} : r_T_Aiii_i (.tuple #[.agg #[.int .i64 x0, .int .i64 x1, .int .i64 x2], .int .i64 x3]) K ↔ K x0 x1 x2 x3 := by simp [r_T_Aiii_i, and_assoc]
def r_T_Aiii_l (r : Value) (K : Int → Int → Int → Option Addr → Nat → Nat → Prop) : Prop := ∃ (x0 : Int) (x1 : Int) (x2 : Int) (x3 : Option Addr) (n3 c3 : Nat), r = .tuple #[.agg #[.int .i64 x0, .int .i64 x1, .int .i64 x2], .slice x3 n3 c3] ∧ K x0 x1 x2 x3 n3 c3
@[simp] theorem r_T_Aiii_l_eq {x0 x1 x2 x3 n3 c3 : _} {K : Int → Int → Int → Option Addr → Nat → Nat → Prop} : r_T_Aiii_l (.tuple #[.agg #[.int .i64 x0, .int .i64 x1, .int .i64 x2], .slice x3 n3 c3]) K ↔ K x0 x1 x2 x3 n3 c3 := by simp [r_T_Aiii_l, and_assoc]
def r_T_Aiiiil_b (r : Value) (K : Int → Int → Int → Int → Option Addr → Nat → Nat → Bool → Prop) : Prop := ∃ (x0 : Int) (x1 : Int) (x2 : Int) (x3 : Int) (x4 : Option Addr) (n4 c4 : Nat) (x5 : Bool), r = .tuple #[.agg #[.int .i64 x0, .int .i64 x1, .int .i64 x2, .int .i64 x3, .slice x4 n4 c4], .bool x5] ∧ K x0 x1 x2 x3 x4 n4 c4 x5
@[simp] theorem r_T_Aiiiil_b_eq {x0 x1 x2 x3 x4 n4 c4 x5 : _} {K : Int → Int → Int → Int → Option Addr → Nat → Nat → Bool → Prop} : r_T_Aiiiil_b (.tuple #[.agg #[.int .i64 x0, .int .i64 x1, .int .i64 x2, .int .i64 x3, .slice x4 n4 c4], .bool x5]) K ↔ K x0 x1 x2 x3 x4 n4 c4 x5 := by simp [r_T_Aiiiil_b, and_assoc]
def r_T_b_i (r : Value) (K : Bool → Int → Prop) : Prop := ∃ (x0 : Bool) (x1 : Int), r = .tuple #[.bool x0, .int .i64 x1] ∧ K x0 x1
@[simp] theorem r_T_b_i_eq {x0 x1 : _} {K : Bool → Int → Prop} : r_T_b_i (.tuple #[.bool x0, .int .i64 x1]) K ↔ K x0 x1 := by simp [r_T_b_i, and_assoc]
def r_T_i_b (r : Value) (K : Int → Bool → Prop) : Prop := ∃ (x0 : Int) (x1 : Bool), r = .tuple #[.int .i64 x0, .bool x1] ∧ K x0 x1
@[simp] theorem r_T_i_b_eq {x0 x1 : _} {K : Int → Bool → Prop} : r_T_i_b (.tuple #[.int .i64 x0, .bool x1]) K ↔ K x0 x1 := by simp [r_T_i_b, and_assoc]
def r_T_i_i_b (r : Value) (K : Int → Int → Bool → Prop) : Prop := ∃ (x0 : Int) (x1 : Int) (x2 : Bool), r = .tuple #[.int .i64 x0, .int .i64 x1, .bool x2] ∧ K x0 x1 x2
@[simp] theorem r_T_i_i_b_eq {x0 x1 x2 : _} {K : Int → Int → Bool → Prop} : r_T_i_i_b (.tuple #[.int .i64 x0, .int .i64 x1, .bool x2]) K ↔ K x0 x1 x2 := by simp [r_T_i_i_b, and_assoc]
end Go.Ez
